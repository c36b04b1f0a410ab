/-
  Part 7 of the proof of StackPlaysUptoCardSaid: a logic over the model, the forms of the functions that the law reaches, and what they compute.
-/
import Derived.Test.YtnpggmhoandloaaGreatDoorProg
import Derived.Test.YtnpggmhoandloaaGreatDoorPlays6
set_option linter.unusedVariables false
set_option linter.unusedSimpArgs false
set_option linter.defProp false
set_option linter.unusedSectionVars false
set_option maxRecDepth 4000
set_option maxHeartbeats 4000000
open Option renaming some->U,none->ah
open Bool renaming true->aa,false->aq
open List renaming replicate->aj,range->bH,zipWith->ng
open Eq renaming mpr->fF
open Ne renaming symm->gM
namespace Go.Proofs.Tryz
open Go.Am
variable{i:Nat}{G:Type}
def As{l:List G}{f:G->Bool}(h:i<l.length):(l.take (i+1)).all f=((l.take i).all f&&f l[i]):=by rw[BX (bY h),L6];simp only[yO,S7,uZ]
theorem y4{l:List G}{f:G->Bool}(h:i<l.length)(hf:f l[i]=aq):l.all f=false:=by grind
def Pv(l:List aC)(Z:ab)(i:Nat):St :=
 ⟨[.sl .no 2 (l.map aC.enc)]++aj 4 .any++[.sl .no 2 (l.map aC.enc),.int .i64 l.length,.int .i64 (i:Nat)]++aj 8 .any,[],Z⟩
theorem Rv(l:List aC)(Z:ab)(hb:l.length<=aJ):aR 273 [.sl .no 2 (l.map aC.enc)] Z (.bool (f_ l)):=by
 simp only[aJ] at hb;refine fq func273 ?_;simp only[aP,am,aT,Nat.reduceAdd];refine ep (λp:{i:Nat // i<=l.length/\(l.take i).all (λw=>dp w.an)=aa}=>Pv l Z p.1) (λp=>l.length - p.1) ?_ ?_
 .refine a7.enter ⟨0,by simp,by simp⟩ ?_ bX.rfl bp.rfl;simp[Pv,aj,am]
 .rintro⟨i,hi,ha⟩;simp only[Pv,aj,am];refine dc ?_ ?_
  .intro az;have az:i<l.length:=by grind
   simp only[am];refine ix (o5 (bY az)) ?_;simp only[am,Nat.reduceAdd,aC.enc];refine cl (wW l[i].an Z) ?_;cases hg:dp l[i].an
   .simp only[am];refine aN rfl (ab.a8 _) ⟨?_,rfl⟩;rw[show f_ l=aq from y4 (f:=λ(w:aC)=>dp w.an) az hg];rfl
   .simp only[am];rw[wrap_i64];exact a7.nh ⟨i+1,az,by rw[As az,ha,hg];rfl⟩ (by simp;omega) (by simp[am]) (by simp[am]) bp.rfl rfl rfl
  .intro az;have az:i=l.length:=by grind
   subst az;rw[du] at ha;simp only[am];refine aI ?_;simp[V.erase,f_,ha]
def Pw(g:FuncId)(l:List Nd)(Z:ab)(i:Nat):St :=
 ⟨[.sl .no 5 (l.map Nd.enc),.fn (.func g) [] []]++aj 5 .any++[.sl .no 5 (l.map Nd.enc),.int .i64 l.length,.int .i64 (i:Nat)]++aj 8 .any,[],Z⟩
theorem IN{g:FuncId}{f:Nd->Bool}(l:List Nd)(Z:ab)(hb:l.length<=aJ)(h:∀n∈l,aR g [.agg n.enc] Z (.bool (f n))):aR 230 [.sl .no 5 (l.map Nd.enc),.fn (.func g) [] []] Z (.bool (l.all f)):=by
 simp only[aJ] at hb;refine fq func230 ?_;simp only[aP,am,aT,Nat.reduceAdd];refine ep (λp:{i:Nat // i<=l.length/\(l.take i).all f=aa}=>Pw g l Z p.1) (λp=>l.length - p.1) ?_ ?_
 .refine a7.enter ⟨0,by simp,by simp⟩ ?_ bX.rfl bp.rfl;simp[Pw,aj,am]
 .rintro⟨i,hi,ha⟩;simp only[Pw,aj,am];refine dc ?_ ?_
  .intro az;have az:i<l.length:=by grind
   simp only[am];refine ix (gH (bY az)) ?_;simp only[am,Nd.al];refine cl (h l[i] (dQ az)) ?_;cases hg:f l[i]
   .simp only[am];refine aI ?_;simp[V.erase,y4 az hg]
   .simp only[am];rw[wrap_i64];exact a7.nh ⟨i+1,az,by rw[As az,ha,hg];rfl⟩ (by simp;omega) (by simp[am]) (by simp[am]) bp.rfl rfl rfl
  .intro az;have az:i=l.length:=by grind
   subst az;rw[du] at ha;simp only[am];refine aI ?_;simp[V.erase,ha]
def rV:=ag @am <| ag @aT <| ag @Nd.al @Nd.fl
def ff:=ag @am <| ag @jo <| ag @cK <| ag @eE <| ag @bu <| ag @cX <| ag @aA.al <| ag @Nd.al <| ag @aC.al <| ag @bJ.al @Nd.fl
theorem Yo(n:Nd)(Z:ab)(hb:n.ak.length+n.ae.length<=aJ):aR 227 [.agg n.enc] Z (.bool n.lA):=by
 simp only[aJ] at hb;refine fq func227 ?_;simp only[aP,rV,Nat.reduceAdd];refine cl (wW n.an Z) ?_;simp only[am]
 repeat' (first
  | (refine gO (λh=>?_) (λh=>?_)<;>simp only[am,h,aF,Nd.fl,wrap_i64 (x:=(n.ak.length:Int)+n.ae.length) (by omega) (by omega)])
  | (refine dc (λh=>?_) (λh=>?_)<;>simp only[ff,h,Nat.reduceAdd,Nat.reduceEqDiff,aF,wrap_i64 (x:=(n.ak.length:Int)+n.ae.length) (by omega) (by omega)])
  | (refine gS (λh=>?_) (λh=>?_)<;>simp only[ff,h,Nat.reduceAdd,Nat.reduceEqDiff,aF,wrap_i64 (x:=(n.ak.length:Int)+n.ae.length) (by omega) (by omega)])
 )
 all_goals refine aI ?_
 all_goals simp_all [V.erase,Nd.lA]
 all_goals (try omega)
theorem IZ(n:Nd)(Z:ab):aR 228 [.agg n.enc] Z (.bool n.kM):=by
 refine fq func228 ?_;simp only[aP,rV,Nat.reduceAdd]
 repeat' (first
  | (refine gO (λh=>?_) (λh=>?_)<;>simp only[am,h,aF,Nd.fl])
  | (refine dc (λh=>?_) (λh=>?_)<;>simp only[ff,h,Nat.reduceAdd,Nat.reduceEqDiff,aF])
  | (refine gS (λh=>?_) (λh=>?_)<;>simp only[ff,h,Nat.reduceAdd,Nat.reduceEqDiff,aF])
 )
 all_goals refine aI ?_
 all_goals simp_all [V.erase,Nd.kM]
 all_goals (try omega)
def v9(n:Nd):n.ak.length+n.ae.length+4<=n.wt:=by
 have h2:n.ak.length<=fk n.ak:=by
  unfold fk;generalize n.ak=l;induction l with
  | nil=>simp
  | cons w ws ih=>simp only[cQ,pJ,da];omega
 have h3:n.ae.length<=gd n.ae:=by
  rw[Ip];generalize n.ae=l;induction l with
  | nil=>simp
  | cons w ws ih=>simp only[cQ,pJ,da];omega
 have h1:gd n.ae+fk n.ak+4<=n.wt:=by cases n;simp only[Nd.wt,Nd.ae,Nd.ak];omega
 omega
theorem atM(n:Nd)(Z:ab)(hw:n.wt<=aJ):aR 275 [.agg n.enc] Z (.bool n.kZ):=by
 have hn:=v9 n;refine fq func275 ?_;simp only[aP,rV,Nat.reduceAdd]
 repeat' (first
  | (refine gO (λh=>?_) (λh=>?_)<;>simp only[am,h,aF,Nd.fl])
  | (refine dc (λh=>?_) (λh=>?_)<;>simp only[ff,h,Nat.reduceAdd,Nat.reduceEqDiff,aF])
  | (refine gS (λh=>?_) (λh=>?_)<;>simp only[ff,h,Nat.reduceAdd,Nat.reduceEqDiff,aF])
  | (refine(wW n.an Z).mono ?_;rintro v _ ⟨rfl,rfl⟩;simp only[am])
  | (refine(Rv n.ak _ (by omega)).mono ?_;rintro v _ ⟨rfl,rfl⟩;simp only[am])
 )
 all_goals refine aI ?_
 all_goals simp_all [V.erase,Nd.kZ]
 all_goals (try omega)
theorem U4:∀(k:Nat) (n:Nd) (Z:ab),n.wt<=k->n.wt<=aJ->aR 229 [.agg n.enc] Z (.bool n.gg):=by
 intro k;induction k with
 | zero=>intro n Z h _;cases n;simp only[Nd.wt] at h;omega
 | succ k sy =>
  intro n Z hk hw;have hn:=v9 n;have OA:∀m∈n.ae,m.wt+5<=n.wt:=λm hm=>by
   have h1:=DM hm;have h2:gd n.ae+4<=n.wt:=by cases n;simp only[Nd.wt,Nd.ae];omega
   omega
  have dd:aR 230 [.sl .no 5 (n.ae.map Nd.enc),.fn (.func 229) [] []] Z (.bool (n.ae.all Nd.gg)) :=
   IN n.ae Z (by omega) λm hm=>sy m Z (by have:=OA m hm;omega) (by have:=OA m hm;omega)
  have OX:aR 230 [.sl .no 5 (n.ae.map Nd.enc),.fn (.func 275) [] []] Z (.bool (n.ae.all Nd.kZ)) :=
   IN n.ae Z (by omega) λm hm=>atM m Z (by have:=OA m hm;omega)
  rw[Nd.AR];refine fq func229 ?_;simp only[aP,rV,Nat.reduceAdd]
  by_cases k2:n.kind=2
  .simp only[am,Nd.al,aG k2];refine cl (Yo n Z (by omega)) ?_;simp only[am];refine aI ?_;simp[V.erase,k2]
  simp only[am,aD k2]
  by_cases k3:n.kind=3
  .simp only[am,Nd.fl,aG k3]
   repeat' (first
    | (refine gO (λh=>?_) (λh=>?_)<;>simp only[am,h,aF,Nd.fl])
    | (refine dc (λh=>?_) (λh=>?_)<;>simp only[ff,h,Nat.reduceAdd,Nat.reduceEqDiff,aF])
    | (refine gS (λh=>?_) (λh=>?_)<;>simp only[ff,h,Nat.reduceAdd,Nat.reduceEqDiff,aF])
    | (refine(Rv n.ak _ (by omega)).mono ?_;rintro v _ ⟨rfl,rfl⟩;simp only[am])
   )
   all_goals refine aI ?_
   all_goals simp_all [V.erase]
   all_goals (try omega)
  simp only[am,aD k3]
  by_cases k4:n.kind=4
  .simp only[am,Nd.al,aG k4];refine cl (IZ n Z) ?_;simp only[am]
   repeat' (first
    | (refine gO (λh=>?_) (λh=>?_)<;>simp only[am,h,aF,Nd.fl])
    | (refine dc (λh=>?_) (λh=>?_)<;>simp only[ff,h,Nat.reduceAdd,Nat.reduceEqDiff,aF])
    | (refine gS (λh=>?_) (λh=>?_)<;>simp only[ff,h,Nat.reduceAdd,Nat.reduceEqDiff,aF])
    | (refine dd.mono ?_;rintro v _ ⟨rfl,rfl⟩;simp only[am])
   )
   all_goals refine aI ?_
   all_goals simp_all [V.erase]
   all_goals (try omega)
  simp only[am,aD k4]
  by_cases k5:n.kind=5
  .simp only[am,Nd.al,aG k5];refine cl (IZ n Z) ?_;simp only[am]
   repeat' (first
    | (refine gO (λh=>?_) (λh=>?_)<;>simp only[am,h,Nd.fl])
    | (refine dc (λh=>?_) (λh=>?_)<;>simp only[ff,h,Nat.reduceAdd,Nat.reduceEqDiff,aF])
    | (refine gS (λh=>?_) (λh=>?_)<;>simp only[ff,h,Nat.reduceAdd,Nat.reduceEqDiff,aF])
    | (refine OX.mono ?_;rintro v _ ⟨rfl,rfl⟩;simp only[am])
   )
   all_goals refine aI ?_
   all_goals simp_all [V.erase]
   all_goals (try omega)
  simp only[am,aD k5];refine aI ?_;simp[V.erase,k2,k3,k4,k5]
def iI{n m:Nd}(hm:m∈n.ae):m.wt+5<=n.wt:=by
 have h1:=DM hm;have h2:gd n.ae+4<=n.wt:=by cases n;simp only[Nd.wt,Nd.ae];omega
 omega
theorem Hl:∀(k:Nat) (n:Nd) (Z:ab),n.wt<=k->n.wt<=aJ->aR 182 [.agg n.enc] Z (.bool n.ei):=by
 intro k;induction k with
 | zero=>intro n Z h _;cases n;simp only[Nd.wt] at h;omega
 | succ k sy =>
  intro n Z hk hw;have hn:=v9 n;have dd:aR 230 [.sl .no 5 (n.ae.map Nd.enc),.fn (.func 182) [] []] Z (.bool (n.ae.all Nd.ei)) :=
   IN n.ae Z (by omega) λm hm=>sy m Z (by have:=iI hm;omega) (by have:=iI hm;omega)
  rw[Nd.uI];refine fq func182 ?_;simp only[aP,rV,Nat.reduceAdd]
  by_cases k1:n.kind=1
  .simp only[am,Nd.al,aG k1];refine cl (Yo n Z (by omega)) ?_;simp only[am];refine aI ?_;simp[V.erase,k1]
  simp only[am,aD k1]
  by_cases k7:n.kind=7
  .simp only[am,Nd.al,aG k7];refine cl (IZ n Z) ?_;simp only[am];cases fT:n.ae with
   | nil =>
    simp only[am,cZ,pH,show decide ((0:Int)=1)=aq from rfl]
    repeat' (first
     | (refine gO (λh=>?_) (λh=>?_)<;>simp only[am,h,Nd.fl,fT,fp,cZ,pH,show decide ((0:Int)=1)=aq from rfl])
     | (refine dc (λh=>?_) (λh=>?_)<;>simp only[ff,h,Nat.reduceAdd,Nat.reduceEqDiff,aF,fT,fp,cZ,pH,show decide ((0:Int)=1)=aq from rfl])
     | (refine gS (λh=>?_) (λh=>?_)<;>simp only[ff,h,Nat.reduceAdd,Nat.reduceEqDiff,aF,fT,fp,cZ,pH,show decide ((0:Int)=1)=aq from rfl])
    )
    all_goals refine aI ?_
    all_goals simp_all [V.erase]
    all_goals (try omega)
   | cons m ms =>
    have hc:aR 229 [.agg m.enc] Z (.bool m.gg):=U4 _ m Z (bU _) (by have:=iI (n:=n) (m:=m) (by rw[fT];simp);omega)
    repeat' (first
     | (refine gO (λh=>?_) (λh=>?_)<;>simp only[am,h,aF,Nd.fl,fT])
     | (refine dc (λh=>?_) (λh=>?_)<;>simp only[ff,h,Nat.reduceAdd,Nat.reduceEqDiff,aF,fT])
     | (refine gS (λh=>?_) (λh=>?_)<;>simp only[ff,h,Nat.reduceAdd,Nat.reduceEqDiff,aF,fT])
     | (refine lz (c:=m.enc) (by simp) ?_;simp only[am,Nd.al])
     | (refine hc.mono ?_;rintro v _ ⟨rfl,rfl⟩;simp only[am])
    )
    all_goals refine aI ?_
    all_goals simp_all [V.erase,se]
    all_goals (try omega)
  simp only[am,aD k7]
  by_cases k8:n.kind=8
  case' pos =>
   simp only[am,Nd.al,aG k8]
  case' neg =>
   simp only[am,aD k8]
   by_cases k9:n.kind=9
   case' pos =>
    simp only[am,Nd.al,aG k9]
   case' neg =>
    simp only[am,aD k9];refine aI ?_;simp[V.erase,k1,k7,k8,k9]
  all_goals
   refine cl (IZ n Z) ?_;simp only[am]
   repeat' (first
    | (refine gO (λh=>?_) (λh=>?_)<;>simp only[am,h,aF,Nd.fl])
    | (refine dc (λh=>?_) (λh=>?_)<;>simp only[ff,h,Nat.reduceAdd,Nat.reduceEqDiff,aF])
    | (refine gS (λh=>?_) (λh=>?_)<;>simp only[ff,h,Nat.reduceAdd,Nat.reduceEqDiff,aF])
    | (refine dd.mono ?_;rintro v _ ⟨rfl,rfl⟩;simp only[am])
   )
   all_goals refine aI ?_
   all_goals simp_all [V.erase]
   all_goals (try omega)
theorem aeC(n:Nd)(Z:ab)(hw:n.wt<=aJ):aR 296 [.agg n.enc] Z (.bool n.qA):=by
 refine fq func296 ?_;simp only[aP,rV,Nat.reduceAdd]
 repeat' (first
  | (refine gO (λh=>?_) (λh=>?_)<;>simp only[am,h,Nd.al,Nd.fl])
  | (refine dc (λh=>?_) (λh=>?_)<;>simp only[ff,h,Nat.reduceAdd,Nat.reduceEqDiff,aF])
  | (refine gS (λh=>?_) (λh=>?_)<;>simp only[ff,h,Nat.reduceAdd,Nat.reduceEqDiff,aF])
  | (refine(Hl _ n _ (bU _) hw).mono ?_;rintro v _ ⟨rfl,rfl⟩;simp only[am])
 )
 all_goals refine aI ?_
 all_goals simp_all [V.erase,Nd.qA]
 all_goals (try omega)
theorem aji(n:Nd)(Z:ab)(hw:n.wt<=aJ):aR 274 [.agg n.enc] Z (.bool n.jr):=by
 refine fq func274 ?_;simp only[aP,rV,Nat.reduceAdd];cases fT:n.ae with
 | nil =>
  repeat' (first
   | (refine gO (λh=>?_) (λh=>?_)<;>simp only[am,h,aF,Nd.fl,fT,fp,cZ,pH,show decide ((0:Int)=1)=aq from rfl])
   | (refine dc (λh=>?_) (λh=>?_)<;>simp only[ff,h,Nat.reduceAdd,Nat.reduceEqDiff,aF,fT,fp,cZ,pH,show decide ((0:Int)=1)=aq from rfl])
   | (refine gS (λh=>?_) (λh=>?_)<;>simp only[ff,h,Nat.reduceAdd,Nat.reduceEqDiff,aF,fT,fp,cZ,pH,show decide ((0:Int)=1)=aq from rfl])
   | (refine(wW n.an _).mono ?_;rintro v _ ⟨rfl,rfl⟩;simp only[am])
  )
  all_goals refine aI ?_
  all_goals simp_all [V.erase,Nd.jr,se]
  all_goals (try omega)
 | cons m ms =>
  have hc:aR 296 [.agg m.enc] Z (.bool m.qA):=aeC m Z (by have:=iI (n:=n) (m:=m) (by rw[fT];simp);omega)
  repeat' (first
   | (refine gO (λh=>?_) (λh=>?_)<;>simp only[am,h,aF,Nd.fl,fT])
   | (refine dc (λh=>?_) (λh=>?_)<;>simp only[ff,h,Nat.reduceAdd,Nat.reduceEqDiff,aF,fT])
   | (refine gS (λh=>?_) (λh=>?_)<;>simp only[ff,h,Nat.reduceAdd,Nat.reduceEqDiff,aF,fT])
   | (refine(wW n.an _).mono ?_;rintro v _ ⟨rfl,rfl⟩;simp only[am])
   | (refine lz (c:=m.enc) (by simp) ?_;simp only[am,Nd.al])
   | (refine hc.mono ?_;rintro v _ ⟨rfl,rfl⟩;simp only[am])
  )
  all_goals refine aI ?_
  all_goals simp_all [V.erase,Nd.jr,se]
  all_goals (try omega)
theorem aaO(n:Nd)(Z:ab)(hw:n.wt<=aJ):aR 225 [.agg n.enc] Z (.bool n.jl):=by
 have hn:=v9 n;have dd:aR 230 [.sl .no 5 (n.ae.map Nd.enc),.fn (.func 274) [] []] Z (.bool (n.ae.all Nd.jr)) :=
  IN n.ae Z (by omega) λm hm=>aji m Z (by have:=iI hm;omega)
 refine fq func225 ?_;simp only[aP,rV,Nat.reduceAdd]
 by_cases rG:n.kind=10
 .simp only[am,Nd.fl,aG rG]
  repeat' (first
   | (refine gO (λh=>?_) (λh=>?_)<;>simp only[am,h,aF,Nd.fl])
   | (refine dc (λh=>?_) (λh=>?_)<;>simp only[ff,h,Nat.reduceAdd,Nat.reduceEqDiff,aF])
   | (refine gS (λh=>?_) (λh=>?_)<;>simp only[ff,h,Nat.reduceAdd,Nat.reduceEqDiff,aF])
   | (refine(Rv n.ak _ (by omega)).mono ?_;rintro v _ ⟨rfl,rfl⟩;simp only[am])
   | (refine dd.mono ?_;rintro v _ ⟨rfl,rfl⟩;simp only[am])
  )
  all_goals refine aI ?_
  all_goals simp_all [V.erase,Nd.jl]
  omega
 .simp only[am,Nd.fl,aD rG]
  repeat' (first
   | (refine gO (λh=>?_) (λh=>?_)<;>simp only[am,h,Nd.al])
   | (refine dc (λh=>?_) (λh=>?_)<;>simp only[ff,h,Nat.reduceAdd,Nat.reduceEqDiff,aF])
   | (refine gS (λh=>?_) (λh=>?_)<;>simp only[ff,h,Nat.reduceAdd,Nat.reduceEqDiff,aF])
   | (refine(Hl _ n _ (bU _) hw).mono ?_;rintro v _ ⟨rfl,rfl⟩;simp only[am])
  )
  all_goals refine aI ?_
  all_goals simp_all [V.erase,Nd.jl]
  all_goals (try omega)
def ajI:fm prog 184 (sq [rg 0 [ox 2 2 0,ox 3 5 1,oR 4 AW,oZ 5 [0,0]],rg 0 [oR 6 AW],rg 13 [ol 2 2,ol 5 3,oC 232 [13,14],o1 12,oe 12 0,oe 12 1,ot 7 16,o1 8],sq [rg 18 [om 8,nn,gB,ol 2 2,oC 233 [21],nn,gZ,gB,ol 5 3,oC 229 [26],nn,gZ],ci 29 (sq [dg 30 [ol 8 6,of 1 3,mM [1],no,oG [0,0] [(0,1,.c (.int .i64 4)),(1,1,.s 32)],os 8 4 30,o2 2 5],.ret])],rg 34 [oW [2,0] [],oq (.xH 2 (.s 34)),o1 9],sq [rg 36 [fo 1 2,nL,oi 0],lp 38 0 (sq [rg 41 [om 39,oA 67 37 39,nl 67,oR 11 uh,ot 10 41,o2 67 11],dg 44 [om 10,om 9,ol 67 11,om 7,om 10,nA 5 47,nl 5,oC 234 [45,46,50],oP 8 1 6 44,os 1 52 51]]) 53],sq [rg 54 [mk 9,nF 0],ci 57 (sq [dg 58 [oY AW [],mk 9,nf 1,mM [1],no,oG [0,0] [(0,1,.c (.int .i64 4)),(1,1,.s 62)],os 8 4 58,o2 2 5],.ret])],rg 64 [ol 8 6,oW [0,0] [],os 8 4 64,o2 2 5],.ret]) [.cell 4 aa 8,.cell 5 aa 2] 66:=fU func184 ⟨[35],[]⟩
abbrev BB(Z:ab)(b:Nat)(o:Option Int):Prop:=Z.box b=U (r6 o)
variable{Z:ab}
def avV{b:Nat}{o:Option Int}{c:List V}(hg:TZ Z)(h:BB Z b o):TZ (Z.set b c):=hg
def Lk(b:Nat)(o:Option Int)(p:Int)(h:BB Z b o):eT 278 [.ptr (.out b) 0,.int .i64 p] Z (.int .u64 ((0#64:bz).toNat:Nat)) (Z.set b (r6 (o.or (U p)))):=by
 refine fq func278 ?_;simp only[aP,am,aT,Nat.reduceAdd,tR];cases o with
 | none =>
  simp only[am,show Z.box b=U [.bool aq,.int .i64 0] from h];exact aN rfl (ab.a8 _) ⟨rfl,rfl⟩
 | some q =>
  have e:Z.set b (r6 ((U q).or (U p)))=Z:=ab.BN h;simp only[am,show Z.box b=U [.bool aa,.int .i64 q] from h];rw[e];exact aN rfl (ab.a8 _) ⟨rfl,rfl⟩
variable{k:Nat}{ws:List aC}
def Z6{l:List (List UInt8)}{w:aC}{s:bz}(h:dL l w.an=U k):gU l s (w::ws)=gU l (la s (k:Nat)) ws:=by simp only[gU,h]
def Z5{l:List (List UInt8)}{w:aC}{s:bz}(h:dL l w.an=ah):gU l s (w::ws)=(0#64,U w.pos):=by simp only[gU,h]
theorem ab6(b:Nat)(o:Option Int)(l:List (List UInt8))(ws:List aC)(h:BB Z b o)(hl:l.length<=100000)(hw:ws.length<=1000000000):
 eT 279 [.ptr (.out b) 0,.sl .no 1 (cu l),.sl .no 2 (ws.map aC.enc)] Z (.int .u64 ((gU l 0#64 ws).1.toNat:Nat)) (Z.set b (r6 (o.or (gU l 0#64 ws).2))):=by
 refine fq func279 ?_;simp only[aP,am,aT,Nat.reduceAdd,tR,aF];refine ch (ws.length) (λi (x:bz)=>⟨[.ptr (.out b) 0,.sl .no 1 (cu l),.any,.any,.any,.any,.any,.int .u64 (x.toNat:Nat),.any,.any,.any,.sl .no 2 (ws.map aC.enc),.int .i64 (ws.length:Nat),.int .i64 (i:Nat)]++aj 18 .any,[],Z⟩) (λi x=>(gU l 0#64 ws=gU l x (ws.drop i))) λF hF JF aZ=>⟨?_,?_,?_⟩
 .exact en aZ (0#64) (rfl)
 .rintro i x hi hJ;rw[mb hi] at hJ;simp only[hF,aj,am,cf hi];refine ix (o5 (bY hi)) ?_;simp only[am,Nat.reduceAdd,aC.enc];refine cl (zg l ws[i].an Z hl) ?_;simp only[am,yn];cases hf:dL l ws[i].an with
  | none =>
   rw[Z5 hf] at hJ;simp only[am,wb];refine(Lk b o ws[i].pos h).mono ?_;rintro v σ' ⟨rfl,rfl⟩;simp only[am,aK];exact aN rfl (ab.a8 _) ⟨by rw[hJ];rfl,by rw[hJ]⟩
  | some k =>
   rw[Z6 hf] at hJ;simp only[am,yV,bW];refine cl (Hz x (k:Nat) Z) ?_;simp only[am,aK,bt hi];refine c7 (la x (k:Nat)) hi ?_ ?_ ?_ ?_ ?_ ?_
   .grind
   all_goals simp[hF,aj,am,ba,bE,cn,V.lo]
 .rintro x hJ;rw[Az] at hJ;have e:Z.set b (r6 (o.or (gU l 0#64 ws).2))=Z:=by rw[hJ];simp only[gU,Option.or_none];exact ab.BN h
  simp only[hF,aj,am,aK,ck,aK];rw[e,hJ];refine aI ?_;rfl
def DN:=ag @am <| ag @aT <| ag @tR <| ag @bh.al <| ag @Nd.al @Nd.fl
def axC:=ag @am <| ag @aK <| ag @DH @bh.al
theorem atP(b:Nat)(o:Option Int)(f:bh)(n:Nd)(h:BB Z b o)(hg:TZ Z)(hl:f.ak.length<=100000)(hk:n.ae.length<=1000000000)(hw:∀k∈n.ae,k.ak.length<=1000000000):
 eT 280 [.ptr (.out b) 0,.agg f.enc,.agg n.enc] Z (.int .u64 ((tK f 0#64 o n.ae).1.toNat:Nat)) (Z.set b (r6 (tK f 0#64 o n.ae).2)):=by
 refine fq func280 ?_;simp only[aP,DN,Nat.reduceAdd,aF];have ph:Z.set b (r6 o)=Z:=ab.BN h;refine ch (n.ae.length) (λi (x:bz × Option Int)=>⟨[.ptr (.out b) 0,.any,.any,.any,.ptr (.au 0) 0,.ptr (.au 1) 0,.any,.int .u64 (x.1.toNat:Nat),.any,.any,.any,.any,.sl .no 5 (n.ae.map Nd.enc),.int .i64 (n.ae.length:Nat),.int .i64 (i:Nat)]++aj 28 .any,[f.enc,n.enc],Z.set b (r6 x.2)⟩) (λi x=>(tK f 0#64 o n.ae=tK f x.1 x.2 (n.ae.drop i))) λF hF JF aZ=>⟨?_,?_,?_⟩
 .refine en aZ ((0#64,o)) (rfl) ?_ ?_ ?_
  all_goals simp[hF,aj,am,ba,ph]
 .rintro i ⟨x,o'⟩ hi hJ;rw[mb hi] at hJ;simp only at hJ;have h1:BB (Z.set b (r6 o')) b o' := j6;simp only[hF,aj,am,cf hi];refine ix (gH (bY hi)) ?_;simp only[DN,Nat.reduceAdd];refine(zg f.ak n.ae[i].an _ hl).mono ?_;rintro v bx ⟨rfl,rfl⟩;simp only[am,yn];cases hf:dL f.ak n.ae[i].an with
  | none =>
   simp only[tK,hf] at hJ;simp only[am,Nd.fl,wb];refine(Lk b o' n.ae[i].pos h1).mono ?_;rintro v σ' ⟨rfl,rfl⟩;simp only[am,aK];exact aN rfl (ab.a8 _) ⟨by rw[hJ];rfl,by rw[hJ]⟩
  | some k =>
   simp only[tK,hf] at hJ;simp only[am,bh.al,Nd.fl,yV,bW];refine bn.intro (ab6 b o' f.ak n.ae[i].ak h1 hl (hw _ (dQ hi))) ?_;simp only[am,Rl.al];refine bn.intro (alf f.rel k (gU f.ak 0#64 n.ae[i].ak).1 (avV hg h)) ?_;simp only[axC,bt hi];refine c7 ((x|||uM f.rel k (gU f.ak 0#64 n.ae[i].ak).1,o'.or (gU f.ak 0#64 n.ae[i].ak).2)) hi ?_ ?_ ?_ ?_ ?_ ?_
   .grind
   all_goals simp[hF,aj,am,ba,bE,cn,V.lo,bh.bR,Nd.bR]
 .rintro⟨x,o'⟩ hJ;rw[Az] at hJ;simp only[hF,aj,am,aK,ck,aK];rw[hJ];refine aI ?_;rfl
def arN(b:Nat)(o:Option Int)(f:bh)(n:Nd)(h:BB Z b o)(hl:f.ak.length<=100000):
 eT 281 [.ptr (.out b) 0,.agg f.enc,.agg n.enc] Z (.int .u64 ((px f n).1.toNat:Nat)) (Z.set b (r6 (o.or (px f n).2))):=by
 refine fq func281 ?_;simp only[aP,DN,Nat.reduceAdd];refine cl (zg f.ak n.an _ hl) ?_;simp only[am,yn];cases hf:dL f.ak n.an with
 | none =>
  simp only[am,Nd.fl,wb];refine(Lk b o n.pos h).mono ?_;rintro v σ' ⟨rfl,rfl⟩;simp only[am];exact aN rfl (ab.a8 _) ⟨by simp only[px,hf];rfl,by simp only[px,hf]⟩
 | some k =>
  have e:Z.set b (r6 (o.or (px f n).2))=Z:=by simp only[px,hf,Option.or_none];exact ab.BN h
  rw[e];simp only[am,bh.al,yV,bW]
  by_cases h4:f.kind=4
  .simp only[am,Rl.al,bh.al,aG h4];refine cl (amv f.rel k Z) ?_;simp only[am];refine aI ?_;simp[V.erase,px,hf,h4]
  .simp only[am,bh.al,gk,aD h4];refine cl (at6 f.ak.length k Z) ?_;simp only[am,FG];refine aI ?_;simp[V.erase,px,hf,h4]
def ank(f:bh)(Z:ab):aR 277 [.agg f.enc] Z (.int .i64 (uH f)):=by
 refine fq func277 ?_;simp only[aP,am,aT,Nat.reduceAdd,bh.al]
 by_cases h2:f.kind=2
 .simp only[am,aG h2];refine aI ?_;simp[V.erase,uH,h2]
 .simp only[am,aD h2]
  by_cases h3:f.kind=3
  .simp only[am,aG h3];refine aI ?_;simp[V.erase,uH,h3]
  .simp only[am,aD h3];refine aI ?_;simp[V.erase,uH,h2,h3]
def awP(b:Nat)(o:Option Int)(f:bh)(n:Nd)(h:BB Z b o)(hg:TZ Z)(hl:f.ak.length<=100000)(hk:n.ak.length<=1000000000/\n.ae.length<=1000000000)(hw:∀k∈n.ae,k.ak.length<=1000000000):
 eT 234 [.ptr (.out b) 0,.agg f.enc,.agg n.enc] Z (.int .u64 ((pC f n o).1.toNat:Nat)) (Z.set b (r6 (pC f n o).2)):=by
 refine fq func234 ?_;simp only[aP,DN,Nat.reduceAdd];refine bn.intro (ank f Z) ?_;simp only[am,Nd.fl]
 by_cases hq:n.kind=uH f
 .simp only[am,bh.al,aG hq]
  by_cases h2:f.kind=2
  .have e:pC f n o=((gU f.ak 0#64 n.ak).1,o.or (gU f.ak 0#64 n.ak).2):=by rw[pC,aL hq,aL h2]
   simp only[am,bh.al,Nd.fl,aG h2];refine(ab6 b o f.ak n.ak h hl hk.1).mono ?_;rintro v σ' ⟨rfl,rfl⟩;simp only[am];exact aN rfl (ab.a8 _) ⟨by rw[e];rfl,by rw[e]⟩
  .simp only[am,aD h2]
   by_cases h3:f.kind=3
   .have e:pC f n o=tK f 0#64 o n.ae:=by rw[pC,aL hq,aB h2,aL h3]
    simp only[am,bh.al,Nd.al,aG h3];refine(atP b o f n h hg hl hk.2 hw).mono ?_;rintro v σ' ⟨rfl,rfl⟩;simp only[am];exact aN rfl (ab.a8 _) ⟨by rw[e];rfl,by rw[e]⟩
   .have e:pC f n o=((px f n).1,o.or (px f n).2):=by rw[pC,aL hq,aB h2,aB h3]
    simp only[am,bh.al,Nd.al,aD h3];refine(arN b o f n h hl).mono ?_;rintro v σ' ⟨rfl,rfl⟩;simp only[am];exact aN rfl (ab.a8 _) ⟨by rw[e];rfl,by rw[e]⟩
 .have e:pC f n o=(0#64,o.or (U n.pos)):=by rw[pC,aB hq]
  simp only[am,Nd.fl,aD hq];refine(Lk b o n.pos h).mono ?_;rintro v σ' ⟨rfl,rfl⟩;simp only[am];exact aN rfl (ab.a8 _) ⟨by rw[e];rfl,by rw[e]⟩
def axD:=ag @am <| ag @aT <| ag @bA.al @Nd.al
def arv(s:bA)(n:Nd)(Z:ab):aR 232 [.agg s.enc,.agg n.enc] Z (.bw [.sl .no 5 ((jb s n).map Nd.enc),.bool (mN s n)]):=by
 refine fq func232 ?_;simp only[aP,axD,Nat.reduceAdd];cases ht:s.tuple with
 | false =>
  simp only[am,Nd.al];refine aI ?_;simp[V.erase,a9,jb,mN,ht]
 | true =>
  simp only[am,Nd.fl]
  by_cases h4:n.kind=4
  .simp only[am,aF,bA.al,Nd.fl,aF,aG h4]
   by_cases hl:n.ae.length=s.bI.length
   .simp only[aG (show(n.ae.length:Int)=s.bI.length by omega)];refine aI ?_;simp[V.erase,a9,jb,mN,ht,h4,hl]
   .simp only[aD (show ¬(n.ae.length:Int)=s.bI.length by omega)];refine aI ?_;simp[V.erase,a9,jb,mN,ht,h4,hl]
  .simp only[am,aD h4];refine aI ?_;simp[V.erase,a9,jb,mN,ht,h4]
def Nd.ok(n:Nd):Prop:=n.ak.length<=1000000000/\n.ae.length<=1000000000/\∀k∈n.ae,k.ak.length<=1000000000
variable{s:bA}
def Eg{n:Nd}(h:(mN s n&&lC s&&n.gg)=aq):gN s n=(.zero,U n.pos):=by rw[gN,h];rfl
def Vj{n:Nd}(h1:mN s n=aa)(h2:lC s=aa)(h3:n.gg=aa):gN s n=wy s (jb s n):=by rw[gN,h1,h2,h3];rfl
theorem R3(h:lC s=aa):1<=s.bI.length/\s.bI.length<=8/\(s.tuple=aq->s.bI.length=1):=by
 simp only[lC,bO,cU,qx] at h
 grind
def ZW{n:Nd}(h1:mN s n=aa)(h2:lC s=aa):(jb s n).length=s.bI.length:=by
 have hl:=(R3 h2).2.2;unfold jb;unfold mN at h1;cases ht:s.tuple with
 | false=>simp[hl ht]
 | true=>rw[ht] at h1;simpa using And.right (by simpa using h1)
def ac5:=ag @am <| ag @aT <| ag @bA.al <| ag @br.al @Nd.al
theorem M'(s:bA)(n:Nd)(hg:TZ Z)(cw:s.ok)(hn:∀k∈jb s n,Nd.ok k)(O':n.wt<=aJ):
 aR 184 [.agg s.enc,.agg n.enc] Z (.bw [.agg (gN s n).1.enc,.agg (pf (gN s n).2)]):=by
 refine ajI.fK ?_;simp only[aP,ac5,Nat.reduceAdd];refine cl (arv s n Z) ?_;simp only[am];have done:∀(e:br × Option Int) (t:List V) (l:List (List V)) (bx:ab),e=gN s n->Z.sub bx->jS (λv σ' => v=V.bw [.agg (gN s n).1.enc,.agg (pf (gN s n).2)]/\σ' = Z) ⟨t,l,bx⟩ (.bw [.agg e.1.enc,.agg (pf e.2)]):=λe t l bx he hs=>by
  subst he;exact aN (by simp[V.cS,bK,br.dT,pf]) hs ⟨by simp[V.erase,a9,br.dW,pf],rfl⟩
 cases hp:mN s n with
 | false =>
  simp only[am,Nat.reduceAdd,br.al,Nd.fl];exact done (.zero,U n.pos) _ _ _ (Eg (by rw[hp];rfl)).symm (ab.a8 _)
 | true =>
  simp only[am,bA.al];refine cl (auL s hg cw) ?_;cases hr:lC s with
  | false =>
   simp only[am,Nat.reduceAdd,br.al,Nd.fl];exact done (.zero,U n.pos) _ _ _ (Eg (by rw[hp,hr];rfl)).symm (ab.a8 _)
  | true =>
   simp only[am,Nd.al];refine cl (U4 _ n Z (bU _) O') ?_;cases hc:n.gg with
   | false =>
    simp only[am,Nat.reduceAdd,br.al,Nd.fl];exact done (.zero,U n.pos) _ _ _ (Eg (by rw[hp,hr,hc];rfl)).symm (ab.a8 _)
   | true =>
    have tg:=Vj hp hr hc;obtain⟨zw,hl8,_⟩:=R3 hr;have pk:=ZW hp hr;simp only[am,Nat.reduceAdd];refine lT λb hb=>?_
    have hs:∀c,Z.sub (Z.set b c):=λc=>jF hb
    have hgb:∀c,TZ (Z.set b c):=λc=>(hs c).2.2 _ _ hg
    simp only[am,aF,bA.al,aF];refine ch (s.bI.length) (λi (x:br × Option Int)=>⟨[.any,.any,.any,.any,.ptr (.au 2) 0,.ptr (.au 3) 0,.ptr (.au 4) 0,.sl .no 5 ((jb s n).map Nd.enc),.any,.ptr (.out b) 0,.any,.any,.any,.any,.any,.any,.any,.any,.any,.any,.any,.any,.any,.any,.any,.any,.any,.any,.any,.any,.any,.any,.any,.any,.any,.any,.any,.sl .no 67 (s.bI.map bh.enc),.int .i64 (s.bI.length:Nat),.int .i64 (i:Nat)]++aj 26 .any,[s.enc,n.enc,br.zero.enc,[.int .i64 0,.int .i64 0],x.1.enc],Z.set b (r6 x.2)⟩) (λi x=>(Gv s (jb s n) i x)) λF hF JF aZ=>⟨?_,?_,?_⟩
    .refine en aZ ((.zero,ah)) (akV) ?_ ?_ ?_
     all_goals simp[hF,aj,am,ba,r6]
    .rintro i ⟨e,o⟩ hi hJ;have CJ:i<(jb s n).length:=by omega
     have h8:i<8:=by omega
     have fM:=akU hJ;rw[mB hi,mB CJ] at fM;have zC:=hn _ (dQ CJ);simp only[hF,aj,am,cf hi];refine ix (Jg hi) ?_;simp only[am,Nat.reduceAdd,bh.al];refine ix (gH (bY CJ)) ?_;simp only[am,bh.al,Nd.al];refine bn.intro (awP b o s.bI[i] (jb s n)[i] j6 (hgb _) (cw.2 _ (dQ hi)) ⟨zC.1,zC.2.1⟩ zC.2.2) ?_;simp only[am,cK];refine jX ?_;simp only[Av,br.yF h8,br.yH h8,bt hi];refine c7 ((e.put i (pC s.bI[i] (jb s n)[i] o).1,(pC s.bI[i] (jb s n)[i] o).2)) hi ?_ ?_ ?_ ?_ ?_ ?_
     .grind
     all_goals simp[hF,aj,am,ba,bE,cn,V.lo,Nd.bR,bA.bR,br.bR]
    .rintro⟨e,o⟩ hJ;have fA:=NF hJ;rw[<-tg] at fA;simp only[hF,aj,am,aK,ck,aK,r6];cases o with
     | some p =>
      simp only[am,Nat.reduceAdd,br.al,yW,DZ];exact done (.zero,U p) _ _ _ (by rw[fA];rfl) (hs _)
     | none =>
      simp only[am,Nat.reduceAdd,br.al,xy];exact done (e,ah) _ _ _ (by rw[fA];rfl) (hs _)
def Pm(n m:Nd)(Z:ab)(i:Nat):St :=
 ⟨[.any,.any,.ptr (.au 0) 0,.ptr (.au 1) 0]++aj 35 .any++[.int .i64 n.ak.length,.int .i64 (i:Nat)]++aj 35 .any,[n.enc,m.enc],Z⟩
def Pk(n m:Nd)(Z:ab)(i:Nat):St :=
 ⟨[.any,.any,.ptr (.au 0) 0,.ptr (.au 1) 0]++aj 55 .any++[.int .i64 n.ae.length,.int .i64 (i:Nat)]++aj 15 .any,[n.enc,m.enc],Z⟩
theorem aue:∀(k:Nat) (n m:Nd) (Z:ab),n.wt<=k->n.wt<=aJ->aR 226 [.agg n.enc,.agg m.enc] Z (.bool (n.dm m)):=by
 intro k;induction k with
 | zero=>intro n m Z h _;cases n;simp only[Nd.wt] at h;omega
 | succ k sy =>
  intro n m Z hk hw;have hn:=v9 n;have jL:n.wt<2^62:=by simp only[aJ] at hw;omega
  rw[Nd.DB];refine fq func226 ?_;simp only[aP,rV,Nat.reduceAdd]
  by_cases k1:n.kind=m.kind
  case' neg =>
   simp only[am,aD k1];refine aI ?_;rfl
  simp only[am,bu,Nd.fl,k1]
  by_cases k2:n.an=m.an
  case' neg =>
   simp only[am,aD k2];refine aI ?_;rfl
  simp only[am,aF,bu,Nd.fl,k2]
  by_cases k3:n.ak.length=m.ak.length
  case' neg =>
   have PS : ¬(n.ak.length:Int)=m.ak.length:=by omega
   simp only[am,aD PS]
   have:eX n.ak m.ak=false:=by cases hs:eX n.ak m.ak with
    | false=>rfl
    | true=>exact absurd (RQ hs) k3
   refine aI ?_;simp[V.erase,this]
  simp only[am,aF,bu,Nd.fl,k3]
  by_cases k4:n.ae.length=m.ae.length
  case' neg =>
   have PT : ¬(n.ae.length:Int)=m.ae.length:=by omega
   simp only[am,aD PT]
   have:dY n.ae m.ae=false:=by cases hs:dY n.ae m.ae with
    | false=>rfl
    | true=>exact absurd (RT hs) k4
   refine aI ?_;simp[V.erase,this]
  simp only[am,aF,bu,Nd.fl,k4];refine ep (λp:{i:Nat // i<=n.ak.length/\eX (n.ak.take i) (m.ak.take i)=aa}=>Pm n m Z p.1) (λp=>n.ak.length - p.1) ?_ ?_
  .refine a7.enter ⟨0,by simp,by simp[eX]⟩ ?_ bX.rfl bp.rfl;simp[Pm,aj,am,k3]
  rintro⟨i,hi,ha⟩;simp only[Pm,aj,am];refine dc ?_ ?_
  .intro az;have az:i<n.ak.length:=by grind
   obtain⟨dz,fj⟩:=RO az (by omega) k3 ha;simp only[am,Nd.fl];refine ix (o5 (bY az)) ?_;simp only[am,Nd.fl,aC.enc];refine ix (o5 (bY (show i<m.ak.length by omega))) ?_;simp only[am,aC.enc]
   by_cases he:n.ak[i].an=m.ak[i].an
   .simp only[am,bu,he];rw[wrap_i64];exact a7.again ⟨i+1,az,by rw[dz];exact aG he⟩ (by simp;omega) (by simp[am]) bX.rfl bp.rfl
   .simp only[am,aD he];refine aI ?_;simp[V.erase,fj (aD he)]
  intro az;have az:i=n.ak.length:=by grind
  subst az;rw[du,k3,du] at ha;simp only[am,aF,Nd.fl];refine ep (λp:{i:Nat // i<=n.ae.length/\dY (n.ae.take i) (m.ae.take i)=aa}=>Pk n m Z p.1) (λp=>n.ae.length - p.1) ?_ ?_
  .refine a7.enter ⟨0,by simp,by simp[dY]⟩ ?_ bX.rfl bp.rfl;simp[Pk,aj,am,k4]
  rintro⟨i,hi,hb⟩;simp only[Pk,aj,am];refine dc ?_ ?_
  .intro az;have az:i<n.ae.length:=by grind
   have sj:=iI (n:=n) (dQ az);obtain⟨dz,fj⟩:=RS az (by omega) k4 hb;simp only[am,Nd.fl];refine ix (gH (bY az)) ?_;simp only[am,Nd.al,Nd.fl];refine ix (gH (bY (show i<m.ae.length by omega))) ?_;simp only[am,Nd.al];refine bn.intro (sy n.ae[i] m.ae[i] _ (by omega) (by omega)) ?_;cases he:n.ae[i].dm m.ae[i]
   .simp only[am];refine aI ?_;simp[V.erase,fj he]
   .simp only[am];rw[wrap_i64];exact a7.again ⟨i+1,az,by rw[dz];exact he⟩ (by simp;omega) (by simp[am]) bX.rfl bp.rfl
  intro az;have az:i=n.ae.length:=by grind
  subst az;rw[du,k4,du] at hb;simp only[am];refine aI ?_;simp[V.erase,ha,hb]
def Po(n m:Nd)(Z:ab)(i:Nat):St :=
 ⟨[.any,.any,.ptr (.au 0) 0,.ptr (.au 1) 0]++[.any,.int .i64 (i:Nat)]++aj 70 .any,[n.enc,m.enc],Z⟩
def Pn(n m:Nd)(Z:ab)(i:Nat):St :=
 ⟨[.any,.any,.ptr (.au 0) 0,.ptr (.au 1) 0]++[.any,.any,.int .i64 (i:Nat)]++aj 69 .any,[n.enc,m.enc],Z⟩
theorem Lg:∀(k:Nat) (n m:Nd) (Z:ab),n.wt<=k->n.wt<=aJ->aR 60 [.agg n.enc,.agg m.enc] Z (.bool (n.dm m)):=by
 intro k;induction k with
 | zero=>intro n m Z h _;cases n;simp only[Nd.wt] at h;omega
 | succ k sy =>
  intro n m Z hk hw;have hn:=v9 n;have jL:n.wt<2^62:=by simp only[aJ] at hw;omega
  rw[Nd.DB];refine fq func60 ?_;simp only[aP,rV,Nat.reduceAdd]
  by_cases k1:n.kind=m.kind
  case' neg =>
   simp only[am,aD k1];refine aI ?_;rfl
  simp only[am,bu,Nd.fl,k1]
  by_cases k2:n.an=m.an
  case' neg =>
   simp only[am,aD k2];refine aI ?_;rfl
  simp only[am,aF,bu,Nd.fl,k2]
  by_cases k3:n.ak.length=m.ak.length
  case' neg =>
   have PS : ¬(n.ak.length:Int)=m.ak.length:=by omega
   simp only[am,aD PS]
   have:eX n.ak m.ak=false:=by cases hs:eX n.ak m.ak with
    | false=>rfl
    | true=>exact absurd (RQ hs) k3
   refine aI ?_;simp[V.erase,this]
  simp only[am,aF,bu,Nd.fl,k3]
  by_cases k4:n.ae.length=m.ae.length
  case' neg =>
   have PT : ¬(n.ae.length:Int)=m.ae.length:=by omega
   simp only[am,aD PT]
   have:dY n.ae m.ae=false:=by cases hs:dY n.ae m.ae with
    | false=>rfl
    | true=>exact absurd (RT hs) k4
   refine aI ?_;simp[V.erase,this]
  simp only[am,bu,k4];refine ep (λp:{i:Nat // i<=n.ak.length/\eX (n.ak.take i) (m.ak.take i)=aa}=>Po n m Z p.1) (λp=>n.ak.length - p.1) ?_ ?_
  .refine a7.enter ⟨0,by simp,by simp[eX]⟩ ?_ bX.rfl bp.rfl;simp[Po,aj,am]
  rintro⟨i,hi,ha⟩;simp only[Po,aj,am,Nd.fl,aF];refine dc ?_ ?_
  .intro az;have az:i<n.ak.length:=by grind
   obtain⟨dz,fj⟩:=RO az (by omega) k3 ha;simp only[am,Nd.fl];refine ix (o5 (bY az)) ?_;simp only[am,Nd.fl,aC.enc];refine ix (o5 (bY (show i<m.ak.length by omega))) ?_;simp only[am,aC.enc]
   by_cases he:n.ak[i].an=m.ak[i].an
   .simp only[am,bu,he];rw[wrap_i64];exact a7.again ⟨i+1,az,by rw[dz];exact aG he⟩ (by simp;omega) (by simp[am]) bX.rfl bp.rfl
   .simp only[am,aD he];refine aI ?_;simp[V.erase,fj (aD he)]
  intro az;have az:i=n.ak.length:=by grind
  subst az;rw[du,k3,du] at ha;simp only[am];refine ep (λp:{i:Nat // i<=n.ae.length/\dY (n.ae.take i) (m.ae.take i)=aa}=>Pn n m Z p.1) (λp=>n.ae.length - p.1) ?_ ?_
  .refine a7.enter ⟨0,by simp,by simp[dY]⟩ ?_ bX.rfl bp.rfl;simp[Pn,aj,am]
  rintro⟨i,hi,hb⟩;simp only[Pn,aj,am,Nd.fl,aF];refine dc ?_ ?_
  .intro az;have az:i<n.ae.length:=by grind
   have sj:=iI (n:=n) (dQ az);obtain⟨dz,fj⟩:=RS az (by omega) k4 hb;simp only[am,Nd.fl];refine ix (gH (bY az)) ?_;simp only[am,Nd.al,Nd.fl];refine ix (gH (bY (show i<m.ae.length by omega))) ?_;simp only[am,Nd.al];refine bn.intro (sy n.ae[i] m.ae[i] _ (by omega) (by omega)) ?_;cases he:n.ae[i].dm m.ae[i]
   .simp only[am];refine aI ?_;simp[V.erase,fj he]
   .simp only[am];rw[wrap_i64];exact a7.again ⟨i+1,az,by rw[dz];exact he⟩ (by simp;omega) (by simp[am]) bX.rfl bp.rfl
  intro az;have az:i=n.ae.length:=by grind
  subst az;rw[du,k4,du] at hb;simp only[am];refine aI ?_;simp[V.erase,ha,hb]
def amY(a b:List (List UInt8)):(b_ a).length<=(b_ (a++b)).length:=by
 cases a with
 | nil=>simp[b_]
 | cons x xs=>simp only[b_,gY,rX,bL];omega
theorem Kn(L:List (List UInt8))(i:Nat):(b_ (L.take i)).length<=(b_ L).length:=by
 have:=amY (L.take i) (L.drop i)
 simp_all
def Km{L:List (List UInt8)}(h:i<L.length):b_ (L.take (i+1))=b_ (L.take i)++(if 0<i then [44] else [])++L[i]:=by rw[BX (bY h),PQ,o8,Iz (by omega)]
def Py(D τ' : Tk)(l:List Nd)(w:List aC)(Z:ab)(i:Nat):St :=
 ⟨[.sl D 5 (l.map Nd.enc),.sl τ' 2 (w.map aC.enc),.any,.any,.any,.aQ (b_ ((l.map Nd.dn).take i)),.int .i64 (i:Nat)]++aj 36 .any,[],Z⟩
def Pz(τ' : Tk)(s:List UInt8)(w:List aC)(Z:ab)(i:Nat):St :=
 ⟨[.any,.sl τ' 2 (w.map aC.enc),.any,.any,.any,.aQ (s++b_ ((w.map aC.an).take i)),.any,.int .i64 (i:Nat)]++aj 35 .any,[],Z⟩
theorem ac3{D τ' : Tk}(l:List Nd)(w:List aC)(Z:ab)(hl:l.length<=aJ)(hw:w.length<=aJ)(hs:(b_ (l.map Nd.dn)).length+(b_ (w.map aC.an)).length<=aJ)
 (ih:∀m∈l,aR 47 [.agg m.enc] Z (.aQ m.dn)) :
 aR 77 [.sl D 5 (l.map Nd.enc),.sl τ' 2 (w.map aC.enc)] Z (.aQ (b_ (l.map Nd.dn)++b_ (w.map aC.an))):=by
 simp only[aJ] at hl hw hs;refine fq func77 ?_;simp only[aP,am,aT,Nat.reduceAdd];refine ep (λp:{i:Nat // i<=l.length}=>Py D τ' l w Z p.1) (λp=>l.length - p.1) ?_ ?_
 .refine a7.enter ⟨0,by simp⟩ ?_ bX.rfl bp.rfl;simp[Py,aj,am,b_]
 rintro⟨i,hi⟩;simp only[Py,aj,am,aF];refine dc ?_ ?_
 .intro az;have az:i<l.length:=by grind
  have dz:=Km (L:=l.map Nd.dn) (i:=i) (by simpa using az);have hle:=Kn (l.map Nd.dn) (i+1);have wi:IntKind.i64.wrap ((i:Int)+1)=(i:Int)+1:=wrap_i64 (by omega) (by omega);rw[B_] at dz;rw[dz] at hle;simp only[bL] at hle;simp only[am]
  by_cases h0:0<i
  case' pos =>
   rw[aL h0] at dz hle;simp only[da,cZ] at hle;simp only[am,aG (show(0:Int)<i by omega)];refine⟨by simp[aJ];omega,?_⟩
  case' neg =>
   rw[aB h0] at dz hle;simp only[cZ,eC] at hle dz;simp only[am,aD (show ¬(0:Int)<i by omega)]
  all_goals
   refine ix (gH (bY az)) ?_;simp only[am,Nd.al];refine cl (ih l[i] (dQ az)) ?_;simp only[am];refine⟨by simp[aJ];omega,?_⟩;simp only[wi];exact a7.again ⟨i+1,az⟩ (by simp;omega) (by simp[am,dz]) bX.rfl bp.rfl
 intro az;have az:i=l.length:=by grind
 subst az;rw[show(l.map Nd.dn).take l.length=l.map Nd.dn by rw[<-aF (f:=Nd.dn),du]];simp only[am];generalize b_ (l.map Nd.dn)=s at hs ⊢;refine ep (λp:{i:Nat // i<=w.length}=>Pz τ' s w Z p.1) (λp=>w.length - p.1) ?_ ?_
 .refine a7.enter ⟨0,by simp⟩ ?_ bX.rfl bp.rfl;simp[Pz,aj,am,b_]
 rintro⟨i,hi⟩;simp only[Pz,aj,am,aF];refine dc ?_ ?_
 .intro az;have az:i<w.length:=by grind
  have dz:=Km (L:=w.map aC.an) (i:=i) (by simpa using az);have hle:=Kn (w.map aC.an) (i+1);have wi:IntKind.i64.wrap ((i:Int)+1)=(i:Int)+1:=wrap_i64 (by omega) (by omega);rw[B_] at dz;rw[dz] at hle;simp only[bL] at hle;simp only[am]
  by_cases h0:0<i
  case' pos =>
   rw[aL h0] at dz hle;simp only[da,cZ] at hle;simp only[am,aG (show(0:Int)<i by omega)];refine⟨by simp[aJ];omega,?_⟩
  case' neg =>
   rw[aB h0] at dz hle;simp only[cZ,eC] at hle dz;simp only[am,aD (show ¬(0:Int)<i by omega)]
  all_goals
   refine ix (o5 (bY az)) ?_;simp only[am,aC.enc];refine⟨by simp[aJ];omega,?_⟩;simp only[wi];exact a7.again ⟨i+1,az⟩ (by simp;omega) (by simp[am,dz]) bX.rfl bp.rfl
 intro az;have az:i=w.length:=by grind
 subst az;rw[show(w.map aC.an).take w.length=w.map aC.an by rw[<-aF (f:=aC.an),du]];simp only[am];exact rt
theorem ach:∀(k:Nat) (n:Nd) (Z:ab),n.wt<=k->n.wt<=aJ->aR 47 [.agg n.enc] Z (.aQ n.dn):=by
 intro k;induction k with
 | zero=>intro n Z h _;cases n;simp only[Nd.wt] at h;omega
 | succ k sy =>
  intro n Z hk hw;have ih:∀m∈n.ae,∀Z,aR 47 [.agg m.enc] Z (.aQ m.dn):=λm hm Z=>by
   have h1:=iI hm
   grind
  have hn:=v9 n;have h1:=Hh n.ae (xl n.ae);have h2:=FK n.ak;have h3:n.an.length+gd n.ae+fk n.ak+4<=n.wt:=by cases n;simp only[Nd.wt,Nd.ae,Nd.ak,Nd.an];omega
  have h4:=Oq n.ae (xl n.ae);have mD:aR 77 [.sl .no 5 (n.ae.map Nd.enc),.sl .aY 2 []] Z (.aQ (b_ (dV n.ae))):=by
   have:=ac3 (D:=.no) (τ' := .aY) n.ae [] Z (by omega) (by simp) (by rw[<-Aj,show b_ (([]:List aC).map aC.an)=[] from rfl,cZ];omega) λm hm=>ih m hm Z
   simpa [b_,<-Aj] using this
  have ON:aR 77 [.sl .aY 5 [],.sl .no 2 (n.ak.map aC.enc)] Z (.aQ (gX n.ak)):=by
   have:=ac3 (D:=.aY) (τ' := .no) [] n.ak Z (by simp) (by omega) (by rw[show b_ (n.ak.map aC.an)=gX n.ak from rfl,show b_ (([]:List Nd).map Nd.dn)=[] from rfl,cZ];omega) λm hm=>ih m (by simp at hm) Z
   simpa [b_,gX] using this
  have e:n.dn=if n.kind=1\/n.kind=2 then n.an else if n.kind=3 then [123]++gX n.ak++[125] else if n.kind=4 then [40]++b_ (dV n.ae)++[41] else if n.kind=5 then [91]++b_ (dV n.ae)++[93]
   else if n.kind=6 then n.an++[58,123]++gX n.ak++[125] else if n.kind=7 then [35]++pX (dV n.ae) else if n.kind=8 then [43,40]++b_ (dV n.ae)++[41] else if n.kind=9 then [38,40]++b_ (dV n.ae)++[41]
   else if n.kind=10 then([91]++b_ (dV n.ae))++(if 0<n.ak.length then [124]++gX n.ak else [])++[93] else if n.kind=11 then n.an++[61]++pX (dV n.ae) else []:=by cases n;rw[Nd.dn];rfl
  rw[e];refine fq func47 ?_;simp only[aP,rV,Nat.reduceAdd]
  by_cases k1:n.kind=1
  .simp only[am,Nd.fl,aG k1];refine aI ?_;simp[V.erase,k1]
  simp only[am,aD k1]
  by_cases k2:n.kind=2
  .simp only[am,Nd.fl,aG k2];refine aI ?_;simp[V.erase,k2]
  simp only[am,aD k2]
  by_cases k3:n.kind=3
  .simp only[am,Nd.fl,aG k3];refine cl (ON) ?_;simp only[am];refine⟨by simp;omega,by simp;omega,?_⟩;refine aI ?_;simp[V.erase,k3]
  simp only[am,aD k3]
  by_cases k4:n.kind=4
  .simp only[am,Nd.fl,aG k4];refine cl (mD) ?_;simp only[am];refine⟨by simp;omega,by simp;omega,?_⟩;refine aI ?_;simp[V.erase,k4]
  simp only[am,aD k4]
  by_cases k5:n.kind=5
  .simp only[am,Nd.fl,aG k5];refine cl (mD) ?_;simp only[am];refine⟨by simp;omega,by simp;omega,?_⟩;refine aI ?_;simp[V.erase,k5]
  simp only[am,aD k5]
  by_cases k6:n.kind=6
  .simp only[am,Nd.fl,aG k6];refine⟨by simp;omega,?_⟩;refine bn.intro (ON) ?_;simp only[am,Nd.fl];refine⟨by simp;omega,by simp;omega,?_⟩;refine aI ?_;simp[V.erase,k6]
  simp only[am,aD k6]
  by_cases k7:n.kind=7
  .simp only[am,aF,Nd.fl,aG k7];cases hc:n.ae with
   | nil =>
    simp only[am,bu,fp,cZ,pH];refine aI ?_;simp[V.erase,k7,pX,dV]
   | cons m ms =>
    rw[hc] at h4;simp only[dV,pX] at h4;simp only[am,Nd.fl,aD (show ¬(((m::ms).length:Nat):Int)=0 by simp;omega),hc];refine lz (c:=m.enc) (by simp) ?_;simp only[am,Nd.al];refine cl (ih m (by rw[hc];simp) Z) ?_;simp only[am];refine⟨by have:=DM (n:=m) (l:=m::ms) (by simp);have:=xl [m] m (by simp);simp;rw[hc] at h3;omega,?_⟩;refine aI ?_;simp[V.erase,k7,pX,dV]
  simp only[am,aD k7]
  by_cases k8:n.kind=8
  .simp only[am,Nd.fl,aG k8];refine cl (mD) ?_;simp only[am];refine⟨by simp;omega,by simp;omega,?_⟩;refine aI ?_;simp[V.erase,k8]
  simp only[am,aD k8]
  by_cases k9:n.kind=9
  .simp only[am,Nd.fl,aG k9];refine cl (mD) ?_;simp only[am];refine⟨by simp;omega,by simp;omega,?_⟩;refine aI ?_;simp[V.erase,k9]
  simp only[am,aD k9]
  by_cases rG:n.kind=10
  .simp only[am,aF,Nd.fl,aG rG]
   by_cases hz:n.ak.length=0
   .simp only[am,bu,Nd.fl,hz,pH];refine cl (mD) ?_;simp only[am];refine⟨by simp;omega,by simp;omega,?_⟩;refine aI ?_;simp[V.erase,rG]
   .simp only[am,Nd.fl,aD (show ¬((n.ak.length:Nat):Int)=0 by omega)];refine bn.intro (mD) ?_;simp only[am,Nd.fl];refine⟨by simp;omega,by simp;omega,?_⟩;refine bn.intro (ON) ?_;simp only[am,Nd.fl];refine⟨by simp;omega,by simp;omega,?_⟩;refine aI ?_;simp[V.erase,rG,Nat.pos_of_ne_zero hz]
  simp only[am,aD rG]
  by_cases yh:n.kind=11
  .simp only[am,aF,Nd.fl,aG yh];cases hc:n.ae with
   | nil =>
    simp only[am,bu,Nd.fl,hc,fp,cZ,pH];refine⟨by simp;omega,?_⟩;refine aI ?_;simp[V.erase,yh,pX,dV]
   | cons m ms =>
    simp only[am,Nd.fl,aD (show ¬(((m::ms).length:Nat):Int)=0 by simp;omega),hc];refine⟨by simp;omega,?_⟩;refine lz (c:=m.enc) (by simp) ?_;simp only[am,Nd.al];refine bn.intro (ih m (by rw[hc];simp) Z) ?_;simp only[am,Nd.fl];refine⟨by have:=DM (n:=m) (l:=m::ms) (by simp);have:=xl [m] m (by simp);simp;rw[hc] at h3;omega,?_⟩;refine aI ?_;simp[V.erase,yh,pX,dV]
  simp only[am,aD yh];refine aI ?_;simp[V.erase,k1,k2,k3,k4,k5,k6,k7,k8,k9,rG,yh]
def PC(l:List aC)(Z:ab)(i:Nat):St :=
 ⟨[.sl .no 2 (l.map aC.enc),.any,.any,.int .i64 (i:Nat)]++aj 13 .any,[],Z⟩
theorem Rt(l:List aC)(Z:ab)(hb:l.length<=aJ):aR 194 [.sl .no 2 (l.map aC.enc)] Z (.bool (f_ l)):=by
 simp only[aJ] at hb;refine fq func194 ?_;simp only[aP,am,aT,Nat.reduceAdd];refine ep (λp:{i:Nat // i<=l.length/\(l.take i).all (λw=>dp w.an)=aa}=>PC l Z p.1) (λp=>l.length - p.1) ?_ ?_
 .refine a7.enter ⟨0,by simp,by simp⟩ ?_ bX.rfl bp.rfl;simp[PC,aj,am]
 .rintro⟨i,hi,ha⟩;simp only[PC,aj,am,aF];refine dc ?_ ?_
  .intro az;have az:i<l.length:=by grind
   simp only[am];refine ix (o5 (bY az)) ?_;simp only[am,aC.enc];refine cl (yr l[i].an Z) ?_;cases hg:dp l[i].an
   .simp only[am];refine aN rfl (ab.a8 _) ⟨?_,rfl⟩;rw[show f_ l=aq from y4 (f:=λ(w:aC)=>dp w.an) az hg];rfl
   .simp only[am];rw[wrap_i64];exact a7.again ⟨i+1,az,by rw[As az,ha,hg];rfl⟩ (by simp;omega) (by simp[am]) bX.rfl bp.rfl
  .intro az;have az:i=l.length:=by grind
   subst az;rw[du] at ha;simp only[am];refine aI ?_;simp[V.erase,f_,ha]
def alJ{f:Nd->Bool}{l:List Nd}(h:(l.length:Int)=1):se f l=l.all f:=by
 match l,h with
 | [m],_=>simp[se]
 | [],h=>simp at h
 | _::_::_,h=>simp at h;omega
theorem aey(n:Nd):n.qA=(n.ei&&!decide (n.kind=8)&&!decide (n.kind=9)):=by
 unfold Nd.qA;rw[Nd.uI]
 grind
def vQ(w:Int)(l:List Nd)(Z:ab)(i:Nat):St :=
 ⟨[.int .i64 w,.sl .no 5 (l.map Nd.enc),.any,.any,.any,.int .i64 (i:Nat)]++aj 94 .any,[],Z⟩
theorem TK(l:List Nd)(Z:ab)(hb:l.length<=aJ)(h:∀n∈l,∀Z,aR 195 [.agg n.enc] Z (.bool n.gg)):aR 193 [.int .i64 1,.sl .no 5 (l.map Nd.enc)] Z (.bool (l.all Nd.gg)):=by
 simp only[aJ] at hb;refine fq func193 ?_;simp only[aP,am,aT,Nat.reduceAdd];refine ep (λp:{i:Nat // i<=l.length/\(l.take i).all Nd.gg=aa}=>vQ 1 l Z p.1) (λp=>l.length - p.1) ?_ ?_
 .refine a7.enter ⟨0,by simp,by simp⟩ ?_ bX.rfl bp.rfl;simp[vQ,aj,am]
 rintro⟨i,hi,ha⟩;simp only[vQ,aj,am,aF];refine dc ?_ ?_
 .intro az;have az:i<l.length:=by grind
  have wi:IntKind.i64.wrap ((i:Int)+1)=(i:Int)+1:=wrap_i64 (by omega) (by omega);have ku:l[i].gg=aa->(l.take (i+1)).all Nd.gg=true:=λhg=>by rw[As az,ha,hg];rfl
  have fj:l[i].gg=aq->l.all Nd.gg=false:=λhg=>y4 az hg
  have mj:=dQ az;simp only[am];refine ix (gH (bY az)) ?_;generalize l[i]=n at ku fj mj ⊢;simp only[am,bu,Nd.al];refine cl (h n mj Z) ?_;cases hg:n.gg
  .simp only[am,cX,Int.reduceEq];refine aI ?_;simp[V.erase,fj hg]
  .simp only[am,cX,Int.reduceEq,wi];exact a7.nh ⟨i+1,az,ku hg⟩ (by simp;omega) (by simp[am]) (by simp[am]) bp.rfl rfl rfl
 intro az;have az:i=l.length:=by grind
 subst az;rw[du] at ha;simp only[am];refine aI ?_;simp[V.erase,ha]
theorem adM(l:List Nd)(Z:ab)(hb:l.length<=aJ)(h:∀n∈l,∀Z,aR 131 [.agg n.enc] Z (.bool n.ei)):aR 193 [.int .i64 3,.sl .no 5 (l.map Nd.enc)] Z (.bool (l.all Nd.ei)):=by
 simp only[aJ] at hb;refine fq func193 ?_;simp only[aP,am,aT,Nat.reduceAdd];refine ep (λp:{i:Nat // i<=l.length/\(l.take i).all Nd.ei=aa}=>vQ 3 l Z p.1) (λp=>l.length - p.1) ?_ ?_
 .refine a7.enter ⟨0,by simp,by simp⟩ ?_ bX.rfl bp.rfl;simp[vQ,aj,am]
 rintro⟨i,hi,ha⟩;simp only[vQ,aj,am,aF];refine dc ?_ ?_
 .intro az;have az:i<l.length:=by grind
  have wi:IntKind.i64.wrap ((i:Int)+1)=(i:Int)+1:=wrap_i64 (by omega) (by omega);have ku:l[i].ei=aa->(l.take (i+1)).all Nd.ei=true:=λhg=>by rw[As az,ha,hg];rfl
  have fj:l[i].ei=aq->l.all Nd.ei=false:=λhg=>y4 az hg
  have mj:=dQ az;simp only[am];refine ix (gH (bY az)) ?_;generalize l[i]=n at ku fj mj ⊢;simp only[pD,Int.reduceEq];refine cl (h n mj Z) ?_;cases hg:n.ei
  .simp only[am,cX,Int.reduceEq];refine aI ?_;simp[V.erase,fj hg]
  .simp only[am,cX,Int.reduceEq,wi];exact a7.nh ⟨i+1,az,ku hg⟩ (by simp;omega) (by simp[am]) (by simp[am]) bp.rfl rfl rfl
 intro az;have az:i=l.length:=by grind
 subst az;rw[du] at ha;simp only[am];refine aI ?_;simp[V.erase,ha]
theorem adL(l:List Nd)(Z:ab)(hb:l.length<=aJ)(hw:∀n∈l,n.ak.length<=aJ):aR 193 [.int .i64 2,.sl .no 5 (l.map Nd.enc)] Z (.bool (l.all Nd.kZ)):=by
 simp only[aJ] at hb;refine fq func193 ?_;simp only[aP,am,aT,Nat.reduceAdd];refine ep (λp:{i:Nat // i<=l.length/\(l.take i).all Nd.kZ=aa}=>vQ 2 l Z p.1) (λp=>l.length - p.1) ?_ ?_
 .refine a7.enter ⟨0,by simp,by simp⟩ ?_ bX.rfl bp.rfl;simp[vQ,aj,am]
 rintro⟨i,hi,ha⟩;simp only[vQ,aj,am,aF];refine dc ?_ ?_
 .intro az;have az:i<l.length:=by grind
  have wi:IntKind.i64.wrap ((i:Int)+1)=(i:Int)+1:=wrap_i64 (by omega) (by omega);have ku:l[i].kZ=aa->(l.take (i+1)).all Nd.kZ=true:=λhg=>by rw[As az,ha,hg];rfl
  have fj:l[i].kZ=aq->l.all Nd.kZ=false:=λhg=>y4 az hg
  have mj:=dQ az;simp only[am];refine ix (gH (bY az)) ?_;generalize l[i]=n at ku fj mj ⊢;simp only[ff,Int.reduceEq];have J5:=hw n mj
  repeat' (first
   | (refine gO (λh=>?_) (λh=>?_)<;>simp only[am,h,aF,cX,Nd.fl,Int.reduceEq])
   | (refine dc (λh=>?_) (λh=>?_)<;>simp only[am,h,wi])
   | (refine gS (λh=>?_) (λh=>?_)<;>simp only[ff,h,Nat.reduceAdd,Nat.reduceEqDiff,aF,Int.reduceEq,Int.reduceNe,wi])
   | (refine(yr n.an _).mono ?_;rintro v _ ⟨rfl,rfl⟩;simp only[am])
   | (refine(Rt n.ak _ J5).mono ?_;rintro v _ ⟨rfl,rfl⟩;simp only[am])
  )
  all_goals cases hg:n.kZ
  all_goals first
   | (exfalso;revert hg;simp_all [Nd.kZ];done)
   | (refine aN rfl (ab.a8 _) ⟨?_,rfl⟩;rw[fj hg];rfl)
   | exact a7.nh ⟨i+1,az,ku hg⟩ (by simp;omega) (by simp[am]) (by simp[am]) bp.rfl rfl rfl
 intro az;have az:i=l.length:=by grind
 subst az;rw[du] at ha;simp only[am];refine aI ?_;simp[V.erase,ha]
theorem adN(l:List Nd)(Z:ab)(hb:l.length<=aJ)(h:∀n∈l,∀m∈n.ae,∀Z,aR 131 [.agg m.enc] Z (.bool m.ei)):aR 193 [.int .i64 4,.sl .no 5 (l.map Nd.enc)] Z (.bool (l.all Nd.jr)):=by
 simp only[aJ] at hb;refine fq func193 ?_;simp only[aP,am,aT,Nat.reduceAdd];refine ep (λp:{i:Nat // i<=l.length/\(l.take i).all Nd.jr=aa}=>vQ 4 l Z p.1) (λp=>l.length - p.1) ?_ ?_
 .refine a7.enter ⟨0,by simp,by simp⟩ ?_ bX.rfl bp.rfl;simp[vQ,aj,am]
 rintro⟨i,hi,ha⟩;simp only[vQ,aj,am,aF];refine dc ?_ ?_
 .intro az;have az:i<l.length:=by grind
  have wi:IntKind.i64.wrap ((i:Int)+1)=(i:Int)+1:=wrap_i64 (by omega) (by omega);have ku:l[i].jr=aa->(l.take (i+1)).all Nd.jr=true:=λhg=>by rw[As az,ha,hg];rfl
  have fj:l[i].jr=aq->l.all Nd.jr=false:=λhg=>y4 az hg
  have mj:=dQ az;simp only[am];refine ix (gH (bY az)) ?_;generalize l[i]=n at ku fj mj ⊢;simp only[ff,Int.reduceEq];have hm:=h n mj;cases fT:n.ae with
  | nil =>
   repeat' (first
    | (refine gO (λh=>?_) (λh=>?_)<;>simp only[am,h,aF,cX,Nd.fl,Int.reduceEq,fT,fp,cZ,pH])
    | (refine dc (λh=>?_) (λh=>?_)<;>simp only[ff,h,Nat.reduceAdd,Nat.reduceEqDiff,aF,Int.reduceEq,Int.reduceNe,wi,fT,fp,cZ,pH,show decide ((0:Int)=1)=aq from rfl])
    | (refine gS (λh=>?_) (λh=>?_)<;>simp only[ff,h,Nat.reduceAdd,Nat.reduceEqDiff,aF,Int.reduceEq,Int.reduceNe,wi,fT,fp,cZ,pH,show decide ((0:Int)=1)=aq from rfl])
    | (refine(yr n.an _).mono ?_;rintro v _ ⟨rfl,rfl⟩;simp only[am])
   )
   all_goals cases hg:n.jr
   all_goals first
    | (exfalso;revert hg;simp_all [Nd.jr,se];done)
    | (refine aN rfl (ab.a8 _) ⟨?_,rfl⟩;rw[fj hg];rfl)
  | cons m ms =>
   have hl:=hm m (by rw[fT];simp)
   repeat' (first
    | (refine gO (λh=>?_) (λh=>?_)<;>simp only[am,h,aF,Nd.fl,fT])
    | (refine dc (λh=>?_) (λh=>?_)<;>simp only[am,h,wi])
    | (refine gS (λh=>?_) (λh=>?_)<;>simp only[ff,h,Nat.reduceAdd,Nat.reduceEqDiff,aF,Int.reduceEq,Int.reduceNe,wi,fT])
    | (refine(yr n.an _).mono ?_;rintro v _ ⟨rfl,rfl⟩;simp only[am])
    | (refine lz (c:=m.enc) (by simp) ?_;simp only[am,Nd.al,Nd.fl])
    | (refine(hl _).mono ?_;rintro v _ ⟨rfl,rfl⟩;simp only[am])
   )
   all_goals cases hg:n.jr
   all_goals first
    | (exfalso;revert hg;simp_all [Nd.jr,se,aey];done)
    | (refine aN rfl (ab.a8 _) ⟨?_,rfl⟩;rw[fj hg];rfl)
    | exact a7.nh ⟨i+1,az,ku hg⟩ (by simp;omega) (by simp[am]) (by simp[am]) bp.rfl rfl rfl
 intro az;have az:i=l.length:=by grind
 subst az;rw[du] at ha;simp only[am];refine aI ?_;simp[V.erase,ha]
def s1:List UInt8:=[43,40,120,44,35,123,97,44,98,125,41]
def s2:List UInt8:=[43,40,41]
def s3:List UInt8:=[91,102,61,120,44,103,61,35,104,105,124,114,93]
theorem U0:∀(k:Nat) (n:Nd) (Z:ab),n.wt<=k->n.wt<=aJ->aR 195 [.agg n.enc] Z (.bool n.gg):=by
 intro k;induction k with
 | zero=>intro n Z h _;cases n;simp only[Nd.wt] at h;omega
 | succ k sy =>
  intro n Z hk hw;have hn:=v9 n;have jL:n.wt<2^62:=by simp only[aJ] at hw;omega
  have dd:∀Z,aR 193 [.int .i64 1,.sl .no 5 (n.ae.map Nd.enc)] Z (.bool (n.ae.all Nd.gg)):=λZ =>
   TK n.ae Z (by omega) λm hm Z=>sy m Z (by have:=iI hm;omega) (by have:=iI hm;omega)
  have OX:∀Z,aR 193 [.int .i64 2,.sl .no 5 (n.ae.map Nd.enc)] Z (.bool (n.ae.all Nd.kZ)):=λZ =>
   adL n.ae Z (by omega) λm hm=>by have:=iI hm;have:=v9 m;omega
  have hr:=λZ=>yr n.an Z
  have OY:=λZ=>Rt n.ak Z (by omega)
  rw[Nd.AR];refine fq func195 ?_;simp only[aP,rV,Nat.reduceAdd]
  by_cases k2:n.kind=2
  .simp only[am,Nd.fl,aG k2]
   repeat' (first
    | (refine gO (λh=>?_) (λh=>?_)<;>simp only[am,h,aF,Nd.fl,wrap_i64 (x:=(n.ak.length:Int)+n.ae.length) (by omega) (by omega)])
    | (refine dc (λh=>?_) (λh=>?_)<;>simp only[ff,h,Nat.reduceAdd,Nat.reduceEqDiff,aF,wrap_i64 (x:=(n.ak.length:Int)+n.ae.length) (by omega) (by omega)])
    | (refine gS (λh=>?_) (λh=>?_)<;>simp only[ff,h,Nat.reduceAdd,Nat.reduceEqDiff,aF,wrap_i64 (x:=(n.ak.length:Int)+n.ae.length) (by omega) (by omega)])
    | (refine(hr _).mono ?_;rintro v _ ⟨rfl,rfl⟩;simp only[am])
   )
   all_goals refine aI ?_
   all_goals simp_all [V.erase,Nd.lA]
   all_goals (try omega)
  simp only[am,aD k2]
  by_cases k3:n.kind=3
  .simp only[am,Nd.fl,aG k3]
   repeat' (first
    | (refine gO (λh=>?_) (λh=>?_)<;>simp only[am,h,aF,Nd.fl])
    | (refine dc (λh=>?_) (λh=>?_)<;>simp only[ff,h,Nat.reduceAdd,Nat.reduceEqDiff,aF])
    | (refine gS (λh=>?_) (λh=>?_)<;>simp only[ff,h,Nat.reduceAdd,Nat.reduceEqDiff,aF])
    | (refine(OY _).mono ?_;rintro v _ ⟨rfl,rfl⟩;simp only[am])
   )
   all_goals refine aI ?_
   all_goals simp_all [V.erase]
   all_goals (try omega)
  simp only[am,aD k3]
  by_cases k4:n.kind=4
  .simp only[am,Nd.fl,aG k4]
   repeat' (first
    | (refine gO (λh=>?_) (λh=>?_)<;>simp only[am,h,aF,Nd.fl])
    | (refine dc (λh=>?_) (λh=>?_)<;>simp only[ff,h,Nat.reduceAdd,Nat.reduceEqDiff,aF])
    | (refine gS (λh=>?_) (λh=>?_)<;>simp only[ff,h,Nat.reduceAdd,Nat.reduceEqDiff,aF])
    | (refine(dd _).mono ?_;rintro v _ ⟨rfl,rfl⟩;simp only[am])
   )
   all_goals refine aI ?_
   all_goals simp_all [V.erase,Nd.kM]
   all_goals (try omega)
  simp only[am,aD k4]
  by_cases k5:n.kind=5
  .simp only[am,Nd.fl,aG k5]
   repeat' (first
    | (refine gO (λh=>?_) (λh=>?_)<;>simp only[am,h,aF,Nd.fl])
    | (refine dc (λh=>?_) (λh=>?_)<;>simp only[ff,h,Nat.reduceAdd,Nat.reduceEqDiff,aF])
    | (refine gS (λh=>?_) (λh=>?_)<;>simp only[ff,h,Nat.reduceAdd,Nat.reduceEqDiff,aF])
    | (refine(OX _).mono ?_;rintro v _ ⟨rfl,rfl⟩;simp only[am])
   )
   all_goals refine aI ?_
   all_goals simp_all [V.erase,Nd.kM]
   all_goals (try omega)
  simp only[am,aD k5];refine aI ?_;simp[V.erase,k2,k3,k4,k5]
theorem Hj:∀(k:Nat) (n:Nd) (Z:ab),n.wt<=k->n.wt<=aJ->aR 131 [.agg n.enc] Z (.bool n.ei):=by
 intro k;induction k with
 | zero=>intro n Z h _;cases n;simp only[Nd.wt] at h;omega
 | succ k sy =>
  intro n Z hk hw;have hn:=v9 n;have jL:n.wt<2^62:=by simp only[aJ] at hw;omega
  have dd:∀Z,aR 193 [.int .i64 3,.sl .no 5 (n.ae.map Nd.enc)] Z (.bool (n.ae.all Nd.ei)):=λZ =>
   adM n.ae Z (by omega) λm hm Z=>sy m Z (by have:=iI hm;omega) (by have:=iI hm;omega)
  have alB:∀Z,aR 193 [.int .i64 1,.sl .no 5 (n.ae.map Nd.enc)] Z (.bool (n.ae.all Nd.gg)):=λZ =>
   TK n.ae Z (by omega) λm hm Z=>U0 _ m Z (bU _) (by have:=iI hm;omega)
  have hr:=λZ=>yr n.an Z
  rw[Nd.uI];refine fq func131 ?_;simp only[aP,rV,Nat.reduceAdd]
  by_cases k1:n.kind=1
  .simp only[am,Nd.fl,aG k1]
   repeat' (first
    | (refine gO (λh=>?_) (λh=>?_)<;>simp only[am,h,aF,Nd.fl,wrap_i64 (x:=(n.ak.length:Int)+n.ae.length) (by omega) (by omega)])
    | (refine dc (λh=>?_) (λh=>?_)<;>simp only[ff,h,Nat.reduceAdd,Nat.reduceEqDiff,aF,wrap_i64 (x:=(n.ak.length:Int)+n.ae.length) (by omega) (by omega)])
    | (refine gS (λh=>?_) (λh=>?_)<;>simp only[ff,h,Nat.reduceAdd,Nat.reduceEqDiff,aF,wrap_i64 (x:=(n.ak.length:Int)+n.ae.length) (by omega) (by omega)])
    | (refine(hr _).mono ?_;rintro v _ ⟨rfl,rfl⟩;simp only[am])
   )
   all_goals refine aI ?_
   all_goals simp_all [V.erase,Nd.lA]
   all_goals (try omega)
  simp only[am,aD k1]
  by_cases k7:n.kind=7
  .have hq:(decide ((n.ae.length:Int)=1)&&se Nd.gg n.ae)=(decide ((n.ae.length:Int)=1)&&n.ae.all Nd.gg):=by
    by_cases h1:(n.ae.length:Int)=1
    .rw[alJ h1]
    .grind
   rw[aB k1,aL k7,LV,hq];simp only[am,Nd.fl,aG k7]
   repeat' (first
    | (refine gO (λh=>?_) (λh=>?_)<;>simp only[am,h,aF,Nd.fl])
    | (refine dc (λh=>?_) (λh=>?_)<;>simp only[ff,h,Nat.reduceAdd,Nat.reduceEqDiff,aF])
    | (refine gS (λh=>?_) (λh=>?_)<;>simp only[ff,h,Nat.reduceAdd,Nat.reduceEqDiff,aF])
    | (refine(alB _).mono ?_;rintro v _ ⟨rfl,rfl⟩;simp only[am])
   )
   all_goals refine aI ?_
   all_goals simp_all [V.erase,Nd.kM]
   all_goals (try omega)
  simp only[am,aD k7]
  by_cases k8:n.kind=8
  case' pos =>
   simp only[am,Nd.fl,aG k8]
  case' neg =>
   simp only[am,aD k8]
   by_cases k9:n.kind=9
   case' pos =>
    simp only[am,Nd.fl,aG k9]
   case' neg =>
    simp only[am,aD k9];refine aI ?_;simp[V.erase,k1,k7,k8,k9]
  all_goals
   repeat' (first
    | (refine gO (λh=>?_) (λh=>?_)<;>simp only[am,h,aF,Nd.fl])
    | (refine dc (λh=>?_) (λh=>?_)<;>simp only[ff,h,Nat.reduceAdd,Nat.reduceEqDiff,aF])
    | (refine gS (λh=>?_) (λh=>?_)<;>simp only[ff,h,Nat.reduceAdd,Nat.reduceEqDiff,aF])
    | (refine(dd _).mono ?_;rintro v _ ⟨rfl,rfl⟩;simp only[am])
   )
   all_goals refine aI ?_
   all_goals simp_all [V.erase,Nd.kM]
   all_goals (try omega)
theorem aaI(n:Nd)(Z:ab)(hw:n.wt<=aJ):aR 132 [.agg n.enc] Z (.bool n.jl):=by
 have hn:=v9 n;have dd:∀Z,aR 193 [.int .i64 4,.sl .no 5 (n.ae.map Nd.enc)] Z (.bool (n.ae.all Nd.jr)):=λZ =>
  adN n.ae Z (by omega) λm hm p hp Z=>Hj _ p Z (bU _) (by have:=iI hm;have:=iI hp;omega)
 have OY:=λZ=>Rt n.ak Z (by omega)
 refine fq func132 ?_;simp only[aP,rV,Nat.reduceAdd]
 by_cases rG:n.kind=10
 .simp only[am,Nd.fl,aG rG]
  repeat' (first
   | (refine gO (λh=>?_) (λh=>?_)<;>simp only[am,h,aF,Nd.fl])
   | (refine dc (λh=>?_) (λh=>?_)<;>simp only[ff,h,Nat.reduceAdd,Nat.reduceEqDiff,aF])
   | (refine gS (λh=>?_) (λh=>?_)<;>simp only[ff,h,Nat.reduceAdd,Nat.reduceEqDiff,aF])
   | (refine(OY _).mono ?_;rintro v _ ⟨rfl,rfl⟩;simp only[am])
   | (refine(dd _).mono ?_;rintro v _ ⟨rfl,rfl⟩;simp only[am])
  )
  all_goals refine aI ?_
  all_goals simp_all [V.erase,Nd.jl]
  omega
 .simp only[am,Nd.fl,aD rG]
  repeat' (first
   | (refine gO (λh=>?_) (λh=>?_)<;>simp only[am,h,Nd.al])
   | (refine dc (λh=>?_) (λh=>?_)<;>simp only[ff,h,Nat.reduceAdd,Nat.reduceEqDiff,aF])
   | (refine gS (λh=>?_) (λh=>?_)<;>simp only[ff,h,Nat.reduceAdd,Nat.reduceEqDiff,aF])
   | (refine(Hj _ n _ (bU _) hw).mono ?_;rintro v _ ⟨rfl,rfl⟩;simp only[am])
  )
  all_goals refine aI ?_
  all_goals simp_all [V.erase,Nd.jl]
  all_goals (try omega)
def ajB:fm prog 134 (sq [rg 0 [ox 2 2 0,ox 3 5 1,oR 4 AW,oZ 5 [0,0]],rg 0 [oR 6 AW],rg 10 [ol 5 3,n1 5,o1 7],sq [rg 12 [ol 2 2,oC 78 [12],nn,gB,ol 5 3,oC 195 [16],nn,gZ],ci 19 (sq [dg 20 [ol 8 6,of 1 3,mM [1],no,oG [0,0] [(0,1,.c (.int .i64 4)),(1,1,.s 22)],os 8 4 20,o2 2 5],.ret])],sq [rg 24 [fo 0 2],ci 25 (sq [sq [rg 26 [fo 0 3,nB .neq 4,gB,fo 4 3,nL,fo 1 2,nL,nb .neq 32,gZ],ci 37 (sq [dg 38 [ol 8 6,of 1 3,mM [1],no,oG [0,0] [(0,1,.c (.int .i64 4)),(1,1,.s 40)],os 8 4 38,o2 2 5],.ret])],rg 42 [fo 4 3,o1 7]])],sq [rg 8 [oi 0],bl 0 (sq [sq [rg 44 [om 8,om 7,nL,nb .lss 44],cx 47 0],.block 1 (sq [dA 50 [9] [fo 1 2,om 8,nA 67 51,nl 67,om 7,om 8,nA 5 55,nl 5,oC 196 [54,58],oN,oX 9 3 59],sq [rg 60 [fo 1 9],ci 61 (sq [dg 62 [oY AW [],of 2 9,mM [1],no,oG [0,0] [(0,1,.c (.int .i64 4)),(1,1,.s 64)],os 8 4 62,o2 2 5],.ret])],rg 66 [om 8,fo 0 9,oP 8 1 6 66,os 1 69 68]]),rg 48 [ic 8]])],rg 70 [ol 8 6,oW [0,0] [],os 8 4 70,o2 2 5],.ret]) [.cell 4 aa 8,.cell 5 aa 2] 72:=fU func134
def aaU(l:List (List UInt8))(ws:List aC)(Z:ab)(hl:l.length<=100000)(hw:ws.length<=100000) :
 aR 242 [.sl .no 1 (cu l),.sl .no 2 (ws.map aC.enc)] Z (.agg (zi (gU l 0#64 ws))):=by
 refine fq func242 ?_;simp only[aP,am,aT,Nat.reduceAdd,tR];refine ch (ws.length) (λi (x:List Int × Tk × ab)=>⟨[.sl .no 1 (cu l),.sl .no 2 (ws.map aC.enc),.any,.any,.ptr (.au 0) 0,.sl x.2.1 1 (cC x.1),.int .i64 (i:Nat)]++aj 29 .any,[[.int .u64 ((0#64:bz).toNat:Nat),.bool aq,.int .i64 0]],x.2.2⟩) (λi x=>(gU l 0#64 ws=gU l (gq x.1) (ws.drop i)/\Gr Z x.2.2 x.2.1 x.1.length/\x.1.length=i)) λF hF JF aZ=>⟨?_,?_,?_⟩
 .refine en aZ (([],.aY,Z)) (⟨rfl,Gr.nil,rfl⟩) ?_ ?_ ?_
  all_goals simp[hF,aj,am,ba,cC]
 .rintro i ⟨L,tk,bx⟩ hi ⟨hJ,hG,hL⟩;rw[mb hi] at hJ;simp only at hJ hG hL;simp only[hF,aj,am,cf hi,aF];refine ix (o5 (bY hi)) ?_;simp only[am,aC.enc];refine(zZ l ws[i].an bx hl).mono ?_;rintro v bx ⟨rfl,rfl⟩;simp only[am,yn];cases hf:dL l ws[i].an with
  | none =>
   rw[Z5 hf] at hJ;simp only[am,wb];refine ix (o5 (bY hi)) ?_;simp only[am,Nat.reduceAdd,aK,aC.enc];exact aN rfl hG.sub ⟨by rw[hJ];rfl,rfl⟩
  | some k =>
   rw[Z6 hf] at hJ;simp only[am,yV,bW];refine Gr.app (by simpa [cC] using hG) (by simp[cC,aJ];omega) λgz σ' kr _ _=>?_
   have e:gq (L++[(k:Int)])=la (gq L) (k:Nat):=by simp only[gq,B8,AA,Td]
   simp only[am,aK,bt hi];refine nx aZ ((L++[(k:Int)],gz,σ')) hi (⟨by rw[e];exact hJ,by simpa [cC] using kr,by simp[hL]⟩) ?_ ?_ ?_
   all_goals simp[hF,aj,am,ba,G_]
 .rintro⟨L,tk,bx⟩ ⟨hJ,hG,hL⟩;rw[Az] at hJ;simp only at hJ hG hL;simp only[hF,aj,am,aK,ck,aK,aF];refine cy.df (as' := [.sl .no 1 (cC L)]) ?_ ⟨dv.no,trivial⟩ bp.rfl;refine(BI _ bx (by omega)).mono ?_;rintro v bx ⟨rfl,rfl⟩;simp only[am,Nat.reduceAdd];exact aN rfl hG.sub ⟨by rw[hJ];rfl,rfl⟩
def atB(f:bh)(n:Nd)(Z:ab)(hl:f.ak.length<=100000)(hk:n.ae.length<=100000)(hw:∀k∈n.ae,k.ak.length<=100000) :
 aR 243 [.agg f.enc,.agg n.enc] Z (.agg (zi (sK f 0#64 n.ae))):=by
 refine fq func243 ?_;simp only[aP,DN,Nat.reduceAdd];refine ch (n.ae.length) (λi (x:bz)=>⟨[.any,.any,.ptr (.au 0) 0,.ptr (.au 1) 0,.ptr (.au 2) 0,.int .u64 (x.toNat:Nat),.int .i64 (i:Nat)]++aj 43 .any,[f.enc,n.enc,[.int .u64 ((0#64:bz).toNat:Nat),.bool aq,.int .i64 0]],Z⟩) (λi x=>(sK f 0#64 n.ae=sK f x (n.ae.drop i))) λF hF JF aZ=>⟨?_,?_,?_⟩
 .exact en aZ (0#64) (rfl)
 .rintro i x hi hJ;rw[mb hi] at hJ;simp only[hF,aj,am,cf hi,Nd.fl,aF];refine ix (gH (bY hi)) ?_;simp only[DN,Nat.reduceAdd];refine cl (zZ f.ak n.ae[i].an Z hl) ?_;simp only[am,yn];cases hf:dL f.ak n.ae[i].an with
  | none =>
   simp only[sK,hf] at hJ;simp only[am,Nat.reduceAdd,aK,Nd.fl,wb];exact aN rfl (ab.a8 _) ⟨by rw[hJ];rfl,rfl⟩
  | some k =>
   simp only[sK,hf] at hJ;simp only[am,bh.al,Nd.fl,yV,bW];refine cl (aaU f.ak n.ae[i].ak Z hl (hw _ (dQ hi))) ?_;cases hp:(gU f.ak 0#64 n.ae[i].ak).2 with
   | some p =>
    simp only[hp] at hJ;simp only[am,Nat.reduceAdd,aK,zi,Z4 hp,yW,DZ];exact aN rfl (ab.a8 _) ⟨by rw[hJ];rfl,rfl⟩
   | none =>
    simp only[hp] at hJ;simp only[am,Nat.reduceAdd,Rl.al,bh.al,zi,hp,xy];refine cl (asx f.rel k _ Z) ?_;simp only[am,aK,DH,bt hi];refine c7 ((x|||uM f.rel k (gU f.ak 0#64 n.ae[i].ak).1)) hi ?_ ?_ ?_ ?_ ?_ ?_
    .exact fF (aZ _ _) (hJ)
    all_goals simp[hF,aj,am,ba,bE,cn,V.lo,bh.bR,Nd.bR]
 .rintro x hJ;rw[Az] at hJ;simp only[hF,aj,am,aK,ck,Nat.reduceAdd,aK,Nd.fl,aF];exact aN rfl (ab.a8 _) ⟨by rw[hJ];rfl,rfl⟩
def at7(f:bh)(n:Nd)(Z:ab)(hl:f.ak.length<=100000)(hk:n.ak.length<=100000/\n.ae.length<=100000)(hw:∀k∈n.ae,k.ak.length<=100000) :
 aR 196 [.agg f.enc,.agg n.enc] Z (.agg (zi (mU f n))):=by
 refine fq func196 ?_;simp only[aP,DN,Nat.reduceAdd];have fin:∀(g:bz × Option Int) (t:List V) (l:List (List V)),mU f n=g->jS (λv σ' => v=V.agg (zi (mU f n))/\σ' = Z) ⟨t,l,Z⟩ (.agg [.int .u64 (g.1.toNat:Nat),.bool g.2.isSome,.int .i64 (g.2.getD 0)]):=λg t l h=>by
  rw[h];exact aN rfl (ab.a8 _) ⟨rfl,rfl⟩
 by_cases h2:f.kind=2
 .have ek:uH f=3:=by rw[uH,aL h2]
  simp only[am,Nd.fl,aG h2]
  by_cases hq:n.kind=3
  .simp only[am,bh.al,Nd.fl,aG hq];refine cl (aaU f.ak n.ak Z hl hk.1) ?_;simp only[am,Nat.reduceAdd,zi];exact fin _ _ _ (by rw[mU,ek,aL hq,aL h2])
  .simp only[am,Nat.reduceAdd,aD hq];exact fin (0#64,U n.pos) _ _ (by rw[mU,ek,aB hq])
 .simp only[am,bh.al,aD h2]
  by_cases h3:f.kind=3
  .have ek:uH f=5:=by rw[uH,aB h2,aL h3]
   simp only[am,Nd.fl,aG h3]
   by_cases hq:n.kind=5
   .simp only[am,bh.al,Nd.al,aG hq];refine cl (atB f n Z hl hk.2 hw) ?_;simp only[am,Nat.reduceAdd,zi];exact fin _ _ _ (by rw[mU,ek,aL hq,aB h2,aL h3])
   .simp only[am,Nat.reduceAdd,aD hq];exact fin (0#64,U n.pos) _ _ (by rw[mU,ek,aB hq])
  .have ek:uH f=2:=by rw[uH,aB h2,aB h3]
   simp only[am,bh.al,Nd.fl,aD h3];refine cl (zZ f.ak n.an Z hl) ?_;simp only[am,Nd.fl]
   by_cases hq:n.kind=2
   .have ew:mU f n=px f n:=by rw[mU,ek,aL hq,aB h2,aB h3]
    simp only[am,aG hq,yn];cases hf:dL f.ak n.an with
    | none =>
     simp only[am,Nat.reduceAdd,wb];exact fin (0#64,U n.pos) _ _ (by rw[ew];simp only[px,hf])
    | some k =>
     simp only[am,bh.al,yV,bW]
     by_cases h4:f.kind=4
     .simp only[am,Rl.al,bh.al,aG h4];refine cl (at5 f.rel k Z) ?_;simp only[am,Nat.reduceAdd];exact fin (sU f.rel k,ah) _ _ (by rw[ew];simp only[px,hf,aL h4])
     .simp only[am,bh.al,gk,aD h4];refine cl (asv f.ak.length k Z) ?_;simp only[am,Nat.reduceAdd,DG];exact fin ((uN (f.ak.length:Nat) (k:Nat)).1,ah) _ _ (by rw[ew];simp only[px,hf,aB h4])
   .simp only[am,Nat.reduceAdd,aD hq];exact fin (0#64,U n.pos) _ _ (by rw[mU,ek,aB hq])
def axE:=ag @am <| ag @bA.al <| ag @br.al @Nd.fl
def Rs(s:bA)(n:Nd)(Z:ab)(cw:s.ok)(hn:∀k∈jb s n,k.ak.length<=100000/\k.ae.length<=100000/\∀m∈k.ae,m.ak.length<=100000)(O':n.wt<=aJ) :
 aR 134 [.agg s.enc,.agg n.enc] Z (.bw [.agg (gN s n).1.enc,.agg (pf (gN s n).2)]):=by
 refine ajB.fK ?_;simp only[aP,ac5,Nat.reduceAdd];refine cl (atD s Z cw) ?_;have done:∀(e:br × Option Int) (t:List V) (l:List (List V)),e=gN s n->jS (λv σ' => v=V.bw [.agg (gN s n).1.enc,.agg (pf (gN s n).2)]/\σ' = Z) ⟨t,l,Z⟩ (.bw [.agg e.1.enc,.agg (pf e.2)]):=λe t l he=>by
  subst he;exact aN (by simp[V.cS,bK,br.dT,pf]) (ab.a8 _) ⟨by simp[V.erase,a9,br.dW,pf],rfl⟩
 cases hr:lC s with
 | false =>
  simp only[am,Nat.reduceAdd,br.al,Nd.fl];exact done (.zero,U n.pos) _ _ (Eg (by rw[hr];simp)).symm
 | true =>
  simp only[am,Nd.al];refine cl (U0 _ n Z (bU _) O') ?_;cases hc:n.gg with
  | false =>
   simp only[am,Nat.reduceAdd,br.al,Nd.fl];exact done (.zero,U n.pos) _ _ (Eg (by rw[hc];simp)).symm
  | true =>
   obtain⟨zw,hl8,az⟩:=R3 hr;simp only[am,bA.al];have cg:s.tuple=aa->(n.kind≠4\/n.ae.length≠s.bI.length)->(.zero,U n.pos)=gN s n:=λh1 h2=>(Eg (by
    have:mN s n=false:=by
     rcases h2 with h2 | h2<;>simp[mN,h1,h2]
    rw[this];rfl)).symm
   cases ht:s.tuple
   case' true =>
    simp only[am,Nd.fl]
    by_cases h4:n.kind=4
    case' neg =>
     simp only[am,Nat.reduceAdd,br.al,Nd.fl,aD h4];exact done (.zero,U n.pos) _ _ (cg ht (.inl h4))
    by_cases mi:n.ae.length=s.bI.length
    case' neg =>
     simp only[axE,Nat.reduceAdd,aF,aG h4,aD (show ¬(n.ae.length:Int)=s.bI.length by omega)];exact done (.zero,U n.pos) _ _ (cg ht (.inr mi))
    have hp:mN s n=true:=by simp[mN,ht,h4,mi]
    simp only[am,aF,bA.al,Nd.fl,aF,aG h4,aG (show(n.ae.length:Int)=s.bI.length by omega)]
   case' false =>
    have hp:mN s n=true:=by simp[mN,ht]
    simp only[am]
   all_goals
    have tg:=Vj hp hr hc;have pk:=ZW hp hr;refine ch (s.bI.length) (λi (x:Unit)=>⟨[.any,.any,.ptr (.au 0) 0,.any,.ptr (.au 2) 0,.ptr (.au 3) 0,.ptr (.au 4) 0,.sl .no 5 ((jb s n).map Nd.enc),.int .i64 (i:Nat)]++aj 63 .any,[s.enc,n.enc,br.zero.enc,[.int .i64 0,.int .i64 0],(br.of λj=>if j<i then(iL s (jb s n) j).1 else 0#64).enc],Z⟩) (λi x=>(∀k,k<i->(iL s (jb s n) k).2=ah)) λF hF JF aZ=>⟨?_,?_,?_⟩
    .refine en aZ (()) (by intro k h;omega) ?_ ?_ ?_
     all_goals simp[hF,aj,am,ba,br.ac8,jb,ht]
    .rintro i x hi hJ;have CJ:i<(jb s n).length:=by omega
     have h8:i<8:=by omega
     have hw:iL s (jb s n) i=mU s.bI[i] (jb s n)[i]:=by rw[iL,mB hi,mB CJ]
     have zC:=hn _ (dQ CJ);simp only[hF,aj,am,cf hi,Nat.reduceAdd,bu,Nat.reduceLT,bA.al,aF,pk];refine ix (Jg hi) ?_;simp only[am,bh.al];refine ix (gH (bY CJ)) ?_;simp only[am,bh.al,Nd.al];refine bn.intro (at7 s.bI[i] (jb s n)[i] Z (cw.2 _ (dQ hi)) ⟨zC.1,zC.2.1⟩ zC.2.2) ?_;rw[<-hw];simp only[am,Nat.reduceAdd,zi];cases hb:(iL s (jb s n) i).2 with
     | some p =>
      simp only[am,Nat.reduceAdd,aK,br.al,yW,DZ];exact done (.zero,U p) _ _ (by rw[tg];exact(aif hi hJ hb).symm)
     | none =>
      simp only[am,cK,xy];refine jX ?_;simp only[Av,br.yF h8,br.yH h8,aik,bt hi];refine c7 (()) hi ?_ ?_ ?_ ?_ ?_ ?_
      .exact fF (aZ _ _) (kn hJ hb)
      all_goals simp[hF,aj,am,ba,bE,cn,V.lo,bA.bR,Nd.bR,br.bR]
    .rintro x hJ;simp only[hF,aj,am,aK,ck,Nat.reduceAdd,aK,br.al,aF,pk];exact done (_,ah) _ _ (by rw[tg];exact(aii hJ).symm)
def ajH:fm prog 183 (sq [rg 7 [ox 3 2 0,ox 5 5 2,oR 6 wM,oz 2],sq [rg 10 [fo 0 5,nB .eql 1],cr 12 13 [ol 2 3,om 1,fo 2 5,oC 231 [13,14,16],oe 17 0,oe 17 1,os 10 6 18,o1 7]],dA 21 [8,9] [fo 0 3,om 1,nA 3 22,nf 1,nl 2,fo 4 5,nI 5 0,nl 5,oC 184 [26,30],o1 20,oe 20 0,oe 20 1,oN,oN,oX 8 8 32,oX 9 2 33],dg 34 [ol 8 8,oY wM [(0,1,.c (.int .i64 2)),(2,8,.s 34)],of 0 9,mM [1],no,nB .eql 0,os 10 6 35,o1 7],.ret]) [.cell 6 aa 10,.tmp 7] 39:=fU func183
def ajQ:fm prog 231 (sq [rg 7 [ox 3 2 0,oR 6 wM,oz 2],rg 11 [ol 2 3,om 2,oC 76 [11,12],o1 10,oe 10 0,oe 10 1,ot 8 14,o1 9],sq [rg 16 [om 9,nB .lss 0,gB,fo 1 3,om 9,nA 3 20,nF 1,nB .neq 1,gZ,gB,fo 1 3,om 9,nA 3 29,nF 2,om 1,nb .neq 33,gZ],cr 36 37 [oY wM [],o2 10 6,oU 7 2]],rg 38 [om 9,oY wM [(0,1,.c (.int .i64 1)),(1,1,.s 38)],o2 10 6,oV 7 (.bool aa)],.ret]) [.cell 6 aa 10,.tmp 7] 40:=fU func231
variable{j:Nat}
def tA{l:List eh}(h:j<l.length):(l.map eh.enc)[((j:Nat):Int).toNat]?=U l[j].enc:=by simp[h]
def xn{l:List dR}(h:j<l.length):(l.map dR.enc)[((j:Nat):Int).toNat]?=U l[j].enc:=by simp[h]
def yu(s:aH)(t:List UInt8)(Z:ab)(h1:s.bc.length<=100000)(h2:s.vars.length<=100000) :
 aR 76 [.agg s.enc,.aQ t] Z (.bw [.int .i64 (bW (fD s.bc t)),.int .i64 (bW (jt s.vars t))]):=by
 refine fq func76 ?_;simp only[aP,am,aT,Nat.reduceAdd,aH.al,aF];rw[fD,jt];generalize hpL:E9 s.bc t=pL;generalize hpV:E_ s.vars t=pV;have eL:∀i (hi:i<s.bc.length),pL i=decide (s.bc[i].name=t):=λi hi=>by rw[<-hpL];simp only[E9,bY hi]
 have eV:∀i (hi:i<s.vars.length),pV i=decide (s.vars[i].name=t):=λi hi=>by rw[<-hpV];simp only[E_,bY hi]
 refine ch (s.bc.length) (λi (x:Unit)=>⟨[.any,.aQ t,.ptr (.au 0) 0,.any,.any,.any,.int .i64 (bW ((bH i).find? pL)),.int .i64 (-1),.any,.any,.any,.sl .no 3 (s.bc.map eh.enc),.int .i64 (s.bc.length:Nat),.int .i64 (i:Nat)]++aj 38 .any,[s.enc],Z⟩) (λi x=>(True)) λF hF JF aZ=>⟨?_,?_,?_⟩
 .refine en aZ (()) (trivial) ?_ ?_ ?_
  all_goals simp[hF,aj,am,ba,bW]
 .rintro i x hi -;simp only[hF,aj,am,cf hi,yn];cases hf:(bH i).find? pL with
  | some k =>
   simp only[am,aK,yV,bt hi];refine nx aZ (()) hi (trivial) ?_ ?_ ?_
   all_goals simp[hF,aj,am,ba,il,DV,hf]
  | none =>
   simp only[am,aH.al,wb];refine ix (tA hi) ?_;simp only[am,aH.al];rw[<-eL i hi];cases hb:pL i with
   | false =>
    simp only[am,aK,bt hi];refine nx aZ (()) hi (trivial) ?_ ?_ ?_
    all_goals simp[hF,aj,am,ba,il,DV,hf,hb]
   | true =>
    simp only[am,aK,bt hi];refine nx aZ (()) hi (trivial) ?_ ?_ ?_
    all_goals simp[hF,aj,am,ba,il,DV,hf,hb,bW]
 .rintro x -;simp only[hF,aj,am,aK,ck,aK,aH.al,aF];clear hF aZ F JF;refine ch (s.vars.length) (λi (x:Unit)=>⟨[.any,.aQ t,.ptr (.au 0) 0,.any,.any,.any,.int .i64 (bW ((bH s.bc.length).find? pL)),.int .i64 (bW ((bH i).find? pV)),.any,.any,.any,.any,.any,.any,.any,.any,.any,.any,.any,.any,.any,.any,.any,.any,.any,.any,.any,.any,.any,.any,.any,.sl .no 3 (s.vars.map dR.enc),.int .i64 (s.vars.length:Nat),.int .i64 (i:Nat)]++aj 18 .any,[s.enc],Z⟩) (λi x=>(True)) λF hF JF aZ=>⟨?_,?_,?_⟩
  .refine en aZ (()) (trivial) ?_ ?_ ?_
   all_goals simp[hF,aj,am,ba,bW]
  .rintro i x hi -;simp only[hF,aj,am,cf hi,yn];cases hf:(bH i).find? pV with
   | some k =>
    simp only[am,aK,yV,bt hi];refine nx aZ (()) hi (trivial) ?_ ?_ ?_
    all_goals simp[hF,aj,am,ba,il,DV,hf]
   | none =>
    simp only[am,aH.al,wb];refine ix (xn hi) ?_;simp only[am,aH.al];rw[<-eV i hi];cases hb:pV i with
    | false =>
     simp only[am,aK,bt hi];refine nx aZ (()) hi (trivial) ?_ ?_ ?_
     all_goals simp[hF,aj,am,ba,il,DV,hf,hb]
    | true =>
     simp only[am,aK,bt hi];refine nx aZ (()) hi (trivial) ?_ ?_ ?_
     all_goals simp[hF,aj,am,ba,il,DV,hf,hb,bW]
  .rintro x -;simp only[hF,aj,am,aK,ck,aK];exact rt
def VQ{l:List dR}{t:List UInt8}(h:jt l t=U k):k<l.length:=(AZ h).1
def G'(o:Option bF):V:=.bw [.agg (match o with | some i=>i | none=>bF.zero).enc,.bool o.isSome]
def axF:=ag @am <| ag @aT <| ag @aH.al @bF.al
def av1(s:aH)(lat:Nat)(t:List UInt8)(Z:ab)(h1:s.bc.length<=100000)(h2:s.vars.length<=100000) :
 aR 231 [.agg s.enc,.int .i64 (lat:Nat),.aQ t] Z (G' (sN s lat t)):=by
 refine ajQ.fK ?_;simp only[aP,axF,Nat.reduceAdd];have no:∀(u:List V) (l:List (List V)),sN s lat t=ah->jS (λv σ' => v=G' (sN s lat t)/\σ' = Z) ⟨u,l,Z⟩ (.bw [.agg bF.zero.enc,.bool aq]):=λu l h=>by
  rw[h];exact aN (by simp[V.cS,bK,bF.dT]) (ab.a8 _) ⟨by simp[G',V.erase,a9,bF.dW],rfl⟩
 refine cl (yu s t Z h1 h2) ?_;simp only[am,yn];cases hf:jt s.vars t with
 | none =>
  simp only[am,bF.al,wb];exact no _ _ (by simp only[sN,hf])
 | some k =>
  have hk:=VQ hf;have hv:s.vars[k]?=U s.vars[k]:=bY hk;simp only[am,aH.al,yV,bW];refine ix (xn hk) ?_;simp only[am,aH.al]
  by_cases e1:s.vars[k].kind=1
  .simp only[am,aH.al,aG e1];refine ix (xn hk) ?_;simp only[am,aH.al]
   by_cases e2:s.vars[k].lat=(lat:Nat)
   .have e:sN s lat t=U ⟨1,k,.zero⟩:=by simp only[sN,hf,hv];rw[aL ⟨e1,e2⟩]
    simp only[am,bF.al,aG e2];exact aN (by simp[V.cS,bK,bF.dT]) (ab.a8 _) ⟨by simp[e,G',V.erase,a9,bF.dW,bF.zero],rfl⟩
   .simp only[am,bF.al,aD e2];exact no _ _ (by simp only[sN,hf,hv];rw[aB (λh=>e2 h.2)])
  .simp only[am,bF.al,aD e1];exact no _ _ (by simp only[sN,hf,hv];rw[aB (λh=>e1 h.1)])
variable{lat:Nat}
def Fu{s:aH}(h:lat<s.bc.length):yy s lat=s.bc[lat].shape:=by simp only[yy,bY h]
def Ym{s:aH}{n:Nd}(h1:n.kind≠1){e:br}(he:gN (yy s lat) (n.ae.getD 0 iJ)=(e,ah)):pr s lat n=U ⟨2,0,e⟩:=by rw[pr,aB h1,he]
def Yl{s:aH}{n:Nd}(h1:n.kind≠1){e:br}{p:Int}(he:gN (yy s lat) (n.ae.getD 0 iJ)=(e,U p)):pr s lat n=none:=by rw[pr,aB h1,he]
theorem Fh{n:Nd}(hc:n.cW<=100000):∀k∈jb s n,k.ak.length<=100000/\k.ae.length<=100000/\∀m∈k.ae,m.ak.length<=100000:=by
 intro k hk;have x_:k.cW<=n.cW:=by
  unfold jb at hk;split at hk
  .exact F1 (me hk)
  .grind
 have h1:=Ea k;have h2:=xK k;refine⟨by omega,by omega,λm hm=>?_⟩
 have:=me hm
 have:=Ea m
 omega
def aru{n:Nd}(hc:n.cW<=100000):∀k∈jb s n,Nd.ok k:=λk hk=>by
 obtain⟨h1,h2,h3⟩:=Fh hc k hk;exact⟨by omega,by omega,λm hm=>by have:=h3 m hm;omega⟩
def Au:=ag @am <| ag @aT <| ag @Nd.al <| ag @Nd.fl <| ag @aH.al @bF.al
def anO(s:aH)(lat:Nat)(n:Nd)(hg:TZ Z)(hs:s.ok)(ju:lat<s.bc.length)(hc:n.cW<=100000)(hw:n.wt<=aJ)(hl:n.ei=aa)(hk:n.kind=1\/n.kind=7):
 cy prog 183 [.agg s.enc,.int .i64 (lat:Nat),.agg n.enc] Z λv σ' => (∃i:bF,v = .bw [.agg i.enc,.bool (pr s lat n).isSome]/\∀j,pr s lat n=U j->i=j)/\σ' = Z:=by
 refine ajH.fK ?_;simp only[aP,Au,Nat.reduceAdd]
 by_cases h1:n.kind=1
 .simp only[am,Nd.fl,aH.al,aG h1];refine cl (av1 s lat n.an Z hs.1 hs.2.1) ?_;simp only[am,bF.al,G'];refine aN (by simp[V.cS,bK,bF.dT]) (ab.a8 _) ⟨⟨_,by rw[pr,aL h1];simp[V.erase,a9,bF.dW];rfl,λj hj=>?_⟩,rfl⟩;rw[pr,aL h1] at hj;rw[hj]
 .have h7:n.kind=7:=by omega
  have mi:=Da hl h7;have hm:n.ae[0]∈n.ae:=dQ _;have sk:=me hm;have sn:=iI hm;simp only[am,Nat.reduceAdd,bu,Nat.reduceLT,aH.al,aD h1];refine ix (tA ju) ?_;simp only[am,Nd.fl,aH.al];refine mG (n:=0) (by omega) (gH (j:=0) (bY (by omega))) ?_;simp only[am,bA.al,Nd.al];refine bn.intro (M' s.bc[lat].shape n.ae[0] hg (hs.2.2 _ (dQ ju)) (aru (by omega)) (by omega)) ?_;obtain⟨e,he⟩:∃e,gN s.bc[lat].shape n.ae[0]=e:=⟨_,rfl⟩;rw[he];have CC : gN (yy s lat) (n.ae.getD 0 iJ)=e:=by rw[Fu ju,mB (by omega)];exact he
  simp only[am,Nat.reduceAdd,br.al,bF.al,pf];obtain⟨e,o⟩:=e;cases o with
  | none =>
   have vE:=Ym h1 CC;simp only[am,bu,xy];exact aN (by simp[V.cS,bK,bF.dT]) (ab.a8 _) ⟨⟨⟨2,0,e⟩,by rw[vE];simp[V.erase,a9,bF.dW];rfl,λj hj=>by rw[vE] at hj;cases hj;rfl⟩,rfl⟩
  | some p =>
   have vE:=Yl h1 CC;simp only[am,cX,Int.reduceEq,yW];exact aN (by simp[V.cS,bK,bF.dT]) (ab.a8 _) ⟨⟨⟨2,0,e⟩,by rw[vE];simp[V.erase,a9,bF.dW];rfl,λj hj=>by rw[vE] at hj;simp at hj⟩,rfl⟩
def Al(s:aH)(t:List UInt8)(Z:ab)(h2:s.vars.length<=100000):aR 69 [.agg s.enc,.aQ t] Z (.int .i64 (bW (jt s.vars t))):=by
 refine fq func69 ?_;simp only[aP,am,aT,Nat.reduceAdd,aH.al];have eV:∀i (hi:i<s.vars.length),E_ s.vars t i=decide (s.vars[i].name=t):=λi hi=>by simp only[E_,bY hi]
 refine ch (s.vars.length) (λi (x:Unit)=>⟨[.any,.aQ t,.ptr (.au 0) 0,.any,.any,.int .i64 (i:Nat)]++aj 16 .any,[s.enc],Z⟩) (λi x=>(∀k,k<i->E_ s.vars t k=aq)) λF hF JF aZ=>⟨?_,?_,?_⟩
 .exact en aZ (()) (by intro k h;omega)
 .rintro i x hi hJ;simp only[hF,aj,am,cf hi,aH.al,aF];refine ix (xn hi) ?_;simp only[am,aH.al]
  by_cases h:s.vars[i].name=t
  .have e:jt s.vars t=U i:=Cq hi hJ (by rw[eV i hi];exact aG h);simp only[am,aK,aG h];refine aI ?_;simp[V.erase,e,bW]
  .simp only[am,aK,aD h,bt hi];exact nx aZ (()) hi (kn hJ (by rw[eV i hi];exact aD h))
 .rintro x hJ;have e:jt s.vars t=none:=Cr hJ;simp only[hF,aj,am,aK,ck,aK,aH.al,aF];refine aI ?_;simp[V.erase,e,bW]
def UT{l:List bF}(h:j<l.length):(l.map bF.enc)[((j:Nat):Int).toNat]?=U l[j].enc:=by simp[h]
theorem auh(a b:List bF)(Z:ab)(ha:a.length<=100000)(hb:b.length<=100000):aR 34 [.sl .no 10 (a.map bF.enc),.sl .no 10 (b.map bF.enc)] Z (.bool (decide (a=b))):=by
 refine fq func34 ?_;simp only[aP,am,aT,Nat.reduceAdd,aF]
 by_cases bf:a.length=b.length
 .simp only[am,aG (show(a.length:Int)=b.length by omega)];refine ch (a.length) (λi (x:Unit)=>⟨[.sl .no 10 (a.map bF.enc),.sl .no 10 (b.map bF.enc),.any,.any,.any,.int .i64 (i:Nat)]++aj 20 .any,[],Z⟩) (λi x=>(∀k,k<i->a[k]?=b[k]?)) λF hF JF aZ=>⟨?_,?_,?_⟩
  .exact en aZ (()) (by intro k h;omega)
  .rintro i x hi hJ;have JZ:i<b.length:=by omega
   simp only[hF,aj,am,cf hi,aF];refine ix (UT hi) ?_;simp only[am,bF.al];refine ix (UT JZ) ?_;simp only[am,bF.al]
   by_cases h:a[i]=b[i]
   .simp only[am,aK,aG h,bt hi];exact nx aZ (()) hi (kn hJ (by rw[bY hi,bY JZ,h]))
   .have e:a≠b:=λe=>h (by subst e;rfl)
    simp only[am,aK,aD h];refine aI ?_;simp[V.erase,e]
  .rintro x hJ;have e:a=b:=by
    refine Tb bf λk h1 h2=>?_
    grind
   simp only[hF,aj,am,aK,ck,aK,aF];refine aI ?_;simp[V.erase,e]
 .have e:a≠b:=λe=>bf (by rw[e])
  simp only[am,aD (show ¬(a.length:Int)=b.length by omega)];refine aI ?_;simp[V.erase,e]
def aj7:fm prog 66 (sq [rg 6 [ox 3 2 0,ox 5 5 2,oz 15,oz 2],sq [rg 16 [om 1,nB .lss 0,gB,om 1,fo 0 3,nL,nb .geq 19,gZ,gB,ol 5 5,oC 131 [26],nn,gZ],cr 29 6 [oz 15,oz 2]],sq [rg 30 [fo 0 5,nB .eql 1],ci 32 (sq [rg 33 [ol 2 3,fo 2 5,oC 69 [33,35],o1 8],sq [rg 37 [om 8,nB .lss 0,gB,fo 1 3,om 8,nA 3 41,nF 1,nB .neq 1,gZ,gB,fo 1 3,om 8,nA 3 50,nF 2,om 1,nb .neq 54,gZ],cr 57 6 [oz 15,oz 2]],rg 58 [om 8,oY wM [(0,1,.c (.int .i64 1)),(1,1,.s 58)],n1 10,o1 6,oV 7 (.bool aa)],.ret])],sq [rg 61 [fo 0 5,nB .eql 7],ci 63 (sq [dA 65 [9,10] [fo 0 3,om 1,nA 3 66,nf 1,nl 2,fo 4 5,nI 5 0,nl 5,oC 134 [70,74],o1 64,oe 64 0,oe 64 1,oN,oN,oX 9 8 76,oX 10 2 77],sq [rg 78 [fo 0 10,nB .neq 0],cr 80 6 [oz 15,oz 2]],rg 81 [ol 8 9,oY wM [(0,1,.c (.int .i64 2)),(2,8,.s 81)],n1 10,o1 6,oV 7 (.bool aa)],.ret])],rg 11 [oz 15],sq [rg 12 [oi 0],bl 0 (sq [sq [rg 84 [om 12,fo 4 5,nL,nb .lss 84],cx 88 0],.block 1 (sq [dg 92 [ol 2 3,om 1,fo 4 5,om 12,nA 5 95,nl 5,oC 66 [92,93,98],o1 91,oe 91 0,oe 91 1,ot 13 100,o1 14],sq [rg 102 [om 14,nn],cr 103 6 [oz 15,oz 2]],rg 104 [om 11,om 13,na 10 104,o1 11]]),rg 89 [ic 12]])],rg 15 [oi 3],sq [rg 107 [fo 0 5,nB .eql 9],ci 109 (rg 15 [oi 4])],rg 110 [om 11,om 15,fo 4 5,nL,oY wM [(0,1,.s 111),(1,1,.s 114)],n1 10,na 10 110,o1 6,oV 7 (.bool aa)],.ret]) [.tmp 6,.tmp 7] 118:=fU func66
def wv(o:Option (List bF)):V:=.bw [.sl .no 10 ((o.getD []).map bF.enc),.bool o.isSome]
def MU{s:aH}{n:Nd}(h1:lat<s.bc.length)(h2:n.ei=aa):kR s (lat:Nat) n=kQ s lat n:=by
 rw[kR,aL ⟨by omega,by omega,h2⟩];rfl
def axG:=ag @am <| ag @bu <| ag @br.al @bF.al
def asN(s:aH)(lat:Int)(hs:s.ok):∀(k:Nat) (n:Nd) (Z:ab),n.wt<=k->n.wt<=aJ->n.cW<=100000 ->
 aR 66 [.agg s.enc,.int .i64 lat,.agg n.enc] Z (wv (kR s lat n)):=by
 intro k;induction k with
 | zero=>intro n Z h;have:=Nd.sW n;have:=Eb n;omega
 | succ k ih =>
  intro n Z hk hw hc;refine aj7.fK ?_;simp only[aP,Au,Nat.reduceAdd];have no:∀(u:List V) (l:List (List V)) (bx:ab),kR s lat n=ah->Z.sub bx->jS (λv σ' => v=wv (kR s lat n)/\σ' = Z) ⟨u,l,bx⟩ (.bw [.sl .aY 10 [],.bool aq]):=λu l bx h h' => by
   rw[h];exact aN rfl h' ⟨rfl,rfl⟩
  by_cases hn:lat<0
  .simp only[am,aG hn];exact no _ _ _ (by rw[kR,aB (by omega)]) (ab.a8 _)
  .obtain⟨lat,rfl⟩:∃m:Nat,lat=m:=⟨lat.toNat,by omega⟩;simp only[am,aF,aH.al,aF,aD hn]
   by_cases ju:s.bc.length<=lat
   .simp only[am,aG (show(s.bc.length:Int)<=(lat:Nat) by omega)];exact no _ _ _ (by rw[kR,aB (by omega)]) (ab.a8 _)
   .have az:lat<s.bc.length:=by omega
    simp only[am,Nd.al,aD (show ¬(s.bc.length:Int)<=(lat:Nat) by omega)];refine cl (Hj _ n Z (bU _) hw) ?_;cases hl:n.ei with
    | false =>
     simp only[am];exact no _ _ _ (by rw[kR,hl,aB (by simp)]) (ab.a8 _)
    | true =>
     have hR:=MU az hl;simp only[am,Nd.fl]
     by_cases h1:n.kind=1
     .have hC:kQ s lat n=(sN s lat n.an).map λi=>[i]:=by rw[Ec,aL (.inl h1),pr,aL h1]
      simp only[am,Nd.fl,aH.al,aG h1];refine cl (Al s n.an Z hs.2.1) ?_;simp only[am,yn];cases hf:jt s.vars n.an with
      | none =>
       simp only[am,wb];exact no _ _ _ (by rw[hR,hC];simp only[sN,hf];rfl) (ab.a8 _)
      | some j =>
       have hj:=VQ hf;have hv:s.vars[j]?=U s.vars[j]:=bY hj;simp only[am,aH.al,yV,bW];refine ix (xn hj) ?_;simp only[am,aH.al]
       by_cases e1:s.vars[j].kind=1
       .simp only[am,aH.al,aG e1];refine ix (xn hj) ?_;simp only[am,aH.al]
        by_cases e2:s.vars[j].lat=(lat:Nat)
        .have e:sN s lat n.an=U ⟨1,j,.zero⟩:=by simp only[sN,hf,hv];rw[aL ⟨e1,e2⟩]
         simp only[am,bF.al,aG e2];exact aN rfl (ab.a8 _) ⟨by rw[hR,hC,e];rfl,rfl⟩
        .simp only[am,aD e2];exact no _ _ _ (by rw[hR,hC];simp only[sN,hf,hv];rw[aB (λh=>e2 h.2)];rfl) (ab.a8 _)
       .simp only[am,aD e1];exact no _ _ _ (by rw[hR,hC];simp only[sN,hf,hv];rw[aB (λh=>e1 h.1)];rfl) (ab.a8 _)
     .simp only[am,Nd.fl,aD h1]
      by_cases h7:n.kind=7
      .have hC:kQ s lat n=(pr s lat n).map λi=>[i]:=by rw[Ec,aL (.inr h7)]
       have mi:=Da hl h7;have hm:n.ae[0]∈n.ae:=dQ _;have sk:=me hm;have sn:=iI hm;simp only[am,Nat.reduceAdd,bu,Nat.reduceLT,aH.al,aG h7];refine ix (tA az) ?_;simp only[am,Nd.fl,aH.al];refine mG (n:=0) (by omega) (gH (j:=0) (bY (by omega))) ?_;simp only[am,bA.al,Nd.al];refine bn.intro (Rs s.bc[lat].shape n.ae[0] Z (hs.2.2 _ (dQ az)) (Fh (by omega)) (by omega)) ?_;obtain⟨e,he⟩:∃e,gN s.bc[lat].shape n.ae[0]=e:=⟨_,rfl⟩;rw[he];have CC : gN (yy s lat) (n.ae.getD 0 iJ)=e:=by rw[Fu az,mB (by omega)];exact he
       simp only[am,Nat.reduceAdd,br.al,pf];obtain⟨e,o⟩:=e;cases o with
       | none =>
        have vE:=Ym h1 CC;simp only[axG,xy];exact aN (by simp[V.cS,bK]) (ab.a8 _) ⟨by rw[hR,hC,vE];simp[wv,V.erase,a9];rfl,rfl⟩
       | some p =>
        have vE:=Yl h1 CC;simp only[am,cX,Int.reduceEq,yW];exact no _ _ _ (by rw[hR,hC,vE];rfl) (ab.a8 _)
      .have fj:¬(n.kind=1\/n.kind=7):=λh=>h.elim h1 h7
       have hC:kQ s lat n=(lq s lat n.ae).map λl=>l++[qT n]:=by rw[Ec,aB fj]
       have mD:=PZ hl fj;have x_:=xK n;simp only[am,aD h7];refine ch (n.ae.length) (λi (x:List bF × Tk × ab)=>⟨[.any,.int .i64 (lat:Nat),.any,.ptr (.au 0) 0,.any,.ptr (.au 1) 0,.any,.any,.any,.any,.any,.sl x.2.1 10 (x.1.map bF.enc),.int .i64 (i:Nat)]++aj 105 .any,[s.enc,n.enc],x.2.2⟩) (λi x=>(lq s lat (n.ae.take i)=U x.1/\Gr Z x.2.2 x.2.1 x.1.length)) λF hF JF aZ=>⟨?_,?_,?_⟩
       .exact en aZ (([],.aY,Z)) (⟨rfl,Gr.nil⟩)
       .rintro i ⟨out,tk,bx⟩ hi ⟨hJ,hG⟩;simp only at hJ hG;have hm:n.ae[i]∈n.ae:=dQ hi;have sk:=me hm;have sn:=iI hm;have Bj:=I7 _ hJ;have hoc:=MS n.ae i;have Ok:=Nd.sW n;simp only[hF,aj,am,cf hi,Nd.fl,aH.al,aF];refine ix (gH (bY hi)) ?_;simp only[am,Nd.al,aH.al];refine bn.intro (ih n.ae[i] bx (by omega) (by omega) (by omega)) ?_;rw[MU az (mD _ hm)];cases Oi:kQ s lat n.ae[i] with
        | none =>
         simp only[am,aK,wv,xy];exact no _ _ _ (by rw[hR,hC,UX hm Oi];rfl) hG.sub
        | some l =>
         have CP:=MT _ Oi;have rE:=UY hJ Oi;rw[<-iB hi] at rE;simp only[am,wv,yW,DZ];refine Gr.app (by simpa using hG) (by simp[aJ];omega) λgz σ' kr _ _=>?_
         simp only[am,aK,bt hi];refine nx aZ ((out++l,gz,σ')) hi (⟨rE,by simpa using kr⟩) ?_ ?_ ?_
         all_goals simp[hF,aj,am,ba,gm]
       .rintro⟨out,tk,bx⟩ ⟨hJ,hG⟩;simp only at hJ hG;rw[du] at hJ;have Bj:=I7 _ hJ;have Ok:=Nd.sW n;simp only[hF,aj,am,aK,ck,aK,Nd.fl,aF]
        by_cases h9:n.kind=9
        .have eo:qT n=⟨4,n.ae.length,.zero⟩:=by rw[qT,aL h9]
         simp only[am,aF,Nd.fl,bF.al,aF,aG h9];refine Gr.app (by simpa using hG) (by simp[aJ];omega) λgz σ' kr _ _=>?_
         simp only[am];exact aN (by simp[V.cS,bK]) kr.sub ⟨by rw[hR,hC,hJ,eo];simp[wv,V.erase,a9];rfl,rfl⟩
        .have eo:qT n=⟨3,n.ae.length,.zero⟩:=by rw[qT,aB h9]
         simp only[am,aF,Nd.fl,bF.al,aF,aD h9];refine Gr.app (by simpa using hG) (by simp[aJ];omega) λgz σ' kr _ _=>?_
         simp only[am];exact aN (by simp[V.cS,bK]) kr.sub ⟨by rw[hR,hC,hJ,eo];simp[wv,V.erase,a9];rfl,rfl⟩
def ajv:fm prog 114 (sq [rg 6 [ox 3 2 0,ox 5 5 2,oz 15,oz 2],.scope (sq [sq [rg 15 [om 1,nB .lss 0,gB,om 1,fo 0 3,nL,nb .geq 18,gZ,gB,ol 5 5,oC 182 [25],nn,gZ],cr 28 6 [oz 15,oz 2]],rg 8 [oz 15],rg 29 [ol 5 5,oW [0,0,1,7,10,0] [(0,5,29)],nO (.new 6),o1 9],.skip,bl 0 (sq [sq [rg 32 [om 9,nO .len,nB .gtr 0],cx 34 0],.block 1 (sq [rg 35 [om 9,nO .len,nB .sub 1,o1 10],rg 38 [om 9,om 10,oO (.idx 6) [38,39],nl 6,oZ 11 [0,0,1,7,10,0],o2 6 11],rg 12 [oi 3],sq [rg 42 [of 0 11,nF 0],.block 2 (sq [sq [rg 46 [oB .eql 44 1,o1 45],cd 45 .skip (rg 47 [oB .eql 44 7,o1 45])],cd 45 (sq [rg 49 [ol 2 3,om 1,of 0 11,nl 5,oC 183 [49,50,52],o1 48,oe 48 0,oe 48 1,oR 13 wM,os 10 13 54,o1 14],sq [rg 56 [om 14,nn],cr 57 6 [oz 15,oz 2]],rg 58 [om 8,ol 10 13,n1 10,na 10 58,o1 8],rg 62 [om 9,om 10,oO (.qZ 6 aq aa aq) [62,63],o1 9],(.exit 1)]) (sq [rg 66 [oB .eql 44 9,o1 65],ci 65 (rg 12 [oi 4])])])],sq [rg 67 [fo 5 11,of 0 11,nF 4,nL,nb .lss 68],ci 73 (sq [rg 74 [om 9,om 10,oO (.idx 6) [74,75],nF 5,nB .add 1,oO (.idx 6) [74,75],nf 5,os 1 81 79],rg 82 [om 9,of 0 11,nF 4,fo 5 11,nA 5 85,nl 5,oW [0,0,1,7,10,0] [(0,5,89)],n1 6,oO (.app 6) [82,91],o1 9],(.exit 1)])],rg 93 [om 8,om 12,of 0 11,nF 4,nL,oY wM [(0,1,.s 94),(1,1,.s 98)],n1 10,na 10 93,o1 8],rg 102 [om 9,om 10,oO (.qZ 6 aq aa aq) [102,103],o1 9]])]),rg 6 [ot 105 8,om 105,oq (.mv (.c (.bool aa)))],.ret])]) [.tmp 6,.tmp 7] 106:=fU func114 ⟨[33,36,40,64,76,80,92,104,100031],[]⟩
def iP(f:Nd × Nat):List V:=f.1.enc++[.int .i64 (f.2:Nat)]
section
variable {m:Nd} {d k:Nat} {x0 x1 x2 x3 x4 x5:V}
def ui:iP (m,d)=[.int .i64 m.kind,.int .i64 m.pos,.aQ m.an,.sl .no 2 (m.ak.map aC.enc),.sl .no 5 (m.ae.map Nd.enc),.int .i64 (d:Nat)]:=by rw[iP,Nd.dk];rfl
def Em:(iP (m,d)).length=6:=by rw[ui];rfl
def V9:c8 (iP (m,d))=true:=by rw[ui];rfl
def Jp:bK (iP (m,d))=true:=by rw[ui];rfl
def akg:a9 (iP (m,d))=iP (m,d):=by rw[ui];rfl
def akk:bE k (iP (m,d))=true:=by rw[ui];rfl
def akm:over [x0,x1,x2,x3,x4,x5] (iP (m,d))=iP (m,d):=by rw[ui];rfl
def aki:bP aq 1 (iP (m,d))=U (.int .i64 m.kind):=by rw[ui];rfl
def akj:bP aq 1 ((iP (m,d)).drop 4)=U (.sl .no 5 (m.ae.map Nd.enc)):=by rw[ui];rfl
def akf:bP aq 1 ((iP (m,d)).drop 5)=U (.int .i64 (d:Nat)):=by rw[ui];rfl
def akl:takeN 5 (iP (m,d))=U m.enc:=Se Nd.dG
def ake:over [x0,x1,x2,x3,x4,.int .i64 0] m.enc=iP (m,0):=by rw[ui,Nd.dk];rfl
theorem akh:cB 5 [x0,x1,x2,x3,x4,x5]=true:=rfl
def akn:setAt (iP (m,d)) 5 [.int .i64 (k:Nat)]=iP (m,k):=by rw[ui,ui];rfl
def zh:=ag @Em <| ag @V9 <| ag @Jp <| ag @akg <| ag @akk <| ag @akm <| ag @aki <| ag @akj <| ag @akf <| ag @akl <| ag @ake @akh
end
structure CF(s:aH)(lat:Nat)(n:Nd)(Z:ab) where
 fs:List (Nd × Nat)
 out:List bF
 v:V
 tk:Tk
 st:ab
 fin:vo s lat fs out=kQ s lat n
 all:∀f∈fs,f.1.ei=aa/\f.1.wt<=n.wt/\f.1.cW<=n.cW
 mes:out.length+sC fs<=2*n.cW+1
 own:fI st 6 v (fs.reverse.map iP)
 sub:sT Z st v
 gr:Gr Z st tk out.length
def EU(s:aH)(lat:Nat)(n:Nd)(out:List bF)(v:V)(tk:Tk)(Z:ab):St :=
 ⟨[.any,.int .i64 (lat:Nat),.any,.ptr (.au 0) 0,.any,.ptr (.au 1) 0,.any,.any,.sl tk 10 (out.map bF.enc),v]++aj 96 .any,[s.enc,n.enc],Z⟩
def QW{n:Nat}{v:V}{rows:List (List V)}(h:fI Z k v rows):v.lo n=true:=by obtain⟨a,cap,rfl,_⟩:=h;rfl
variable{σ':ab}
def ZD{v:V}{rows:List (List V)}(h:fI Z k v rows)(e:σ'.box=Z.box):fI σ' k v rows:=h.frame λb cs _ hc=>by rw[e];exact hc
def alb{dx:ab}{tk:Tk}{n:Nat}(h:Gr dx Z tk n)(hs:dx.sub σ')(e:σ'.aS=Z.aS):Gr dx σ' tk n:=⟨hs,h.tk.imp id λ⟨D,a,b,c⟩=>⟨D,a,by rw[e];exact b,c⟩⟩
def Y4:∀(fs:List (Nd × Nat)),fs.length<=sC fs
 | []=>bU _
 | f::fs=>by have:=Y4 fs;simp only[sC,da];omega
def axH:=ag @am <| ag @cK <| ag @aT <| ag @Nd.al <| ag @aH.al @bF.al
theorem afL(s:aH)(lat:Int)(n:Nd)(hg:TZ Z)(hs:s.ok)(hw:n.wt<=aJ)(hc:n.cW<=100000):
 aR 114 [.agg s.enc,.int .i64 lat,.agg n.enc] Z (wv (kR s lat n)):=by
 refine ajv.fK ?_;simp only[aP,axH,Nat.reduceAdd];have no:∀(u:List V) (l:List (List V)) (bx:ab),kR s lat n=ah->Z.sub bx->jS (λv σ' => v=wv (kR s lat n)/\σ' = Z) ⟨u,l,bx⟩ (.bw [.sl .aY 10 [],.bool aq]):=λu l bx h h' => by
  rw[h];exact aN rfl h' ⟨rfl,rfl⟩
 by_cases hn:lat<0
 .simp only[am,cK,aG hn];exact no _ _ _ (by rw[kR,aB (by omega)]) (ab.a8 _)
 .obtain⟨lat,rfl⟩:∃m:Nat,lat=m:=⟨lat.toNat,by omega⟩;simp only[am,aF,aH.al,aF,aD hn]
  by_cases ju:s.bc.length<=lat
  .simp only[am,cK,aG (show(s.bc.length:Int)<=(lat:Nat) by omega)];exact no _ _ _ (by rw[kR,aB (by omega)]) (ab.a8 _)
  .have az:lat<s.bc.length:=by omega
   simp only[am,Nd.al,aD (show ¬(s.bc.length:Int)<=(lat:Nat) by omega)];refine cl (Hl _ n Z (bU _) hw) ?_;cases hl:n.ei with
   | false =>
    simp only[am,cK];exact no _ _ _ (by rw[kR,hl,aB (by simp)]) (ab.a8 _)
   | true =>
    have hR:=MU az hl;simp only[am,jo,Nd.al,zh];refine fI.mk1 (c:=iP (n,0)) (by simp[Br,V.cells,Em,Jp,V9,V.wd]) Em Jp λv bx hO hS=>?_
    simp only[am];obtain⟨I,hI⟩:∃I:CF s lat n Z->St,∀p,I p=EU s lat n p.out p.v p.tk p.st:=⟨_,λ_=>rfl⟩;refine ep I (λp=>sC p.fs) ?_ ?_
    .refine a7.enter (I:=I) ⟨[(n,0)],[],v,.aY,bx,by simp only[vo,aaz];cases kQ s lat n<;>rfl,by simp[hl],?_,by simpa using hO,hS,⟨hS.sub,.inl rfl⟩⟩ ?_ ?_ ?_
     .have:=Nd.sW n
      simp only[sC,L9,cZ];omega
     all_goals simp[hI,EU,aj,am,ba]
    .rintro⟨fs,out,v,tk,bx,s9,dd,J2,hO,hS,hG⟩;simp only[hI,EU,aj,am,jo];have hml:=Y4 fs;refine hO.len ?_;cases fs with
     | nil =>
      have e:kQ s lat n=U out:=by rw[<-s9];rfl
      simp only[am,cK,List.reverse_nil,fp,cZ,show decide ((0:Int)<((0:Nat):Int))=aq from rfl];exact aN rfl hG.sub ⟨by rw[hR,e];rfl,rfl⟩
     | cons f fs =>
      obtain⟨m,d⟩:=f;obtain⟨J3,sn,sk⟩:=dd (m,d) (by simp);simp only at J3 sn sk;have rC:(List.map iP ((m,d)::fs).reverse).length=fs.length+1:=by simp
      have dz:(List.map iP ((m,d)::fs).reverse)[fs.length]?=U (iP (m,d)):=by simp
      have XC:(List.map iP ((m,d)::fs).reverse).take fs.length=List.map iP fs.reverse:=by simp
      have Bg:fs.length+1<=2*n.cW+1:=by grind
      have Be:TZ bx:=hG.sub.2.2 _ _ hg;simp only[am,jo,rC,show decide ((0:Int)<((fs.length+1:Nat):Int))=aa from aG (by omega)];refine hO.len ?_;simp only[am,jo,rC];rw[wrap_i64,show((fs.length+1:Nat):Int) - 1=(fs.length:Nat) by omega];refine hO.idx (by omega) (j:=(fs.length:Nat)) (c:=iP (m,d)) (by rw[iM];exact dz) λb cs rest hb cO On=>?_
      rw[iM] at On ⊢;have zA:takeN 6 (cs.drop (fs.length*6))=U (iP (m,d)):=by rw[On];exact Se Em
      simp only[am,Nat.reduceAdd,cO,zA,zh]
      by_cases hk:m.kind=1\/m.kind=7
      .have nR:(decide (m.kind=1)=aa)\/(decide (m.kind=1)=aq/\decide (m.kind=7)=aa):=by grind
       have vE:=asY (s:=s) (lat:=lat) (d:=d) (fs:=fs) (out:=out) hk;rw[vE] at s9
       rcases nR with e1 | ⟨e1,e2⟩
       case' inl=>simp only[am,Nd.al,aH.al,e1,zh]
       case' inr=>simp only[am,Nd.al,aH.al,e1,e2,zh]
       all_goals
        refine(anO s lat m Be hs az (by omega) (by omega) J3 hk).mono ?_;rintro v' σ' ⟨⟨i,rfl,hi⟩,rfl⟩;simp only[am,Nat.reduceAdd,bF.al];cases OD:pr s lat m with
        | none =>
         rw[OD] at s9;simp only[am,cK,xy];exact no _ _ _ (by rw[hR,<-s9]) hG.sub
        | some j =>
         obtain rfl:=hi j OD;rw[OD] at s9;simp only[am,bF.al,yW];refine Gr.app (by simpa using hG) (by simp only[sC] at J2;simp[aJ];omega) λgz gl kr hB _=>?_
         simp only[am,jo];refine(ZD hO hB).take (m:=fs.length) (by omega) (iM _) (by rw[rC];omega) λv2 mh fv=>?_
         rw[XC] at mh;simp only[am,cK,Nat.reduceEqDiff,reduceCtorEq];refine a7.nh (I:=I) ⟨fs,out++[i],v2,gz,gl,s9,λf hf=>dd f (Tn _ hf),by simp only[sC] at J2;rw[bL,eZ];omega,mh,⟨kr.sub,λb hb=>hS.new b (by rw[<-fv];exact hb)⟩,by simpa using kr⟩ (by simp only[sC];omega) ?_ ?_ ?_ ?_ ?_
         all_goals simp[hI,EU,aj,am,ba,bE,cn,V.lo,aH.bR,Nd.bR,QW mh]
      .have e1:decide (m.kind=1)=false:=aD λh=>hk (.inl h)
       have e7:decide (m.kind=7)=false:=aD λh=>hk (.inr h)
       simp only[am,e1,e7];have mD:=PZ J3 hk;have x_:=xK m
       by_cases h9:m.kind=9
       case' pos =>
        have eo:qT m=⟨4,m.ae.length,.zero⟩:=by rw[qT,aL h9]
        simp only[am,aF,aF,aG h9,zh]
       case' neg =>
        have eo:qT m=⟨3,m.ae.length,.zero⟩:=by rw[qT,aB h9]
        simp only[am,aF,aF,aD h9,zh]
       all_goals
        by_cases hd:d<m.ae.length
        .have W7:cs.drop (fs.length*6+5)=(iP (m,d)).drop 5++rest:=by rw[<-xw,On,L7 (by rw[Em];omega)]
         have h5:(iP (m,d)).drop 5=[.int .i64 (d:Nat)]:=by rw[ui];rfl
         have al1:bP aq 1 (cs.drop (fs.length*6+5))=U (.int .i64 (d:Nat)):=by rw[W7,h5];rfl
         have alS:cB 1 (cs.drop (fs.length*6+5))=true:=by rw[W7,h5];rfl
         obtain⟨mh,bV⟩:=hO.put (off:=5) (x:=[.int .i64 ((d+1:Nat):Int)]) dz hb cO (by simp);have qK:(List.map iP ((m,d)::fs).reverse).set fs.length (setAt (iP (m,d)) 5 [.int .i64 ((d+1:Nat):Int)])=List.map iP ((m,d+1)::fs).reverse:=by rw[akn];simp
         rw[qK] at mh;have J4:m.ae[d]∈m.ae:=dQ hd;have hkw:=iI J4;have axZ:=me J4;simp only[am,jo,cf hd];refine hO.idx (by omega) (j:=(fs.length:Nat)) (c:=iP (m,d)) (by rw[iM];exact dz) λb2 MX asV fv alE _=>?_
         obtain rfl:b=b2:=by rw[hb] at fv;exact yY fv
         rw[iM];simp only[am,jo,cO,al1,bt hd];refine hO.idx (by omega) (j:=(fs.length:Nat)) (c:=iP (m,d)) (by rw[iM];exact dz) λb2 MX asV fv alE _=>?_
         obtain rfl:b=b2:=by rw[hb] at fv;exact yY fv
         rw[iM];simp only[am,cO,alS,zh];refine ix (gH (bY hd)) ?_;simp only[am,jo,Nd.al,zh];refine mh.app (m:=[iP (m.ae[d],0)]) (by simp[Em]) (by simp[Jp]) (by simp[aJ];omega) λv3 xq WR lO=>?_
         have JE:=(hS.step bV).step lO;have NS:=alb hG JE.sub (lO.aS.trans bV.aS);simp only[am,cK,reduceCtorEq];refine a7.nh (I:=I) ⟨(m.ae[d],0)::(m,d+1)::fs,out,v3,tk,xq,by rw[<-asX hk hd];exact s9,?_,?_,by simpa using WR,JE,NS⟩ (Y3 hd) ?_ ?_ ?_ ?_ ?_
         .intro f hf
          rcases m_.1 hf with rfl | hf
          .exact⟨mD _ J4,by simp only;omega,by simp only;omega⟩
          .rcases m_.1 hf with rfl | hf
           .exact⟨J3,sn,sk⟩
           .exact dd f (Tn _ hf)
         .have:=Y3 (fs:=fs) hd;omega
         all_goals simp[hI,EU,aj,am,ba,bE,cn,V.lo,aH.bR,Nd.bR,QW WR]
        .simp only[am,aF,bF.al,aF,aD (show ¬(d:Int)<(m.ae.length:Nat) by omega),zh];refine Gr.app (by simpa using hG) (by simp only[sC] at J2;simp[aJ];omega) λgz gl kr hB _=>?_
         simp only[am,jo];refine(ZD hO hB).take (m:=fs.length) (by omega) (iM _) (by rw[rC];omega) λv2 mh fv=>?_
         rw[XC] at mh;simp only[am];refine a7.nh (I:=I) ⟨fs,out++[qT m],v2,gz,gl,by rw[<-asW hk (Nat.le_of_not_lt hd)];exact s9,λf hf=>dd f (Tn _ hf),by simp only[sC] at J2;rw[bL,eZ];omega,mh,⟨kr.sub,λb hb=>hS.new b (by rw[<-fv];exact hb)⟩,by simpa using kr⟩ (by simp only[sC];omega) ?_ ?_ ?_ ?_ ?_
         all_goals simp[hI,EU,aj,am,ba,bE,cn,V.lo,aH.bR,Nd.bR,eo,bF.zero,QW mh]
section
variable {l:eh} {v:dR} {a b c:V} {m:Nat}
theorem eh.HP:takeN 3 l.enc=U l.enc:=rfl
theorem eh.Rb:over [a,b,c] l.enc=l.enc:=rfl
theorem eh.Q_:l.enc.length=3:=rfl
theorem eh.Ra:c8 l.enc=true:=rfl
theorem dR.Q_:v.enc.length=3:=rfl
theorem dR.Ra:c8 v.enc=true:=rfl
theorem dR.HP:takeN 3 v.enc=U v.enc:=rfl
theorem dR.Rb:over [a,b,c] v.enc=v.enc:=rfl
end
def ajG:fm prog 177 (sq [rg 0 [ox 3 5 1],rg 6 [fo 0 3],.block 0 (sq [rg 9 [oB .eql 7 1,o1 8],cd 8 (rg 10 [om 0,fo 2 3,fo 1 3,oc 107 [.s 10,.s 12,.s 14,.c (.int .i64 1)]]) (sq [rg 17 [oB .eql 7 7,o1 16],ci 16 (sq [rg 18 [fo 4 3,nL,nB .gtr 0,gA,mk 0,nF 3,nB .geq 0,gZ],ci 28 (sq [dA 30 [4,5] [mk 0,nf 1,nF 0,mk 0,nF 3,nA 3 34,nf 1,nl 2,fo 4 3,nI 5 0,nl 5,oC 184 [41,45],o1 29,oe 29 0,oe 29 1,oN,oN,oX 4 8 47,oX 5 2 48],dg 49 [mk 0,nf 0,fo 0 5,nB .neq 0,fo 0 5,fo 1 5,oC 110 [51,54,56,58]]])])])])]) [] 60:=fU func177
def Ag(Z:ab)(b D:Nat)(l:List aM)(s:aH)(lat p x y:Int)(is:Bool)(hl:l.length<=100000000) :
 eT 110 [.ptr (.out b) 0,.bool is,.int .i64 x,.int .i64 y] (dP Z b D l s lat p) (.bw []) (dP Z b D (l++if is then [⟨x,y⟩] else []) s lat p):=by
 refine fq func110 ?_;simp only[aP,am,aT,Nat.reduceAdd];cases is with
 | false =>
  simp only[am,eC,eC];exact aN rfl (ab.a8 _) ⟨rfl,by simp⟩
 | true =>
  simp only[am,Nat.reduceAdd,lg];refine fg (by simp[aJ];omega) (by rw[aF];exact SH) ?_;simp only[am,aF,lg,aF,eZ,axl];exact aN rfl (ab.a8 _) ⟨rfl,by simp⟩
theorem H_(Z:ab)(b D:Nat)(l:List aM)(s:aH)(lat p y k:Int)(t:List UInt8)(hl:l.length<=90000000)(hs:s.ok) :
 eT 107 [.ptr (.out b) 0,.aQ t,.int .i64 y,.int .i64 k] (dP Z b D l s lat p) (.bw []) (dP Z b D (l++fY s lat t y k) s lat p):=by
 refine fq func107 ?_;simp only[aP,am,aT,Nat.reduceAdd,lg,aH.al];refine cl (yu s t _ hs.1 hs.2.1) ?_;cases hV:jt s.vars t with
 | none =>
  cases hL:fD s.bc t with
  | none =>
   have e:fY s lat t y k=[⟨3,y⟩]:=by rw[fY,hV,hL];rfl
   simp only[am,bu,Int.reduceNeg,bW,Int.reduceLT];refine cl (Ag Z b D l s lat p 3 y aa (by omega)) ?_;simp only[am,bu,cX,Int.reduceNeg,Int.reduceLT,Int.reduceLE];refine cl (Ag Z b D (l++[⟨3,y⟩]) s lat p 4 y aq (by simp;omega)) ?_;simp only[am,Int.reduceNeg,eC];exact aN rfl (ab.a8 _) ⟨rfl,by rw[e]⟩
  | some j =>
   have e:fY s lat t y k=[⟨4,y⟩]:=by rw[fY,hV,hL];rfl
   simp only[am,Int.reduceNeg,bW,aD (show ¬((j:Nat):Int)<0 by omega)];refine cl (Ag Z b D l s lat p 3 y aq (by omega)) ?_;simp only[am,bu,Int.reduceNeg,eC,Int.reduceLT,aG (show(0:Int)<=((j:Nat):Int) by omega)];refine cl (Ag Z b D l s lat p 4 y aa (by omega)) ?_;simp only[am,Int.reduceNeg];exact aN rfl (ab.a8 _) ⟨rfl,by rw[e]⟩
 | some v =>
  have hv:=Nn hV;have hx:s.vars[v]?=U s.vars[v]:=bY hv;have e:fY s lat t y k=if s.vars[v].kind≠k\/(0<=lat/\s.vars[v].lat≠lat) then [⟨4,y⟩] else []:=by rw[fY,hV];simp only[hx]
  have nv:decide (((v:Nat):Int)<0)=false:=aD (by omega);have mid:cy prog 110 [.ptr (.out b) 0,.bool aq,.int .i64 3,.int .i64 y] (dP Z b D l s lat p) λu σ' => u = .bw []/\σ' = dP Z b D l s lat p:=by simpa using Ag Z b D l s lat p 3 y aq (by omega)
  have fin:∀is:Bool,is=decide (s.vars[v].kind≠k\/(0<=lat/\s.vars[v].lat≠lat))->cy prog 110 [.ptr (.out b) 0,.bool is,.int .i64 4,.int .i64 y] (dP Z b D l s lat p) λu σ' => u = .bw []/\σ' = dP Z b D (l++fY s lat t y k) s lat p:=λis he=>by
   have:=Ag Z b D l s lat p 4 y is (by omega)
   grind
  cases hL:fD s.bc t
  case' none=>simp only[am,bu,Int.reduceNeg,bW,Int.reduceLT,nv]
  case' some j =>
   simp only[am,bW,aD (show ¬((j:Nat):Int)<0 by omega)]
  all_goals
   refine cl mid ?_;simp only[am,Nat.reduceAdd,Int.reduceNeg,lg,nv];refine ix (xn hv) ?_;simp only[am,Int.reduceNeg,aH.al,dR.Q_,dR.Ra,dR.HP,dR.Rb]
   by_cases hk:s.vars[v].kind=k
   case neg =>
    simp only[am,Int.reduceNeg,aD hk];refine bn.intro (fin aa (by simp[hk])) ?_;simp only[am,Int.reduceNeg];exact aN rfl (ab.a8 _) ⟨rfl,rfl⟩
   simp only[am,Int.reduceNeg,lg,aG hk]
   by_cases h0:0<=lat
   case neg =>
    simp only[am,Int.reduceNeg,aD h0];refine bn.intro (fin aq (by simp[hk,h0])) ?_;simp only[am,Int.reduceNeg];exact aN rfl (ab.a8 _) ⟨rfl,rfl⟩
   simp only[am,Int.reduceNeg,lg,aH.al,aG h0]
   by_cases h1:s.vars[v].lat=lat
   case neg =>
    simp only[am,Int.reduceNeg,aD h1];refine bn.intro (fin aa (by simp[h0,h1])) ?_;simp only[am,Int.reduceNeg];exact aN rfl (ab.a8 _) ⟨rfl,rfl⟩
   simp only[am,Int.reduceNeg,aG h1];refine bn.intro (fin aq (by simp[hk,h1])) ?_;simp only[am,Int.reduceNeg];exact aN rfl (ab.a8 _) ⟨rfl,rfl⟩
def DE(Z:ab)(b D:Nat)(l:List aM)(s:aH)(lat p x y:Int)(hl:l.length<=100000000):cy prog 110 [.ptr (.out b) 0,.bool aq,.int .i64 x,.int .i64 y] (dP Z b D l s lat p) λu σ' => u = .bw []/\σ' = dP Z b D l s lat p:=by simpa using Ag Z b D l s lat p x y aq hl
def Ia(Z:ab)(b D:Nat)(l:List aM)(s:aH)(lat p x y:Int)(hl:l.length<=100000000):cy prog 110 [.ptr (.out b) 0,.bool aa,.int .i64 x,.int .i64 y] (dP Z b D l s lat p) λu σ' => u = .bw []/\σ' = dP Z b D (l++[⟨x,y⟩]) s lat p:=by simpa using Ag Z b D l s lat p x y aa hl
def axI:=ag @am <| ag @aT <| ag @aH.al @aC.al
def abY(Z:ab)(b D:Nat)(l:List aM)(s:aH)(lat p:Int)(w:aC)(hl:l.length<=90000000)(hs:s.ok) :
 eT 108 [.ptr (.out b) 0,.agg w.enc] (dP Z b D l s lat p) (.bw []) (dP Z b D (l++fB s w) s (bW (fD s.bc w.an)) p):=by
 refine fq func108 ?_;simp only[aP,axI,Nat.reduceAdd,Int.reduceNeg,bW,lg];refine bn.intro (yu s w.an (dP Z b D l s lat p) hs.1 hs.2.1) ?_;simp only[am,Int.reduceNeg,bW,lg,axm];cases hL:fD s.bc w.an with
 | none =>
  cases hV:jt s.vars w.an with
  | none =>
   have e:fB s w=[⟨3,w.pos⟩]:=by rw[fB,hL,hV];rfl
   simp only[am,bu,Int.reduceNeg,Int.reduceLT,lg];refine bn.intro (Ia Z b D l s (-1) p 3 w.pos (by omega)) ?_;simp only[am,bu,cX,Int.reduceNeg,Int.reduceLT,Int.reduceLE,lg];refine bn.intro (DE Z b D (l++[⟨3,w.pos⟩]) s (-1) p 4 w.pos (by simp;omega)) ?_;simp only[am,Int.reduceNeg];exact aN rfl (ab.a8 _) ⟨rfl,by rw[e]⟩
  | some j =>
   have e:fB s w=[⟨4,w.pos⟩]:=by rw[fB,hL,hV];rfl
   simp only[am,bu,Int.reduceNeg,Int.reduceLT,lg,aD (show ¬((j:Nat):Int)<0 by omega)];refine bn.intro (DE Z b D l s (-1) p 3 w.pos (by omega)) ?_;simp only[am,bu,Int.reduceNeg,Int.reduceLT,lg,aG (show(0:Int)<=((j:Nat):Int) by omega)];refine bn.intro (Ia Z b D l s (-1) p 4 w.pos (by omega)) ?_;simp only[am,Int.reduceNeg];exact aN rfl (ab.a8 _) ⟨rfl,by rw[e]⟩
 | some j =>
  have e:fB s w=[]:=by rw[fB,hL];rfl
  simp only[am,Int.reduceNeg,lg,aD (show ¬((j:Nat):Int)<0 by omega)];refine bn.intro (DE Z b D l s (j:Nat) p 3 w.pos (by omega)) ?_;simp only[am,Int.reduceNeg,lg,aD (show ¬((j:Nat):Int)<0 by omega)];refine bn.intro (DE Z b D l s (j:Nat) p 4 w.pos (by omega)) ?_;simp only[am,Int.reduceNeg];exact aN rfl (ab.a8 _) ⟨rfl,by rw[e,eC]⟩
def axk{b D:Nat}{l:List aM}{s:aH}{lat p:Int}(hg:TZ Z)(hb:Z.box b=ah):TZ (dP Z b D l s lat p):=hg
def abB(Z:ab)(b D:Nat)(l:List aM)(s:aH)(lat p:Int)(n:Nd)(hl:l.length<=90000000)(hs:s.ok)(hg:TZ Z)(hb:Z.box b=ah)(ju:lat<s.bc.length)(hc:n.cW<=100000)(hw:n.wt<=aJ) :
 eT 177 [.ptr (.out b) 0,.agg n.enc] (dP Z b D l s lat p) (.bw []) (dP Z b D (l++kK s lat n) s lat p):=by
 refine ajG.fK ?_;simp only[aP,rV,Nat.reduceAdd]
 by_cases h1:n.kind=1
 .simp only[am,Nd.fl,aG h1];refine cl (H_ Z b D l s lat p n.pos 1 n.an hl hs) ?_;simp only[am];exact aN rfl (ab.a8 _) ⟨rfl,by rw[kK,aL h1]⟩
 simp only[am,aD h1]
 by_cases h7:n.kind=7
 case neg =>
  simp only[am,aD h7];exact aN rfl (ab.a8 _) ⟨rfl,by rw[kK,aB h1,aB h7,eC]⟩
 simp only[am,aF,Nd.fl,aF,aG h7];have ea:kK s lat n=zc s lat n:=by rw[kK,aB h1,aL h7]
 by_cases hk:0<n.ae.length
 case neg =>
  simp only[am,aD (show ¬(0:Int)<(n.ae.length:Nat) by omega)];exact aN rfl (ab.a8 _) ⟨rfl,by rw[ea,zc,aB (λh=>hk h.1),eC]⟩
 simp only[am,lg,aG (show(0:Int)<(n.ae.length:Nat) by omega)]
 by_cases h0:0<=lat
 case neg =>
  simp only[am,aD h0];exact aN rfl (ab.a8 _) ⟨rfl,by rw[ea,zc,aB (λh=>h0 h.2),eC]⟩
 simp only[am,Nat.reduceAdd,bu,Nat.reduceLT,lg,aG h0];obtain⟨k,rfl⟩:∃k:Nat,lat=k:=⟨lat.toNat,by omega⟩;have mi:k<s.bc.length:=by omega
 have hm:n.ae[0]∈n.ae:=dQ _;have sk:=me hm;have sn:=iI hm;refine ix (tA mi) ?_;simp only[am,aH.al,Nd.fl];refine mG (n:=0) (by omega) (gH (j:=0) (bY hk)) ?_;simp only[am,bA.al,Nd.al];refine bn.intro (M' s.bc[k].shape n.ae[0] (axk hg hb) (hs.2.2 _ (dQ mi)) (λm hm=>by obtain⟨a,b,c⟩:=Fh (n:=n.ae[0]) (by omega) m hm;exact⟨by omega,by omega,λq hq=>by have:=c q hq;omega⟩) (by omega)) ?_;have eo:r_ s (k:Nat) n=(gN s.bc[k].shape n.ae[0]).2:=by rw[r_,iM,Fu mi,mB hk]
 have ee:kK s (k:Nat) n=match (gN s.bc[k].shape n.ae[0]).2 with | some q=>[⟨4,q⟩] | none=>[]:=by rw[ea,zc,aL ⟨hk,h0⟩,eo];cases (gN s.bc[k].shape n.ae[0]).2<;>rfl
 generalize gN s.bc[k].shape n.ae[0]=g at ee;obtain⟨e,o⟩:=g;cases o with
 | none =>
  simp only[am,Nat.reduceAdd,bu,br.al,show pf ah=[.int .i64 0,.int .i64 0] from rfl];refine bn.intro (DE Z b D l s (k:Nat) p 0 0 (by omega)) ?_;simp only[am];exact aN rfl (ab.a8 _) ⟨rfl,by rw[ee,eC]⟩
 | some q =>
  simp only[am,Nat.reduceAdd,cX,Int.reduceEq,br.al,show pf (U q)=[.int .i64 4,.int .i64 q] from rfl];refine bn.intro (Ia Z b D l s (k:Nat) p 4 q (by omega)) ?_;simp only[am];exact aN rfl (ab.a8 _) ⟨rfl,by rw[ee]⟩
theorem auQ(Z:ab)(b D b2 b4:Nat)(s:aH)(lat p:Int)(hs:s.ok)(hg:TZ Z)(hb:Z.box b=ah)(ju:lat<s.bc.length)(n2:b2≠b)(n4:b4≠b)(h2:Z.box b2=U [.ptr (.out b) 0])(h4:Z.box b4=U [.fn (.func 176) [] [.ptr (.out b2) 0,.ptr (.out b4) 0]]) :
 ∀(k:Nat) (n:Nd) (l:List aM),n.wt<=k->l.length+n.cW<=90000000->n.cW<=100000->n.wt<=aJ ->
 eT 176 [.agg n.enc,.ptr (.out b2) 0,.ptr (.out b4) 0] (dP Z b D l s lat p) (.bw []) (dP Z b D (l++gF s lat n) s lat p):=by
 have e2:∀l,(dP Z b D l s lat p).box b2=U [.ptr (.out b) 0]:=λl=>by rw[DL n2];exact h2
 have e4:∀l,(dP Z b D l s lat p).box b4=U [.fn (.func 176) [] [.ptr (.out b2) 0,.ptr (.out b4) 0]]:=λl=>by rw[DL n4];exact h4
 intro k;induction k with
 | zero=>intro n l h;have:=Nd.sW n;have:=Eb n;omega
 | succ k ih =>
  intro n l hk hl hc hw;refine fq func176 ?_;simp only[aP,am,aT,Nat.reduceAdd,Nd.al];simp only[am,Nd.al,e2];refine cl (abB Z b D l s lat p n (by omega) hs hg hb ju hc hw) ?_;have ha:=@IU s lat n;simp only[am,Nd.fl]
  by_cases Er:n.kind=1\/n.kind=7
  .have e:gF s lat n=kK s lat n:=by rw[Kt,aL Er,eC]
   have nR:(decide (n.kind=1)=aa)\/(decide (n.kind=1)=aq/\decide (n.kind=7)=aa):=by grind
   rcases nR with e1 | ⟨e1,e7⟩
   case' inl=>simp only[am,e1]
   case' inr=>simp only[am,Nd.fl,e1,e7]
   all_goals exact aN rfl (ab.a8 _) ⟨rfl,by rw[e]⟩
  have e:gF s lat n=kK s lat n++n.ae.flatMap (gF s lat):=by rw[Kt,aB Er]
  simp only[am,aF,Nd.fl,aF,aD (λh=>Er (.inl h)),aD (λh=>Er (.inr h))];have x_:=xK n;have uy:=Nd.sW n;refine ch (n.ae.length) (λi (x:Unit)=>⟨[.any,.ptr (.out b2) 0,.ptr (.out b4) 0,.ptr (.au 0) 0,.any,.any,.any,.any,.any,.any,.any,.any,.any,.any,.any,.any,.any,.any,.sl .no 5 (n.ae.map Nd.enc),.int .i64 (n.ae.length:Nat),.int .i64 (i:Nat)]++aj 7 .any,[n.enc],dP Z b D (l++kK s lat n++(n.ae.take i).flatMap (gF s lat)) s lat p⟩) (λi x=>(True)) λF hF JF aZ=>⟨?_,?_,?_⟩
  .exact en aZ (()) (trivial)
  .rintro i x hi -;have hm:n.ae[i]∈n.ae:=dQ _;have sk:=me hm;have sn:=iI hm;have hlen:=anq (s:=s) (lat:=lat) hi;simp only[hF,aj,am,cf hi];refine ix (gH (bY hi)) ?_;simp only[am,Nd.al,e4];refine cl (ih n.ae[i] _ (by omega) (by simp only[bL];omega) (by omega) (by omega)) ?_;simp only[am,aK,bt hi,eY];refine c7 (()) hi ?_ ?_ ?_ ?_ ?_ ?_
   .grind
   all_goals simp[hF,aj,am,ba,bE,cn,V.lo,A0 hi,eY,Nd.bR]
  .rintro x -;simp only[hF,aj,am,aK,ck,aK,du];exact aN rfl (ab.a8 _) ⟨rfl,by rw[e,eY]⟩
def abX(Z:ab)(b D:Nat)(l:List aM)(s:aH)(lat p:Int)(n:Nd)(hs:s.ok)(hg:TZ Z)(hb:Z.box b=ah)(ju:lat<s.bc.length)(hl:l.length+n.cW<=90000000)(hc:n.cW<=100000)(hw:n.wt<=aJ) :
 eT 109 [.ptr (.out b) 0,.agg n.enc] (dP Z b D l s lat p) (.bw []) (dP Z b D (l++gF s lat n) s lat p):=by
 have fresh:∀{x:Nat} {dx:ab},(dP dx b D l s lat p).box x=ah->x≠b:=λ{x dx} h=>by rintro rfl;rw[LO] at h;simp at h
 refine fq func109 ?_ ⟨[2,4],[]⟩;simp only[aP,am,aT,Nat.reduceAdd];intro b2 fv;have n2:=fresh fv;rw[DL n2] at fv;simp only[am,Nd.al];rw[acX n2];intro b4 Cw;have n4:=fresh Cw;rw[DL n4] at Cw;have Y8:b4≠b2:=by rintro rfl;simp[ab.set] at Cw
 have axW : Z.box b4=none:=by simpa [ab.set,Y8] using Cw
 simp only[am,Nd.al];rw[acX n4];have zt:TZ ((Z.set b2 [V.ptr (Pl.out b) 0]).set b4 [V.fn (Fn.func 176) [] [V.ptr (Pl.out b2) 0,V.ptr (Pl.out b4) 0]]):=hg;refine cl (auQ _ b D b2 b4 s lat p hs zt (by rw[sL n4.symm,sL n2.symm];exact hb) ju n2 n4 (by rw[sL Y8.symm,j6]) j6 n.wt n l (bU _) hl hc hw) ?_;simp only[am];exact aN rfl (ab.FB (acW n2 fv) (acW n4 Cw)) ⟨rfl,rfl⟩
def aua{l:List (List UInt8)}{x:List UInt8}:cu (l++[x])=cu l++[[.aQ x]]:=by simp[cu]
def sO{l:List aC}(h:j<l.length):(l.map aC.enc)[((j:Nat):Int).toNat]?=U l[j].enc:=by simp[h]
theorem ab7(Z:ab)(b D:Nat)(l:List aM)(s:aH)(lat p:Int)(n:Nd)(hs:s.ok)(hg:TZ Z)(hb:Z.box b=ah)(ju:lat<s.bc.length)(hl:l.length<=30000000)(hc:n.cW<=100000)(hw:n.wt<=aJ) :
 eT 111 [.ptr (.out b) 0,.agg n.enc] (dP Z b D l s lat p) (.bw []) (dP Z b D (l++pz s lat p n) s lat p):=by
 refine fq func111 ?_;simp only[aP,rV,Nat.reduceAdd]
 by_cases h1:n.kind=1
 .simp only[am,Nd.fl,aG h1];refine cl (H_ Z b D l s lat p n.pos 2 n.an (by omega) hs) ?_;simp only[am,Nd.fl,aD (show ¬n.kind=10 by omega)];exact aN rfl (ab.a8 _) ⟨rfl,by rw[pz,aL h1]⟩
 simp only[am,Nd.fl,aD h1]
 by_cases eK:n.kind=10
 case neg =>
  simp only[am,aD eK];exact aN rfl (ab.a8 _) ⟨rfl,by rw[pz,aB h1,aB eK,eC]⟩
 simp only[am,aF,Nd.fl,aF,aG eK];have CS:pz s lat p n=rr s lat n.ae n.ae.length++oD s lat n.ak++(if 16<n.ae.length then [⟨7,p⟩] else []):=by rw[pz,aB h1,aL eK]
 have x_:=xK n;have uy:=Ea n;have fw:∀k∈n.ae,k.ae.length<=100000:=λk hk=>by have:=xK k;have:=me hk;omega
 have nD:∀{i:Nat},i<=n.ae.length->(rr s lat n.ae i).length<=100000:=λ{i} hi=>by
  have:=Nv (s:=s) (lat:=lat) hi
  have:=MS n.ae i
  have:=Nd.sW n
  omega
 refine ch (n.ae.length) (λi (x:Tk × ab)=>⟨[.ptr (.out b) 0,.any,.any,.ptr (.au 0) 0,.sl x.1 1 (cu ((n.ae.take i).map Nd.an)),.any,.any,.any,.any,.any,.any,.any,.any,.any,.any,.any,.any,.any,.any,.any,.any,.any,.any,.any,.sl .no 5 (n.ae.map Nd.enc),.int .i64 (n.ae.length:Nat),.int .i64 (i:Nat)]++aj 57 .any,[n.enc],dP x.2 b D (l++rr s lat n.ae i) s lat p⟩) (λi x=>(Ah Z x.2 D x.1 i)) λF hF JF aZ=>⟨?_,?_,?_⟩
 .refine en aZ ((.aY,Z)) (Ah.nil) ?_ ?_ ?_
  all_goals simp[hF,aj,am,ba,rr,cu]
 .rintro i ⟨tk,bx⟩ hi hA;simp only at hA;have hm:n.ae[i]∈n.ae:=dQ _;have sk:=me hm;have sn:=iI hm;have si:=fw _ hm;have hL:=nD (F1 hi);have JW:TZ bx:=hA.sub.2.2 _ _ hg;have dX:bx.box b=none:=by rw[hA.box];exact hb
  have wK:((n.ae.take i).map Nd.an).length=i:=by grind
  have wH:n.ae.getD i iJ=n.ae[i]:=mB hi;simp only[hF,aj,am,cf hi];refine ix (gH (bY hi)) ?_;simp only[am,Nd.al,Nd.fl];refine bn.intro (cy.df (as' := [.sl .no 1 (cu ((n.ae.take i).map Nd.an)),.aQ n.ae[i].an]) (zg ((n.ae.take i).map Nd.an) n.ae[i].an _ (by omega)) ⟨dv.no,dv.rfl,trivial⟩ bp.rfl) ?_;simp only[am,Nd.fl,KQ];have ed:vj n.ae i=if (dL ((n.ae.take i).map Nd.an) n.ae[i].an).isSome then [⟨4,n.ae[i].pos⟩] else []:=by rw[vj,wH]
  have W5:(vj n.ae i).length<=1:=by grind
  refine bn.intro (Ag bx b D (l++rr s lat n.ae i) s lat p 4 n.ae[i].pos _ (by simp only[bL];omega)) ?_;rw[<-ed];simp only[am,Nd.fl];refine Ah.app (by rw[gk,wK];exact hA) (by simp[gk,aJ];omega) λgz gl Gz=>?_
  have Gz:Ah Z gl D gz (i+1):=by rw[bL,gk,wK] at Gz;exact Gz
  have zt:TZ gl:=Gz.sub.2.2 _ _ hg;have fv:gl.box b=none:=by rw[Gz.box];exact hb
  simp only[am,aF,Nd.fl,aF];refine ch (n.ae[i].ae.length) (λj (y:Unit)=>⟨[.ptr (.out b) 0,.any,.any,.ptr (.au 0) 0,.sl gz 1 (cu ((n.ae.take i).map Nd.an)++[[.aQ n.ae[i].an]]),.any,.any,.any,.any,.any,.any,.any,.any,.any,.any,.any,.any,.any,.any,.any,.any,.any,.any,.any,.sl .no 5 (n.ae.map Nd.enc),.int .i64 (n.ae.length:Nat),.int .i64 (i:Nat),.any,.any,.any,.any,.any,.any,.any,.any,.any,.any,.any,.any,.any,.any,.any,.any,.any,.any,.any,.any,.sl .no 5 (n.ae[i].ae.map Nd.enc),.int .i64 (n.ae[i].ae.length:Nat),.int .i64 (j:Nat)]++aj 34 .any,[n.enc,n.ae[i].enc],dP gl b D (l++rr s lat n.ae i++vj n.ae i++(n.ae[i].ae.take j).flatMap (kK s lat)) s lat p⟩) (λj y=>(True)) λF2 bV pI dr=>⟨?_,?_,?_⟩
  .refine en dr (()) (trivial) ?_ ?_ ?_
   all_goals simp[bV,aj,am,ba]
  .rintro j y hj -;have uv:n.ae[i].ae[j]∈n.ae[i].ae:=dQ _;have OL:=me uv;have OM:=iI uv;have JD:((n.ae[i].ae.take j).flatMap (kK s lat)).length<=100000:=by
    have:=xT (f:=kK s lat) (m:=1) (l:=n.ae[i].ae.take j) λ_ _=>IU
    grind
   simp only[bV,aj,am,cf hj];refine ix (gH (bY hj)) ?_;simp only[am,Nat.reduceAdd,Nd.al];refine cl (abB gl b D _ s lat p n.ae[i].ae[j] (by simp only[bL];omega) hs zt fv ju (by omega) (by omega)) ?_;simp only[am,aK,bt hj];refine c7 (()) hj ?_ ?_ ?_ ?_ ?_ ?_
   .grind
   all_goals simp[bV,aj,am,ba,bE,cn,V.lo,A0 hj,eY,Nd.bR]
  .rintro y -;simp only[bV,aj,am,aK,ck,Nat.reduceEqDiff,aK,reduceCtorEq,Nd.fl,aF,du,bt hi];have ef:rr s lat n.ae (i+1)=rr s lat n.ae i++(vj n.ae i++n.ae[i].ae.flatMap (kK s lat)):=by rw[VV,Cs,wH]
   have et:(n.ae.take (i+1)).map Nd.an=(n.ae.take i).map Nd.an++[n.ae[i].an]:=by rw[iB hi,gm];rfl
   refine c7 ((gz,gl)) hi ?_ ?_ ?_ ?_ ?_ ?_
   .grind
   all_goals simp[hF,aj,am,ba,bE,cn,V.lo,ef,et,aua,eY,Nd.bR]
 .rintro⟨tk,bx⟩ hA;simp only at hA;have hL:=nD (bU _);simp only[hF,aj,am,aK,ck,aK,Nd.fl,aF];refine ch (n.ak.length) (λj (y:Unit)=>⟨[.ptr (.out b) 0,.any,.any,.ptr (.au 0) 0,.any,.any,.any,.any,.any,.any,.any,.any,.any,.any,.any,.any,.any,.any,.any,.any,.any,.any,.any,.any,.any,.any,.any,.any,.any,.any,.any,.any,.any,.any,.any,.any,.any,.any,.any,.any,.any,.any,.any,.any,.any,.any,.any,.any,.any,.any,.any,.any,.any,.any,.any,.any,.any,.any,.any,.sl .no 2 (n.ak.map aC.enc),.int .i64 (n.ak.length:Nat),.int .i64 (j:Nat)]++aj 22 .any,[n.enc],dP bx b D (l++rr s lat n.ae n.ae.length++oD s lat (n.ak.take j)) s lat p⟩) (λj y=>(True)) λF3 lO S5 vt=>⟨?_,?_,?_⟩
  .refine en vt (()) (trivial) ?_ ?_ ?_
   all_goals simp[lO,aj,am,ba,oD]
  .rintro j y hk -;have WN:=@Lo s lat (n.ak.take j);rw[o8] at WN;simp only[lO,aj,am,cf hk];refine ix (sO hk) ?_;simp only[am,lg,aC.al];refine cl (H_ bx b D _ s lat p n.ak[j].pos 2 n.ak[j].an (by simp only[bL];omega) hs) ?_;simp only[am,aK,bt hk];have ef:oD s lat (n.ak.take (j+1))=oD s lat (n.ak.take j)++fY s lat n.ak[j].an n.ak[j].pos 2:=by rw[oD,A0 hk];rfl
   refine c7 (()) hk ?_ ?_ ?_ ?_ ?_ ?_
   .grind
   all_goals simp[lO,aj,am,ba,bE,cn,V.lo,ef,eY,Nd.bR]
  .rintro y -;have WN:=@Lo s lat n.ak;simp only[lO,aj,am,aK,ck,aK,lg,Nd.fl,aF,du];have bound:(l++rr s lat n.ae n.ae.length++oD s lat n.ak).length<=100000000:=by grind
   by_cases wD:16<n.ae.length
   .rw[aG (show(16:Int)<(n.ae.length:Nat) by omega)];refine bn.intro (Ia bx b D _ s lat p 7 p bound) ?_;simp only[am];exact aN rfl (acV hA.sub) ⟨rfl,by rw[CS,aL wD];simp only[eY]⟩
   .rw[aD (show ¬(16:Int)<(n.ae.length:Nat) by omega)];refine bn.intro (DE bx b D _ s lat p 7 p bound) ?_;simp only[am];exact aN rfl (acV hA.sub) ⟨rfl,by rw[CS,aB wD,eC,eY]⟩
def PN(Ap:Int)(l:List aA)(fin:Int)(Z:ab)(at_ D:Nat)(out:List Nd):St :=
 ⟨[.int .i64 Ap,.sl .no 5 (cE l),.int .i64 (at_:Nat),.int .i64 fin]++aj 4 .any++[.any,.ptr (.au 0) 0,.sl (.tk D) 5 (out.map Nd.enc)]++aj 24 .any,[Fc],Z.aU D out.length⟩
theorem ab1(Ap:Int)(one:List aA->Int->Int->bJ)(A9:uV one)(l:List aA)(fin:Int)(Z:ab)(hb:l.length+1<=aJ)
 (iq:∀(a:Nat),a<=l.length->∀(Z:ab),aR 156 [.int .i64 Ap,.sl .no 5 (cE l),.int .i64 (a:Nat),.int .i64 fin] Z (.agg (one l a fin).enc)) :
 aR 155 [.int .i64 Ap,.sl .no 5 (cE l),.int .i64 0,.int .i64 fin] Z (.bw [.sl .no 5 ((d_ (λi=>one l i fin) l (l.length+1) 0 []).1.map Nd.enc),.agg (d_ (λi=>one l i fin) l (l.length+1) 0 []).2.enc]):=by
 generalize hR:d_ (λi=>one l i fin) l (l.length+1) 0 []=R;refine fq func155 ?_;simp only[aP,am,aT,Nat.reduceAdd]
 let I:{p:Nat × Nat × Nat × List Nd // Z.aS p.2.2.1=ah/\d_ (λi=>one l i fin) l p.1 (p.2.1:Nat) p.2.2.2=R/\p.2.2.2.length<=p.2.1/\p.2.1<=l.length/\l.length+1<=p.2.1+p.1}->St:=λp=>PN Ap l fin Z p.1.2.1 p.1.2.2.1 p.1.2.2.2
 refine ep I (λp=>p.1.1) ?_ ?_
 .refine a7.uQ 0 λD aW=>⟨⟨(l.length+1,0,D,[]),aW,hR,by simp,by simp,by simp⟩,?_,rfl,rfl⟩
  simp[I,PN,aj,ji]
 .rintro⟨⟨m,at_,D,out⟩,aW,hR,h1,h2,h3⟩;simp only at aW hR h1 h2 h3;have hm:∃k,m=k+1:=⟨m - 1,by omega⟩;obtain⟨m,rfl⟩:=hm;simp only[I,PN,aj,am,Fc];refine(iq at_ h2 _).mono ?_;rintro v σ' ⟨rfl,rfl⟩;simp only[d_] at hR;have hK:=A9 l at_ fin;generalize hg:one l at_ fin=g at *;simp only[am,Nat.reduceAdd,bJ.enc,Nat.reduceAdd];cases cg:g.aO
  .rw[cg] at hR;simp only[am,Nat.reduceAdd];have hK:=hK cg;refine fg (by simp;omega) (by simp[dD]) ?_;simp only[am,aF,dU];refine(iY l g.next 44 _).mono ?_;rintro v σ' ⟨rfl,rfl⟩;cases nr:bd l g.next 44
   .simp only[am,Nat.reduceAdd];refine aN rfl (gV aW) ⟨?_,rfl⟩;rw[nr] at hR;simp only[dK,cz] at hR;simp[V.erase,a9,<-hR,cg,Nd.dk]
   .have az:=qM nr;simp only[aJ] at hb;obtain⟨b,cF⟩:=yN az.1;simp only[am];rw[wrap_i64];rw[nr] at hR;simp only[dK,cz,db] at hR;refine a7.nh ⟨(m,b+1,D,out++[g.node]),aW,?_,by simp;omega,by simp only;omega,by simp only;omega⟩ (by simp) ?_ ?_ ?_ rfl rfl
    .grind
    .simp[am,Nd.dk];omega
    .simp[am]
    .simp[bp.rfl]
  .rw[cg] at hR;simp only[am,Nat.reduceAdd];refine aN rfl (gV aW) ⟨?_,rfl⟩;simp[V.erase,a9,<-hR,cg]
theorem SB(Ap:Int)(one:List aA->Int->Int->bJ)(A9:uV one)(t:aA)(empty:Bool)(Z:ab)(hb:t.ae.length+1<=aJ)
 (iq:∀(a:Nat),a<=t.ae.length->∀(Z:ab),aR 156 [.int .i64 Ap,.sl .no 5 (cE t.ae),.int .i64 (a:Nat),.int .i64 t.fin] Z (.agg (one t.ae a t.fin).enc)) :
 aR 152 [.int .i64 Ap,.agg t.enc,.bool empty] Z (.bw [.sl .no 5 ((wholeAt one t empty).1.map Nd.enc),.agg (wholeAt one t empty).2.enc]):=by
 refine fq func152 ?_;simp only[aP,am,aT,am,dk,Nat.reduceAdd];have main:∀(bf:¬(empty=aa/\t.ae.length=0)),wholeAt one t empty=if (d_ (λi=>one t.ae i t.fin) t.ae (t.ae.length+1) 0 []).2.aO=aq/\(d_ (λi=>one t.ae i t.fin) t.ae (t.ae.length+1) 0 []).2.next<t.ae.length then([],eB t.ae (d_ (λi=>one t.ae i t.fin) t.ae (t.ae.length+1) 0 []).2.next t.fin) else(d_ (λi=>one t.ae i t.fin) t.ae (t.ae.length+1) 0 []):=λbf=>by
  unfold wholeAt
  grind
 by_cases hc:empty=aa/\t.ae.length=0
 .obtain⟨rfl,hk⟩:=hc;simp only[am,Nat.reduceAdd,eE,bu,eE,hk,pH,bu];refine aN rfl (ab.a8 _) ⟨?_,rfl⟩;simp[V.erase,a9,wholeAt,hk,bJ.enc,Nd.zero,Nd.kind,Nd.pos,Nd.an,Nd.ak,Nd.ae]
 .have main:=main hc;cases empty
  case' true =>
   have hk:¬((t.ae.length:Int)=0):=by grind
   simp only[am,eE,cX,eE,hk,cX]
  case' false =>
   simp only[am]
  all_goals
   refine cl (ab1 Ap one A9 t.ae t.fin Z hb iq) ?_;generalize (d_ (λi=>one t.ae i t.fin) t.ae (t.ae.length+1) 0 [])=R at main ⊢;simp only[am,Nat.reduceAdd,bJ.enc,Nat.reduceAdd];cases cg:R.2.aO
   .simp only[am,eE]
    by_cases hn:R.2.next<t.ae.length
    .simp only[am,bu,hn,bu];refine cl (qw t.ae R.2.next t.fin Z) ?_;simp only[am,Nat.reduceAdd,bJ.enc];refine aI ?_;simp[V.erase,a9,main,cg,hn]
    .simp only[am,Nat.reduceAdd,cX,hn,cX];refine aI ?_;simp[V.erase,a9,main,cg,hn]
   .simp only[am,Nat.reduceAdd];refine aI ?_;simp[V.erase,a9,main,cg]
variable{l:List aA}
def uR{t:aA}(h:l[j]?=U t):bT l (j:Nat)=t/\gv l (j:Nat)=t.tok:=by simp[bT,gv,h]
theorem C8{t:aA}(h:l[j]?=U t):bj t.ae+1<=bj l:=by
 have hl:=(kG.1 h).1;have h1:=Qv hl
 grind
def S1(n:Nat)(l:List aA):Prop:=∀(a fin:Int) (Z:ab),aR 154 [.sl .no 5 (cE l),.int .i64 a,.int .i64 fin] Z (.agg (jf n l a fin).enc)
def L4(n:Nat)(l:List aA):Prop:=∀(a fin:Int) (Z:ab),aR 94 [.sl .no 5 (cE l),.int .i64 a,.int .i64 fin] Z (.agg (gR n l a fin).enc)
def aqy{n:Nat}(h:S1 n l)(a fin:Int)(Z:ab):aR 156 [.int .i64 1,.sl .no 5 (cE l),.int .i64 a,.int .i64 fin] Z (.agg (jf n l a fin).enc):=by
 refine fq func156 ?_;simp only[aP,am,aT,Nat.reduceAdd,bu];refine cl (h a fin Z) ?_;simp only[am,Nat.reduceAdd,bJ.enc];refine aI ?_;rfl
def LQ:=ag @am <| ag @aT <| ag @bu @cX
def aqD{n:Nat}(h:L4 n l)(a fin:Int)(Z:ab):aR 156 [.int .i64 3,.sl .no 5 (cE l),.int .i64 a,.int .i64 fin] Z (.agg (gR n l a fin).enc):=by
 refine fq func156 ?_;simp only[aP,LQ,Nat.reduceAdd,Int.reduceEq];refine cl (h a fin Z) ?_;simp only[am,Nat.reduceAdd,bJ.enc];refine aI ?_;rfl
def aqF{n:Nat}(h:L4 n l)(a fin:Int)(Z:ab):aR 156 [.int .i64 5,.sl .no 5 (cE l),.int .i64 a,.int .i64 fin] Z (.agg (pM n l a fin).enc):=by
 refine fq func156 ?_;simp only[aP,LQ,Nat.reduceAdd,Int.reduceEq];refine cl (iY l a 43 Z) ?_;cases qF:bd l a 43
 .simp only[am];refine cl (iY l a 38 Z) ?_;cases pT:bd l a 38
  .simp only[am];refine cl (h a fin Z) ?_;simp only[am,Nat.reduceAdd,bJ.enc];refine aI ?_;simp[V.erase,a9,pM,qF,pT]
  .simp only[am];refine cl (qw l a fin Z) ?_;simp only[am,Nat.reduceAdd,bJ.enc];refine aI ?_;simp[V.erase,a9,pM,qF,pT]
 .simp only[am];refine cl (qw l a fin Z) ?_;simp only[am,Nat.reduceAdd,bJ.enc];refine aI ?_;simp[V.erase,a9,pM,qF]
def anl:List (List V):=[[.int .u8 97],[.int .u8 58],[.int .u8 123]]
def wP(k:Nat):Int:=if k=0 then 97 else if k=1 then 58 else 123
def PM(l:List aA)(a fin:Int)(Z:ab)(k:Nat):St :=
 ⟨[.sl .no 5 (cE l),.int .i64 a,.int .i64 fin,.any,.any,.any,.ptr (.au 0) 0,.int .i64 (k:Nat)]++aj 54 .any,[Fc],Z⟩
theorem atN(l:List aA)(a fin:Int)(Z:ab)(hm:bj l+1<=aJ)(ha : -1000<=a)(A8:a<=aJ):aR 209 [.sl .no 5 (cE l),.int .i64 a,.int .i64 fin] Z (.agg (rQ l a fin).enc):=by
 have hlen:=iv l;simp only[aJ] at hm A8;have wk:∀k:Nat,k<=3->IntKind.i64.wrap (a+(k:Int))=a+(k:Int):=λk hk=>wrap_i64 (by omega) (by omega)
 refine fq func209 ?_;simp only[aP,am,aT,Nat.reduceAdd];refine ep (λp:{k:Nat // k<=3/\∀j,j<k->bd l (a+(j:Nat)) (wP j)=aa}=>PM l a fin Z p.1) (λp=>3 - p.1) ?_ ?_
 .refine a7.enter ⟨0,by simp,by simp⟩ ?_ bX.rfl bp.rfl;simp[PM,aj,am]
 .rintro⟨k,hk,dd⟩;simp only[PM,aj,am,Fc]
  by_cases az:k<3
  .simp only[am,aG (show(k:Int)<3 by omega)];rw[show([[V.int .u8 97],[V.int .u8 58],[V.int .u8 123]]:List (List V))=anl from rfl];refine lz (c:=[.int .u8 (wP k)]) (by match k,az with | 0,_=>rfl | 1,_=>rfl | 2,_=>rfl) ?_;simp only[am,wk k hk];refine cl (iY l (a+(k:Nat)) (wP k) Z) ?_;cases hc:bd l (a+(k:Nat)) (wP k)
   .simp only[am,wk k hk];refine cl (qw l (a+(k:Nat)) fin Z) ?_;simp only[am,Nat.reduceAdd,bJ.enc];refine aN rfl (ab.a8 _) ⟨?_,rfl⟩;have b8:rQ l a fin=eB l (a+(k:Nat)) fin:=by
     unfold rQ
     match k,az with
     | 0,_=>rw[aL (by simpa [wP] using hc)];simp
     | 1, _ =>
      have h0:=dd 0 (by omega);rw[aB (by simpa [wP] using h0),aL (by simpa [wP] using hc)];rfl
     | 2, _ =>
      have h0:=dd 0 (by omega);have h1:=dd 1 (by omega);rw[aB (by simpa [wP] using h0),aB (by simpa [wP] using h1),aL (by simpa [wP] using hc)];rfl
    rw[b8];rfl
   .have wi:IntKind.i64.wrap ((k:Int)+1)=((k+1:Nat):Int):=by rw[wrap_i64];simp
    simp only[am,wi];refine a7.again ⟨k+1,by omega,λj hj=>?_⟩ (by simp;omega) (by simp[am]) (by simp[am]) bp.rfl
    grind
  .obtain rfl:k=3:=by omega
   have h0:bd l a 97=true:=by simpa [wP] using dd 0 (by omega)
   have h1:bd l (a+1) 58=true:=dd 1 (by omega);have h2:bd l (a+2) 123=true:=dd 2 (by omega);obtain⟨j,t0,rfl,ti,_,CN⟩:=jC h0;obtain⟨j2,t,CK,hj,_,hl⟩:=jC h2;obtain rfl:j2=j+2:=by omega
   have w2:IntKind.i64.wrap ((j:Int)+2)=((j+2:Nat):Int):=by grind
   have w3:IntKind.i64.wrap ((j:Int)+3)=(j:Int)+3:=wrap_i64 (by omega) (by omega);have hk:=C8 hj;obtain⟨_,ir⟩:=uR ti;have ht:bT l ((j:Int)+2)=t:=(uR hj).1;have b8:rQ l (j:Nat) fin=if (wholeAt nameAt t aa).2.aO=aa then(wholeAt nameAt t aa).2 else ⟨.mk 6 t0.tok.pos t0.tok.an (lb (wholeAt nameAt t aa).1) [],(j:Int)+3,aq,0⟩:=by simp[rQ,h0,h1,h2,ht,ir]
   simp only[am,cX,show(((3:Nat):Int)<3)=False by simp,w2];refine ix (iN hj) ?_;simp only[am,aA.al];refine cl (SC t aa Z (by have:=iv t.ae;simp only[aJ];omega)) ?_;have jO:=SD (one:=nameAt) t aa;have mi:=iv t.ae;generalize wholeAt nameAt t aa=R at b8 jO ⊢;simp only[am,Nat.reduceAdd,bJ.enc];cases cg:R.2.aO
   .simp only[am];refine ix (iN ti) ?_;simp only[am,aA.fl];refine ix (iN ti) ?_;simp only[am,aA.fl];refine bn.intro (HA R.1 Z (by simp only[aJ];omega)) ?_;simp only[am,Nat.reduceAdd,w3,aA.fl];refine aI ?_;simp[V.erase,a9,b8,cg,Nd.kind,Nd.pos,Nd.an,Nd.ak,Nd.ae]
   .simp only[am,Nat.reduceAdd];refine aI ?_;simp[V.erase,a9,b8,cg]
def aqC(hm:bj l+1<=aJ)(a:Nat)(ha:a<=aJ)(fin:Int)(Z:ab):aR 156 [.int .i64 2,.sl .no 5 (cE l),.int .i64 (a:Nat),.int .i64 fin] Z (.agg (rQ l a fin).enc):=by
 refine fq func156 ?_;simp only[aP,LQ,Nat.reduceAdd,Int.reduceEq];refine cl (atN l a fin Z hm (by omega) (by omega)) ?_;simp only[am,Nat.reduceAdd,bJ.enc];refine aI ?_;rfl
def agA:∀(n:Nat) (l:List aA),bj l<=n->bj l+1<=aJ->S1 n l:=by
 intro n;induction n with
 | zero =>
  intro l hn hm a fin Z;obtain rfl:l=[]:=by cases l with | nil=>rfl | cons t ts=>simp only[bj] at hn;omega
  have hk:∀k,bd [] a k=false:=λk=>by simp[bd]
  refine fq func154 ?_;simp only[aP,am,aT,Nat.reduceAdd];refine cl (iY [] a 97 Z) ?_;simp only[am,hk];refine cl (iY [] a 123 Z) ?_;simp only[am,hk];refine cl (iY [] a 40 Z) ?_;simp only[am,hk];refine cl (iY [] a 91 Z) ?_;simp only[am,hk];refine cl (qw [] a fin Z) ?_;simp only[am,Nat.reduceAdd,bJ.enc];refine aI ?_;simp[V.erase,a9,jf,sB,hk]
 | succ n ih =>
  intro l hn hm a fin Z;have hlen:=iv l;refine fq func154 ?_;simp only[aP,am,aT,Nat.reduceAdd];refine cl (iY l a 97 Z) ?_;cases dy:bd l a 97
  .simp only[am];refine cl (iY l a 123 Z) ?_;cases zj:bd l a 123
   .simp only[am];refine cl (iY l a 40 Z) ?_;cases uj:bd l a 40
    .simp only[am];refine cl (iY l a 91 Z) ?_;cases vr:bd l a 91
     .simp only[am];refine cl (qw l a fin Z) ?_;simp only[am,Nat.reduceAdd,bJ.enc];refine aI ?_;simp[V.erase,a9,jf,dy,zj,uj,vr]
     .obtain⟨j,t,rfl,hj,_,hl⟩:=jC vr;have hk:=C8 hj;have mi:=iv t.ae;obtain⟨ht,ir⟩:=uR hj;have w1:IntKind.i64.wrap ((j:Int)+1)=(j:Int)+1:=by simp only[aJ] at hm;exact wrap_i64 (by omega) (by omega)
      have b8:jf (n+1) l (j:Nat) fin=jB (wholeAt rQ t aa) (λks=>.mk 5 t.tok.pos [] [] ks) ((j:Int)+1):=by simp[jf,dy,zj,uj,vr,ht,ir]
      simp only[am];refine ix (iN hj) ?_;simp only[am,cX,aA.al,Int.reduceEq];refine cl (SB 2 rQ TH t aa Z (by omega) (λa ha Z=>aqC (by omega) a (by omega) t.fin Z)) ?_;generalize wholeAt rQ t aa=R at b8 ⊢;simp only[am,Nat.reduceAdd,bJ.enc];cases cg:R.2.aO
      .simp only[am];refine ix (iN hj) ?_;simp only[am,Nat.reduceAdd,cX,Int.reduceEq,aA.fl];simp only[w1];refine aI ?_;simp[V.erase,a9,b8,jB,cg,Nd.kind,Nd.pos,Nd.an,Nd.ak,Nd.ae]
      .simp only[am,Nat.reduceAdd];refine aI ?_;simp[V.erase,a9,b8,jB,cg]
    .obtain⟨j,t,rfl,hj,_,hl⟩:=jC uj;have hk:=C8 hj;obtain⟨ht,ir⟩:=uR hj;have w1:IntKind.i64.wrap ((j:Int)+1)=(j:Int)+1:=by simp only[aJ] at hm;exact wrap_i64 (by omega) (by omega)
     have b8:jf (n+1) l (j:Nat) fin=jB (wholeAt (jf n) t aq) (λks=>.mk 4 t.tok.pos [] [] ks) ((j:Int)+1):=by simp[jf,dy,zj,uj,ht,ir]
     simp only[am];refine ix (iN hj) ?_;simp only[am,bu,aA.al];refine cl (SB 1 (jf n) (Mr n) t aq Z (by have:=iv t.ae;omega) (λa _ Z=>aqy (ih t.ae (by omega) (by omega)) a t.fin Z)) ?_;generalize wholeAt (jf n) t aq=R at b8 ⊢;simp only[am,Nat.reduceAdd,bJ.enc];cases cg:R.2.aO
     .simp only[am];refine ix (iN hj) ?_;simp only[am,Nat.reduceAdd,cX,Int.reduceEq,aA.fl];simp only[w1];refine aI ?_;simp[V.erase,a9,b8,jB,cg,Nd.kind,Nd.pos,Nd.an,Nd.ak,Nd.ae]
     .simp only[am,Nat.reduceAdd];refine aI ?_;simp[V.erase,a9,b8,jB,cg]
   .obtain⟨j,t,rfl,hj,_,hl⟩:=jC zj;have hk:=C8 hj;have mi:=iv t.ae;obtain⟨ht,ir⟩:=uR hj;have w1:IntKind.i64.wrap ((j:Int)+1)=(j:Int)+1:=by simp only[aJ] at hm;exact wrap_i64 (by omega) (by omega)
    have b8:jf (n+1) l (j:Nat) fin=jB (wholeAt nameAt t aa) (λks=>.mk 3 t.tok.pos [] (lb ks) []) ((j:Int)+1):=by simp[jf,dy,zj,ht,ir]
    simp only[am];refine ix (iN hj) ?_;simp only[am,cX,aA.al,Int.reduceEq];refine cl (SC t aa Z (by omega)) ?_;have jO:=SD (one:=nameAt) t aa;generalize wholeAt nameAt t aa=R at b8 jO ⊢;simp only[am,Nat.reduceAdd,bJ.enc];cases cg:R.2.aO
    .simp only[am];refine ix (iN hj) ?_;simp only[am,Nat.reduceAdd,bu,aA.fl];refine cl (HA R.1 Z (by omega)) ?_;simp only[am,Nat.reduceAdd,w1];refine aI ?_;simp[V.erase,a9,b8,jB,cg,Nd.kind,Nd.pos,Nd.an,Nd.ak,Nd.ae]
    .simp only[am,Nat.reduceAdd];refine aI ?_;simp[V.erase,a9,b8,jB,cg]
  .obtain⟨j,t,rfl,hj,_,hl⟩:=jC dy;obtain⟨ht,ir⟩:=uR hj;have w1:IntKind.i64.wrap ((j:Int)+1)=(j:Int)+1:=by simp only[aJ] at hm;exact wrap_i64 (by omega) (by omega)
   simp only[am];refine ix (iN hj) ?_;simp only[am,aA.fl];refine ix (iN hj) ?_;simp only[am,Nat.reduceAdd,aA.fl,w1];refine aI ?_;simp[V.erase,a9,jf,sB,dy,ir,bJ.enc,Nd.kind,Nd.pos,Nd.an,Nd.ak,Nd.ae]
theorem P0:∀(n:Nat) (l:List aA),bj l<=n->bj l+1<=aJ->L4 n l:=by
 intro n;induction n with
 | zero =>
  intro l hn hm a fin Z;obtain rfl:l=[]:=by cases l with | nil=>rfl | cons t ts=>simp only[bj] at hn;omega
  have hk:∀a k,bd [] a k=false:=λa k=>by simp[bd]
  refine fq func94 ?_;simp only[aP,am,aT,Nat.reduceAdd];refine cl (iY [] a 97 Z) ?_;simp only[am,hk];refine cl (iY [] a 35 Z) ?_;simp only[am,hk];refine cl (iY [] a 43 Z) ?_;simp only[am,hk];refine cl (iY [] a 38 Z) ?_;simp only[am,hk];refine cl (qw [] a fin Z) ?_;simp only[am,Nat.reduceAdd,bJ.enc];refine aI ?_;simp[V.erase,a9,gR,sB,hk]
 | succ n ih =>
  intro l hn hm a fin Z;have hlen:=iv l;have w1:∀j:Nat,j<=l.length->IntKind.i64.wrap ((j:Int)+1)=((j+1:Nat):Int):=λj hj=>by simp only[aJ] at hm;rw[wrap_i64];simp
  have w2:∀j:Nat,j<=l.length->IntKind.i64.wrap ((j:Int)+2)=((j+2:Nat):Int):=λj hj=>by simp only[aJ] at hm;rw[wrap_i64];simp
  refine fq func94 ?_;simp only[aP,am,aT,Nat.reduceAdd];refine cl (iY l a 97 Z) ?_;cases dy:bd l a 97
  .simp only[am];refine cl (iY l a 35 Z) ?_;cases qE:bd l a 35
   .simp only[am];refine cl (iY l a 43 Z) ?_;cases qF:bd l a 43
    case' true =>
     obtain⟨j,t0,rfl,ti,_,CN⟩:=jC qF;have pT:bd l (j:Nat) 38=false:=by
      cases hq:bd l (j:Nat) 38 with
      | false=>rfl
      | true =>
       obtain⟨j',t',e,nJ,pZ,_⟩:=jC hq
       grind
     simp only[am,w1 j (by omega)]
    case' false =>
     simp only[am];refine cl (iY l a 38 Z) ?_;cases pT:bd l a 38
     .simp only[am];refine cl (qw l a fin Z) ?_;simp only[am,Nat.reduceAdd,bJ.enc];refine aI ?_;simp[V.erase,a9,gR,dy,qE,qF,pT]
     obtain⟨j,t0,rfl,ti,_,CN⟩:=jC pT;simp only[am,w1 j (by omega)]
    all_goals
     obtain⟨_,ir⟩:=uR ti;refine cl (iY l ((j+1:Nat):Int) 40 Z) ?_;cases uj:bd l ((j+1:Nat):Int) 40
     .simp only[am,w1 j (by omega)];refine cl (qw l ((j+1:Nat):Int) fin Z) ?_;simp only[am,Nat.reduceAdd,bJ.enc];have NO : bd l ((j:Int)+1) 40=false:=uj;have e:((j+1:Nat):Int)=(j:Int)+1:=rfl;refine aI ?_;simp[V.erase,a9,gR,dy,qE,qF,pT,NO,e]
     .obtain⟨j2,t,CK,hj,_,hl⟩:=jC uj;obtain rfl:j2=j+1:=by omega
      have hk:=C8 hj;have mi:=iv t.ae;have ht:bT l ((j:Int)+1)=t:=(uR hj).1;have NO : bd l ((j:Int)+1) 40=true:=uj;have b8:gR (n+1) l (j:Nat) fin=jB (wholeAt (gR n) t aq) (λks=>.mk (if bd l (j:Nat) 38=aa then 9 else 8) t0.tok.pos [] [] ks) ((j:Int)+2):=by simp[gR,dy,qE,qF,pT,NO,ht,ir]
      simp only[am,w1 j (by omega)];refine ix (iN hj) ?_;simp only[am,aA.al];refine cl (SB 3 (gR n) (F9 n) t aq Z (by omega) (λa _ Z=>aqD (ih t.ae (by omega) (by omega)) a t.fin Z)) ?_;generalize wholeAt (gR n) t aq=R at b8 ⊢;simp only[am,Nat.reduceAdd,bJ.enc];cases cg:R.2.aO
      .simp only[am];refine cl (iY l (j:Nat) 38 Z) ?_;simp only[am,pT];refine ix (iN ti) ?_;simp only[am,Nat.reduceAdd,aA.fl,w2 j (by omega)];refine aI ?_;simp[V.erase,a9,b8,jB,cg,Nd.kind,Nd.pos,Nd.an,Nd.ak,Nd.ae,pT]
      .simp only[am,Nat.reduceAdd];refine aI ?_;simp[V.erase,a9,b8,jB,cg]
   .obtain⟨j,t0,rfl,ti,_,CN⟩:=jC qE;obtain⟨_,ir⟩:=uR ti;have b8:gR (n+1) l (j:Nat) fin=(jf (n+1) l ((j:Int)+1) fin).put λm=>.mk 7 t0.tok.pos [] [] [m]:=by simp[gR,dy,qE,ir]
    simp only[am,w1 j (by omega)];refine cl (agA (n+1) l hn hm ((j+1:Nat):Int) fin Z) ?_;have e:jf (n+1) l ((j:Int)+1) fin=jf (n+1) l ((j+1:Nat):Int) fin:=rfl;rw[e] at b8;generalize jf (n+1) l ((j+1:Nat):Int) fin=g at b8 ⊢;simp only[am,Nat.reduceAdd,bJ.enc];cases cg:g.aO
    .simp only[am];refine ix (iN ti) ?_;simp only[am,Nat.reduceAdd,aA.fl];refine aI ?_;simp[V.erase,a9,b8,bJ.put,cg,Nd.kind,Nd.pos,Nd.an,Nd.ak,Nd.ae,Nd.dk]
    .simp only[am,Nat.reduceAdd];refine aI ?_;simp[V.erase,a9,b8,bJ.put,cg]
  .obtain⟨j,t,rfl,hj,_,hl⟩:=jC dy;obtain⟨ht,ir⟩:=uR hj;simp only[am];refine ix (iN hj) ?_;simp only[am,aA.fl];refine ix (iN hj) ?_;simp only[am,Nat.reduceAdd,aA.fl,w1 j (by omega)];refine aI ?_;simp[V.erase,a9,gR,sB,dy,ir,bJ.enc,Nd.kind,Nd.pos,Nd.an,Nd.ak,Nd.ae]
def ajj(n:Nat)(l:List aA)(hn:bj l<=n)(hm:bj l+1<=aJ)(a fin:Int)(Z:ab):aR 210 [.sl .no 5 (cE l),.int .i64 a,.int .i64 fin] Z (.agg (rp n l a fin).enc):=by
 have hlen:=iv l;have w1:∀j:Nat,j<=l.length->IntKind.i64.wrap ((j:Int)+1)=((j+1:Nat):Int):=λj hj=>by simp only[aJ] at hm;rw[wrap_i64];simp
 have w2:∀j:Nat,j<=l.length->IntKind.i64.wrap ((j:Int)+2)=((j+2:Nat):Int):=λj hj=>by simp only[aJ] at hm;rw[wrap_i64];simp
 refine fq func210 ?_;simp only[aP,am,aT,Nat.reduceAdd];refine cl (iY l a 97 Z) ?_;cases dy:bd l a 97
 .simp only[am];refine cl (qw l a fin Z) ?_;simp only[am,Nat.reduceAdd,bJ.enc];refine aI ?_;simp[V.erase,a9,rp,dy]
 .obtain⟨j,t0,rfl,ti,_,CN⟩:=jC dy;obtain⟨_,ir⟩:=uR ti;simp only[am,w1 j (by omega)];refine cl (iY l ((j+1:Nat):Int) 61 Z) ?_;cases WE:bd l ((j+1:Nat):Int) 61
  .have NP : bd l ((j:Int)+1) 61=false:=WE;have e:((j+1:Nat):Int)=(j:Int)+1:=rfl;simp only[am,w1 j (by omega)];refine cl (qw l ((j+1:Nat):Int) fin Z) ?_;simp only[am,Nat.reduceAdd,bJ.enc];refine aI ?_;simp[V.erase,a9,rp,dy,NP,e]
  .have NP : bd l ((j:Int)+1) 61=true:=WE;have b8:rp n l (j:Nat) fin=(pM n l ((j+2:Nat):Int) fin).put λm=>.mk 11 t0.tok.pos t0.tok.an [] [m]:=by
    have e:((j+2:Nat):Int)=(j:Int)+2:=rfl;simp[rp,dy,NP,ir,e]
   simp only[am,w2 j (by omega)];refine cl (aqF (P0 n l hn hm) ((j+2:Nat):Int) fin Z) ?_;generalize pM n l ((j+2:Nat):Int) fin=g at b8 ⊢;simp only[am,Nat.reduceAdd,bJ.enc];cases cg:g.aO
   .simp only[am];refine ix (iN ti) ?_;simp only[am,aA.fl];refine ix (iN ti) ?_;simp only[am,Nat.reduceAdd,aA.fl];refine aI ?_;simp[V.erase,a9,b8,bJ.put,cg,Nd.kind,Nd.pos,Nd.an,Nd.ak,Nd.ae,Nd.dk]
   .simp only[am,Nat.reduceAdd];refine aI ?_;simp[V.erase,a9,b8,bJ.put,cg]
def aqE{n:Nat}(hn:bj l<=n)(hm:bj l+1<=aJ)(a fin:Int)(Z:ab):aR 156 [.int .i64 4,.sl .no 5 (cE l),.int .i64 a,.int .i64 fin] Z (.agg (rp n l a fin).enc):=by
 refine fq func156 ?_;simp only[aP,LQ,Nat.reduceAdd,Int.reduceEq];refine cl (ajj n l hn hm a fin Z) ?_;simp only[am,Nat.reduceAdd,bJ.enc];refine aI ?_;rfl
theorem atr(n:Nat)(l:List aA)(hn:bj l<=n)(hm:bj l+1<=aJ)(a fin:Int)(Z:ab):aR 95 [.sl .no 5 (cE l),.int .i64 a,.int .i64 fin] Z (.agg (j5 n l a fin).enc):=by
 have hlen:=iv l;have w1:∀j:Nat,j<=l.length->IntKind.i64.wrap ((j:Int)+1)=((j+1:Nat):Int):=λj hj=>by simp only[aJ] at hm;rw[wrap_i64];simp
 refine fq func95 ?_;simp only[aP,am,aT,Nat.reduceAdd];refine cl (iY l a 97 Z) ?_;cases dy:bd l a 97
 case' true =>
  simp only[am];refine cl (P0 n l hn hm a fin Z) ?_;simp only[am,Nat.reduceAdd,bJ.enc];refine aI ?_;simp[V.erase,a9,j5,dy]
 simp only[am];refine cl (iY l a 91 Z) ?_;cases vr:bd l a 91
 .simp only[am];refine cl (qw l a fin Z) ?_;simp only[am,Nat.reduceAdd,bJ.enc];refine aI ?_;simp[V.erase,a9,j5,dy,vr]
 obtain⟨j,t,rfl,hj,_,hl⟩:=jC vr;obtain⟨ht,ir⟩:=uR hj;have hk:=C8 hj;have mi:=iv t.ae;have b8:j5 n l (j:Nat) fin=if 0<t.ae.length/\bd t.ae 0 124=aq then(if (rO n l (j:Nat)).2.aO=aa then(rO n l (j:Nat)).2 else l9 l (j:Nat) (rO n l (j:Nat)).1 (rO n l (j:Nat)).2.next) else l9 l (j:Nat) [] 0:=by simp[j5,dy,vr,ht]
 simp only[am];refine ix (iN hj) ?_;simp only[am,Nat.reduceAdd,eE,aA.al,aA.fl,aA.fl]
 by_cases iH:0<t.ae.length
 .simp only[am,aA.fl,aG (show(0:Int)<t.ae.length by omega)];refine cl (iY t.ae 0 124 Z) ?_;cases h0:bd t.ae 0 124
  .rw[aL ⟨iH,h0⟩] at b8;simp only[am,aA.fl];refine cl (ab1 4 (rp n) (TG n) t.ae t.fin Z (by omega) (λa _ Z=>aqE (by omega) (by omega) a t.fin Z)) ?_;have hrs:rO n l (j:Nat)=d_ (λi=>rp n t.ae i t.fin) t.ae (t.ae.length+1) 0 []:=by unfold rO;rw[ht]
   rw[hrs] at b8;generalize d_ (λi=>rp n t.ae i t.fin) t.ae (t.ae.length+1) 0 []=R at b8 ⊢;simp only[am,Nat.reduceAdd,bJ.enc];cases Oe:R.2.aO
   .rw[Oe] at b8;simp only[dK,cz] at b8;simp only[am,aA.fl];have b8:j5 n l (j:Nat) fin=l9 l (j:Nat) R.1 R.2.next:=b8;refine cl (iY t.ae R.2.next 124 Z) ?_;cases s5:bd t.ae R.2.next 124
    .simp only[am,eE,aA.fl]
     by_cases fA:(R.2.next:Int)<t.ae.length
     .simp only[am,aA.fl,aG fA];refine cl (qw t.ae R.2.next t.fin Z) ?_;simp only[am,Nat.reduceAdd,bJ.enc];unfold l9 at b8;rw[ht,aB (by simp[s5])] at b8;unfold qi at b8;rw[ht,aL fA] at b8;refine aI ?_;simp[V.erase,a9,b8]
     .simp only[am,Nat.reduceAdd,aD fA,w1 j (by omega)];unfold l9 at b8;rw[ht,aB (by simp[s5])] at b8;unfold qi at b8;rw[ht,aB fA] at b8;refine aI ?_;simp[V.erase,a9,b8,ir,Nd.kind,Nd.pos,Nd.an,Nd.ak,Nd.ae]
    .obtain⟨b,tb,hb,J1,_,Bg⟩:=jC s5;have w2:IntKind.i64.wrap ((R.2.next:Int)+1)=((b+1:Nat):Int):=by simp only[aJ] at hm;rw[hb,wrap_i64];simp
     have e2:nameAt t.ae ((R.2.next:Int)+1) t.fin=nameAt t.ae ((b+1:Nat):Int) t.fin:=by grind
     simp only[am,aA.fl,w2];refine cl (QA t.ae ((b+1:Nat):Int) t.fin Z (by omega)) ?_;have b8:j5 n l (j:Nat) fin=if (nameAt t.ae ((b+1:Nat):Int) t.fin).aO=aa then nameAt t.ae ((b+1:Nat):Int) t.fin else qi l (j:Nat) R.1 (lb [(nameAt t.ae ((b+1:Nat):Int) t.fin).node]) (nameAt t.ae ((b+1:Nat):Int) t.fin).next:=by rw[b8];simp only[l9,ht,s5,db,e2]
     generalize nameAt t.ae ((b+1:Nat):Int) t.fin=g at b8 ⊢;simp only[am,Nat.reduceAdd,bJ.enc];cases cg:g.aO
     .rw[cg] at b8;simp only[dK,cz] at b8;simp only[am,Nat.reduceAdd];refine((HA [g.node] Z (by simp[aJ])).df (by simp[am,Nd.dk]) bp.rfl).mono ?_;rintro v Z ⟨rfl,rfl⟩;simp only[am,eE,aA.fl]
      by_cases fA:g.next<t.ae.length
      .simp only[am,aA.fl,aG fA];refine cl (qw t.ae g.next t.fin Z) ?_;simp only[am,Nat.reduceAdd,bJ.enc];refine aI ?_;simp[V.erase,a9,b8,qi,ht,fA]
      .simp only[am,Nat.reduceAdd,aD fA,w1 j (by omega)];refine aI ?_;simp[V.erase,a9,b8,qi,ht,fA,ir,Nd.kind,Nd.pos,Nd.an,Nd.ak,Nd.ae]
     .rw[cg] at b8;simp only[am,Nat.reduceAdd];refine aI ?_;simp[V.erase,a9,b8,cg]
   .rw[Oe] at b8;simp only[am,Nat.reduceAdd];refine aI ?_;simp[V.erase,a9,b8,Oe]
  .rw[aB (by simp[h0])] at b8;simp only[am,aA.fl];have b8:j5 n l (j:Nat) fin=l9 l (j:Nat) [] 0:=b8;refine cl (iY t.ae 0 124 Z) ?_;cases s5:bd t.ae 0 124
   .grind
   .obtain⟨b,tb,hb,J1,_,Bg⟩:=jC s5;have w2:IntKind.i64.wrap ((0:Int)+1)=((b+1:Nat):Int):=by grind
    have e2:nameAt t.ae ((0:Int)+1) t.fin=nameAt t.ae ((b+1:Nat):Int) t.fin:=by grind
    simp only[am,aA.fl,w2];refine cl (QA t.ae ((b+1:Nat):Int) t.fin Z (by omega)) ?_;have b8:j5 n l (j:Nat) fin=if (nameAt t.ae ((b+1:Nat):Int) t.fin).aO=aa then nameAt t.ae ((b+1:Nat):Int) t.fin else qi l (j:Nat) [] (lb [(nameAt t.ae ((b+1:Nat):Int) t.fin).node]) (nameAt t.ae ((b+1:Nat):Int) t.fin).next:=by rw[b8];simp only[l9,ht,s5,db,e2]
    generalize nameAt t.ae ((b+1:Nat):Int) t.fin=g at b8 ⊢;simp only[am,Nat.reduceAdd,bJ.enc];cases cg:g.aO
    .rw[cg] at b8;simp only[dK,cz] at b8;simp only[am,Nat.reduceAdd];refine((HA [g.node] Z (by simp[aJ])).df (by simp[am,Nd.dk]) bp.rfl).mono ?_;rintro v Z ⟨rfl,rfl⟩;simp only[am,eE,aA.fl]
     by_cases fA:g.next<t.ae.length
     .simp only[am,aA.fl,aG fA];refine cl (qw t.ae g.next t.fin Z) ?_;simp only[am,Nat.reduceAdd,bJ.enc];refine aI ?_;simp[V.erase,a9,b8,qi,ht,fA]
     .simp only[am,Nat.reduceAdd,aD fA,w1 j (by omega)];refine aI ?_;simp[V.erase,a9,b8,qi,ht,fA,ir,Nd.kind,Nd.pos,Nd.an,Nd.ak,Nd.ae]
    .rw[cg] at b8;simp only[am,Nat.reduceAdd];refine aI ?_;simp[V.erase,a9,b8,cg]
 .rw[aB (λh=>iH h.1)] at b8;simp only[am,aA.fl,aD (show ¬(0:Int)<t.ae.length by omega)];have b8:j5 n l (j:Nat) fin=l9 l (j:Nat) [] 0:=b8;refine cl (iY t.ae 0 124 Z) ?_;cases s5:bd t.ae 0 124
  .simp only[am,eE,aA.fl]
   by_cases fA:(0:Int)<t.ae.length
   .omega
   .simp only[am,Nat.reduceAdd,aD fA,w1 j (by omega)];unfold l9 at b8;rw[ht,aB (by simp[s5])] at b8;unfold qi at b8;rw[ht,aB fA] at b8;refine aI ?_;simp[V.erase,a9,b8,ir,bJ.enc,Nd.kind,Nd.pos,Nd.an,Nd.ak,Nd.ae]
  .obtain⟨b,tb,hb,J1,_,Bg⟩:=jC s5;omega
def akb{op:Int}(h0:0<=op)(h1:op<16):(j8.map λp=>[V.aQ p.1])[op.toNat]?=U [V.aQ (cm op).1]:=by
 have hl:op.toNat<j8.length:=by simp[j8];omega
 rw[AD,bY hl];simp only[cm,aL (show 0<=op/\op<16 from⟨h0,h1⟩),List.getD,bY hl,yX,DZ]
def akc{op:Int}(h0:0<=op)(h1:op<16):(j8.map λp=>[V.aQ p.2])[op.toNat]?=U [V.aQ (cm op).2]:=by
 have hl:op.toNat<j8.length:=by simp[j8];omega
 rw[AD,bY hl];simp only[cm,aL (show 0<=op/\op<16 from⟨h0,h1⟩),List.getD,bY hl,yX,DZ]
def TD(op:Int)(Z:ab):aR 44 [.int .i64 op] Z (.aQ (cm op).1):=by
 refine fq func44 ?_;simp only[aP,am,aT,Nat.reduceAdd]
 by_cases h0:op<0
 .simp only[am,aG h0];refine aI ?_;simp[V.erase,cm,show ¬(0<=op/\op<16) by omega]
 .simp only[am,Nat.reduceAdd,aD h0]
  by_cases h1:16<=op
  .simp only[am,aG (show((16:Nat):Int)<=op from h1)];refine aI ?_;simp[V.erase,cm,show ¬(0<=op/\op<16) by omega]
  .simp only[am,aD (show ¬((16:Nat):Int)<=op from h1)];refine lz (akb (by omega) (by omega)) ?_;simp only[am];exact rt
def Qc(op:Int)(Z:ab):aR 45 [.int .i64 op] Z (.aQ (cm op).2):=by
 refine fq func45 ?_;simp only[aP,am,aT,Nat.reduceAdd]
 by_cases h0:op<0
 .simp only[am,aG h0];refine aI ?_;simp[V.erase,cm,show ¬(0<=op/\op<16) by omega]
 .simp only[am,Nat.reduceAdd,aD h0]
  by_cases h1:16<=op
  .simp only[am,aG (show((16:Nat):Int)<=op from h1)];refine aI ?_;simp[V.erase,cm,show ¬(0<=op/\op<16) by omega]
  .simp only[am,aD (show ¬((16:Nat):Int)<=op from h1)];refine lz (akc (by omega) (by omega)) ?_;simp only[am];exact rt
def ao4(l:List aA)(a:Nat)(Z:ab):aR 90 [.sl .no 5 (cE l),.int .i64 (a:Nat)] Z (.bool (bd l (a:Nat) 97)):=by
 refine fq func90 ?_;simp only[aP,am,aT,Nat.reduceAdd]
 by_cases h:a<l.length
 .simp only[am,eE,aG (show(a:Int)<l.length by omega)];refine ix (iN (bY h)) ?_;simp only[am,aA.fl];refine aI ?_;simp[V.erase,bd,h]
 .simp only[am,eE,aD (show ¬(a:Int)<l.length by omega)];refine aI ?_;simp[V.erase,bd,AB (show l.length<=a by omega)]
def E8(l:List aA)(a:Nat)(fin:Int)(Z:ab):aR 91 [.sl .no 5 (cE l),.int .i64 (a:Nat),.int .i64 fin] Z (.int .i64 (kA l (a:Nat) fin)):=by
 refine fq func91 ?_;simp only[aP,am,aT,Nat.reduceAdd]
 by_cases h:a<l.length
 .simp only[am,eE,aG (show(a:Int)<l.length by omega)];refine ix (iN (bY h)) ?_;simp only[am,aA.fl];refine aI ?_;simp[V.erase,kA,h]
 .simp only[am,eE,aD (show ¬(a:Int)<l.length by omega)];refine aI ?_;simp[V.erase,kA,AB (show l.length<=a by omega)]
def PO{k:Int}(h:j<l.length):bd l (j:Nat) k=decide (l[j].tok.kind=k):=by simp[bd,h]
def XT{k:Int}(h:¬j<l.length):bd l (j:Nat) k=false:=by simp only[bd,iM];rw[AB (by omega)];simp
def acp{t:aA}:takeN 3 t.enc=U [.int .u8 t.tok.kind,.aQ t.tok.an,.int .i64 t.tok.pos]:=by rw[dk];rfl
def Bs(k:Nat):Int:=if k=1 then 60 else 97
def atu:List (List V):=[[.int .u8 97],[.int .u8 60],[.int .u8 97]]
def zK(t:aA)(Z:ab)(a D:Nat)(acc:List (aC × aC)):St :=
 ⟨[.any,.ptr (.au 0) 0,.any,.any,.sl (.tk D) 4 (acc.map eJ),.int .i64 (a:Nat)]++aj 100 .any,[t.enc],Z.aU D acc.length⟩
def PL(t:aA)(Z:ab)(a D:Nat)(acc:List (aC × aC))(k:Nat):St :=
 ⟨[.any,.ptr (.au 0) 0,.any,.any,.sl (.tk D) 4 (acc.map eJ),.int .i64 (a:Nat),.int .i64 (k:Nat)]++aj 99 .any,[t.enc],Z.aU D acc.length⟩
abbrev PF(t:aA)(Z:ab)(R:List (aC × aC) × Int):={p:Nat × Nat × List (aC × aC) × Nat // Z.aS p.2.2.2=ah/\tI t.ae t.fin p.1 p.2.1 p.2.2.1=R/\p.2.2.1.length<=p.2.1/\p.2.1<=t.ae.length/\t.ae.length+1<=p.2.1+p.1}
def ara(t:aA)(Z:ab)(hm:t.ae.length+8<=aJ):aR 93 [.agg t.enc] Z (.bw [.sl .no 4 ((vY t).1.map eJ),.int .i64 (vY t).2]):=by
 simp only[aJ] at hm;refine fq func93 ?_;simp only[aP,am,aT,Nat.reduceAdd,aA.al]
 by_cases CM:t.ae.length=0
 .have hR:vY t=([],-1):=by unfold vY;rw[aL CM]
  rw[hR];refine ep (λ_:Unit=>⟨[.any,.ptr (.au 0) 0,.any,.any,.any,.int .i64 0]++aj 100 .any,[t.enc],Z⟩) (λ_=>0) ?_ ?_
  .refine a7.enter () ?_ (by simp[am]) bp.rfl;simp[aj,am]
  .rintro _;simp only[aj];simp only[am,eE,cX,aA.fl,Int.reduceLT,CM,show(((0:Nat):Int))=0 from rfl];exact rt
 .generalize hR:tI t.ae t.fin (t.ae.length+1) 0 []=R;have hR0:vY t=R:=by unfold vY;rw[aB CM,hR]
  rw[hR0];refine ep (λp:PF t Z R=>zK t Z p.1.2.1 p.1.2.2.2 p.1.2.2.1) (λp=>p.1.1) ?_ ?_
  .refine a7.uQ 0 λD aW=>⟨⟨(t.ae.length+1,0,[],D),aW,hR,by simp,by simp,by simp⟩,?_,rfl,rfl⟩
   simp[zK,aj,ji]
  .rintro⟨⟨n,a,acc,D⟩,aW,hR,h1,h2,h3⟩;simp only at aW hR h1 h2 h3;obtain⟨m,rfl⟩:∃m,n=m+1:=⟨n - 1,by omega⟩;simp only[zK,aj];simp only[am,eE,aA.fl];have hw:∀k:Nat,k<=3->IntKind.i64.wrap ((a:Int)+(k:Int))=((a+k:Nat):Int):=λk hk=>by rw[wrap_i64];simp
   by_cases ha:a<t.ae.length
   case' pos =>
    simp only[am,aG (show(a:Int)<t.ae.length by omega)]
   case' neg =>
    simp only[am,aD (show ¬(a:Int)<t.ae.length by omega),aG (show(0:Int)<a by omega)]
   all_goals
    refine ep (λp:{k:Nat // k<=3/\∀j,j<k->bd t.ae ((a+j:Nat):Int) (Bs j)=aa}=>PL t Z a D acc p.1) (λp=>3 - p.1) ?_ ?_
    .refine a7.enter ⟨0,by simp,by simp⟩ ?_ bX.rfl bp.rfl;simp[PL,aj,am]
    .rintro⟨k,hk,dd⟩;simp only[PL,aj]
     by_cases az:k<3
     .simp only[am,eE,aA.fl,aG (show(k:Int)<3 by omega),hw k hk];have wk:IntKind.i64.wrap ((k:Int)+1)=((k+1:Nat):Int):=by rw[wrap_i64];simp
      have b8:bd t.ae ((a+k:Nat):Int) (Bs k)=aq->R=([],kA t.ae ((a+k:Nat):Int) t.fin):=λhf=>by
       rw[<-hR];simp only[tI]
       match k,az with
       | 0, _ =>
        have hf:bd t.ae (a:Nat) 97=false:=hf;rw[aL hf];rfl
       | 1, _ =>
        have q0:bd t.ae (a:Nat) 97=true:=dd 0 (by omega);have hf:bd t.ae ((a+1:Nat):Int) 60=false:=hf;rw[aB (by rw[q0];decide),aL hf]
       | 2, _ =>
        have q0:bd t.ae (a:Nat) 97=true:=dd 0 (by omega);have q1:bd t.ae ((a+1:Nat):Int) 60=true:=dd 1 (by omega);have hf:bd t.ae ((a+2:Nat):Int) 97=false:=hf;rw[aB (by rw[q0];decide),aB (by rw[q1];decide),aL hf]
      by_cases eM:a+k<t.ae.length
      .simp only[am,aA.fl,aD (show ¬(t.ae.length:Int)<=((a+k:Nat):Int) by omega),hw k hk];refine lz (iN (bY eM)) ?_;simp only[am,aA.fl];rw[show([[V.int .u8 97],[V.int .u8 60],[V.int .u8 97]]:List (List V))=atu from rfl];refine lz (c:=[.int .u8 (Bs k)]) (by match k,az with | 0,_=>rfl | 1,_=>rfl | 2,_=>rfl) ?_;have EA:bd t.ae ((a+k:Nat):Int) (Bs k)=decide (t.ae[a+k].tok.kind=Bs k):=PO eM
       by_cases fw:t.ae[a+k].tok.kind=Bs k
       .simp only[am,aG fw,wk];refine a7.again ⟨k+1,by omega,λj hj=>?_⟩ (by simp;omega) (by simp[am]) (by simp[am]) bp.rfl
        by_cases e:j=k
        .subst e;rw[EA];exact aG fw
        .exact dd j (by omega)
       .have hf:bd t.ae ((a+k:Nat):Int) (Bs k)=false:=by rw[EA];exact aD fw
        simp only[am,aA.fl,aD fw,hw k hk];refine(E8 t.ae (a+k) t.fin _).mono ?_;rintro v σ' ⟨rfl,rfl⟩;simp only[am];refine aN rfl (gV aW) ⟨?_,rfl⟩;simp[V.erase,a9,b8 hf]
      .have hf:bd t.ae ((a+k:Nat):Int) (Bs k)=false:=XT eM;simp only[am,aA.fl,aG (show(t.ae.length:Int)<=((a+k:Nat):Int) by omega),hw k hk];refine(E8 t.ae (a+k) t.fin _).mono ?_;rintro v σ' ⟨rfl,rfl⟩;simp only[am];refine aN rfl (gV aW) ⟨?_,rfl⟩;simp[V.erase,a9,b8 hf]
     .obtain rfl:k=3:=by omega
      have q0:bd t.ae (a:Nat) 97=true:=dd 0 (by omega);have q1:bd t.ae ((a+1:Nat):Int) 60=true:=dd 1 (by omega);have q2:bd t.ae ((a+2:Nat):Int) 97=true:=dd 2 (by omega);have iW:=(qM q2).2;have WZ:a<t.ae.length:=by omega
      have A8:a+2<t.ae.length:=by omega
      simp only[tI,q0,q1,q2,sS,cz] at hR;have w2:IntKind.i64.wrap ((a:Int)+2)=((a+2:Nat):Int):=hw 2 (by omega);have w3:IntKind.i64.wrap ((a:Int)+3)=((a+3:Nat):Int):=hw 3 (by omega);have w4:IntKind.i64.wrap (((a+3:Nat):Int)+1)=((a+4:Nat):Int):=by rw[wrap_i64];omega
      simp only[am,Nat.reduceAdd,Nat.reduceEqDiff,bu,cX,aA.fl,Nat.reduceLT,show(((3:Nat):Int)<3)=False by simp];refine lz (iN (bY WZ)) ?_;simp only[am,aA.fl,acp,w2];refine lz (iN (bY A8)) ?_;simp only[am,Nat.reduceAdd,aA.fl,acp];refine fg (by rw[aF];simp[aJ];omega) (by rw[aF,dD]) ?_;have N8:acc.map eJ++[[V.aQ t.ae[a].tok.an,V.int .i64 t.ae[a].tok.pos,V.aQ t.ae[a+2].tok.an,V.int .i64 t.ae[a+2].tok.pos]]=(acc++[(re t.ae (a:Nat),re t.ae ((a+2:Nat):Int))]).map eJ:=by simp[eJ,re,gv,WZ];rw[show((a:Int)+2).toNat=a+2 by omega];simp[A8]
      rw[N8];generalize hac:acc++[(re t.ae (a:Nat),re t.ae ((a+2:Nat):Int))]=ri at hR ⊢;have hle:ri.length=acc.length+1:=by rw[<-hac];simp
      simp only[am,eE,aF,aA.fl,dU,w3]
      by_cases fA:a+3=t.ae.length
      .rw[aL fA] at hR;simp only[am,aG (show((a+3:Nat):Int)=(t.ae.length:Nat) by omega)];refine aN rfl (gV aW) ⟨?_,rfl⟩;simp[V.erase,a9,<-hR]
      .rw[aB fA] at hR;have W0:a+3<t.ae.length:=by omega
       simp only[am,aA.fl,aD (show ¬((a+3:Nat):Int)=(t.ae.length:Nat) by omega)];refine lz (iN (bY W0)) ?_;simp only[am,aA.fl];have nr:=PO (k:=44) W0
       by_cases hk:t.ae[a+3].tok.kind=44
       .rw[aB (by rw[nr,aG hk];decide)] at hR;simp only[am,aG hk,w4];refine a7.nh (I:=λp:PF t Z R=>zK t Z p.1.2.1 p.1.2.2.2 p.1.2.2.1) (μ:=λp=>p.1.1) ⟨(m,a+4,ri,D),aW,hR,by simp only;omega,by simp only;omega,by simp only;omega⟩ (by simp) (by simp[zK,aj,am]) (by simp[zK,am]) ?_ (by simp[zK,aj,bE,V.lo]) (by simp[zK,cn,aA.bR]);simp only[zK,hle];exact bp.rfl
       .rw[aL (by rw[nr];exact aD hk)] at hR;simp only[am,aA.fl,aD hk];refine(E8 t.ae (a+3) t.fin _).mono ?_;rintro v σ' ⟨rfl,rfl⟩;simp only[am];refine aN rfl (gV aW) ⟨?_,rfl⟩;simp[V.erase,a9,<-hR]
section
variable {c:ar}
theorem afn:c.enc.length=17:=rfl
theorem afu:c8 c.enc=true:=rfl
theorem aft:bK c.enc=true:=rfl
theorem ae':a9 c.enc=c.enc:=rfl
theorem afF:takeN 17 c.enc=U c.enc:=rfl
theorem afv{z0 z1 z2 z3 z4 z5 z6 z7 z8 z9 SK SL SM SO SP SQ SR:V}:over [z0,z1,z2,z3,z4,z5,z6,z7,z8,z9,SK,SL,SM,SO,SP,SQ,SR] c.enc=c.enc:=rfl
theorem afo:bP aq 1 (c.enc.drop 7)=U (.int .i64 c.left.kind):=rfl
theorem afx{w:aC}:setAt c.enc 2 w.enc=({c with name:=w}:ar).enc:=rfl
theorem afb:cB 2 (c.enc.drop 2)=true:=rfl
theorem afy:setAt c.enc 4 [.sl .no 2 (ws.map aC.enc)]=({c with ak:=ws}:ar).enc:=rfl
theorem afc:cB 1 (c.enc.drop 4)=true:=rfl
variable{ps:List (aC × aC)}
theorem afz:setAt c.enc 5 [.sl .no 4 (ps.map eJ)]=({c with aX:=ps}:ar).enc:=rfl
theorem afd:cB 1 (c.enc.drop 5)=true:=rfl
theorem afA{n:Int}:setAt c.enc 6 [.int .i64 n]=({c with qe:=n}:ar).enc:=rfl
theorem afe:cB 1 (c.enc.drop 6)=true:=rfl
def afw{n:Nd}:setAt c.enc 7 n.enc=({c with left:=n}:ar).enc:=by rw[Nd.dk];rfl
theorem afa:cB 5 (c.enc.drop 7)=true:=rfl
def afB{n:Nd}:setAt c.enc 12 n.enc=({c with right:=n}:ar).enc:=by rw[Nd.dk];rfl
theorem aff:cB 5 (c.enc.drop 12)=true:=rfl
def b9:=ag @afn <| ag @afu <| ag @aft <| ag @ae' <| ag @afF <| ag @afv <| ag @afo <| ag @afx <| ag @afb <| ag @afy <| ag @afc <| ag @afz <| ag @afd <| ag @afA <| ag @afe <| ag @afw <| ag @afa <| ag @afB @aff
end
theorem arj(k:UInt8)(c:ar)(l:List aA)(a:Nat)(fin:Int)(Z:ab)(hm:bj l+8<=aJ) :
 aR 52 [.agg c.enc,.int .u8 (k.toNat:Nat),.sl .no 5 (cE l),.int .i64 (a:Nat),.int .i64 fin] Z (.bw [.agg (ky k c l a fin).1.enc,.int .i64 (ky k c l a fin).2.1,.int .i64 (ky k c l a fin).2.2]):=by
 have hlen:=iv l;have fw:∀n:UInt8,((k.toNat:Nat):Int)=(n.toNat:Nat)↔k=n:=λn=>by
  constructor
  .intro h;exact F8.1 (by omega)
  .grind
 have vl:((k.toNat:Nat):Int)=110↔k=110:=fw 110;have vk:((k.toNat:Nat):Int)=102↔k=102:=fw 102;have uf:((k.toNat:Nat):Int)=119↔k=119:=fw 119;have ue:((k.toNat:Nat):Int)=112↔k=112:=fw 112;have Cn:((k.toNat:Nat):Int)=114↔k=114:=fw 114;have w1:∀j:Nat,j<l.length->IntKind.i64.wrap ((j:Int)+1)=(j:Int)+1:=λj hj=>by simp only[aJ] at hm;exact wrap_i64 (by omega) (by omega)
 generalize hR:ky k c l a fin=R;unfold ky at hR;refine fq func52 ?_;simp only[aP,am,aT,Nat.reduceAdd,b9]
 by_cases GX:k=110\/k=102
 .rw[aL GX] at hR
  by_cases k1:k=110
  case' pos=>simp only[am,aG (vl.2 k1)]
  case' neg=>simp only[am,aD (λh=>k1 (vl.1 h)),aG (vk.2 (GX.resolve_left k1))]
  all_goals
   refine cl (ao4 l a Z) ?_;cases dy:bd l (a:Nat) 97
   .rw[aB (by simp[dy])] at hR;simp only[am,b9];refine bn.intro (E8 l a fin Z) ?_;simp only[am,b9];refine aI ?_;simp[V.erase,a9,<-hR,b9]
   .rw[aL dy] at hR;obtain⟨j,t,e,hj,_,hl⟩:=jC dy;obtain rfl:j=a:=by omega
    obtain⟨_,ir⟩:=uR hj;have hwa:re l (j:Nat)=⟨t.tok.an,t.tok.pos⟩:=by unfold re;rw[ir]
    simp only[am];refine ix (iN hj) ?_;simp only[am,aA.fl];refine ix (iN hj) ?_;simp only[am,Nat.reduceAdd,aA.fl];rw[show [V.aQ t.tok.an,V.int .i64 t.tok.pos]=(re l (j:Nat)).enc by rw[hwa];rfl];generalize re l (j:Nat)=w at hR ⊢
    by_cases k2:k=102
    .rw[aL k2] at hR;simp only[am,Nat.reduceAdd,aC.al,aG (vk.2 k2),ar.enc,ar.cJ,w1 j hl];refine aI ?_;simp[V.erase,a9,<-hR]
    .rw[aB k2] at hR;simp only[am,aC.al,b9,aD (λh=>k2 (vk.1 h)),w1 j hl];refine aN rfl (ab.a8 _) ⟨?_,rfl⟩;rw[<-hR];rfl
 rw[aB GX] at hR;simp only[am,aD (λh=>GX (.inl (vl.1 h))),aD (λh=>GX (.inr (vk.1 h)))]
 by_cases k3:k=119
 .rw[aL k3] at hR;simp only[am,aG (uf.2 k3)];refine cl (adE l a fin Z (by omega)) ?_;have gP:(mP l (a:Nat) fin).2.aO=aq->a<l.length:=λhb=>by
   unfold mP at hb;split at hb
   .rename_i hk;have:=qM hk;omega
   .simp[eB] at hb
  generalize mP l (a:Nat) fin=g at hR gP ⊢;simp only[am,Nat.reduceAdd,bJ.enc];cases cg:g.2.aO
  .rw[aB (by simp[cg])] at hR;simp only[am,b9,w1 a (gP cg)];refine aN rfl (ab.a8 _) ⟨?_,rfl⟩;rw[<-hR];rfl
  .rw[aL cg] at hR;simp only[am,b9];refine aN rfl (ab.a8 _) ⟨?_,rfl⟩;rw[<-hR];rfl
 rw[aB k3] at hR;simp only[am,aD (λh=>k3 (uf.1 h))]
 by_cases k4:k=112
 .rw[aL k4] at hR;simp only[am,eE,aG (ue.2 k4)]
  by_cases eM:a<l.length
  .have EA:=PO (l:=l) (k:=123) eM;have ht:bT l (a:Nat)=l[a]:=by simp[bT,eM]
   simp only[am,aD (show ¬(l.length:Int)<=(a:Nat) by omega)];refine ix (iN (bY eM)) ?_;simp only[am,aA.fl]
   by_cases hk:l[a].tok.kind=123
   .rw[aL (by rw[EA];exact aG hk),ht] at hR;have hkm:=C8 (bY eM)
    have:=iv l[a].ae
    simp only[am,aG hk];refine ix (iN (bY eM)) ?_;simp only[am,aA.al];refine cl (ara l[a] Z (by omega)) ?_;simp only[am,b9];refine ix (iN (bY eM)) ?_;simp only[am,aA.fl,b9,w1 a eM];refine aN rfl (ab.a8 _) ⟨?_,rfl⟩;rw[<-hR];rfl
   .rw[aB (by rw[EA];simp[hk])] at hR;simp only[am,b9,aD hk];refine bn.intro (E8 l a fin Z) ?_;simp only[am,b9];refine aI ?_;simp[V.erase,a9,<-hR,b9]
  .rw[aB (by rw[XT eM];simp)] at hR;simp only[am,b9,aG (show(l.length:Int)<=(a:Nat) by omega)];refine bn.intro (E8 l a fin Z) ?_;simp only[am,b9];refine aI ?_;simp[V.erase,a9,<-hR,b9]
 rw[aB k4] at hR;simp only[am,aD (λh=>k4 (ue.1 h))];refine cl (P0 (bj l) l (bU _) (by omega) a fin Z) ?_;simp only[am,Nat.reduceAdd,bJ.enc]
 by_cases k5:k=114
 case' pos =>
  simp only[k5,db] at hR;generalize gR (bj l) l (a:Nat) fin=g0;simp only[am,aG (Cn.2 k5)];refine cl (atr (bj l) l (bU _) (by omega) a fin Z) ?_;generalize j5 (bj l) l (a:Nat) fin=g at hR ⊢;simp only[am,Nat.reduceAdd,bJ.enc]
 case' neg =>
  simp only[k5,cz] at hR;generalize gR (bj l) l (a:Nat) fin=g at hR ⊢;simp only[am,aD (λh=>k5 (Cn.1 h))]
 all_goals
  cases cg:g.aO
  .rw[aB (by simp[cg])] at hR;have O3:setAt c.enc 7 [V.int .i64 g.node.kind,.int .i64 g.node.pos,.aQ g.node.an,.sl .no 2 (g.node.ak.map aC.enc),.sl .no 5 (g.node.ae.map Nd.enc)]=({c with left:=g.node}:ar).enc:=rfl;have hsr:setAt c.enc 12 [V.int .i64 g.node.kind,.int .i64 g.node.pos,.aQ g.node.an,.sl .no 2 (g.node.ak.map aC.enc),.sl .no 5 (g.node.ae.map Nd.enc)]=({c with right:=g.node}:ar).enc:=rfl;simp only[am,b9]
   by_cases CO:c.left.kind=0
   .rw[aL CO] at hR;simp only[am,Nat.reduceAdd,b9,aG CO,O3];refine aN rfl (ab.a8 _) ⟨?_,rfl⟩;rw[<-hR];rfl
   .rw[aB CO] at hR;simp only[am,Nat.reduceAdd,b9,aD CO,hsr];refine aN rfl (ab.a8 _) ⟨?_,rfl⟩;rw[<-hR];rfl
  .rw[aL cg] at hR;simp only[am,b9];refine aN rfl (ab.a8 _) ⟨?_,rfl⟩;rw[<-hR];rfl
def auO{c:Int}(h:lD c=aa):sZ c=aq/\c≠45/\c≠32/\c≠9:=by
 simp only[lD,xg,List.any_cons,List.any_nil,qx,cU,dK,HE] at h
 rcases h with h | h | h | h | h | h | h | h | h | h | h | h | h | h<;>subst h<;>exact⟨by decide,by decide,by decide,by decide⟩
theorem anU{n p:Nat}{c:UInt8}{r:List UInt8}{acc:List Tok}:fO (n+1) p (c::r) acc =
 if c.toNat=32\/c.toNat=9 then fO n (p+1) r acc
 else if c.toNat=45/\(r.head?.map UInt8.toNat)=U 45 then(acc,ah)
 else if lD (c.toNat:Nat)=aa then fO n (p+1) r (acc++[⟨(c.toNat:Nat),[c],p⟩])
 else if dp (eR (c::r))=aa then fO n (p+(eR (c::r)).length) ((c::r).drop (eR (c::r)).length) (acc++[⟨97,eR (c::r),p⟩])
 else([],U p):=by
 simp only[fO]
 by_cases hb:c.toNat=32\/c.toNat=9
 .have h1:gh c=false:=by
   simp only[gh]
   rcases hb with h | h<;>rw[h]<;>decide
  have h2:lD (c.toNat:Nat)=false:=by rcases hb with h | h<;>rw[h]<;>decide
  have h3:¬c.toNat=45:=by omega
  simp[hb,h2,h3,Ld h1]
 .rw[aB hb];split
  .rfl
  .cases hs:lD (c.toNat:Nat)
   .by_cases hn:dp (eR (c::r))=aa
    .have:0<(eR (c::r)).length:=by
      cases hq:eR (c::r) with
      | nil=>rw[hq] at hn;simp[dp] at hn
      | cons _ _=>simp
     grind
    .grind
   .have h1:gh c=false:=(auO hs).1;simp[Ld h1]
theorem ak5(c:Int)(Z:ab):aR 158 [.int .u8 c] Z (.bool (sZ c)):=by
 refine fq func158 ?_;simp only[aP,am,aT,Nat.reduceAdd]
 repeat' (first
  | (refine gO (λh=>?_) (λh=>?_)<;>simp only[am,h])
  | (refine dc (λh=>?_) (λh=>?_)<;>simp only[pD,h,Nat.reduceAdd,Nat.reduceEqDiff,aF])
  | (refine gS (λh=>?_) (λh=>?_)<;>simp only[pD,h,Nat.reduceAdd,Nat.reduceEqDiff,aF])
 )
 all_goals refine aI ?_
 all_goals simp_all [V.erase,sZ,tC]
 all_goals (try omega)
theorem auM(c:Int)(Z:ab):aR 160 [.int .u8 c] Z (.bool (lD c)):=by
 refine fq func160 ?_;simp only[aP,am,aT,Nat.reduceAdd]
 repeat' (first
  | (refine gO (λh=>?_) (λh=>?_)<;>simp only[pD,h,Nat.reduceAdd,Nat.reduceEqDiff,aF])
  | (refine dc (λh=>?_) (λh=>?_)<;>simp only[am,h])
  | (refine gS (λh=>?_) (λh=>?_)<;>simp only[pD,h,Nat.reduceAdd,Nat.reduceEqDiff,aF])
 )
 all_goals refine aI ?_
 all_goals simp_all [V.erase,lD,xg]
 omega
theorem agt(s:List UInt8)(a:Nat)(Z:ab)(ha:a<s.length)(hb:s.length<=aJ):cy prog 159 [.aQ s,.int .i64 (a:Nat)] Z λv σ' => v = .bool (decide (s[a].toNat=45/\(s.drop (a+1)).head?.map UInt8.toNat=U 45))/\σ' = Z:=by
 simp only[aJ] at hb;have w1:IntKind.i64.wrap ((a:Int)+1)=((a+1:Nat):Int):=by rw[wrap_i64];simp
 have hh:(s.drop (a+1)).head?.map UInt8.toNat=if h:a+1<s.length then U s[a+1].toNat else none:=by
  by_cases h:a+1<s.length
  .simp_all
  .grind
 rw[hh];refine fq func159 ?_;simp only[aP,am,aT,Nat.reduceAdd];refine rF (uO ha) ?_;simp only[am]
 by_cases vq:s[a].toNat=45
 .simp only[am,aG (show((s[a].toNat:Nat):Int)=45 by omega),w1]
  by_cases hl:a+1<s.length
  .simp only[am,aG (show((a+1:Nat):Int)<s.length by omega),w1];refine rF (uO hl) ?_;simp only[am];refine aI ?_;simp[V.erase,vq,hl];omega
  .simp only[am,aD (show ¬((a+1:Nat):Int)<s.length by omega)];refine aI ?_;simp[V.erase,hl]
 .simp only[am,aD (show ¬((s[a].toNat:Nat):Int)=45 by omega)];refine aI ?_;simp[V.erase,vq]
def Px(s:List UInt8)(Z:ab)(p a n:Nat):St:=⟨[.int .i64 ((a+n:Nat):Int),.ptr (.out p) 0]++aj 15 .any,[],Z⟩
theorem ain{s:List UInt8}{p a:Nat}(hp:Z.box p=U [.aQ s])(ha:a<=s.length)(hb:s.length<=aJ):aR 157 [.int .i64 (a:Nat),.ptr (.out p) 0] Z (.int .i64 ((a+(eR (s.drop a)).length:Nat):Int)):=by
 simp only[aJ] at hb;refine fq func157 ?_;simp only[aP,am,aT,Nat.reduceAdd];refine ep (λq:{n:Nat // a+n<=s.length/\((s.drop a).take n).all gh=aa}=>Px s Z p a q.1) (λq=>s.length - q.1) ?_ ?_
 .refine a7.enter ⟨0,by simpa using ha,by simp⟩ ?_ bX.rfl bp.rfl;simp[Px,aj,am]
 .rintro⟨n,hn,dd⟩;simp only[Px,aj,am,hp];have w1:IntKind.i64.wrap (((a+n:Nat):Int)+1)=((a+(n+1):Nat):Int):=by rw[wrap_i64];omega
  by_cases az:a+n<s.length
  .simp only[am,aG (show((a+n:Nat):Int)<s.length by omega),hp];refine rF (uO az) ?_;simp only[am];refine cl (ak5 s[a+n].toNat Z) ?_;cases hg:sZ (s[a+n].toNat:Nat)
   .simp only[am];refine aN rfl (ab.a8 _) ⟨?_,rfl⟩;simp[V.erase,Lc dd hn (λ_=>hg)]
   .simp only[am,w1];refine a7.again ⟨n+1,by omega,?_⟩ (by simp;omega) (by simp[am]) bX.rfl bp.rfl;have hd:n<(s.drop a).length:=by grind
    rw[F' hd,dd];simp only[lh,List.getElem_drop];exact hg
  .simp only[am,aD (show ¬((a+n:Nat):Int)<s.length by omega)];refine aN rfl (ab.a8 _) ⟨?_,rfl⟩;simp[V.erase,Lc dd hn (λh=>absurd h az)]
abbrev L5(s:List UInt8)(Z:ab)(p:Nat)(R:List Tok × Option Int):={q:Nat × Nat × Nat × List Tok // (Z.set p [.aQ s]).aS q.2.2.1=ah/\fO q.1 q.2.1 (s.drop q.2.1) q.2.2.2=R/\q.2.2.2.length<=q.2.1/\q.2.1<=s.length/\s.length<=q.2.1+q.1}
def zI(s:List UInt8)(Z:ab)(p a D:Nat)(acc:List Tok):St :=
 ⟨[.aQ s,.ptr (.out p) 0,.any,.ptr (.au 0) 0,.fn (.func 157) [] [.ptr (.out p) 0],.sl (.tk D) 3 (acc.map Tok.enc),.int .i64 (a:Nat)]++aj 62 .any,[[.int .i64 0,.int .i64 0]],(Z.set p [.aQ s]).aU D acc.length⟩
theorem anV(s:List UInt8)(Z:ab)(hb:s.length+1<=aJ):aR 96 [.aQ s] Z (.bw [.sl .no 3 ((eH s).1.map Tok.enc),xE (eH s).2]):=by
 simp only[aJ] at hb;generalize hR:eH s=R;refine fq func96 ?_ ⟨[1],[]⟩;simp only[aP,am,aT,Nat.reduceAdd];refine lT λp hp=>?_
 simp only[am,cK];have vA:∀D m,((Z.set p [.aQ s]).aU D m).box p=U [.aQ s]:=λD m=>by simp[ab.aU,ab.set]
 have sv:∀D m,(Z.set p [.aQ s]).aS D=ah->Z.sub ((Z.set p [.aQ s]).aU D m):=λD m h=>ab.FB (jF hp) (gV h)
 refine ep (λq:L5 s Z p R=>zI s Z p q.1.2.1 q.1.2.2.1 q.1.2.2.2) (λq=>s.length - q.1.2.1) ?_ ?_
 .refine a7.uQ 0 λD aW=>⟨⟨(s.length,0,D,[]),aW,hR,by simp,by simp,by simp⟩,?_,rfl,rfl⟩
  simp[zI,aj,ji]
 .rintro⟨⟨n,a,D,acc⟩,aW,hR,h1,h2,h3⟩;simp only at aW hR h1 h2 h3;simp only[zI,aj,am];refine dc ?_ ?_
  .intro az;have az:a<s.length:=by grind
   obtain⟨m,rfl⟩:∃m,n=m+1:=⟨n - 1,by omega⟩;rw[drop_cons az] at hR;rw[anU,<-drop_cons az] at hR;have e9:=aa_ (s:=s) (a:=a);have w1:IntKind.i64.wrap ((a:Int)+1)=((a+1:Nat):Int):=by rw[wrap_i64];simp
   have again:∀(b:Nat) (ri : List Tok) (t:List V) (l:List (List V)),fO m b (s.drop b) ri = R->ri.length<=b->a<b->b<=s.length ->
    c_ t (zI s Z p b D ri).t->l=[[.int .i64 0,.int .i64 0]] ->
    a7 ⟨t,l,(Z.set p [.aQ s]).aU D ri.length⟩ λaV => ∃j:L5 s Z p R,aV = zI s Z p j.1.2.1 j.1.2.2.1 j.1.2.2.2/\s.length - j.1.2.1<s.length - a:=λb ri t l e1 e2 e3 e4 e5 e6=>by
    refine a7.again (μ:=λq:L5 s Z p R=>s.length - q.1.2.1) (I:=λq=>zI s Z p q.1.2.1 q.1.2.2.1 q.1.2.2.2) ⟨(m,b,D,ri),aW,e1,e2,e4,by simp only;omega⟩ (by simp;omega) e5 (by rw[e6];exact bX.rfl) bp.rfl
   simp only[am];refine rF (uO az) ?_;simp only[am]
   by_cases pW:s[a].toNat=32\/s[a].toNat=9
   .rw[aL pW] at hR
    by_cases h32:s[a].toNat=32
    case' pos=>simp only[am,cK,Nat.reduceAdd,Nat.reduceEqDiff,aG (show((s[a].toNat:Nat):Int)=32 by omega),w1]
    case' neg=>simp only[am,cK,Nat.reduceAdd,Nat.reduceEqDiff,aD (show ¬((s[a].toNat:Nat):Int)=32 by omega),aG (show((s[a].toNat:Nat):Int)=9 by omega),w1]
    all_goals exact again (a+1) acc _ _ hR (by omega) (by omega) (by omega) (by simp[zI,aj,am]) rfl
   .rw[aB pW] at hR;simp only[am,aD (show ¬((s[a].toNat:Nat):Int)=32 by omega),aD (show ¬((s[a].toNat:Nat):Int)=9 by omega)];refine(agt s a _ az (by simp only[aJ];omega)).mono ?_;rintro v σ' ⟨rfl,rfl⟩
    by_cases s7:s[a].toNat=45/\(s.drop (a+1)).head?.map UInt8.toNat=U 45
    .rw[aL s7] at hR;simp only[am,cK,Nat.reduceAdd,Nat.reduceEqDiff,aG s7];refine aN rfl (sv D _ aW) ⟨?_,rfl⟩;simp[V.erase,a9,<-hR,xE,gx]
    .rw[aB s7] at hR;simp only[am,aD s7];refine(auM (s[a].toNat:Nat) _).mono ?_;rintro v σ' ⟨rfl,rfl⟩;cases G5:lD (s[a].toNat:Nat)
     .rw[aB (by simp[G5])] at hR;simp only[am];refine(ain (s:=s) (vA D _) (by omega) (by simp only[aJ];omega)).mono ?_;rintro v σ' ⟨rfl,rfl⟩;simp only[am,cK];refine Fw (by omega) (by omega) ?_;rw[MY];simp only[am];refine(wW (eR (s.drop a)) _).mono ?_;rintro v σ' ⟨rfl,rfl⟩;cases EE:dp (eR (s.drop a))
      .rw[aB (by simp[EE])] at hR;simp only[am,cK,Nat.reduceAdd];refine aN rfl (sv D _ aW) ⟨?_,rfl⟩;simp[V.erase,a9,<-hR,xE,gx]
      .rw[aL EE] at hR;have hN:0<(eR (s.drop a)).length:=by
        cases hq:eR (s.drop a) with
        | nil=>rw[hq] at EE;simp[dp] at EE
        | cons _ _=>simp
       simp only[am,cK];refine Fw (by omega) (by omega) ?_;rw[MY];simp only[am,Nat.reduceAdd];refine fg (by simp[aJ];omega) (by rw[aF,dD]) ?_;simp only[am,aF,dU];have e:acc.length+1=(acc++[(⟨97,eR (s.drop a),a⟩:Tok)]).length:=by simp
       rw[e];rw[xw] at hR;exact again (a+(eR (s.drop a)).length) _ _ _ hR (by simp;omega) (by omega) (by omega) (by simp[zI,aj,am,Tok.enc]) rfl
     .rw[aL G5] at hR;simp only[am,cK,w1];refine Fw (by omega) (by omega) ?_;rw[U_ az];simp only[am,Nat.reduceAdd];refine fg (by simp[aJ];omega) (by rw[aF,dD]) ?_;simp only[am,cK,Nat.reduceAdd,Nat.reduceEqDiff,aF,dU,w1];have e:acc.length+1=(acc++[(⟨(s[a].toNat:Nat),[s[a]],a⟩:Tok)]).length:=by simp
      rw[e];exact again (a+1) _ _ _ hR (by simp;omega) (by omega) (by omega) (by simp[zI,aj,am,Tok.enc]) rfl
  .intro az;have az:a=s.length:=by grind
   subst az;rw[Az] at hR;have qG : (acc,ah)=R:=by cases n<;>simpa [fO] using hR
   simp only[am,cK,Nat.reduceAdd];refine aN rfl (sv D _ aW) ⟨?_,rfl⟩;simp[V.erase,a9,<-qG,xE,gx]
def UH(c:Int)(Z:ab):aR 162 [.int .u8 c] Z (.int .u8 (closing c)):=by
 refine fq func162 ?_;simp only[aP,am,aT,Nat.reduceAdd]
 by_cases h1:c=123
 .subst h1;simp only[am,Nat.reduceEqDiff,bu];refine aI ?_;rfl
 .simp only[am,aD h1]
  by_cases h2:c=91
  .subst h2;simp only[am,Nat.reduceEqDiff,bu];refine aI ?_;rfl
  .simp only[am,aD h2]
   by_cases h3:c=40
   .subst h3;simp only[am,Nat.reduceEqDiff,bu];refine aI ?_;rfl
   .simp only[am,Nat.reduceEqDiff,aD h3];refine aI ?_;simp[V.erase,closing,h1,h2,h3]
theorem agh(c:Int)(Z:ab):aR 164 [.int .u8 c] Z (.bool (lM c)):=by
 refine fq func164 ?_;simp only[aP,am,aT,Nat.reduceAdd]
 repeat' (first
  | (refine gO (λh=>?_) (λh=>?_)<;>simp only[am,h])
  | (refine dc (λh=>?_) (λh=>?_)<;>simp only[pD,h,Nat.reduceAdd,Nat.reduceEqDiff,aF])
  | (refine gS (λh=>?_) (λh=>?_)<;>simp only[pD,h,Nat.reduceAdd,Nat.reduceEqDiff,aF])
 )
 all_goals refine aI ?_
 all_goals simp_all [V.erase,lM]
 all_goals (try omega)
def IX(t:Tok)(Z:ab):aR 163 [.agg t.enc] Z (.bw [.sl .no 5 [],kq (U t.pos)]):=by
 refine fq func163 ?_;simp only[aP,am,aT,Tok.enc,am];refine aI ?_;rfl
structure jR where
 tok:Tok
 tk:Tk
 ahead:List aA
def jR.enc(x:jR):List V:=[.int .u8 x.tok.kind,.aQ x.tok.an,.int .i64 x.tok.pos,.sl x.tk 5 (cE x.ahead)]
def jR.pair(x:jR):Tok × List aA:=(x.tok,x.ahead)
def jR.tn(x:jR):Tk × Nat:=(x.tk,(cE x.ahead).length)
structure D2 where
 i:Nat
 Ls:Tk
 op:List jR
 FD:Tk
 row:List aA
 D:ab
def wO(l:List Tok)(q:D2):St :=
 ⟨[.sl .no 3 (l.map Tok.enc),.any,.any,.ptr (.au 0) 0,.sl q.Ls 4 (q.op.map jR.enc),.sl q.FD 5 (cE q.row)]++aj 5 .any++[.sl .no 3 (l.map Tok.enc),.int .i64 l.length,.int .i64 (q.i:Nat)]++aj 89 .any,[[.int .i64 0,.int .i64 0]],q.D⟩
def IL(l:List Tok)(Z:ab)(R:List aA × Option Int)(q:D2):Prop :=
 q.i<=l.length/\iT (l.drop q.i) (q.op.map jR.pair) q.row=R/\kI Z q.D ((q.Ls,(q.op.map jR.enc).length)::(q.FD,(cE q.row).length)::q.op.map jR.tn)/\q.op.length<=q.i/\q.row.length<=q.i/\∀x∈q.op,x.ahead.length+1<=q.i
theorem ab0(l:List G):l=[]\/∃ys x,l=ys++[x]:=by
 rcases B7 l with h | ⟨ys,x,h⟩
 .grind
 .grind
theorem avJ(l:List Tok)(Z:ab)(hb:l.length+1<=aJ):aR 97 [.sl .no 3 (l.map Tok.enc)] Z (.bw [.sl .no 5 (cE (iT l [] []).1),kq (iT l [] []).2]):=by
 simp only[aJ] at hb;generalize hR:iT l [] []=R;refine fq func97 ?_ ⟨[41],[]⟩;simp only[aP,am,aT,Nat.reduceAdd];refine ep (λq:{q:D2 // IL l Z R q}=>wO l q.1) (λq=>l.length - q.1.i) ?_ ?_
 .refine a7.enter ⟨⟨0,.aY,[],.aY,[],Z⟩,by simp,hR,kI.init (by simp),by simp,by simp,by simp⟩ ?_ bX.rfl bp.rfl;simp[wO,aj,am,cE]
 .rintro⟨⟨i,Ls,op,FD,row,D⟩,h1,hR,hT,dX,fv,vz⟩;simp only at h1 hR hT dX fv vz;simp only[wO,aj,am];refine dc ?_ ?_
  .intro az;have az:i<l.length:=by grind
   rw[mb az] at hR;have amq:jG l i=l[i]:=by simp[jG,az]
   rw[<-amq] at hR;generalize ht:jG l i=t at hR;have wi:IntKind.i64.wrap ((i:Int)+1)=((i+1:Nat):Int):=by rw[wrap_i64];simp
   have again:∀(q:D2) (t:List V) (m:List (List V)),IL l Z R q->q.i=i+1->c_ t (wO l q).t->bX (m.take 1) [[.int .i64 0,.int .i64 0]] ->
    a7 ⟨t,m,q.D⟩ λaV => ∃j:{q:D2 // IL l Z R q},aV = wO l j.1/\l.length - j.1.i<l.length - i:=λq t m hq hi ht hm=>by
    refine a7.nh (I:=λq:{q:D2 // IL l Z R q}=>wO l q.1) (μ:=λq=>l.length - q.1.i) ⟨q,hq⟩ (by simp only;omega) ht hm bp.rfl (by simp[wO,aj,bE,V.lo]) (by simp[wO,cn,bE,V.lo])
   simp only[am];refine ix (yC az) ?_;rw[ht];simp only[am,Nat.reduceAdd,aF,Tok.enc];refine(UH t.kind _).mono ?_;rintro v σ' ⟨rfl,rfl⟩;simp only[iT] at hR
   by_cases hc:closing t.kind=0
   .rw[aB (by simp[hc])] at hR;simp only[am,aG hc];refine(agh t.kind _).mono ?_;rintro v σ' ⟨rfl,rfl⟩;cases jh:lM t.kind
    .rw[jh] at hR;simp only[dK,cz] at hR;simp only[am,Nat.reduceAdd];refine Mw (hT.perm (List.Perm.swap _ _ _)) (by rw[eE];simp[aJ];omega) λO j_=>?_
     simp only[eE,aF,da,cZ,mc] at j_;simp only[am,eE,wi];have e:cE row++[[V.int .u8 t.kind,.aQ t.an,.int .i64 t.pos,.sl .no 5 [],.int .i64 t.pos]]=cE (row++[.mk t [] t.pos]):=by simp[qD,aA.enc,cE]
     rw[e];refine again ⟨i+1,Ls,op,.tk O,row++[.mk t [] t.pos],σ'.aU O (row.length+1)⟩ _ _ ⟨az,hR,?_,by simp only;omega,by simp;omega,λx hx=>by have:=vz x hx;simp only;omega⟩ rfl (by simp[wO,aj,am]) (by simp[am]);refine kI.perm ?_ (List.Perm.swap _ _ _);simpa [eE] using j_
    .rw[jh] at hR;simp only[db] at hR
     rcases ab0 op with rfl | ⟨ys,x,rfl⟩
     .simp only[fp,Mb] at hR;simp only[am,fp,cZ,show decide (((0:Nat):Int)=0)=aa from rfl];refine(IX t _).mono ?_;rintro v σ' ⟨rfl,rfl⟩;simp only[am,Nat.reduceAdd,kq];refine aN rfl hT.1 ⟨?_,rfl⟩;simp[V.erase,a9,<-hR,dS,gx,cE]
     .have bf:¬(((ys++[x]).length:Nat):Int)=0:=by grind
      have wn:IntKind.i64.wrap ((((ys++[x]).length:Nat):Int) - 1)=(ys.length:Nat):=by rw[wrap_i64 (by simp<;>omega) (by simp at dX ⊢<;>omega)];simp
      have dz:((ys++[x]).map jR.enc)[((ys.length:Nat):Int).toNat]?=U x.enc:=by simp
      simp only[gm,cQ,fp,Ix,FR,jR.pair] at hR;simp only[am,aD bf,wn];refine ix (dz) ?_;simp only[am,jR.enc];refine bn.intro (UH x.tok.kind _) ?_;simp only[am]
      by_cases hk:closing x.tok.kind=t.kind
      .rw[aL hk] at hR;simp only[am,aG hk,wn];refine ix (dz) ?_;simp only[am,cK,Nat.reduceAdd,jR.enc,wn];refine Li (by simp) ?_;have GC:kI Z σ' ((x.tk,(cE x.ahead).length)::ys.map jR.tn):=by
        refine(hT.tail.tail).perm ?_;simp only[gm,cQ,fp,jR.tn];simp
       have hx3:=vz x (by simp);simp only[bL,da,cZ] at dX;simp only[am,Nat.reduceAdd];refine Mw GC (by rw[eE];simp[aJ];omega) λO j_=>?_
       simp only[eE,da,cZ,mc] at j_;simp only[am,eE,wi];have e:cE x.ahead++[[V.int .u8 x.tok.kind,.aQ x.tok.an,.int .i64 x.tok.pos,.sl .no 5 (cE row),.int .i64 t.pos]]=cE (x.ahead++[.mk x.tok row t.pos]):=by simp[qD,aA.enc]
       have e2:((ys++[x]).map jR.enc).take ys.length=ys.map jR.enc:=by simp
       rw[e,e2];refine again ⟨i+1,.aY,ys,.tk O,x.ahead++[.mk x.tok row t.pos],σ'.aU O (x.ahead.length+1)⟩ _ _ ⟨az,hR,?_,by simp only;omega,by simp;omega,λy hy=>by have:=vz y (by simp[hy]);simp only;omega⟩ rfl (by simp[wO,aj,am]) (by simp[am]);refine kI.aY ?_;simpa [eE] using j_
      .rw[aB hk] at hR;simp only[am,aD hk];refine(IX t _).mono ?_;rintro v σ' ⟨rfl,rfl⟩;simp only[am,Nat.reduceAdd,kq];refine aN rfl hT.1 ⟨?_,rfl⟩;simp[V.erase,a9,<-hR,dS,gx,cE]
   .rw[aL hc] at hR;simp only[am,aD hc];rw[aF] at hR
    by_cases vp:24<=op.length
    .rw[aL vp] at hR;simp only[am,aG (show(24:Int)<=op.length by omega)];refine(IX t _).mono ?_;rintro v σ' ⟨rfl,rfl⟩;simp only[am,Nat.reduceAdd,kq];refine aN rfl hT.1 ⟨?_,rfl⟩;simp[V.erase,a9,<-hR,dS,gx,cE]
    .rw[aB vp] at hR;simp only[am,jo,Nat.reduceAdd,aD (show ¬(24:Int)<=op.length by omega),aq6];refine Mw hT (by simp[aJ];omega) λO j_=>?_
     simp only[aF,da,cZ,mc] at j_;simp only[am,aF,wi];have e:op.map jR.enc++[[V.int .u8 t.kind,.aQ t.an,.int .i64 t.pos,.sl FD 5 (cE row)]]=(op++[(⟨t,FD,row⟩:jR)]).map jR.enc:=by simp[jR.enc]
     rw[e];refine again ⟨i+1,.tk O,op++[⟨t,FD,row⟩],.aY,[],σ'.aU O (op.length+1)⟩ _ _ ⟨az,by simpa [jR.pair] using hR,?_,by simp;omega,by simp,λx hx=>?_⟩ rfl (by simp[wO,aj,am,cE]) (by simp[am])
     .simp only[aF,bL,da,cZ,mc,gm,cQ,fp,jR.tn];refine kI.perm (kI.aY (n:=(cE []).length) j_) ?_;refine(List.Perm.swap _ _ _).trans (List.Perm.cons _ (List.Perm.cons _ ?_));exact(List.perm_append_singleton _ _).symm
     .grind
  .intro az;have az:i=l.length:=by grind
   subst az;rw[Az] at hR;simp only[iT] at hR;simp only[am,aF];refine dc ?_ ?_
   .intro h0
    rcases ab0 op with rfl | ⟨ys,x,rfl⟩
    .grind
    have wn:IntKind.i64.wrap ((((ys++[x]).length:Nat):Int) - 1)=(ys.length:Nat):=by rw[wrap_i64 (by simp<;>omega) (by simp at dX ⊢<;>omega)];simp
    have dz:((ys++[x]).map jR.enc)[((ys.length:Nat):Int).toNat]?=U x.enc:=by simp
    simp only[gm,cQ,fp,Ix,jR.pair] at hR;simp only[am,wn];refine ix (dz) ?_;simp only[am,jR.enc];refine(IX x.tok _).mono ?_;rintro v σ' ⟨rfl,rfl⟩;simp only[am,Nat.reduceAdd,kq];refine aN rfl hT.1 ⟨?_,rfl⟩;simp[V.erase,a9,<-hR,dS,gx,cE]
   .intro h0;have h0:op=[]:=by
     cases op with
     | nil=>rfl
     | cons x xs=>simp at h0<;>omega
    subst h0;simp only[fp,Mb] at hR;simp only[am,Nat.reduceAdd];refine aN rfl hT.1 ⟨?_,rfl⟩;simp[V.erase,a9,<-hR,kq,dS,gx]
variable{cs:List V}{r:Nat}{rd:af}
def Uy(h:Z.box r=U (rd.enc++cs))(h0:0<=rd.at_):eT 102 [.ptr (.out r) 0] Z (.bw []) (Z.set r (rd.fail.enc++cs)):=by
 refine fq func102 ?_;simp only[aP,am,aT,am,h,af.enc];cases hb:rd.aO with
 | some b =>
  simp only[am,Nat.reduceAdd,cX,Int.reduceEq,dS];refine aN rfl (ab.a8 _) ⟨rfl,?_⟩;rw[af.fail,hb];exact(ab.BN h).symm
 | none =>
  simp only[am,Nat.reduceAdd,eE,bu,dS,h,af.enc]
  by_cases h1:rd.at_<rd.l.length
  .obtain⟨j,hj⟩:=yN h0;have nJ : j<rd.l.length:=by omega
   simp only[am,bu,h1,bu];refine mG h0 (c:=rd.l[j].enc) (by simp[qD,hj,nJ]) ?_;simp only[am,Nat.reduceAdd,dk];refine aN rfl (ab.a8 _) ⟨rfl,?_⟩;simp[af.fail,af.spot,hb,hj,nJ,gx]
  .simp only[am,cX,h1,cX];refine aN rfl (ab.a8 _) ⟨rfl,?_⟩
   have:rd.l[rd.at_.toNat]?=none:=AB (by omega)
   simp[af.fail,af.spot,hb,this,gx]
def I9{k:Int}(h:Z.box r=U (rd.enc++cs))(h0:0<=rd.at_)(hb:rd.l.length<=aJ):eT 165 [.ptr (.out r) 0,.int .u8 k] Z (.agg (rd.take k).1.enc) (Z.set r ((rd.take k).2.enc++cs)):=by
 refine fq func165 ?_;simp only[aP,am,aT,am,h,af.enc];have fj:rd.cH k=aq->eT 102 [.ptr (.out r) 0] Z (.bw []) (Z.set r (rd.fail.enc++cs)):=λ_=>Uy h h0
 cases cg:rd.aO with
 | some b =>
  have hs:rd.cH k=false:=by simp[af.cH,af.ok,cg]
  simp only[am,Nat.reduceAdd,cX,Int.reduceEq,dS];refine(fj hs).mono ?_;rintro v σ' ⟨rfl,rfl⟩;simp only[am,Nat.reduceAdd];refine aN rfl (ab.a8 _) ⟨?_,?_⟩
  .simp[af.take,hs,V.erase,a9,aA.zero,aA.enc,cE]
  .simp[af.take,hs,af.enc,dS]
 | none =>
  simp only[am,Nat.reduceAdd,eE,bu,dS,h,af.enc]
  by_cases h1:rd.at_<rd.l.length
  .obtain⟨j,hj⟩:=yN h0;have nJ : j<rd.l.length:=by omega
   simp only[am,aD (show ¬(rd.l.length:Int)<=rd.at_ by omega),h,af.enc];refine mG h0 (c:=rd.l[j].enc) (by simp[qD,hj,nJ]) ?_;simp only[am,dk]
   by_cases hk:rd.l[j].tok.kind=k
   .have hs:rd.cH k=true:=by simp[af.cH,af.ok,cg,bd,hj,nJ,hk]
    have w1:IntKind.i64.wrap (rd.at_+1)=rd.at_+1:=by simp only[aJ] at hb;exact wrap_i64 (by omega) (by omega)
    have w2:IntKind.i64.wrap (rd.at_+1 - 1)=rd.at_:=by rw[show rd.at_+1 - 1=rd.at_ by omega];simp only[aJ] at hb;exact wrap_i64 (by omega) (by omega)
    simp only[am,aG hk,h,af.enc,w1,w2];refine mG h0 (c:=rd.l[j].enc) (by simp[qD,hj,nJ]) ?_;simp only[am,aA.al];refine aN aA.dT (ab.a8 _) ⟨?_,?_⟩
    .simp[af.take,hs,V.erase,hj,nJ,List.getD,aA.al];exact dk _
    .simp[af.take,hs,dS]
   .have hs:rd.cH k=false:=by simp[af.cH,af.ok,cg,bd,hj,nJ,hk]
    simp only[am,aD hk];refine(fj hs).mono ?_;rintro v σ' ⟨rfl,rfl⟩;simp only[am,Nat.reduceAdd];refine aN rfl (ab.a8 _) ⟨?_,?_⟩
    .simp[af.take,hs,V.erase,a9,aA.zero,cE,aA.tok,aA.ae,aA.fin]
    .simp[af.take,hs,af.enc,dS]
  .have hs:rd.cH k=false:=by
    have:rd.l[rd.at_.toNat]?=none:=AB (by omega)
    simp[af.cH,af.ok,cg,bd,this]
   simp only[am,aG (show(rd.l.length:Int)<=rd.at_ by omega)];refine(fj hs).mono ?_;rintro v σ' ⟨rfl,rfl⟩;simp only[am,Nat.reduceAdd];refine aN rfl (ab.a8 _) ⟨?_,?_⟩
   .simp[af.take,hs,V.erase,a9,aA.zero,aA.enc,cE]
   .simp[af.take,hs,af.enc,dS]
def Gg(h:Z.box r=U (rd.enc++cs))(h0:0<=rd.at_)(hb:rd.l.length<=aJ):eT 98 [.ptr (.out r) 0] Z (.agg rd.word.1.enc) (Z.set r (rd.word.2.enc++cs)):=by
 refine fq func98 ?_;simp only[aP,am,aT,Nat.reduceAdd];refine(I9 h h0 hb).mono ?_;rintro v σ' ⟨rfl,rfl⟩;simp only[am,Nat.reduceAdd,aA.al,aA.fl];refine aN rfl (ab.a8 _) ⟨?_,?_⟩
 .rfl
 .rfl
variable{pc:V}
def UN{c:ar}{g:Nd × Int × Option Int}(h:Z.box r=U (rd.enc++c.cJ pc))(hb:rd.aO=ah):eT 168 [.ptr (.out r) 0,.agg g.1.enc,.int .i64 g.2.1,kq g.2.2] Z (.bw []) (Z.set r ((ka rd c g).1.enc++(ka rd c g).2.cJ pc)):=by
 refine fq func168 ?_;simp only[aP,am,aT,Nat.reduceAdd,Nd.al];simp only[am,Nat.reduceAdd,kq,af.enc,ar.cJ];cases hg:g.2.2 with
 | some a =>
  simp only[am,Nat.reduceAdd,cX,Int.reduceEq,dS,h,af.enc,ar.cJ];refine aN rfl (ab.a8 _) ⟨rfl,?_⟩;simp[ka,hg]
 | none =>
  simp only[am,Nat.reduceAdd,bu,dS,h,af.enc,ar.cJ]
  by_cases hk:c.left.kind=0
  .simp only[am,Nat.reduceAdd,aG hk,Nd.dk];refine aN rfl (ab.a8 _) ⟨rfl,?_⟩;simp[ka,hg,hk]
  .simp only[am,Nat.reduceAdd,aD hk,Nd.dk];refine aN rfl (ab.a8 _) ⟨rfl,?_⟩;simp[ka,hg,hk]
theorem V7(h:i<16):iO.drop (i*2)=[V.aQ (j8.getD i ([],[])).1,.aQ (j8.getD i ([],[])).2]++((j8.map λp=>[V.aQ p.1,V.aQ p.2]).drop (i+1)).flatten:=by
 unfold iO;rw[Ns (k:=2) (by intro r hr;simp only[AE] at hr;obtain⟨p,_,rfl⟩:=hr;rfl),mb (by simpa [j8] using h)]
 grind
def QM(op:Int)(hg:Z.cI 0=U iO):aR 100 [.int .i64 op] Z (.agg [.aQ (cm op).1,.aQ (cm op).2]):=by
 refine fq func100 ?_;simp only[aP,am,aT,Nat.reduceAdd]
 by_cases h0:op<0
 .simp only[am,Nat.reduceAdd,aG h0];refine aN rfl (ab.a8 _) ⟨?_,rfl⟩
  have:¬(0<=op/\op<16):=by omega
  simp[V.erase,a9,cm,this]
 .simp only[am,aD h0]
  by_cases h1:16<=op
  .simp only[am,Nat.reduceAdd,aG h1];refine aN rfl (ab.a8 _) ⟨?_,rfl⟩
   have:¬(0<=op/\op<16):=by omega
   simp[V.erase,a9,cm,this]
  .simp only[am,cK,aD h1];refine jX ?_;simp only[am,Nat.reduceAdd,hg,V7 (show op.toNat<16 by omega)];refine aN rfl (ab.a8 _) ⟨?_,rfl⟩
   have:0<=op/\op<16:=by omega
   simp[V.erase,a9,cm,this]
def Bn(w:List UInt8)(Z:ab)(i:Nat):St:=⟨[.aQ w,.any,.any,.any,.int .i64 (i:Nat)]++aj 14 .any,[],Z⟩
def ao1(w:List UInt8)(hg:Z.cI 0=U iO):aR 99 [.aQ w] Z (.int .i64 (kb w)):=by
 generalize hR:kb w=R;unfold kb at hR;refine fq func99 ?_;simp only[aP,am,aT,Nat.reduceAdd];refine ep (λp:{p:Nat × Nat // qR w p.1 p.2=R/\p.2+p.1=16}=>Bn w Z p.1.2) (λp=>p.1.1) ?_ ?_
 .refine a7.enter ⟨(16,0),hR,rfl⟩ ?_ bX.rfl bp.rfl;simp[Bn,aj,am]
 .rintro⟨⟨n,i⟩,hR,hs⟩;simp only at hR hs;simp only[Bn,aj,am]
  by_cases az:i<16
  .obtain⟨m,rfl⟩:∃m,n=m+1:=⟨n - 1,by omega⟩;simp only[qR] at hR;have wi:IntKind.i64.wrap ((i:Int)+1)=((i+1:Nat):Int):=by rw[wrap_i64];simp
   have hf:cm (i:Nat)=j8.getD i ([],[]):=by simp only[cm];rw[aL (by omega)];simp
   have again:∀(t:List V),qR w m (i+1)=R->c_ t (Bn w Z (i+1)).t->a7 ⟨t,[],Z⟩ λaV => ∃j:{p:Nat × Nat // qR w p.1 p.2=R/\p.2+p.1=16},aV = Bn w Z j.1.2/\j.1.1<m+1:=λt h ht =>
    a7.again (I:=λp:{p:Nat × Nat // qR w p.1 p.2=R/\p.2+p.1=16}=>Bn w Z p.1.2) (μ:=λp=>p.1.1) ⟨(m,i+1),h,by simp only;omega⟩ (by simp) ht bX.rfl bp.rfl
   simp only[am,aG (show(i:Int)<16 by omega)]
   by_cases h0:0<i
   .simp only[am,cK,aG (show(0:Int)<i by omega)];refine jX ?_;simp only[am,hg,V7 az,iM]
    by_cases hw:(j8.getD i ([],[])).1=w
    .rw[aL ⟨h0,by rw[hf];exact hw⟩] at hR;simp only[am,aG hw];refine aI ?_;simp[V.erase,hR]
    .rw[aB (by rw[hf];exact λh=>hw h.2)] at hR;simp only[am,aD hw,wi];exact again _ hR (by simp[Bn,aj,am])
   .rw[aB (by simp[h0])] at hR;simp only[am,aD (show ¬(0:Int)<i by omega),wi];exact again _ hR (by simp[Bn,aj,am])
  .obtain rfl:n=0:=by omega
   simp only[qR] at hR;simp only[am,aD (show ¬(i:Int)<16 by omega)];refine aI ?_;simp[V.erase,hR]
def avv{r:af}{k:Int}:((r.take k).1.ae.length:Int)<=bj r.l:=by
 have:=(r.yA k).1
 have:=iv (r.take k).1.ae
 omega
def acE(r:af):mY r r.word.2:=A4 r
def ij:List V:=[.int .i64 0,.int .i64 0,.aQ [],.int .i64 0,.sl .aY 2 [],.sl .aY 4 [],.int .i64 0,.int .i64 0,.int .i64 0,.aQ [],.sl .aY 2 [],.sl .aY 5 [],.int .i64 0,.int .i64 0,.aQ [],.sl .aY 2 [],.sl .aY 5 []]
def aqw(h:Z=σ'):bp Z σ' := h▸bp.rfl
structure ID where
 n:Nat
 i:af
 acc:List (aC × aC)
 D:Nat
def sG(Z:ab)(r q D:Nat)(i rd:af)(c:ar)(acc:List (aC × aC)):ab:=((Z.set q (i.enc++ij)).set r (rd.enc++c.cJ (.sl (.tk D) 4 (acc.map eJ)))).aU D acc.length
section
variable {Z:ab} {r q D:Nat} {i i' rd:af} {c:ar} {acc:List (aC × aC)}
def Fg(h:q≠r):(sG Z r q D i rd c acc).box q=U (i.enc++ij):=by simp[sG,ab.aU,ab.set,h]
def ZE:(sG Z r q D i rd c acc).box r=U (rd.enc++c.cJ (.sl (.tk D) 4 (acc.map eJ))):=by simp[sG,ab.aU,ab.set]
def aq':(sG Z r q D i rd c acc).aS D=U acc.length:=by simp[sG,ab.aU]
def KV(h:q≠r):(sG Z r q D i rd c acc).set q (i'.enc++ij)=sG Z r q D i' rd c acc:=by
 have:((Z.set q (i.enc++ij)).set r (rd.enc++c.cJ (.sl (.tk D) 4 (acc.map eJ)))).set q (i'.enc++ij)=(Z.set q (i'.enc++ij)).set r (rd.enc++c.cJ (.sl (.tk D) 4 (acc.map eJ))):=by rw[ab.set_comm (gM h),ab.set_set]
 show(((Z.set q (i.enc++ij)).set r (rd.enc++c.cJ (.sl (.tk D) 4 (acc.map eJ)))).set q (i'.enc++ij)).aU D acc.length=_;rw[this];rfl
theorem agQ:bP aq 1 ((rd.enc++c.cJ pc).drop 10)=U pc:=rfl
theorem agV{x:V}:setAt (rd.enc++c.cJ pc) 10 [x]=rd.enc++c.cJ x:=rfl
theorem agO:cB 1 ((rd.enc++c.cJ pc).drop 10)=true:=rfl
theorem agP:bP aq 1 (rd.enc++cs)=U (.sl .no 5 (cE rd.l)):=rfl
theorem agG:bP aq 1 ((rd.enc++cs).drop 1)=U (.int .i64 rd.at_):=rfl
theorem agJ:bP aq 1 ((rd.enc++cs).drop 2)=U (.int .i64 rd.fin):=rfl
theorem agH:bP aq 1 ((rd.enc++cs).drop 3)=U (.int .i64 (dS rd.aO)):=rfl
theorem agI:takeN 2 ((rd.enc++cs).drop 3)=U [.int .i64 (dS rd.aO),.int .i64 (gx rd.aO)]:=rfl
theorem agL:cB 2 ((rd.enc++cs).drop 3)=true:=rfl
def agS{b:Option Int}:setAt (rd.enc++cs) 3 [.int .i64 (dS b),.int .i64 (gx b)]=({rd with aO:=b}:af).enc++cs:=by cases cs<;>rfl
def nj:=ag @agQ <| ag @agV <| ag @agO <| ag @agP <| ag @agG <| ag @agJ <| ag @agH <| ag @agI <| ag @agL @agS
def aq_{p:aC × aC}{n:Nat}(hn:n=acc.length+1):((sG Z r q D i rd c acc).aU D n).set r (rd.enc++c.cJ (.sl (.tk D) 4 (acc.map eJ++[eJ p])))=sG Z r q D i rd c (acc++[p]):=by
 subst hn;unfold sG;rw[bL,da,cZ,gm,cQ,fp];show((((Z.set q (i.enc++ij)).set r (rd.enc++c.cJ (.sl (.tk D) 4 (acc.map eJ)))).set r (rd.enc++c.cJ (.sl (.tk D) 4 (acc.map eJ++[eJ p])))).aU D acc.length).aU D (acc.length+1)=_;rw[ab.set_set,dU]
end
theorem ab.Sc{X:List V}(h:Z.sub σ'):(Z.set r X).sub (σ'.set r X):=by
 refine⟨λb cs hb=>?_,h.2⟩;simp only[ab.set] at hb ⊢
 by_cases e:b=r
 .grind
 .rw[aB e] at hb ⊢;exact h.1 b cs hb
def AK(r q:Nat):List V:=[.ptr (.out r) 0,.any,.any,.ptr (.out q) 0]++aj 80 .any
variable{acc:List (aC × aC)}
theorem ZM{q D:Nat}{i:af}{c:ar}{t:List V}{l:List (List V)}{K:St->Prop}(aW:Z.aS D=ah)(ht:c_ t (AK r q))
 (hK:K ⟨AK r q,[],(Z.set q (i.enc++ij)).set r (rd.enc++c.cJ (.sl .no 4 (acc.map eJ)))⟩):a7 ⟨t,l,sG Z r q D i rd c acc⟩ K:=by
 refine a7.Ee (l' := []) ht (by simp[bX]) ?_ (by simp[AK,aj,bE,V.lo]) rfl hK;refine⟨λb cs' hb=>?_,λO m hm=>?_,λ_ _ h=>h⟩
 .simp only[sG,ab.aU,ab.set] at hb ⊢;split at hb
  .rename_i h;subst h;simp only[bq] at hb;subst hb;exact⟨_,by rw[aL rfl],by simp[af.enc,ar.cJ,am]⟩
  .rename_i h;exact⟨cs',by rw[aB h];exact hb,c_.rfl⟩
 .have hm:Z.aS O=U m:=hm;have bf:O≠D:=by grind
  simp only[sG,ab.aU,ab.set,aB bf];exact hm
def BF{n:Nat}{i:af}(h:i.aO≠ah):af.iR n i acc=(i,acc):=by cases n<;>simp[af.iR,h]
variable{ps:List (aC × aC)}
def Q1(h:ps≠[]):tJ ps = .sl .no 4 (ps.map eJ):=by cases ps with | nil=>exact absurd rfl h | cons _ _=>rfl
def zL(Z:ab)(r q:Nat)(rd:af)(c:ar)(p:ID):St :=
 ⟨[.ptr (.out r) 0,.any,.any,.ptr (.out q) 0]++aj 80 .any,[],sG Z r q p.D p.i rd c p.acc⟩
def Tu(t:aA)(Z:ab)(R:af × List (aC × aC))(p:ID):Prop :=
 af.iR p.n p.i p.acc=R/\p.i.l=t.ae/\0<=p.i.at_/\p.i.at_<=p.i.l.length/\(p.i.aO=ah->(t.ae.length:Int)+1<=p.i.at_+p.n)/\(p.acc.length:Int)<=p.i.at_+1/\(p.i.aO=ah->(p.acc.length:Int)<=p.i.at_)/\Z.aS p.D=ah/\(p.i.aO=ah\/p.acc≠[])
theorem arf{c:ar}(h:Z.box r=U (rd.enc++c.cJ (.sl .aY 4 [])))(hc:c.aX=[])(h0:0<=rd.at_)(hm:bj rd.l+1<=aJ):
 eT 167 [.ptr (.out r) 0] Z (.bw []) (Z.set r ((rK rd c).1.enc++(rK rd c).2.cJ (tJ (rK rd c).2.aX))):=by
 have hlen:=iv rd.l;refine fq func167 ?_ ⟨[32],[11]⟩;simp only[aP,am,aT,Nat.reduceAdd];refine(I9 h h0 (by omega)).mono ?_;rintro v σ' ⟨rfl,rfl⟩;have fT:=avv (r:=rd) (k:=123);have OU:rK rd c=if (rd.take 123).2.aO≠ah\/(rd.take 123).1.ae.length=0 then((rd.take 123).2,{c with qe:=(rd.take 123).1.tok.pos})
  else((rd.take 123).2.xF ((rd.take 123).1.inner.iR ((rd.take 123).1.ae.length+1) []).1.aO,{c with qe:=(rd.take 123).1.tok.pos,aX:=((rd.take 123).1.inner.iR ((rd.take 123).1.ae.length+1) []).2}):=rfl
 rw[OU];generalize (rd.take 123).1=t at fT ⊢;generalize (rd.take 123).2=r1;simp only[am,Nat.reduceAdd,aA.al,aA.fl,af.enc,ar.cJ];cases hb:r1.aO with
 | some b =>
  simp only[am,cX,Int.reduceEq,dS];refine aN rfl (ab.a8 _) ⟨rfl,?_⟩;simp[hc,tJ,hb]
 | none =>
  simp only[am,eE,bu,dS,aA.fl]
  by_cases hk:t.ae.length=0
  .simp only[am,aG (show(t.ae.length:Int)=0 by omega)];refine aN rfl (ab.a8 _) ⟨rfl,?_⟩;simp[hc,tJ,hb,hk]
  .simp only[am,Nat.reduceAdd,aD (show ¬(t.ae.length:Int)=0 by omega),aA.fl];refine lT λq hq=>?_
   have mm:q≠r:=by rintro rfl;simp[ab.set] at hq
   have OW:Z.box q=none:=by simpa [ab.set,mm] using hq
   generalize hR:af.iR (t.ae.length+1) t.inner []=R;rw[aB (by simp[hk])];have eM:t.inner=(⟨t.ae,0,t.fin,ah⟩:af):=rfl;generalize JM:({c with qe:=t.tok.pos}:ar)=c1;have e1:∀A B,(Z.set r A).set q B=(Z.set q B).set r A:=λA B=>ab.set_comm (gM mm)
   rw[e1];refine ep (λp:{p:ID // Tu t Z R p}=>zL Z r q r1 c1 p.1) (λp=>p.1.n) ?_ ?_
   .refine(a7.Ee (t' := (zL Z r q r1 c1 ⟨0,t.inner,[],0⟩).t) (l' := []) (σ' := (Z.set q (t.inner.enc++ij)).set r (r1.enc++c1.cJ (.sl .aY 4 []))) ?_ trivial ?_ (by simp[zL,aj,bE,V.lo]) rfl rfl).bind ?_
    .simp[zL,aj,am]
    .refine aqw ?_;simp[af.enc,ar.cJ,ij,<-JM,eM,hb,dS,gx];rfl
    .rintro _ rfl;refine a7.tok 0 λD aW=>⟨_,[],(Z.set q (t.inner.enc++ij)).set r (r1.enc++c1.cJ (.sl (.tk D) 4 [])),fG.rfl,rfl,by simp,?_,⟨⟨t.ae.length+1,t.inner,[],D⟩,?_⟩,?_⟩
     .have:=rY.set (Z:=(Z.set q (t.inner.enc++ij)).set r (r1.enc++c1.cJ (.sl .aY 4 []))) (b:=r) (D:=D) (n:=0) (cs' := r1.enc++c1.cJ (.sl (.tk D) 4 [])) (ab.fE _ _ _) (by simp[af.enc,ar.cJ,ji])
      rwa [ab.set_set] at this
     .exact⟨hR,rfl,by simp[eM],by simp[eM],λ_=>by simp[eM],by simp[eM],λ_=>by simp[eM],aW,.inl rfl⟩
     .rfl
   .rintro⟨⟨n,i,acc,D⟩,hR,hl,Ez,CE,hn,ha1,A8,aW,bf⟩;simp only at hR hl Ez CE hn ha1 A8 aW bf;simp only[zL,aj,am,Fg mm,nj];have jM : i.l.length=t.ae.length:=by rw[hl]
    have Bg:i.l.length<=aJ:=by omega
    cases cg:i.aO with
    | some b =>
     simp only[am,cX,Int.reduceEq,dS];rw[BF (by simp[cg])] at hR;have N8:acc≠[]:=by grind
     refine ZM aW (by simp[AK,aj,am]) ?_;have zo:∀B,((Z.set q (i.enc++ij)).set r B).box q=U (i.enc++ij):=λB=>by simp[ab.set,mm]
     have xY:∀A B,((Z.set q A).set r B).box r=U B:=λA B=>by simp[ab.set]
     simp only[AK,aj,am,zo,nj,cg,dS];simp only[am,Nat.reduceAdd,cX,Int.reduceEq,zo,nj,cg,dS];refine aN rfl (ab.Sc (jF OW)) ⟨rfl,?_⟩;simp[<-hR,af.xF,cg,Q1 N8,<-JM,af.enc,ar.cJ,dS,gx];rfl
    | none =>
     have A8:=A8 cg;have hn:=hn cg;obtain⟨m,rfl⟩:∃m,n=m+1:=⟨n - 1,by omega⟩;simp only[af.iR,cg,tE,Dp,cz] at hR;simp only[am,bu,dS];refine(Gg (Fg mm) Ez Bg).mono ?_;rintro v σ' ⟨rfl,rfl⟩;rw[KV mm];obtain⟨g1,g2⟩:=acE i;have g2:=g2 Ez CE;have e1:i.word.2.l.length=i.l.length:=by rw[g1]
     generalize i.word.2=i1 at *;generalize i.word.1=lo at *;simp only[am,aC.al];refine(I9 (Fg mm) (by omega) (by rw[g1];exact Bg)).mono ?_;rintro v σ' ⟨rfl,rfl⟩;rw[KV mm];obtain⟨g3,g4⟩:=wB i1 60;have g4:=g4 (by omega) (by omega);have e2:(i1.take 60).2.l.length=i1.l.length:=by rw[g3]
     generalize (i1.take 60).2=i2 at *;simp only[am];refine(Gg (Fg mm) (by omega) (by rw[g3,g1];exact Bg)).mono ?_;rintro v σ' ⟨rfl,rfl⟩;rw[KV mm];obtain⟨g5,g6⟩:=acE i2;have g6:=g6 (by omega) (by omega);have e3:i2.word.2.l.length=i2.l.length:=by rw[g5]
     generalize i2.word.2=i3 at *;generalize i2.word.1=hi at *;simp only[am,Nat.reduceAdd,ZE,nj,aC.enc];refine qz (by simp[aJ] at hm ⊢;omega) (by rw[aF];exact aq') ?_;simp only[am,Nat.reduceAdd,aF,ZE,nj];rw[show [V.aQ lo.an,V.int .i64 lo.pos,.aQ hi.an,.int .i64 hi.pos]=eJ (lo,hi) from rfl,aq_ rfl];simp only[am,eE,Fg mm,nj];have uy:acc++[(lo,hi)]≠[]:=by simp
     by_cases fA:i3.at_=i.l.length
     .rw[aL fA] at hR;simp only[am,Nat.reduceEqDiff,aG (show i3.at_=(i3.l.length:Int) by omega)];refine ZM aW (by simp[AK,aj,am]) ?_;have zo:∀B,((Z.set q (i3.enc++ij)).set r B).box q=U (i3.enc++ij):=λB=>by simp[ab.set,mm]
      have xY:∀A B,((Z.set q A).set r B).box r=U B:=λA B=>by simp[ab.set]
      cases vz:i3.aO with
      | none =>
       simp only[AK,aj,am,zo,nj,vz,dS];simp only[am,bu];refine aN rfl (ab.Sc (jF OW)) ⟨rfl,?_⟩;simp[<-hR,af.xF,vz,Q1 uy,<-JM,hb,af.enc,ar.cJ,dS,gx]
      | some b =>
       simp only[AK,aj,am,zo,nj,vz,dS];simp only[am,Nat.reduceAdd,cX,Int.reduceEq,zo,nj,vz,dS];refine aN rfl (ab.Sc (jF OW)) ⟨rfl,?_⟩;simp[<-hR,af.xF,vz,Q1 uy,<-JM,af.enc,ar.cJ,dS,gx];rfl
     .rw[aB fA] at hR;simp only[am,aD (show ¬i3.at_=(i3.l.length:Int) by omega)];refine(I9 (Fg mm) (by omega) (by omega)).mono ?_;rintro v σ' ⟨rfl,rfl⟩;rw[KV mm];obtain⟨g7,g8⟩:=wB i3 44;have g8:=g8 (by omega) (by omega);have e4:(i3.take 44).2.l.length=i3.l.length:=by rw[g7]
      generalize (i3.take 44).2=i4 at *;simp only[am];refine a7.nh (I:=λp:{p:ID // Tu t Z R p}=>zL Z r q r1 c1 p.1) (μ:=λp=>p.1.n) ⟨⟨m,i4,acc++[(lo,hi)],D⟩,hR,by rw[<-hl,g7,g5,g3,g1],by simp only;omega,by simp only;omega,λCw=>?_,?_,λCw=>?_,aW,.inr uy⟩ (by simp) (by simp[zL,aj,am]) (by simp[bX,zL]) bp.rfl (by simp[zL,aj,bE,V.lo]) rfl
      .grind
      .grind
      .grind
end Go.Proofs.Tryz
