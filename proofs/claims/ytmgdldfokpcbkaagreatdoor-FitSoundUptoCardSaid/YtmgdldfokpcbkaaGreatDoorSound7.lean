/-
  For every right scope and every command that might have been read: an assertion is told just if nothing is wrong, and what is told fits the scope (FitSound), where what comes in is of bulk at most 1048576.
-/
import Derived.Lib.LaidTab
import Derived.Stop.LaidErr
import Derived.Test.YtmgdldfokpcbkaaGreatDoorCards
import Derived.Test.YtmgdldfokpcbkaaGreatDoorTie
import Derived.Test.YtmgdldfokpcbkaaGreatDoorProg
import Derived.Test.YtmgdldfokpcbkaaGreatDoorSound6
set_option linter.unusedVariables false
set_option linter.unusedSimpArgs false
set_option linter.defProp false
set_option linter.unusedSectionVars false

namespace Go.Am
open Go.ChangeShapes Go.WideShapes Go.ChangeAt Go.RowKit
section
variable {E:Env}
theorem RL_app:∀{l m:List V} {cs ds:List Value},RL E l cs→RL E m ds→RL E (l++m) (cs++ds)
  | [],_,[],_,_,h=>h
  | [],_,_::_,_,h,_=>by simp[RL] at h
  | _::_,_,[],_,h,_=>by simp[RL] at h
  | x :: l, m, c :: cs, ds, h, h2 => by
    simp only[RL,List.cons_append] at h ⊢;exact⟨h.1,RL_app h.2 h2⟩
def u64At:Value→B64
  | .int .u64 z=>BitVec.ofInt 64 z
  | _=>0#64
theorem RL_u64s:∀(cs:List Value),(∀v∈cs,∃z:Int,v = .int .u64 z∧0≤z∧z<18446744073709551616)→RL E (encW (cs.map u64At)) cs
  | [],_=>by simp[encW,RL]
  | v :: cs, h => by
    obtain⟨z,rfl,h0,h1⟩:=h v (by simp);have ih:=RL_u64s cs fun v hv=>h v (by simp[hv])
    simp only[encW,List.map_cons,RL] at ih ⊢;refine⟨?_,ih⟩;simp only[R,u64At,Value.int.injEq,true_and];rw[BitVec.toNat_ofInt];omega
end
section
variable {H:Type} (enc:TypeId × Value→H) (P:Program) (W:World) (B:DataW H→Nat)
def Tld (N:Nat) (t:TypeId) (F:List V→Nat→Prop):Prop :=
  ∀n,n<N→∀cs x,DataW.trod enc P W 0 (fun _=>true) true n t cs=some x→∃l,RL (envOf W) l cs∧(∀v∈cs,v.oneCell' = true)∧F l (B x.1)
def Flds (N:Nat):List Field→Nat→(List V→Nat→Prop)→Prop
  | [],_,F=>F [] 0
  | f::r,o,F=>f.offset=o∧∃G,Tld enc P W B N f.type G∧∀l b,G l b→Flds N r (o+P.cellsOf f.type) fun l' b' => F (l++l') (b+b')
end
section
variable {H:Type} {enc:TypeId × Value→H} {P:Program} {W:World} {B:DataW H→Nat} {BA:List (DataW H)→Nat} {N:Nat} {t:TypeId}
theorem Tld.mono {M:Nat} {F:List V→Nat→Prop} (h:Tld enc P W B N t F) (hM:M≤N):Tld enc P W B M t F:=fun n hn=>h n (Nat.lt_of_lt_of_le hn hM)
theorem Tld.to {F G:List V→Nat→Prop} (h:Tld enc P W B N t F) (hg:∀l b,F l b→G l b):Tld enc P W B N t G:=fun n hn cs x hx =>
  let ⟨l,h1,h2,h3⟩:=h n hn cs x hx
  ⟨l,h1,h2,hg _ _ h3⟩
theorem tld_int {k:IntKind} (ht:P.underlying t=some (.int k)) (hB:BulkFn B BA):Tld enc P W B N t fun l b=>∃i:Int,l=[.int k i]∧b=1∧(Lit.int k i).wf=true:=fun n _ cs x h =>
  let ⟨i,h1,h2,h3,h4⟩:=rd_int ht hB h
  ⟨_,h1,h2,i,rfl,h3,h4⟩
theorem tld_bool (ht:P.underlying t=some .bool) (hB:BulkFn B BA):Tld enc P W B N t fun l b=>∃i:Bool,l=[.bool i]∧b=1:=fun n _ cs x h =>
  let ⟨i,h1,h2,h3⟩:=rd_bool ht hB h
  ⟨_,h1,h2,i,rfl,h3⟩
theorem tld_str (ht:P.underlying t=some .string) (hB:BulkFn B BA):Tld enc P W B N t fun l b=>∃s:List UInt8,l=[.str s]∧b=s.length+1:=fun n _ cs x h =>
  let ⟨s,h1,h2,h3⟩:=rd_str ht hB h
  ⟨_,h1,h2,s,rfl,h3.symm⟩
theorem tld_u64s {e:TypeId} {n:Nat} (ht:P.underlying t=some (.array n e)) (he:P.underlying e=some (.int .u64)) (hce:P.cellsOf e=1) (hct:P.cellsOf t=n):Tld enc P W B N t fun l _=>∃w:List B64,w.length=n∧l=encW w:=by
  intro q _ cs x h;obtain⟨xs,m,rfl,rfl,hl,hx,hf⟩:=DataW.trod_array ht h;rw[hct] at hl;have all:∀v∈cs,∃z:Int,v = .int .u64 z∧0≤z∧z<18446744073709551616:=by
    intro v hv;obtain⟨i,hi,rfl⟩:=List.mem_iff_getElem.1 hv;have h1:=hf i (by omega);rw[hce,Nat.mul_one,List.getElem?_eq_getElem (show i<xs.length by omega),List.drop_eq_getElem_cons hi,List.take_succ_cons,List.take_zero] at h1;obtain⟨z,e1,_,hw⟩:=DataW.trod_int he h1;simp[Lit.wf,IntKind.min,IntKind.max,IntKind.signed,IntKind.bits] at hw;exact⟨z,by simpa using e1,by omega,by omega⟩
  refine⟨_,RL_u64s cs all,fun v hv=>?_,cs.map u64At,by simp[hl],rfl⟩;obtain⟨z,rfl,_⟩:=all v hv;rfl
theorem tld_slice {α:Type} (ea:α→List V) (sz:α→Nat) {e:TypeId} {k:Nat} (hB:BulkFn B BA) (ht:P.underlying t=some (.slice e)) (hk:P.cellsOf e=k) (hpos:0<k) (hlen:∀y,(ea y).length=k)
    (hel:Tld enc P W B N e fun l b=>∃y,l=ea y∧sz y≤b):Tld enc P W B (N+1) t fun l b=>∃ys:List α,l=[.sl .no k (ys.map ea)]∧(ys.map sz).sum+1≤b:=by
  intro n hn cs x h;obtain⟨ys,h1,h2,h3⟩:=rd_slice ea sz hB ht hk hpos hlen (fun m hm cs x h=>by
    obtain⟨l,k1,k2,y,rfl,k3⟩:=hel m (by omega) cs x h;exact⟨y,k1,k2,k3⟩) h
  exact⟨_,h1,h2,ys,rfl,h3⟩
theorem flds_read (hB:BulkFn B BA) {m:Nat} (hm:m<N) {cs:List Value}:∀(fs:List Field) (o:Nat) (F:List V→Nat→Prop) (xs:List (DataW H × List MemPlace)),Flds enc P W B N fs o F→xs.length=fs.length →
    (∀(i:Nat) (f:Field),fs[i]?=some f→DataW.trod enc P W 0 (fun _=>true) true m f.type ((cs.drop f.offset).take (P.cellsOf f.type))=xs[i]?)→cs.length=o+(fs.map fun f=>P.cellsOf f.type).sum →
    ∃l,RL (envOf W) l (cs.drop o)∧(∀v∈cs.drop o,v.oneCell' = true)∧F l (BA (xs.map (·.1)))
  | [], o, F, xs, h, hx, _, hl => by
    obtain rfl:=List.eq_nil_of_length_eq_zero (by simpa using hx);simp only[List.map_nil,List.sum_nil,Nat.add_zero] at hl;refine⟨[],?_,?_,?_⟩
    · rw[List.drop_of_length_le (by omega)];simp[RL]
    · rw[List.drop_of_length_le (by omega)];simp
    · rw[List.map_nil,hB.no];exact h
  | f :: fs, o, F, xs, h, hx, hf, hl => by
    obtain⟨h1,G,h2,h3⟩:=h;cases xs with
    | nil=>simp at hx
    | cons x xs =>
      have h0:=hf 0 f rfl;rw[List.getElem?_cons_zero,h1] at h0;obtain⟨l,k1,k2,k3⟩:=h2 m hm _ x h0;simp only[List.map_cons,List.sum_cons] at hl;obtain⟨l',g1,g2,g3⟩:=flds_read hB hm fs (o+P.cellsOf f.type) _ xs (h3 l _ k3) (by simpa using hx) (fun i f' hi=>by simpa using hf (i+1) f' (by simpa using hi)) (by omega);have e:(cs.drop o).take (P.cellsOf f.type)++cs.drop (o+P.cellsOf f.type)=cs.drop o:=by rw[←List.drop_drop,List.take_append_drop]
      refine⟨l++l',?_,fun v hv=>?_,?_⟩
      · rw[←e];exact RL_app k1 g1
      · rw[←e] at hv
        rcases List.mem_append.1 hv with hv | hv
        · exact k2 v hv
        · exact g2 v hv
      · rw[List.map_cons,hB.cons];exact g3
theorem tld_struct (hB:BulkFn B BA) {fs:Array Field} (ht:P.underlying t=some (.struct fs)) {F:List V→Nat→Prop} (h:Flds enc P W B N fs.toList 0 F) (hc:P.cellsOf t=(fs.toList.map fun f=>P.cellsOf f.type).sum) :
    Tld enc P W B (N+1) t fun l b=>∃b',F l b' ∧ b=b' + 1:=by
  intro n hn cs x hx;obtain⟨xs,m,rfl,rfl,hl,hlen,hf⟩:=DataW.trod_struct ht hx;obtain⟨l,h1,h2,h3⟩:=flds_read hB (show m<N by omega) (cs:=cs) fs.toList 0 F xs h (by simpa using hlen) (fun i f hi=>hf i f (by simpa using hi)) (by omega);exact⟨l,h1,h2,_,h3,hB.agg _⟩
theorem flds_nil {o:Nat} {F:List V→Nat→Prop} (h:F [] 0):Flds enc P W B N [] o F:=h
theorem flds_cons {f:Field} {r:List Field} {o:Nat} {F G:List V→Nat→Prop} (h1:f.offset=o) (h2:Tld enc P W B N f.type G) (h3:∀l b,G l b→Flds enc P W B N r (o+P.cellsOf f.type) fun l' b' => F (l++l') (b+b')):Flds enc P W B N (f::r) o F:=⟨h1,G,h2,h3⟩
theorem tld_struct1 (hB:BulkFn B BA) {fs:List Field} (ht:P.underlying t=some (.struct fs.toArray)) {F:List V→Nat→Prop} (hc:P.cellsOf t=(fs.map fun f=>P.cellsOf f.type).sum) (h:Flds enc P W B N fs 0 fun l b=>F l (b+1)):Tld enc P W B (N+1) t F :=
  (tld_struct hB ht (F:=fun l b=>F l (b+1)) (by simpa using h) (by simpa using hc)).to fun l b ⟨b',h1,h2⟩=>h2▸h1
theorem tld_struct0 (hB:BulkFn B BA) {fs:List Field} (ht:P.underlying t=some (.struct fs.toArray)) {F:List V→Nat→Prop} (hc:P.cellsOf t=(fs.map fun f=>P.cellsOf f.type).sum) (h:Flds enc P W B N fs 0 fun l b=>F l (b+1)):Tld enc P W B N t F :=
  (tld_struct1 hB ht hc h).mono (Nat.le_succ N)
theorem tld_slice0 {α:Type} (ea:α→List V) (sz:α→Nat) {e:TypeId} {k:Nat} (hB:BulkFn B BA) (ht:P.underlying t=some (.slice e)) (hk:P.cellsOf e=k) (hpos:0<k) (hlen:∀y,(ea y).length=k)
    (hel:Tld enc P W B N e fun l b=>∃y,l=ea y∧sz y≤b):Tld enc P W B N t fun l b=>∃ys:List α,l=[.sl .no k (ys.map ea)]∧(ys.map sz).sum+1≤b :=
  (tld_slice ea sz hB ht hk hpos hlen hel).mono (Nat.le_succ N)
theorem tld_two {e:TypeId} {k:Nat} {F G:List V→Nat→Prop} (hB:BulkFn B BA) (ht:P.underlying t=some (.array 2 e)) (hk:P.cellsOf e=k) (hct:P.cellsOf t=2*k) (hel:Tld enc P W B N e G) (hF:∀l b l' b',G l b→G l' b' → F (l++l') (b+b' + 1)):Tld enc P W B N t F:=by
  intro n hn cs x h;obtain⟨xs,m,rfl,rfl,hl,hx,hf⟩:=DataW.trod_array ht h;obtain⟨x0,x1,rfl⟩:=list2 hx;have h0:=hf 0 (by omega);have h1:=hf 1 (by omega);rw[hk] at h0 h1;rw[hct] at hl;simp only[Nat.zero_mul,List.drop_zero,Nat.one_mul,List.getElem?_cons_zero,List.getElem?_cons_succ] at h0 h1;rw[List.take_of_length_le (by simp;omega)] at h1;obtain⟨l,k1,k2,k3⟩:=hel m (by omega) _ _ h0;obtain⟨l',g1,g2,g3⟩:=hel m (by omega) _ _ h1;refine⟨l++l',?_,fun v hv=>?_,?_⟩
  · have:=RL_app k1 g1
    rwa [List.take_append_drop] at this
  · rw[←List.take_append_drop k cs] at hv
    rcases List.mem_append.1 hv with hv | hv
    · exact k2 v hv
    · exact g2 v hv
  · have:=hF _ _ _ _ k3 g3
    simpa [hB.agg,hB.cons,hB.no] using this
end
end Go.Am

namespace Go.Proofs.Tryz
open Go.Am Go.ChangeShapes Go.WideShapes Go.ChangeAt Go.RowKit
open Go.Proofs.YtmgdldfokpcbkaaGreatDoor
theorem bulkFn (H:Type):BulkFn (H:=H) Rows.uptoBulk Rows.uptoBulkAll :=
  ⟨fun _=>by simp only[Rows.uptoBulk],fun _ _=>by simp only[Rows.uptoBulk],fun _=>by simp only[Rows.uptoBulk],by simp only[Rows.uptoBulk],fun _ _=>by simp only[Rows.uptoBulk],fun _=>by simp only[Rows.uptoBulk],by simp only[Rows.uptoBulkAll],fun _ _=>by simp only[Rows.uptoBulkAll]⟩
theorem laid:laidOutB prog=true:=by kernel_rfl
theorem rowed:mapsRowed prog=true:=by kernel_rfl
theorem fulls:((List.range prog.types.size).all fun t=>match prog.underlying t with | some (.slice e)=>decide (0<prog.cellsOf e) | _=>true)=true:=by kernel_rfl
theorem own:ownKnob prog.godebug=none:=by kernel_rfl
def gB:Nat→Option (List V):=fun b=>if b=0 then some formCells else if b=1 then some tzCells else none
theorem globs_at {W:World} (h:laidMetH prog Rows.fitRightRow.laid W):MGlob W gB:=by
  have h0:laidMet prog Rows.fitRightRow.laid W:=h;have h1:=laidMet.tail h0;obtain⟨e0,k0⟩:=laid_at (g:=0) (t:=170) (vs:=formCells.map litV) h0 (by kernel_rfl) (by kernel_rfl) (fun cs fuel p hd=>(cells_of_pairs (ps:=formT) underlying170 underlying154 (by kernel_rfl) (by kernel_rfl) (by kernel_rfl) underlying9 (by kernel_rfl) (by kernel_rfl) (by kernel_rfl) hd).trans rfl) (by simp[formCells,formT]);obtain⟨e1,k1⟩:=laid_at (g:=1) (t:=187) (vs:=tzCells.map litV) h1 (by kernel_rfl) (by kernel_rfl) (fun cs fuel p hd=>(Lib.cells_of_tab (zs:=tzTab) underlying187 underlying5 (by kernel_rfl) (by kernel_rfl) hd).trans rfl) (by simp[tzCells,tzTab]);intro b cs hb;simp only[gB] at hb;split at hb
  · rename_i hq;subst hq;obtain rfl:=Option.some.inj hb;exact⟨⟨e0,k0⟩,by decide⟩
  split at hb
  · rename_i hq;subst hq;obtain rfl:=Option.some.inj hb;exact⟨⟨e1,k1⟩,by decide⟩
  simp at hb
def lay1:DataW Unit→List Value
  | .lit (.int k n)=>[.int k n]
  | .lit (.string s)=>[txtVal s]
  | _=>[]
def lay2:DataW Unit→List Value
  | .agg ds=>ds.flatMap lay1
  | d=>lay1 d
def lay3:DataW Unit→List Value
  | .agg ds=>ds.flatMap lay2
  | d=>lay1 d
def layAt (h:Array Obj) (x:Nat × DataW Unit):Array Obj:=h.modify x.1 fun
  | .cells _ t frozen=>.cells (lay3 x.2).toArray t frozen
  | o=>o
noncomputable def laidWorld (os:Os):World :=
  {World.holding prog os ⟨#[],#[],[]⟩ with heap:=[(0,Rows.laid_clearance_command_forms),(1,Rows.laid_math_bits_deBruijn64tab)].foldl layAt (World.holding prog os ⟨#[],#[],[]⟩).heap}
set_option maxRecDepth 100000
section
variable {H:Type} {enc:TypeId × Value→H} {W:World} {N:Nat}
abbrev TL (enc:TypeId × Value→H) (W:World) (N:Nat) (t:TypeId) (F:List V→Nat→Prop):Prop:=Tld enc prog W (Rows.uptoBulk (H:=H)) N t F
theorem r_int:TL enc W N 3 fun l b=>∃y:Int,l=[.int .i64 y]∧1≤b:=(tld_int underlying3 (bulkFn H)).to fun _ _ ⟨y,h,k,_⟩=>⟨y,h,by omega⟩
theorem r_bool:TL enc W N 4 fun l b=>∃y:Bool,l=[.bool y]∧1≤b:=(tld_bool underlying4 (bulkFn H)).to fun _ _ ⟨y,h,k⟩=>⟨y,h,by omega⟩
theorem r_str:TL enc W N 9 fun l b=>∃y:List UInt8,l=[.str y]∧y.length+1≤b:=(tld_str underlying9 (bulkFn H)).to fun _ _ ⟨y,h,k⟩=>⟨y,h,by omega⟩
theorem r_word:TL enc W N 27 fun l b=>∃y:Word,l=y.enc∧y.text.length+1≤b:=by
  refine tld_struct0 (bulkFn H) underlying27 (by kernel_rfl) ?_;refine flds_cons (by kernel_rfl) r_str ?_;rintro _ b0 ⟨y0,rfl,h0⟩;refine flds_cons (by kernel_rfl) r_int ?_;rintro _ b1 ⟨y1,rfl,h1⟩;exact flds_nil ⟨⟨y0,y1⟩,by rfl,by simp only;omega⟩
theorem r_words:TL enc W N 28 fun l b=>∃ys:List (Word),l=[.sl .no 2 (ys.map Word.enc)]∧wsum ys+1≤b :=
  (tld_slice0 Word.enc (fun w=>w.text.length+1) (bulkFn H) underlying28 (show prog.cellsOf 27=2 by kernel_rfl) (by decide) (fun _=>rfl) r_word)
theorem r_node:∀N,TL enc W N 32 fun l b=>∃y:Nd,l=y.enc∧y.wt+1≤b
  | 0=>fun n hn=>absurd hn (Nat.not_lt_zero n)
  | N + 1 => by
    refine tld_struct1 (bulkFn H) underlying32 (by kernel_rfl) ?_;refine flds_cons (by kernel_rfl) r_int ?_;rintro _ b0 ⟨y0,rfl,h0⟩;refine flds_cons (by kernel_rfl) r_int ?_;rintro _ b1 ⟨y1,rfl,h1⟩;refine flds_cons (by kernel_rfl) r_str ?_;rintro _ b2 ⟨y2,rfl,h2⟩;refine flds_cons (by kernel_rfl) r_words ?_;rintro _ b3 ⟨y3,rfl,h3⟩;refine flds_cons (by kernel_rfl) (tld_slice0 Nd.enc (fun n=>n.wt+1) (bulkFn H) underlying30 (show prog.cellsOf 32=5 by kernel_rfl) (by decide) (fun _=>Nd.r_len) (r_node N)) ?_;rintro _ b4 ⟨y4,rfl,h4⟩;rw[←wts_map] at h4;exact flds_nil ⟨.mk y0 y1 y2 y3 y4,by rw[Nd.enc_eq];rfl,by simp only[Nd.wt];omega⟩
theorem r_names:TL enc W N 67 fun l b=>∃ys:List (List UInt8),l=[.sl .no 1 (sCells ys)]∧(ys.map fun s=>s.length+1).sum+1≤b :=
  tld_slice0 (fun s:List UInt8=>[V.str s]) (fun s=>s.length+1) (bulkFn H) underlying67 (show prog.cellsOf 9=1 by kernel_rfl) (by decide) (fun _=>rfl) (r_str.to fun _ _ ⟨y,h,k⟩=>⟨y,h,k⟩)
theorem r_rel:TL enc W N 70 fun l b=>∃y:Rl,l=y.enc∧0≤b:=by
  refine tld_struct0 (bulkFn H) underlying70 (by kernel_rfl) ?_;refine flds_cons (by kernel_rfl) r_int ?_;rintro _ b0 ⟨y0,rfl,h0⟩;refine flds_cons (by kernel_rfl) (tld_u64s underlying68 underlying39 (by kernel_rfl) (by kernel_rfl)) ?_;rintro _ b1 ⟨y1,h1,rfl⟩;exact flds_nil ⟨⟨y0,y1,h1⟩,by rw[List.append_nil];rfl,Nat.zero_le _⟩
theorem r_fct:TL enc W N 72 fun l b=>∃y:Fct,l=y.enc∧0≤b:=by
  refine tld_struct0 (bulkFn H) underlying72 (by kernel_rfl) ?_;refine flds_cons (by kernel_rfl) r_int ?_;rintro _ b0 ⟨y0,rfl,h0⟩;refine flds_cons (by kernel_rfl) r_names ?_;rintro _ b1 ⟨y1,rfl,h1⟩;refine flds_cons (by kernel_rfl) r_rel ?_;rintro _ b2 ⟨y2,rfl,h2⟩;exact flds_nil ⟨⟨y0,y1,y2⟩,by simp[Fct.enc],by exact Nat.zero_le _⟩
theorem r_fcts:TL enc W N 58 fun l b=>∃ys:List (Fct),l=[.sl .no 67 (ys.map Fct.enc)]∧(ys.map fun _=>0).sum+1≤b :=
  (tld_slice0 Fct.enc (fun _=>0) (bulkFn H) underlying58 (show prog.cellsOf 72=67 by kernel_rfl) (by decide) (fun _=>Fct.r_len) r_fct)
theorem r_shp:TL enc W N 60 fun l b=>∃y:Shp,l=y.enc∧0≤b:=by
  refine tld_struct0 (bulkFn H) underlying60 (by kernel_rfl) ?_;refine flds_cons (by kernel_rfl) r_bool ?_;rintro _ b0 ⟨y0,rfl,h0⟩;refine flds_cons (by kernel_rfl) r_fcts ?_;rintro _ b1 ⟨y1,rfl,h1⟩;exact flds_nil ⟨⟨y0,y1⟩,by rfl,by exact Nat.zero_le _⟩
theorem r_lat:TL enc W N 62 fun l b=>∃y:Ltc,l=y.enc∧0≤b:=by
  refine tld_struct0 (bulkFn H) underlying62 (by kernel_rfl) ?_;refine flds_cons (by kernel_rfl) r_str ?_;rintro _ b0 ⟨y0,rfl,h0⟩;refine flds_cons (by kernel_rfl) r_shp ?_;rintro _ b1 ⟨y1,rfl,h1⟩;exact flds_nil ⟨⟨y0,y1⟩,by rfl,by exact Nat.zero_le _⟩
theorem r_var:TL enc W N 65 fun l b=>∃y:Vrb,l=y.enc∧0≤b:=by
  refine tld_struct0 (bulkFn H) underlying65 (by kernel_rfl) ?_;refine flds_cons (by kernel_rfl) r_str ?_;rintro _ b0 ⟨y0,rfl,h0⟩;refine flds_cons (by kernel_rfl) r_int ?_;rintro _ b1 ⟨y1,rfl,h1⟩;refine flds_cons (by kernel_rfl) r_int ?_;rintro _ b2 ⟨y2,rfl,h2⟩;exact flds_nil ⟨⟨y0,y1,y2⟩,by rfl,by exact Nat.zero_le _⟩
theorem r_lats:TL enc W N 22 fun l b=>∃ys:List (Ltc),l=[.sl .no 3 (ys.map Ltc.enc)]∧(ys.map fun _=>0).sum+1≤b :=
  (tld_slice0 Ltc.enc (fun _=>0) (bulkFn H) underlying22 (show prog.cellsOf 62=3 by kernel_rfl) (by decide) (fun _=>rfl) r_lat)
theorem r_vars:TL enc W N 23 fun l b=>∃ys:List (Vrb),l=[.sl .no 3 (ys.map Vrb.enc)]∧(ys.map fun _=>0).sum+1≤b :=
  (tld_slice0 Vrb.enc (fun _=>0) (bulkFn H) underlying23 (show prog.cellsOf 65=3 by kernel_rfl) (by decide) (fun _=>rfl) r_var)
theorem r_scp:TL enc W N 25 fun l b=>∃y:Scp,l=y.enc∧0≤b:=by
  refine tld_struct0 (bulkFn H) underlying25 (by kernel_rfl) ?_;refine flds_cons (by kernel_rfl) r_lats ?_;rintro _ b0 ⟨y0,rfl,h0⟩;refine flds_cons (by kernel_rfl) r_vars ?_;rintro _ b1 ⟨y1,rfl,h1⟩;exact flds_nil ⟨⟨y0,y1⟩,by rfl,by exact Nat.zero_le _⟩
theorem r_pair:TL enc W N 95 fun l b=>∃y:Word × Word,l=penc y∧y.1.text.length+y.2.text.length+2≤b :=
  tld_two (bulkFn H) underlying95 (show prog.cellsOf 27=2 by kernel_rfl) (by kernel_rfl) r_word fun _ _ _ _ ⟨y,e,h⟩ ⟨z,e',h'⟩=>⟨(y,z),by subst e e';rfl,by simp only;omega⟩
theorem r_pairs:TL enc W N 29 fun l b=>∃ys:List (Word × Word),l=[.sl .no 4 (ys.map penc)]∧psum ys+1≤b :=
  (tld_slice0 penc (fun p=>p.1.text.length+p.2.text.length+2) (bulkFn H) underlying29 (show prog.cellsOf 95=4 by kernel_rfl) (by decide) (fun _=>rfl) r_pair)
theorem r_cmd:TL enc W N 34 fun l b=>∃y:Cmd,l=y.enc∧y.wt≤b:=by
  refine tld_struct0 (bulkFn H) underlying34 (by kernel_rfl) ?_;refine flds_cons (by kernel_rfl) r_int ?_;rintro _ b0 ⟨y0,rfl,h0⟩;refine flds_cons (by kernel_rfl) r_int ?_;rintro _ b1 ⟨y1,rfl,h1⟩;refine flds_cons (by kernel_rfl) r_word ?_;rintro _ b2 ⟨y2,rfl,h2⟩;refine flds_cons (by kernel_rfl) r_words ?_;rintro _ b3 ⟨y3,rfl,h3⟩;refine flds_cons (by kernel_rfl) r_pairs ?_;rintro _ b4 ⟨y4,rfl,h4⟩;refine flds_cons (by kernel_rfl) r_int ?_;rintro _ b5 ⟨y5,rfl,h5⟩;refine flds_cons (by kernel_rfl) (r_node N) ?_;rintro _ b6 ⟨y6,rfl,h6⟩;refine flds_cons (by kernel_rfl) (r_node N) ?_;rintro _ b7 ⟨y7,rfl,h7⟩;exact flds_nil ⟨⟨y0,y1,y2,y3,y4,y5,y6,y7⟩,by simp[Cmd.enc,Cmd.encP,Word.enc,Nd.enc_eq],by simp only[Cmd.wt];omega⟩
end
end Go.Proofs.Tryz

namespace Go.Proofs.Tryz
open Go.Am
set_option maxRecDepth 4000
set_option maxHeartbeats 4000000
end Go.Proofs.Tryz

namespace Go.Proofs.Tryz
open Go.Am
set_option maxRecDepth 4000
set_option maxHeartbeats 4000000
end Go.Proofs.Tryz

namespace Go.Proofs.Tryz
open Go.Am
set_option maxRecDepth 4000
set_option maxHeartbeats 4000000
end Go.Proofs.Tryz

namespace Go.Proofs.Tryz
open Go.Am
set_option maxRecDepth 4000
set_option maxHeartbeats 4000000
end Go.Proofs.Tryz

namespace Go.Proofs.Tryz
open Go.Am
set_option maxRecDepth 4000
set_option maxHeartbeats 4000000
def ac46:AC:=.seq (.reg [⟨(some 2),.mv (.c (.bool false)),none⟩])
 (.seq (.seq (.reg [xi 3 0])
 (.block 0 (.loop (.seq (.seq (.reg [xm 4 3,xm 5 0,xL 6 5,xb .lss 7 4 6])
 (.cond (.s 7) (.skip)
 (.exit 0)))
 (.seq (.block 1 (.seq (.reg [xm 10 0,xm 11 3,xA 2 12 10 11,xf 0 13 12,xo 14 13,xc 39 15 [.s 14],⟨(some 16),.not (.s 15),none⟩])
 (.cond (.s 16) (.seq (.reg [⟨(some 2),.mv (.c (.bool false)),none⟩])
 (.ret))
 (.skip))))
 (.reg [xm 8 3,xB .add 9 8 1,xm 3 9]))))))
 (.seq (.reg [⟨(some 2),.mv (.c (.bool true)),none⟩])
 (.ret)))
theorem fn46:IsFn prog 46 ac46 [.tmp 2] 17:=⟨f46,⟨[],[],[]⟩,func46,by kernel_rfl,by kernel_rfl,by kernel_rfl,by kernel_rfl⟩
def ac47:AC:=.seq (.reg [⟨(some 4),.mv (.c (.bool false)),none⟩])
 (.seq (.reg [xm 7 0,xc 79 8 [.s 7],xm 5 8])
 (.seq (.seq (.reg [xi 6 0])
 (.block 0 (.loop (.seq (.seq (.reg [xm 9 6,xm 10 5,xT 11 10,xb .lss 12 9 11])
 (.cond (.s 12) (.skip)
 (.exit 0)))
 (.seq (.block 1 (.seq (.reg [xm 15 5,xm 16 6,xS 17 15 16,xm 18 1,xb .eql 19 17 18])
 (.cond (.s 19) (.seq (.reg [⟨(some 4),.mv (.c (.bool true)),none⟩])
 (.ret))
 (.skip))))
 (.reg [xm 13 6,xB .add 14 13 1,xm 6 14]))))))
 (.seq (.reg [⟨(some 4),.mv (.c (.bool false)),none⟩])
 (.ret))))
theorem fn47:IsFn prog 47 ac47 [.tmp 4] 20:=⟨f47,⟨[],[],[]⟩,func47,by kernel_rfl,by kernel_rfl,by kernel_rfl,by kernel_rfl⟩
def ac50:AC:=.seq (.reg [⟨(some 1),.box 5 (.s 0),none⟩,⟨(some 2),.mv (.c (.bool false)),none⟩])
 (.seq (.reg [xl 5 3 1,⟨(some 4),.build [(.int .i64 0),(.int .i64 0),(.str []),(.sl .full 2 []),(.sl .full 5 [])] [],none⟩,xc 82 5 [.s 3,.s 4],xm 2 5])
 (.ret))
theorem fn50:IsFn prog 50 ac50 [.tmp 2] 6:=⟨f50,⟨[],[],[]⟩,func50,by kernel_rfl,by kernel_rfl,by kernel_rfl,by kernel_rfl⟩
def hasL (op:Int) (k:UInt8):Bool:=(formOf op).2.any (· == k)
theorem hasL_cnt (op:Int) (k:UInt8):hasL op k=decide (0<cntN op k):=by
  unfold hasL cntN;generalize (formOf op).2=ks;induction ks with
  | nil=>simp
  | cons x xs ih =>
    rw[List.any_cons,ih,List.count_cons]
    by_cases h:x=k
    · simp[h]
    · simp[h]
def invHs (op:Int) (k:UInt8) (ks:List UInt8) (σ:Store) (i:Nat):St :=
  ⟨[.any,.int .u8 (k.toNat:Nat),.any,.any,.any,.str ks,.int .i64 (i:Nat)]++List.replicate 13 .any,[],σ⟩
theorem has12_calls (op:Int) (k:UInt8) (σ:Store):PCalls prog 47 [.int .i64 op,.int .u8 (k.toNat:Nat)] σ fun v σ' => v = .bool (hasL op k)∧σ' = σ:=by
  have hkl:=form_len op;refine fn47.calls ?_;simp only[slots,ac47,am,ams,Nat.reduceAdd];refine cl (letters_calls op σ) ?_;simp only[am];have hh:hasL op k=(formOf op).2.any (· == k):=rfl;generalize (formOf op).2=ks at hkl hh ⊢;refine vc_loop (fun p:{i:Nat // i≤ks.length∧(ks.take i).any (· == k)=false}=>invHs op k ks σ p.1) (fun p=>ks.length - p.1) ?_ ?_
  · refine Upd.enter ⟨0,by simp,by simp⟩ ?_ LLLe.rfl OLe.rfl;simp[invHs,List.replicate,am]
  rintro⟨i,hi,ha⟩;simp only[invHs,List.replicate,am];refine vcIf_split ?_ ?_
  · intro hlt;have hlt:i<ks.length:=by simpa using hlt
    have hkk:((ks[i].toNat:Nat):Int)=(k.toNat:Nat)↔ks[i]=k:=by
      constructor
      · intro h;exact UInt8.toNat_inj.1 (by omega)
      · intro h;rw[h]
    simp only[am];refine idxSL_intro (by omega) (str_at hlt) ?_;simp only[am]
    by_cases he:ks[i]=k
    · simp only[am,decide_eq_true (hkk.2 he)]
      have:ks.any (· == k)=true:=List.any_eq_true.2 ⟨ks[i],List.getElem_mem hlt,by simp[he]⟩
      refine retS ?_;simp[V.erase,hh,this]
    · simp only[am,decide_eq_false (fun h=>he (hkk.1 h))];rw[wrap_i64 (by omega) (by omega)];refine Upd.again ⟨i+1,hlt,?_⟩ (by simp;omega) (by simp[am]) LLLe.rfl OLe.rfl;rw[List.take_add_one,List.getElem?_eq_getElem hlt,List.any_append,ha];simp[he]
  intro hlt;have hlt:i=ks.length:=by simp at hlt;omega
  subst hlt;rw[List.take_length] at ha;simp only[am];refine retS ?_;simp[V.erase,hh,ha]
def inv12n (l:List Word) (τ:Tk) (σ:Store) (i:Nat):St :=
  ⟨[.sl τ 2 (l.map Word.enc),.any,.any,.int .i64 (i:Nat)]++List.replicate 13 .any,[],σ⟩
theorem texts12_calls {τ:Tk} (l:List Word) (σ:Store) (hb:l.length≤big):PCalls prog 46 [.sl τ 2 (l.map Word.enc)] σ fun v σ' => v = .bool (rightW l)∧σ' = σ:=by
  simp only[big] at hb;refine fn46.calls ?_;simp only[slots,ac46,am,ams];refine vc_loop (fun p:{i:Nat // i≤l.length∧(l.take i).all (fun w=>nameR w.text)=true}=>inv12n l τ σ p.1) (fun p=>l.length - p.1) ?_ ?_
  · refine Upd.enter ⟨0,by simp,by simp⟩ ?_ LLLe.rfl OLe.rfl;simp[inv12n,List.replicate,am]
  · rintro⟨i,hi,ha⟩;simp only[inv12n,List.replicate,am,List.length_map];refine vcIf_split ?_ ?_
    · intro hlt;have hlt:i<l.length:=by simpa using hlt
      simp only[am];refine idxL_intro (by omega) (wencs_at (List.getElem?_eq_getElem hlt)) ?_;simp only[am,Word.enc];refine cl (right2_calls l[i].text σ) ?_;cases hg:nameR l[i].text
      · simp only[am];refine retK_intro rfl (Store.sub_refl _) ⟨?_,rfl⟩;rw[show rightW l=false from all_no (f:=fun (w:Word)=>nameR w.text) hlt hg];rfl
      · simp only[am];rw[wrap_i64 (by omega) (by omega)];exact Upd.again ⟨i+1,hlt,by rw[xall_take hlt,ha,hg];rfl⟩ (by simp;omega) (by simp[am]) LLLe.rfl OLe.rfl
    · intro hlt;have hlt:i=l.length:=by simp at hlt;omega
      subst hlt;rw[List.take_length] at ha;simp only[am];refine retS ?_;simp[V.erase,rightW,ha]
theorem zero12_calls (n:Nd) (σ:Store) (hw:n.wt≤big):PCalls prog 50 [.agg n.enc] σ fun v σ' => v = .bool (n.sameQ .zero)∧σ' = σ:=by
  have h:PCalls prog 82 [.agg n.enc,.agg [.int .i64 0,.int .i64 0,.str [],.sl .full 2 [],.sl .full 5 []]] σ fun v σ' => v = .bool (n.sameQ .zero)∧σ' = σ:=by
    refine PCalls.weak (same25_calls _ n .zero σ (Nat.le_refl _) hw) ?_ OLe.rfl;simp only[LLe,VLe.rfl,and_true,true_and];rw[←zero_nd_enc];exact VLe.erase (v:=.agg [.int .i64 0,.int .i64 0,.str [],.sl .full 2 [],.sl .full 5 []])
  refine fn50.calls ?_;simp only[slots,ac50,am,ams,Nd.rec_];refine cl (h) ?_;simp only[am];refine retS ?_;simp[V.erase]
end Go.Proofs.Tryz

namespace Go.Proofs.Tryz
open Go.Am
set_option maxRecDepth 4000
set_option maxHeartbeats 4000000
def ac16:AC:=.seq (.reg [⟨(some 1),.box 17 (.s 0),none⟩,⟨(some 2),.mv (.c (.bool false)),none⟩])
 (.seq (.seq (.reg [xf 0 6 1,xo 7 6,xB .lss 8 7 0,xm 9 8,xh 9 (xf 0 10 1),xh 9 (xo 11 10),xh 9 (xB .gtr 12 11 15),⟨(some 13),.pick (.s 9) (.c (.bool true)) (.s 12),none⟩,xm 14 13,xh 14 (xf 4 15 1),xh 14 (xo 16 15),xh 14 (xc 46 17 [.s 16]),⟨(some 18),.not (.s 17),(some (14,false))⟩,⟨(some 19),.pick (.s 14) (.c (.bool true)) (.s 18),none⟩])
 (.cond (.s 19) (.seq (.reg [⟨(some 2),.mv (.c (.bool false)),none⟩])
 (.ret))
 (.skip)))
 (.seq (.seq (.reg [xi 3 0])
 (.block 0 (.loop (.seq (.seq (.reg [xm 20 3,xf 5 21 1,xo 22 21,xL 23 22,xb .lss 24 20 23])
 (.cond (.s 24) (.skip)
 (.exit 0)))
 (.seq (.block 1 (.seq (.draw [(xf 5 27 1,[]),(xo 28 27,[]),(xm 29 3,[]),(xA 4 30 28 29,[]),(⟨(some 31),.idxP 2 2 (.s 30) (.c (.int .i64 0)),none⟩,[]),(xl 2 32 31,[]),(xf 5 33 1,[]),(xo 34 33,[]),(xm 35 3,[]),(xA 4 36 34 35,[]),(⟨(some 37),.idxP 2 2 (.s 36) (.c (.int .i64 1)),none⟩,[]),(xl 2 38 37,[]),(⟨(some 39),.bslice 2 [(.s 32),(.s 38)],none⟩,[]),(xc 46 40 [.s 39],[]),(⟨(some 41),.not (.s 40),none⟩,[])])
 (.cond (.s 41) (.seq (.reg [⟨(some 2),.mv (.c (.bool false)),none⟩])
 (.ret))
 (.skip))))
 (.reg [xm 25 3,xB .add 26 25 1,xm 3 26]))))))
 (.seq (.draw [(xf 0 42 1,[]),(xo 43 42,[]),(xc 47 44 [.s 43,.c (.int .u8 102)],[]),(xf 0 45 1,[]),(xo 46 45,[0]),(xc 47 47 [.s 46,.c (.int .u8 119)],[]),(xm 4 44,[]),(xm 5 47,[])])
 (.seq (.seq (.draw [(xf 0 48 1,[]),(xo 49 48,[]),(xc 47 50 [.s 49,.c (.int .u8 110)],[]),(xf 2 51 1,[]),(xf 0 52 51,[]),(xo 53 52,[0]),(xc 39 54 [.s 53],[]),(⟨(some 55),.binB true (.s 50) (.s 54),none⟩,[]),(xm 56 55,[]),(xh 56 (xf 0 57 1),[]),(xh 56 (xo 58 57),[]),(xh 56 (xc 47 59 [.s 58,.c (.int .u8 110)]),[]),(⟨(some 60),.not (.s 59),(some (56,false))⟩,[]),(xh 56 (xm 61 60),[]),(xg 61 (xf 2 62 1),[]),(xg 61 (xf 0 63 62),[]),(xg 61 (xo 64 63),[]),(⟨(some 65),.binS .neq (.s 64) (.c (.str [])),(some (61,true))⟩,[]),(⟨(some 66),.pick (.s 61) (.s 65) (.c (.bool false)),(some (56,false))⟩,[]),(⟨(some 67),.pick (.s 56) (.c (.bool true)) (.s 66),none⟩,[]),(xm 68 67,[]),(xh 68 (xm 69 4),[]),(xh 68 (xm 70 69),[]),(xg 70 (xf 4 71 1),[]),(xg 70 (xo 72 71),[]),(xg 70 (xL 73 72),[]),(xg 70 (xB .neq 74 73 1),[]),(⟨(some 75),.pick (.s 70) (.s 74) (.c (.bool false)),(some (68,false))⟩,[]),(⟨(some 76),.pick (.s 68) (.c (.bool true)) (.s 75),none⟩,[]),(xm 77 76,[]),(xh 77 (xm 78 5),[]),(xh 77 (xm 79 78),[]),(xg 79 (xf 4 80 1),[]),(xg 79 (xo 81 80),[]),(xg 79 (xL 82 81),[]),(xg 79 (xB .eql 83 82 0),[]),(⟨(some 84),.pick (.s 79) (.s 83) (.c (.bool false)),(some (77,false))⟩,[]),(⟨(some 85),.pick (.s 77) (.c (.bool true)) (.s 84),none⟩,[]),(xm 86 85,[]),(xh 86 (xm 87 4),[]),(⟨(some 88),.not (.s 87),(some (86,false))⟩,[]),(xh 86 (xm 89 88),[]),(xg 89 (xm 90 5),[]),(⟨(some 91),.not (.s 90),(some (89,true))⟩,[]),(⟨(some 92),.pick (.s 89) (.s 91) (.c (.bool false)),(some (86,false))⟩,[]),(xh 86 (xm 93 92),[]),(xg 93 (xf 4 94 1),[]),(xg 93 (xo 95 94),[]),(xg 93 (xL 96 95),[]),(xg 93 (xB .gtr 97 96 0),[]),(⟨(some 98),.pick (.s 93) (.s 97) (.c (.bool false)),(some (86,false))⟩,[]),(⟨(some 99),.pick (.s 86) (.c (.bool true)) (.s 98),none⟩,[]),(xm 100 99,[]),(xh 100 (xf 0 101 1),[]),(xh 100 (xo 102 101),[]),(xh 100 (xc 47 103 [.s 102,.c (.int .u8 112)]),[]),(⟨(some 104),.not (.s 103),(some (100,false))⟩,[]),(xh 100 (xm 105 104),[]),(xg 105 (xf 5 106 1),[]),(xg 105 (xo 107 106),[]),(xg 105 (xL 108 107),[]),(xg 105 (xB .gtr 109 108 0),[]),(⟨(some 110),.pick (.s 105) (.s 109) (.c (.bool false)),(some (100,false))⟩,[]),(⟨(some 111),.pick (.s 100) (.c (.bool true)) (.s 110),none⟩,[])])
 (.cond (.s 111) (.seq (.reg [⟨(some 2),.mv (.c (.bool false)),none⟩])
 (.ret))
 (.skip)))
 (.seq (.seq (.reg [xf 0 112 1,xo 113 112,xc 47 114 [.s 113,.c (.int .u8 116)]])
 (.cond (.s 114) (.seq (.reg [xf 7 115 1,xl 5 116 115,xc 48 117 [.s 116],xm 118 117,xg 118 (xf 12 119 1),xg 118 (xl 5 120 119),xg 118 (xc 48 121 [.s 120]),⟨(some 122),.pick (.s 118) (.s 121) (.c (.bool false)),none⟩,xm 2 122])
 (.ret))
 (.skip)))
 (.seq (.seq (.reg [xf 0 123 1,xo 124 123,xc 47 125 [.s 124,.c (.int .u8 114)]])
 (.cond (.s 125) (.seq (.reg [xf 7 126 1,xl 5 127 126,xc 49 128 [.s 127],xm 129 128,xg 129 (xf 12 130 1),xg 129 (xl 5 131 130),xg 129 (xc 49 132 [.s 131]),⟨(some 133),.pick (.s 129) (.s 132) (.c (.bool false)),none⟩,xm 2 133])
 (.ret))
 (.skip)))
 (.seq (.reg [xf 7 134 1,xl 5 135 134,xc 50 136 [.s 135],xm 137 136,xg 137 (xf 12 138 1),xg 137 (xl 5 139 138),xg 137 (xc 50 140 [.s 139]),⟨(some 141),.pick (.s 137) (.s 140) (.c (.bool false)),none⟩,xm 2 141])
 (.ret))))))))
theorem fn16:IsFn prog 16 ac16 [.tmp 2] 142:=⟨f16,⟨[],[],[]⟩,func16,by kernel_rfl,by kernel_rfl,by kernel_rfl,by kernel_rfl⟩
def badR (c:Cmd):Bool :=
  (hasL c.op 110 != nameR c.name.text)||(!hasL c.op 110&&!decide (c.name.text=[]))||(hasL c.op 102&&!decide (c.names.length=1))||(hasL c.op 119&&decide (c.names.length=0)) ||
    (!hasL c.op 102&&!hasL c.op 119&&decide (0<c.names.length))||(!hasL c.op 112&&decide (0<c.pairs.length))
def termR (c:Cmd):Bool:=if hasL c.op 116=true then c.left.labelQ&&c.right.labelQ else if hasL c.op 114=true then c.left.rowQ&&c.right.rowQ else c.left.sameQ .zero&&c.right.sameQ .zero
def rightR (c:Cmd):Bool:=decide (0≤c.op∧c.op≤15)&&rightW c.names&&c.pairs.all pairQ&&!badR c&&termR c
theorem right_same (c:Cmd):rightR c=c.rightQ:=by
  unfold rightR Cmd.rightQ
  by_cases ho:0≤c.op∧c.op≤15
  case neg=>simp[ho]
  have hboth:¬(0<cntN c.op 119∧0<cntN c.op 102):=by
    have key:∀n<16,¬(0<cntN ((n:Nat):Int) 119∧0<cntN ((n:Nat):Int) 102):=by decide +kernel
    have:=key c.op.toNat (by omega)
    rwa [show ((c.op.toNat:Nat):Int)=c.op by omega] at this
  have hn:(!(hasL c.op 110 != nameR c.name.text)&&!(!hasL c.op 110&&!decide (c.name.text=[])))=c.nameQ:=by
    unfold Cmd.nameQ;rw[hasL_cnt]
    by_cases h:cntN c.op 110=0
    · rw[if_pos h,h]
      by_cases he:c.name.text=[]
      · simp[he,show nameR []=false by decide]
      · simp[he]
    · rw[if_neg h,decide_eq_true (show 0<cntN c.op 110 by omega)];simp
  have hns:(rightW c.names&&!(hasL c.op 102&&!decide (c.names.length=1))&&!(hasL c.op 119&&decide (c.names.length=0))&&!(!hasL c.op 102&&!hasL c.op 119&&decide (0<c.names.length)))=c.namesQ:=by
    have he:namedQ (c.names.map Word.text)=rightW c.names:=by simp only[namedQ,List.all_map];rfl
    unfold Cmd.namesQ;rw[hasL_cnt,hasL_cnt,he]
    by_cases h1:0<cntN c.op 119
    · have h2:¬0<cntN c.op 102:=fun h=>hboth ⟨h1,h⟩
      rw[if_pos h1,decide_eq_true h1,decide_eq_false h2]
      by_cases h3:c.names.length=0
      · simp[h3]
      · simp[h3,show 0<c.names.length by omega]
    · rw[if_neg h1,decide_eq_false h1]
      by_cases h2:0<cntN c.op 102
      · rw[if_pos h2,decide_eq_true h2];simp[Bool.and_comm]
      · rw[if_neg h2,decide_eq_false h2]
        by_cases h3:c.names.length=0
        · have:c.names=[]:=List.length_eq_zero_iff.1 h3
          simp[this,rightW]
        · simp[h3,show 0<c.names.length by omega]
  have hp:(c.pairs.all pairQ&&!(!hasL c.op 112&&decide (0<c.pairs.length)))=c.pairsQ:=by
    unfold Cmd.pairsQ;rw[hasL_cnt]
    by_cases h:cntN c.op 112=0
    · rw[if_pos h,h]
      by_cases h3:c.pairs.length=0
      · have:c.pairs=[]:=List.length_eq_zero_iff.1 h3
        simp[this]
      · simp[h3,show 0<c.pairs.length by omega]
    · rw[if_neg h,decide_eq_true (show 0<cntN c.op 112 by omega)];simp
  have ht:termR c=c.termsQ:=by
    unfold termR Cmd.termsQ;rw[hasL_cnt,hasL_cnt];simp only[decide_eq_true_eq]
  rw[←hn,←hns,←hp,ht];unfold badR;generalize c.termsQ=t;generalize c.pairs.all pairQ=p;generalize rightW c.names=w;generalize (hasL c.op 110 != nameR c.name.text)=b1;generalize (!hasL c.op 110&&!decide (c.name.text=[]))=b2;generalize (hasL c.op 102&&!decide (c.names.length=1))=b3;generalize (hasL c.op 119&&decide (c.names.length=0))=b4;generalize (!hasL c.op 102&&!hasL c.op 119&&decide (0<c.names.length))=b5;generalize (!hasL c.op 112&&decide (0<c.pairs.length))=b6;simp only[ho,and_self,decide_true,Bool.true_and];cases t<;>cases p<;>cases w<;>cases b1<;>cases b2<;>cases b3<;>cases b4<;>cases b5<;>cases b6<;>rfl
def inv12r (c:Cmd) (σ:Store) (i:Nat):St :=
  ⟨[.any,.ptr (.loc 0) 0,.any,.int .i64 (i:Nat)]++List.replicate 138 .any,[c.enc],σ⟩
theorem right12_calls (c:Cmd) (σ:Store) (hn:c.names.length+1≤big) (hp:c.pairs.length+1≤big) (hl:c.left.wt≤big) (hr:c.right.wt≤big):PCalls prog 16 [.agg c.enc] σ fun v σ' => v = .bool c.rightQ∧σ' = σ:=by
  simp only[big] at hn hp;rw[←right_same];refine fn16.calls ?_;simp only[slots,ac16,am,ams,cfl,cfo]
  by_cases k1:c.op<0
  · simp only[am,decide_eq_true k1];refine retS ?_;simp[V.erase,rightR,show ¬(0≤c.op∧c.op≤15) by omega]
  simp only[am,cfo,decide_eq_false k1]
  by_cases k2:15<c.op
  · simp only[am,decide_eq_true k2];refine retS ?_;simp[V.erase,rightR,show ¬(0≤c.op∧c.op≤15) by omega]
  have k3:0≤c.op∧c.op≤15:=by omega
  simp only[am,cfv,decide_eq_false k2];refine cl (texts12_calls c.names σ (by simp only[big];omega)) ?_;simp only[am];cases q1:rightW c.names
  · simp only[am];refine retS ?_;simp[V.erase,rightR,q1]
  simp only[am];refine vc_loop (fun p:{i:Nat // i≤c.pairs.length∧(c.pairs.take i).all pairQ=true}=>inv12r c σ p.1) (fun p=>c.pairs.length - p.1) ?_ ?_
  · refine Upd.enter ⟨0,by simp,by simp⟩ ?_ LLLe.rfl OLe.rfl;simp[inv12r,List.replicate,am]
  rintro⟨i,hi,ha⟩;simp only[inv12r,List.replicate,am,cfv,List.length_map]
  by_cases hlt:i<c.pairs.length
  · simp only[am,cfv,decide_eq_true (show (i:Int)<c.pairs.length by omega)];refine idxL_intro (by omega) (pencs_at (List.getElem?_eq_getElem hlt)) ?_;simp only[am,amc];refine idxPL_elt (by omega) (by omega) ?_;simp only[am,Int.reduceToNat,Nat.reduceMul,cfv,penc];refine idxL_intro (by omega) (pencs_at (List.getElem?_eq_getElem hlt)) ?_;simp only[am,amc];refine idxPL_elt (by omega) (by omega) ?_;simp only[am,Nat.reduceAdd,Int.reduceToNat,Nat.reduceMul,penc];refine CallD.intro (texts12_calls (τ:=.full) [c.pairs[i].1,c.pairs[i].2] σ (by simp[big])) ?_;have hpq:rightW [c.pairs[i].1,c.pairs[i].2]=pairQ c.pairs[i]:=by simp[rightW,pairQ]
    simp only[am,hpq];cases q:pairQ c.pairs[i]
    · simp only[am]
      have:c.pairs.all pairQ=false:=all_no (f:=pairQ) hlt q
      refine retS ?_;simp[V.erase,rightR,this]
    · simp only[am];rw[wrap_i64 (by omega) (by omega)];exact Upd.again (I:=fun p:{i:Nat // i≤c.pairs.length∧(c.pairs.take i).all pairQ=true}=>inv12r c σ p.1) (μ:=fun p=>c.pairs.length - p.1) ⟨i+1,hlt,by rw[xall_take hlt,ha,q];rfl⟩ (by simp;omega) (by simp[List.replicate,am,inv12r]) LLLe.rfl OLe.rfl
  · have hlt:i=c.pairs.length:=by omega
    subst hlt;rw[List.take_length] at ha;simp only[am,cfo,decide_eq_false (show ¬(c.pairs.length:Int)<c.pairs.length by omega)];have hq:rightR c=(!badR c&&termR c):=by simp[rightR,k3,q1,ha]
    rw[hq];refine CallD.intro (has12_calls c.op 102 σ) ?_;simp only[am,cfo];refine CallD.intro (has12_calls c.op 119 σ) ?_;simp only[am,cfo];refine CallD.intro (has12_calls c.op 110 σ) ?_;simp only[am,cfv];refine CallD.intro (right2_calls c.name.text σ) ?_;simp only[am]
    by_cases e1:hasL c.op 110=nameR c.name.text
    case' neg =>
      simp only[am,cfv,decide_eq_false e1];refine retS ?_;simp[V.erase,badR,e1]
    case' pos =>
      simp only[am,cfo,decide_eq_true e1];refine CallD.intro (has12_calls c.op 110 σ) ?_;simp only[am];cases q110:hasL c.op 110
      case' false =>
        simp only[am,cfv]
        by_cases e2:c.name.text=[]
        case' neg =>
          simp only[am,cfv,decide_eq_false e2];refine retS ?_;simp[V.erase,badR,q110,e2]
        case' pos =>
          simp only[am,decide_eq_true e2]
      case' true =>
        simp only[am]
    all_goals
      cases q102:hasL c.op 102
      case' true =>
        simp only[am,List.length_map,cfv,List.length_map]
        by_cases e3:c.names.length=1
        case' neg =>
          simp only[am,cfv,decide_eq_false (show ¬(c.names.length:Int)=1 by omega)];refine retS ?_;simp[V.erase,badR,q102,e3]
        case' pos =>
          simp only[am,decide_eq_true (show (c.names.length:Int)=1 by omega)]
      case' false =>
        simp only[am]
    all_goals
      cases q119:hasL c.op 119
      case' true =>
        simp only[am,List.length_map,cfv,List.length_map]
        by_cases e4:c.names.length=0
        case' pos =>
          simp only[am,cfv,decide_eq_true (show (c.names.length:Int)=0 by omega)];refine retS ?_;simp[V.erase,badR,q119,e4]
        case' neg =>
          simp only[am,cfo,decide_eq_false (show ¬(c.names.length:Int)=0 by omega)]
      case' false =>
        simp only[am,List.length_map,cfo,cfv,List.length_map]
    all_goals
      have e1' : (hasL c.op 110 != nameR c.name.text)=false:=by simp[e1]
      clear e1
      first
        | refine CallD.intro (has12_calls c.op 112 σ) ?_
        | by_cases e5 : 0 < c.names.length
          case' pos =>
            simp only[am,cfv,decide_eq_true (show (0:Int)<c.names.length by omega)];have hb:badR c=true:=by simp[badR,q102,q119,e5]
            refine retS ?_;simp[V.erase,hb]
          case' neg =>
            simp only[am,cfo,decide_eq_false (show ¬(0:Int)<c.names.length by omega)];refine CallD.intro (has12_calls c.op 112 σ) ?_
    all_goals
      simp only[am];cases q112:hasL c.op 112
      case' false =>
        simp only[am,List.length_map,cfv,List.length_map]
        by_cases e6:0<c.pairs.length
        case' pos =>
          simp only[am,decide_eq_true (show (0:Int)<c.pairs.length by omega)];have hb:badR c=true:=by simp[badR,q112,e6]
          refine retS ?_;simp[V.erase,hb]
        case' neg =>
          simp only[am,cfo,decide_eq_false (show ¬(0:Int)<c.pairs.length by omega)]
      case' true =>
        simp only[am,cfo,cfv]
    all_goals
      have hb:badR c=false:=by unfold badR;rw[e1'];clear e1';simp[*]
      refine cl (has12_calls c.op 116 σ) ?_;simp only[am];cases q116:hasL c.op 116
      case' true =>
        simp only[am,Nd.rec_,cfv];refine cl (label2_calls _ c.left σ (Nat.le_refl _) hl) ?_;simp only[am];cases z1:c.left.labelQ
        case' true =>
          simp only[am,Nd.rec_,cfv];refine cl (label2_calls _ c.right σ (Nat.le_refl _) hr) ?_;simp only[am];refine retS ?_;simp[V.erase,hb,termR,q116,z1]
        case' false =>
          simp only[am];refine retS ?_;simp[V.erase,hb,termR,q116,z1]
      case' false =>
        simp only[am,cfo];refine cl (has12_calls c.op 114 σ) ?_;simp only[am];cases q114:hasL c.op 114
        case' true =>
          simp only[am,Nd.rec_,cfv];refine cl (row2_calls c.left σ hl) ?_;simp only[am];cases z1:c.left.rowQ
          case' true =>
            simp only[am,Nd.rec_,cfv];refine cl (row2_calls c.right σ hr) ?_;simp only[am];refine retS ?_;simp[V.erase,hb,termR,q116,q114,z1]
          case' false =>
            simp only[am];refine retS ?_;simp[V.erase,hb,termR,q116,q114,z1]
        case' false =>
          simp only[am,Nd.rec_,cfv];refine cl (zero12_calls c.left σ hl) ?_;simp only[am];cases z1:c.left.sameQ .zero
          case' true =>
            simp only[am,Nd.rec_,cfv];refine cl (zero12_calls c.right σ hr) ?_;simp only[am];refine retS ?_;simp[V.erase,hb,termR,q116,q114,z1]
          case' false =>
            simp only[am];refine retS ?_;simp[V.erase,hb,termR,q116,q114,z1]
end Go.Proofs.Tryz

namespace Go.Proofs.Tryz
open Go.Am
set_option maxRecDepth 4000
set_option maxHeartbeats 4000000
end Go.Proofs.Tryz

namespace Go.Proofs.Tryz
open Go.Am
set_option maxRecDepth 4000
set_option maxHeartbeats 4000000
end Go.Proofs.Tryz

namespace Go.Proofs.Tryz
open Go.Am
set_option maxRecDepth 4000
set_option maxHeartbeats 4000000
def ac7:AC:=.seq (.reg [⟨(some 1),.box 17 (.s 0),none⟩,⟨(some 2),.mv (.c (.bool false)),none⟩])
 (.seq (.seq (.reg [xf 4 3 1,xo 4 3,xL 5 4,xB .gtr 6 5 100,xm 7 6,xh 7 (xf 5 8 1),xh 7 (xo 9 8),xh 7 (xL 10 9),xh 7 (xB .gtr 11 10 100),⟨(some 12),.pick (.s 7) (.c (.bool true)) (.s 11),none⟩,xm 13 12,xh 13 (xf 2 14 1),xh 13 (xf 0 15 14),xh 13 (xo 16 15),xh 13 (xT 17 16),xh 13 (xB .gtr 18 17 100),⟨(some 19),.pick (.s 13) (.c (.bool true)) (.s 18),none⟩])
 (.cond (.s 19) (.seq (.reg [⟨(some 2),.mv (.c (.bool true)),none⟩])
 (.ret))
 (.skip)))
 (.seq (.reg [xf 7 20 1,xl 5 21 20,xf 12 22 1,xl 5 23 22,⟨(some 24),.bslice 5 [(.s 21),(.s 23)],none⟩,xc 19 25 [.s 24],xm 2 25])
 (.ret)))
theorem fn7:IsFn prog 7 ac7 [.tmp 2] 26:=⟨f7,⟨[],[],[]⟩,func7,by kernel_rfl,by kernel_rfl,by kernel_rfl,by kernel_rfl⟩
def Cmd.bigC (c:Cmd):Bool:=decide (100<c.names.length)||decide (100<c.pairs.length)||decide (100<c.name.text.length)||bigQ [c.left,c.right]
theorem cbig_calls (c:Cmd) (σ:Store) (hl:c.left.wt≤big) (hr:c.right.wt≤big):PCalls prog 7 [.agg c.enc] σ fun v σ' => v = .bool (Cmd.bigC c)∧σ' = σ:=by
  have hb:PCalls prog 19 [.sl .full 5 [c.left.enc,c.right.enc]] σ fun v σ' => v = .bool (bigQ [c.left,c.right])∧σ' = σ:=big_calls (τ:=.full) [c.left,c.right] σ (by simp[big]) (by intro x hx;rcases List.mem_cons.1 hx with rfl | hx;exact hl;rw[List.mem_singleton.1 hx];exact hr)
  refine fn7.calls ?_;simp only[slots,ac7,am,ams,cfl,cfv,List.length_map]
  by_cases k1:100<c.names.length
  · simp only[am,decide_eq_true (show (100:Int)<(c.names.length:Nat) by omega)];refine retS ?_;simp[V.erase,Cmd.bigC,k1]
  simp only[am,List.length_map,cfv,List.length_map,decide_eq_false (show ¬(100:Int)<(c.names.length:Nat) by omega)]
  by_cases k2:100<c.pairs.length
  · simp only[am,decide_eq_true (show (100:Int)<(c.pairs.length:Nat) by omega)];refine retS ?_;simp[V.erase,Cmd.bigC,k1,k2]
  simp only[am,cfv,decide_eq_false (show ¬(100:Int)<(c.pairs.length:Nat) by omega)]
  by_cases k3:100<c.name.text.length
  · simp only[am,decide_eq_true (show (100:Int)<(c.name.text.length:Nat) by omega)];refine retS ?_;simp[V.erase,Cmd.bigC,k1,k2,k3]
  simp only[am,Nd.rec_,cfv,decide_eq_false (show ¬(100:Int)<(c.name.text.length:Nat) by omega)];refine cl (hb) ?_;simp only[am];refine retS ?_;simp[V.erase,Cmd.bigC,k1,k2,k3]
end Go.Proofs.Tryz

namespace Go.Proofs.Tryz
open Go.Am
set_option maxRecDepth 4000
set_option maxHeartbeats 4000000
theorem flds_at8 {l:List Fld} {j:Nat} (h:j<l.length):(l.map Fld.enc)[((j:Nat):Int).toNat]?=some l[j].enc:=by simp[h]
theorem code_len (s:Scp) (c:Cmd) (hl:c.left.cnt≤500):(astF s c).code.length≤100000:=by
  rw[astF];split
  · have:=compR_len s (latI s c) c.left;simp only;omega
  · split<;>simp
end Go.Proofs.Tryz

namespace Go.Proofs.Tryz
open Go.Am
set_option maxRecDepth 4000
set_option maxHeartbeats 4000000
def ac15:AC:=.seq (.reg [⟨(some 1),.box 2 (.s 0),none⟩,⟨(some 2),.mv (.c (.bool false)),none⟩])
 (.seq (.reg [⟨(some 3),.mv (.c (.sl .full 1 [])),none⟩])
 (.seq (.seq (.reg [xf 0 8 1,xo 9 8,xL 10 9,xB .gtr 11 10 16,xm 12 11,xh 12 (xf 1 13 1),xh 12 (xo 14 13),xh 12 (xL 15 14),xh 12 (xB .gtr 16 15 64),⟨(some 17),.pick (.s 12) (.c (.bool true)) (.s 16),none⟩])
 (.cond (.s 17) (.seq (.reg [⟨(some 2),.mv (.c (.bool false)),none⟩])
 (.ret))
 (.skip)))
 (.seq (.seq (.reg [xi 4 0])
 (.block 0 (.loop (.seq (.seq (.reg [xm 18 4,xf 0 19 1,xo 20 19,xL 21 20,xb .lss 22 18 21])
 (.cond (.s 22) (.skip)
 (.exit 0)))
 (.seq (.block 1 (.seq (.seq (.reg [xf 0 25 1,xo 26 25,xm 27 4,xA 3 28 26 27,xf 1 29 28,xl 2 30 29,xc 44 31 [.s 30],⟨(some 32),.not (.s 31),none⟩])
 (.cond (.s 32) (.seq (.reg [⟨(some 2),.mv (.c (.bool false)),none⟩])
 (.ret))
 (.skip)))
 (.reg [xm 33 3,xf 0 34 1,xo 35 34,xm 36 4,xA 3 37 35 36,xf 0 38 37,xo 39 38,⟨(some 40),.bslice 1 [(.s 39)],none⟩,xa 1 41 33 40,xm 3 41])))
 (.reg [xm 23 4,xB .add 24 23 1,xm 4 24]))))))
 (.seq (.seq (.reg [xi 5 0])
 (.block 2 (.loop (.seq (.seq (.reg [xm 42 5,xf 1 43 1,xo 44 43,xL 45 44,xb .lss 46 42 45])
 (.cond (.s 46) (.skip)
 (.exit 2)))
 (.seq (.block 3 (.seq (.reg [xf 1 49 1,xo 50 49,xm 51 5,xA 3 52 50 51,xl 3 53 52,⟨(some 6),.alloc [(.str []),(.int .i64 0),(.int .i64 0)],none⟩,xs 3 6 53])
 (.seq (.seq (.reg [xf 1 54 6,xo 55 54,xB .neq 56 55 1,xm 57 56,xg 57 (xf 1 58 6),xg 57 (xo 59 58),xg 57 (xB .neq 60 59 2),⟨(some 61),.pick (.s 57) (.s 60) (.c (.bool false)),none⟩,xm 62 61,xh 62 (xf 2 63 6),xh 62 (xo 64 63),xh 62 (xB .lss 65 64 0),⟨(some 66),.pick (.s 62) (.c (.bool true)) (.s 65),none⟩,xm 67 66,xh 67 (xf 2 68 6),xh 67 (xo 69 68),xh 67 (xf 0 70 1),xh 67 (xo 71 70),xh 67 (xL 72 71),xh 67 (xb .geq 73 69 72),⟨(some 74),.pick (.s 67) (.c (.bool true)) (.s 73),none⟩])
 (.cond (.s 74) (.seq (.reg [⟨(some 2),.mv (.c (.bool false)),none⟩])
 (.ret))
 (.skip)))
 (.reg [xm 75 3,xf 0 76 6,xo 77 76,⟨(some 78),.bslice 1 [(.s 77)],none⟩,xa 1 79 75 78,xm 3 79]))))
 (.reg [xm 47 5,xB .add 48 47 1,xm 5 48]))))))
 (.seq (.seq (.reg [xi 7 0])
 (.block 4 (.loop (.seq (.seq (.reg [xm 80 7,xm 81 3,xL 82 81,xb .lss 83 80 82])
 (.cond (.s 83) (.skip)
 (.exit 4)))
 (.seq (.block 5 (.seq (.reg [xm 86 3,xm 87 7,xA 1 88 86 87,xo 89 88,xc 39 90 [.s 89],⟨(some 91),.not (.s 90),none⟩])
 (.cond (.s 91) (.seq (.reg [⟨(some 2),.mv (.c (.bool false)),none⟩])
 (.ret))
 (.skip))))
 (.reg [xm 84 7,xB .add 85 84 1,xm 7 85]))))))
 (.seq (.reg [xm 92 3,xc 45 93 [.s 92],xB .lss 94 93 0,xm 2 94])
 (.ret)))))))
theorem fn15:IsFn prog 15 ac15 [.tmp 2] 95:=⟨f15,⟨[],[],[]⟩,func15,by kernel_rfl,by kernel_rfl,by kernel_rfl,by kernel_rfl⟩
def vrbR (n:Nat) (v:Vrb):Bool:=(decide (v.kind=1)||decide (v.kind=2))&&decide (0≤v.lat)&&decide (v.lat<(n:Nat))
def namesS (s:Scp):List (List UInt8):=s.lats.map Ltc.name++s.vars.map Vrb.name
def scpR (s:Scp):Bool:=decide (s.lats.length≤16)&&decide (s.vars.length≤64)&&(s.lats.all fun l=>shpR l.shape)&&s.vars.all (vrbR s.lats.length)&&(namesS s).all nameR&&(twiceS (namesS s)).isNone
theorem sCells_snoc {l:List (List UInt8)} {x:List UInt8}:sCells (l++[x])=sCells l++[[.str x]]:=by simp[sCells]
theorem scpR_lat {s:Scp} {i:Nat} (hi:i<s.lats.length) (h:shpR s.lats[i].shape=false):scpR s=false:=by
  cases hq:scpR s with
  | false=>rfl
  | true =>
    simp only[scpR,Bool.and_eq_true,List.all_eq_true] at hq;rw[hq.1.1.1.2 _ (List.getElem_mem hi)] at h;simp at h
theorem scpR_var {s:Scp} {i:Nat} (hi:i<s.vars.length) (h:vrbR s.lats.length s.vars[i]=false):scpR s=false:=by
  cases hq:scpR s with
  | false=>rfl
  | true =>
    simp only[scpR,Bool.and_eq_true,List.all_eq_true] at hq;rw[hq.1.1.2 _ (List.getElem_mem hi)] at h;simp at h
theorem scpR_name {s:Scp} {i:Nat} (hi:i<(namesS s).length) (h:nameR (namesS s)[i]=false):scpR s=false:=by
  cases hq:scpR s with
  | false=>rfl
  | true =>
    simp only[scpR,Bool.and_eq_true,List.all_eq_true] at hq;rw[hq.1.2 _ (List.getElem_mem hi)] at h;simp at h
theorem scright_calls (s:Scp) (σ:Store) (hok:s.ok):PCalls prog 15 [.agg s.enc] σ fun v σ' => v = .bool (scpR s)∧σ' = σ:=by
  refine fn15.calls ?_;simp only[slots,ac15,am,ams,Scp.rec_,List.length_map]
  by_cases h1:16<s.lats.length
  · simp only[am,decide_eq_true (show (16:Int)<s.lats.length by omega)];refine retS ?_;simp[V.erase,scpR];intro h;omega
  · simp only[am,List.length_map,Scp.rec_,List.length_map,decide_eq_false (show ¬(16:Int)<s.lats.length by omega)]
    by_cases h2:64<s.vars.length
    · simp only[am,decide_eq_true (show (64:Int)<s.vars.length by omega)];refine retS ?_;simp[V.erase,scpR];intro _ h;omega
    · simp only[am,decide_eq_false (show ¬(64:Int)<s.vars.length by omega)];obtain⟨F,hF⟩:∃F:Nat→List (List UInt8) × Tk × Store→St,∀i x,F i x=⟨[.any,.ptr (.loc 0) 0,.any,.sl x.2.1 1 (sCells x.1),.int .i64 (i:Nat)]++List.replicate 90 .any,[s.enc],x.2.2⟩:=⟨_,fun _ _=>rfl⟩;obtain⟨JF,hJF⟩:∃JF:Nat→List (List UInt8) × Tk × Store→Prop,∀i x,JF i x=(x.1=(s.lats.take i).map Ltc.name∧(∀l∈s.lats.take i,shpR l.shape=true)∧Gr σ x.2.2 x.2.1 x.1.length):=⟨_,fun _ _=>rfl⟩;refine vc_count (s.lats.length) F JF _ hJF ?_ ?_ ?_
      · refine ent (([],.full,σ)) ?_ ?_ ?_ ?_
        · exact Eq.mpr (hJF _ _) (⟨by simp,by simp,Gr.nil⟩)
        all_goals simp[hF,List.replicate,am,lle_self,sCells]
      · rintro i ⟨nm,tk,σ1⟩ hi ⟨hN,hS,hG⟩;simp only at hN hS hG;have hnl:nm.length=i:=by rw[hN];simp;omega
        simp only[hF,List.replicate,am,dlt hi,Scp.rec_,List.length_map];refine idxL_intro (by omega) (lats_at hi) ?_;simp only[am,Shp.rec_,Scp.rec_];refine(rshright_calls s.lats[i].shape σ1 (hok.2.2 _ (List.getElem_mem hi))).mono ?_;rintro v σ1 ⟨rfl,rfl⟩;cases h3:shpR s.lats[i].shape with
        | false =>
          simp only[am,aml];exact retK_intro rfl hG.sub ⟨by rw[scpR_lat hi h3];rfl,rfl⟩
        | true =>
          simp only[am,Scp.rec_];refine idxL_intro (by omega) (lats_at hi) ?_;simp only[am,Scp.rec_];refine Gr.app (by simpa [sCells_len] using hG) (by simp[big,sCells_len];omega) fun tk' σ' hG' _ _=>?_
          simp only[am,aml,winc hi (by omega)];refine nxt ((nm++[s.lats[i].name],tk',σ')) hi ?_ ?_ ?_ ?_
          · exact Eq.mpr (hJF _ _) (⟨by rw[hN,List.take_succ_eq_append_getElem hi,List.map_append];rfl,take_all hS hi h3,by simpa [sCells_len] using hG'⟩)
          all_goals simp[hF,List.replicate,am,lle_self,sCells_snoc]
      · rintro⟨nm,tk,σ1⟩ ⟨hN,hS,hG⟩;simp only[List.take_length] at hN hS hG;simp only[hF,List.replicate,am,aml,dnl,aml,Scp.rec_,List.length_map];obtain⟨F2,hF2⟩:∃F2:Nat→List (List UInt8) × Tk × Store→St,∀j y,F2 j y=⟨[.any,.ptr (.loc 0) 0,.any,.sl y.2.1 1 (sCells y.1),.any,.int .i64 (j:Nat)]++List.replicate 89 .any,[s.enc],y.2.2⟩:=⟨_,fun _ _=>rfl⟩;obtain⟨JF2,hJF2⟩:∃JF2:Nat→List (List UInt8) × Tk × Store→Prop,∀j y,JF2 j y=(y.1=s.lats.map Ltc.name++(s.vars.take j).map Vrb.name∧(∀v∈s.vars.take j,vrbR s.lats.length v=true)∧Gr σ y.2.2 y.2.1 y.1.length):=⟨_,fun _ _=>rfl⟩;refine vc_count (s.vars.length) F2 JF2 _ hJF2 ?_ ?_ ?_
        · refine ent ((nm,tk,σ1)) ?_ ?_ ?_ ?_
          · exact Eq.mpr (hJF2 _ _) (⟨by rw[hN];simp,by simp,hG⟩)
          all_goals simp[hF2,List.replicate,am,lle_self,sCells]
        · rintro j ⟨nv,tv,σ2⟩ hj ⟨hM,hR,hH⟩;simp only at hM hR hH;have hnl:nv.length=s.lats.length+j:=by rw[hM];simp;omega
          simp only[hF2,List.replicate,am,dlt hj,Scp.rec_,List.length_map];refine idxL_intro (by omega) (vars_at hj) ?_;simp only[am,Scp.rec_,Vrb.q_len,Vrb.q_one,Vrb.q_tk,Vrb.q_ov];have bad:vrbR s.lats.length s.vars[j]=false→∀(t:List V) (lo:List (List V)),RetK (fun v σ' => v = .bool (scpR s)∧σ' = σ) ⟨t,lo,σ2⟩ (.bool false):=fun h t lo=>retK_intro rfl hH.sub ⟨by rw[scpR_var hj h];rfl,rfl⟩
          by_cases hz:decide (s.vars[j].kind=1)=false∧decide (s.vars[j].kind=2)=false
          · obtain⟨e1,e2⟩:=hz;simp only[am,aml,Scp.rec_,e1,e2];exact bad (by rw[vrbR,e1,e2];rfl) _ _
          have hsel:(decide (s.vars[j].kind=1)=true)∨(decide (s.vars[j].kind=1)=false∧decide (s.vars[j].kind=2)=true):=by
            revert hz;cases decide (s.vars[j].kind=1)<;>cases decide (s.vars[j].kind=2)<;>simp
          rcases hsel with e1 | ⟨e1,e2⟩
          case' inl=>simp only[am,Scp.rec_,e1]
          case' inr=>simp only[am,Scp.rec_,e1,e2]
          all_goals
            by_cases h0:s.vars[j].lat<0
            · simp only[am,aml,decide_eq_true h0];exact bad (by rw[vrbR,decide_eq_false (show ¬0≤s.vars[j].lat by omega)];simp) _ _
            · simp only[am,List.length_map,Scp.rec_,List.length_map,decide_eq_false h0]
              by_cases h9:((s.lats.length:Nat):Int)≤s.vars[j].lat
              · simp only[am,aml,decide_eq_true h9];exact bad (by rw[vrbR,decide_eq_false (show ¬s.vars[j].lat<(s.lats.length:Nat) by omega)];simp) _ _
              · simp only[am,Scp.rec_,decide_eq_false h9];have ok:vrbR s.lats.length s.vars[j]=true:=by
                  rw[vrbR,decide_eq_true (show 0≤s.vars[j].lat by omega),decide_eq_true (show s.vars[j].lat<(s.lats.length:Nat) by omega)]
                  first | (rw[e1,e2];rfl) | (rw[e1];rfl)
                refine Gr.app (by simpa [sCells_len] using hH) (by simp[big,sCells_len];omega) fun tk' σ' hG' _ _=>?_
                simp only[am,aml,winc hj (by omega)];refine nxtD ((nv++[s.vars[j].name],tk',σ')) hj ?_ ?_ ?_ ?_ ?_ ?_
                · exact Eq.mpr (hJF2 _ _) (⟨by rw[hM,List.take_succ_eq_append_getElem hj,List.map_append,List.append_assoc];rfl,take_all hR hj ok,by simpa [sCells_len] using hG'⟩)
                all_goals simp[hF2,List.replicate,am,lle_self,loL,loLL,V.lo,sCells_snoc,Scp.r_lo]
        · rintro⟨nv,tv,σ2⟩ ⟨hM,hR,hH⟩;simp only[List.take_length] at hM hR hH;rw[←namesS] at hM;subst hM;have hnl:(namesS s).length≤100000:=by simp[namesS];omega
          simp only[hF2,List.replicate,am,aml,dnl,aml,Scp.rec_,List.length_map];obtain⟨F3,hF3⟩:∃F3:Nat→Unit→St,∀k z,F3 k z=⟨[.any,.any,.any,.sl tv 1 (sCells (namesS s)),.any,.any,.any,.int .i64 (k:Nat)]++List.replicate 87 .any,[s.enc],σ2⟩:=⟨_,fun _ _=>rfl⟩;obtain⟨JF3,hJF3⟩:∃JF3:Nat→Unit→Prop,∀k z,JF3 k z=(∀m,m<k→∀(hm:m<(namesS s).length),nameR (namesS s)[m]=true):=⟨_,fun _ _=>rfl⟩;refine vc_count ((namesS s).length) F3 JF3 _ hJF3 ?_ ?_ ?_
          · refine ent (()) ?_ ?_ ?_ ?_
            · exact Eq.mpr (hJF3 _ _) ((fun m hm=>absurd hm (Nat.not_lt_zero m)))
            all_goals simp[hF3,List.replicate,am,lle_self,sCells]
          · rintro k z hk hJ;simp only[hF3,List.replicate,am,dlt hk,sCells_len,sCells_len];refine idxL_intro (by omega) (sCells_at hk) ?_;simp only[am,getD_at hk];refine(right2_calls (namesS s)[k] σ2).mono ?_;rintro v σ2 ⟨rfl,rfl⟩;cases hb:nameR (namesS s)[k] with
            | false =>
              simp only[am,aml];exact retK_intro rfl hH.sub ⟨by rw[scpR_name hk hb];rfl,rfl⟩
            | true =>
              simp only[am,aml,winc hk (by omega)];refine nxt (()) hk ?_ ?_ ?_ ?_
              · exact Eq.mpr (hJF3 _ _) (allS hJ (fun _=>hb))
              all_goals simp[hF3,List.replicate,am,lle_self]
          · rintro z hJ;simp only[hF3,List.replicate,am,aml,dnl,aml,sCells_len];refine PCalls.weak (as' := [.sl .no 1 (sCells (namesS s))]) ?_ ⟨VLe.no,trivial⟩ OLe.rfl;refine(rtwice_calls (namesS s) σ2 hnl).mono ?_;rintro v σ2 ⟨rfl,rfl⟩;simp only[am];have e:scpR s=(twiceS (namesS s)).isNone:=by
              simp only[scpR];rw[decide_eq_true (show s.lats.length≤16 by omega),decide_eq_true (show s.vars.length≤64 by omega),List.all_eq_true.2 hS,List.all_eq_true.2 hR,List.all_eq_true.2 (fun x hx=>by
                obtain⟨m,hm,rfl⟩:=List.mem_iff_getElem.1 hx;exact hJ m hm hm)]
              simp
            refine retK_intro rfl hH.sub ⟨?_,rfl⟩;rw[e];cases twiceS (namesS s) with
            | none=>simp[V.erase,optI]
            | some k =>
              exact congrArg V.bool (decide_eq_false (show ¬((k:Nat):Int)<0 by omega))
end Go.Proofs.Tryz

namespace Go.Proofs.Tryz
open Go.Am
set_option maxRecDepth 4000
set_option maxHeartbeats 4000000
def ac5:AC:=.seq (.reg [⟨(some 2),.box 2 (.s 0),none⟩,⟨(some 3),.box 17 (.s 1),none⟩,⟨(some 4),.mv (.c (.bool false)),none⟩])
 (.seq (.seq (.reg [xl 2 7 2,xc 6 8 [.s 7],xm 9 8,xh 9 (xl 17 10 3),xh 9 (xc 7 11 [.s 10]),⟨(some 12),.pick (.s 9) (.c (.bool true)) (.s 11),none⟩,xm 13 12,xh 13 (xl 2 14 2),xh 13 (xc 15 15 [.s 14]),⟨(some 16),.not (.s 15),(some (13,false))⟩,⟨(some 17),.pick (.s 13) (.c (.bool true)) (.s 16),none⟩,xm 18 17,xh 18 (xl 17 19 3),xh 18 (xc 16 20 [.s 19]),⟨(some 21),.not (.s 20),(some (18,false))⟩,⟨(some 22),.pick (.s 18) (.c (.bool true)) (.s 21),none⟩])
 (.cond (.s 22) (.seq (.reg [xc 8 23 [],xm 4 23])
 (.ret))
 (.skip)))
 (.seq (.reg [xl 2 25 2,xl 17 26 3,xc 9 27 [.s 25,.s 26],xm 24 27,xe 28 24 0,xe 29 24 1,⟨(some 5),.alloc astZ,none⟩,xs 18 5 28,xm 6 29])
 (.seq (.seq (.reg [xm 30 6,xf 0 31 3,xo 32 31,xB .geq 33 32 8,xm 34 33,xg 34 (xf 0 35 3),xg 34 (xo 36 35),xg 34 (xB .leq 37 36 10),⟨(some 38),.pick (.s 34) (.s 37) (.c (.bool false)),none⟩,xm 39 38,xg 39 (xl 2 40 2),xg 39 (xl 17 41 3),xg 39 (xc 17 42 [.s 40,.s 41]),⟨(some 43),.build [(.int .i64 0),(.int .i64 0)] [],(some (39,true))⟩,⟨(some 44),.eqA false [1,1] (.s 42) (.s 43),(some (39,true))⟩,⟨(some 45),.pick (.s 39) (.s 44) (.c (.bool false)),none⟩,⟨(some 46),.binB true (.s 30) (.s 45),none⟩])
 (.cond (.s 46) (.seq (.reg [⟨(some 4),.mv (.c (.bool false)),none⟩])
 (.ret))
 (.skip)))
 (.seq (.reg [xm 47 6,⟨(some 48),.not (.s 47),none⟩,xm 49 48,xh 49 (xl 2 50 2),xh 49 (xl 18 51 5),xh 49 (xc 13 52 [.s 50,.s 51]),⟨(some 53),.pick (.s 49) (.c (.bool true)) (.s 52),none⟩,xm 54 53,xg 54 (xc 8 55 []),⟨(some 56),.pick (.s 54) (.s 55) (.c (.bool false)),none⟩,xm 4 56])
 (.ret)))))
theorem fn5:IsFn prog 5 ac5 [.tmp 4] 57:=⟨f5,⟨[],[],[]⟩,func5,by kernel_rfl,by kernel_rfl,by kernel_rfl,by kernel_rfl⟩
structure Ok15 (c:Cmd):Prop where
  n:c.names.length+1≤big
  p:c.pairs.length+1≤big
  l:c.left.wt≤big
  r:c.right.wt≤big
theorem ok15 {c:Cmd} (hw:c.wt≤1048576):Ok15 c:=by
  have hcw:c.wt=c.name.text.length+wsum c.names+psum c.pairs+c.left.wt+c.right.wt:=rfl;have hn1:=(psum_word c.names).2;have hp1:=(psum_len c.pairs).2;have hbig:big=268435456:=rfl;exact⟨by omega,by omega,by omega,by omega⟩
theorem big15 {c:Cmd} (h:Cmd.bigC c=false):c.left.cnt≤300∧c.right.cnt≤300:=by
  simp[Cmd.bigC,bigQ] at h;omega
theorem ast_one' (x:Ast):oneL x.enc=true:=ast_one rfl rfl rfl
theorem sound15_calls (s:Scp) (c:Cmd) {σ:Store} (hg:TZ σ) (hgf:σ.con 0=some formCells) (hw:c.wt≤1048576):PCalls prog 5 [.agg s.enc,.agg c.enc] σ fun v σ' => v = .bool true∧σ' = σ:=by
  obtain⟨hn,hp,hl,hr⟩:=ok15 hw;obtain⟨X,hX⟩:∃X:Ast,X=(if isAst s c then astF s c else .zero):=⟨_,rfl⟩;obtain⟨A,hA⟩:∃A:List V,A=X.enc:=⟨_,rfl⟩;have a1:A.length=18:=by rw[hA];exact ast_len
  have a2:takeN 18 A=some A:=by rw[hA];exact ast_tk
  have a3:oneL A=true:=by rw[hA];exact ast_one' X
  have a4:nolL A=true:=by rw[hA];exact Ast.r_nol
  have a5:∀{op lat:Int} {d:V} {to:Atm} {fa:V} {ta:Int} {fb:V} {tb v:Int} {f:List UInt8},over (astV op lat d to fa ta fb tb v f) A=A:=by intros;rw[hA];exact over_all (by rw[ast_len];exact ast_len.symm)
  have hT:astT s c = .tup [.agg A,.bool (isAst s c)]:=by rw[astT,hA,hX]
  have c1:=fun hs h1 h2=>fassert_calls s c (σ:=σ) hs hg hgf hn hp h1 h2 hl hr
  have c3:=fun hs h=>fright_calls s X (σ:=σ) hs hg h
  rw[hT] at c1;rw[←hA] at c3;refine fn5.calls ?_;simp only[slots,ac5,am,ams,Nat.reduceAdd,Scp.rec_,astZ,cfl];refine cl (big13_calls s σ) ?_;cases hb:big13 s with
  | true =>
    simp only[am];refine cl (alive15_calls hg hgf) ?_;simp only[am];refine retS ?_;simp[V.erase]
  | false =>
    have hs:=big13_ok hb;simp only[am,cfl];refine cl (cbig_calls c σ hl hr) ?_;cases hc:Cmd.bigC c with
    | true =>
      simp only[am];refine cl (alive15_calls hg hgf) ?_;simp only[am];refine retS ?_;simp[V.erase]
    | false =>
      obtain⟨h1,h2⟩:=big15 hc;simp only[am,Scp.rec_];refine cl (scright_calls s σ hs) ?_;cases hR:scpR s with
      | false =>
        simp only[am];refine cl (alive15_calls hg hgf) ?_;simp only[am];refine retS ?_;simp[V.erase]
      | true =>
        simp only[am,cfl];refine cl (right12_calls c _ hn hp hl hr) ?_;cases hq:c.rightQ with
        | false =>
          simp only[am];refine cl (alive15_calls hg hgf) ?_;simp only[am];refine retS ?_;simp[V.erase]
        | true =>
          simp only[am,Scp.rec_,cfl];refine cl (c1 hs (by omega) (by omega)) ?_;have hI:isAst s c=(decide (8≤c.op)&&decide (c.op≤10)&&decide ((faultC s c).cls=0)):=by simp[isAst,hq]
          have hz:(faultC s c).cls=0→(faultC s c).loc=0:=fun h=>by rw[show faultC s c = .zero from (least_none h).1];rfl
          have c3:=c3 hs (by rw[hX];split;exact code_len s c (by omega);simp[Ast.zero])
          rcases show (8≤c.op∧c.op≤10∧(faultC s c).cls=0)∨(8≤c.op∧c.op≤10∧¬(faultC s c).cls=0)∨(8≤c.op∧¬c.op≤10)∨¬8≤c.op by omega with ⟨o1,o2,hf⟩ | ⟨o1,o2,hf⟩ | ⟨o1,o2⟩ | o1
          case' inl =>
            have hA:isAst s c=true:=by rw[hI,decide_eq_true o1,decide_eq_true o2,decide_eq_true hf];rfl
            have hfit:astR s X=true:=by rw[hX,if_pos hA];exact(isAst_iff.1 hA).fits
            rw[hfit] at c3;simp only[am,Nat.reduceAdd,Scp.rec_,ast_,cfl,cfo,a1,a3,a5,hA,decide_eq_true o1,decide_eq_true o2];refine cl (fitfault_calls s c hs hg (by omega) (by omega) hl hr) ?_;simp only[am,decide_true,Scp.rec_,a2,a4,decide_eq_true hf,decide_eq_true (hz hf),Flt.enc];refine cl c3 ?_;simp only[am]
          case' inr.inl =>
            have hA:isAst s c=false:=by rw[hI,decide_eq_true o1,decide_eq_true o2,decide_eq_false hf];rfl
            simp only[am,Nat.reduceAdd,Scp.rec_,ast_,cfl,cfo,a1,a3,a5,hA,decide_eq_true o1,decide_eq_true o2];refine cl (fitfault_calls s c hs hg (by omega) (by omega) hl hr) ?_;simp only[am,decide_true,decide_eq_false hf,Flt.enc]
          case' inr.inr.inl =>
            have hA:isAst s c=false:=by rw[hI,decide_eq_true o1,decide_eq_false o2];rfl
            simp only[am,Nat.reduceAdd,decide_true,ast_,cfo,a1,a3,a5,hA,decide_eq_true o1,decide_eq_false o2]
          case' inr.inr.inr =>
            have hA:isAst s c=false:=by rw[hI,decide_eq_false o1];rfl
            simp only[am,Nat.reduceAdd,decide_true,ast_,cfo,a1,a3,a5,hA,decide_eq_false o1]
          all_goals
            refine cl (alive15_calls hg hgf) ?_;simp only[am];refine retS ?_;simp[V.erase]
end Go.Proofs.Tryz

namespace Go.Proofs.Tryz
open Go.Am Go.ChangeShapes Go.WideShapes Go.ChangeAt Go.RowKit
open Go.Proofs.YtmgdldfokpcbkaaGreatDoor
set_option maxRecDepth 100000 in
theorem fitSound_contract (H:Type) (enc:TypeId × Value→H) (W:World) (base:Nat) (args:Array Value) (ds gs:List (DataW H)) (before:List MemPlace)
    (hval:∀(j:Nat) t v,f5.params[j]?=some t→args[j]?=some v→Value.okWide prog W .any base t v)
    (hW:DataW.Whole enc prog f5.params.toList Rows.fitSoundSpec.vars false W args.toList ds gs before) (hk:Rows.uptoSmall H (ds++gs)=true) (hL:laidMetH prog Rows.fitSoundRow.laid W) :
    Calls prog 5 args W fun e W' => ∃v,e = .returned v∧Rows.fitSoundSpec.post enc prog f5 false true false false W args v W' := by
  have hW' := hW;obtain⟨p,q,hA0,hV,rfl,hfz,hnd⟩:=hW;have hA:DataW.TrodAll enc prog W 0 (fun _=>true) true f5.params.toList args.toList ds p:=hA0;rw[params5] at hA hval;obtain⟨v0,vs0,d0,ds0,p0,q0,hargs,rfl,rfl,⟨n0,h0⟩,r0⟩:=trodAll_cons hA;obtain⟨v1,vs1,d1,ds1,p1,q1,rfl,rfl,rfl,⟨n1,h1⟩,r1⟩:=trodAll_cons r0;obtain⟨rfl,rfl,rfl⟩:=trodAll_nil r1;obtain rfl:args=#[v0,v1]:=by cases args;simp_all
  obtain⟨rfl,rfl⟩:=trodVars_none hV;have hG:=globs_at hL;obtain⟨_,a0,_,y0,rfl,b0⟩:=r_scp n0 (Nat.lt_succ_self _) _ _ h0;obtain⟨_,a1,_,y1,rfl,b1⟩:=r_cmd n1 (Nat.lt_succ_self _) _ _ h1;have hb:Rows.uptoBulkAll [d0,d1]≤1048576:=by
    have h:=of_decide_eq_true hk;rw[List.append_nil] at h;exact h
  simp only[Rows.uptoBulkAll] at hb;have k0:y1.wt≤1048576:=by
    simp only at b1;omega
  simp only[List.append_nil] at hW';have s0:=val_struct underlying25 (hval 0 25 v0 rfl rfl) a0;have s1:=val_struct underlying34 (hval 1 34 v1 rfl rfl) a1;refine law_callsM (sound15_calls y0 y1 rfl rfl k0) hG ?_ laid rowed fulls rfl underlying4 (by rw[params5];decide +kernel) rfl ⟨rfl,rfl,rfl⟩ hW';simp only[RL,and_true];exact⟨s0,s1⟩
set_option maxRecDepth 100000 in
theorem fitSound_laid_met (os:Os):laidMet prog Rows.fitSoundRow.laid ((laidWorld os).forCall (fun _ _=>0) ⟨#[],#[.agg #[.slice none 0 0,.slice none 0 0],.agg #[.int .i64 0,.int .i64 0,.string ⟨#[]⟩,.int .i64 0,.slice none 0 0,.slice none 0 0,.int .i64 0,.int .i64 0,.int .i64 0,.string ⟨#[]⟩,.slice none 0 0,.slice none 0 0,.int .i64 0,.int .i64 0,.string ⟨#[]⟩,.slice none 0 0,.slice none 0 0]],[]⟩).memory :=
  laidMet_of_run' 8 (by kernel_rfl) (by kernel_rfl)
theorem fitSound_reads (os:Os) {H:Type} (enc:TypeId × Value→H):∃places,DataW.whole enc prog ((laidWorld os).forCall (fun _ _=>0) ⟨#[],#[.agg #[.slice none 0 0,.slice none 0 0],.agg #[.int .i64 0,.int .i64 0,.string ⟨#[]⟩,.int .i64 0,.slice none 0 0,.slice none 0 0,.int .i64 0,.int .i64 0,.int .i64 0,.string ⟨#[]⟩,.slice none 0 0,.slice none 0 0,.int .i64 0,.int .i64 0,.string ⟨#[]⟩,.slice none 0 0,.slice none 0 0]],[]⟩).memory f5.params.toList Rows.fitSoundSpec.vars false (#[.agg #[.slice none 0 0,.slice none 0 0],.agg #[.int .i64 0,.int .i64 0,.string ⟨#[]⟩,.int .i64 0,.slice none 0 0,.slice none 0 0,.int .i64 0,.int .i64 0,.int .i64 0,.string ⟨#[]⟩,.slice none 0 0,.slice none 0 0,.int .i64 0,.int .i64 0,.string ⟨#[]⟩,.slice none 0 0,.slice none 0 0]]:Array Value).toList 8=some ([.agg [.nil,.nil],.agg [.lit (.int .i64 0),.lit (.int .i64 0),.agg [.lit (.string []),.lit (.int .i64 0)],.nil,.nil,.lit (.int .i64 0),.agg [.lit (.int .i64 0),.lit (.int .i64 0),.lit (.string []),.nil,.nil],.agg [.lit (.int .i64 0),.lit (.int .i64 0),.lit (.string []),.nil,.nil]]],[],places) :=
  ⟨[],by kernel_rfl⟩
set_option maxRecDepth 100000 in
theorem fitSound_lifted (os:Os) (started:os.Started) (H:Type) (enc:TypeId × Value→H) (F:Stop.Interp) :
    ReturnsInHanded {} checked os 5 .any ((Rows.OpenSpec.upto Rows.fitSoundSpec).preRow enc prog f5 Rows.fitSoundUptoRow.domain false Rows.fitSoundUptoRow.laid) (((Rows.OpenSpec.upto Rows.fitSoundSpec).at F).post enc prog f5 false true false false):=by
  obtain⟨places,hx⟩:=fitSound_reads os enc;refine returnsInHanded_of_row (C:=checked) (s:=Rows.OpenSpec.upto Rows.fitSoundSpec) own started (by kernel_rfl) func5
    (witness_row_at (enc:=enc) (C:=checked) false (laidWorld os) #[.agg #[.slice none 0 0,.slice none 0 0],.agg #[.int .i64 0,.int .i64 0,.string ⟨#[]⟩,.int .i64 0,.slice none 0 0,.slice none 0 0,.int .i64 0,.int .i64 0,.int .i64 0,.string ⟨#[]⟩,.slice none 0 0,.slice none 0 0,.int .i64 0,.int .i64 0,.string ⟨#[]⟩,.slice none 0 0,.slice none 0 0]] rfl (by kernel_rfl) (by kernel_rfl) (by kernel_rfl)
      (OpenSpec.preRow_of_cond 8 hx (by kernel_rfl) (fun k hk=>by cases hk;kernel_rfl) (by kernel_rfl) (fitSound_laid_met os))) ?_
  intro W base args ds gs before hval hW _ hcond _ hL _ _;exact fitSound_contract H enc W base args ds gs before hval hW (hcond _ rfl) hL
theorem fitSound_proved:Rows.FitSoundUptoSaid :=
  OpenClaim.holds_of_cond 5 f5 rfl rfl rfl rfl rfl rfl rfl ⟨rfl,rfl,rfl,rfl,rfl⟩ rfl rfl rfl rfl rfl (by kernel_rfl) func5 (by kernel_rfl)
    (of_decide_eq_true (by kernel_rfl)) (by unfold Func.isWrapper;first | (rw[if_pos (by decide +kernel)];kernel_rfl) | (rw[if_neg (by decide +kernel)];exact⟨rfl,rfl⟩))
    (fun os started H enc _ F=>by rw[OpenClaim.pre_eq_preRow];exact fitSound_lifted os started H enc F)
theorem fitSound_plain (f:FuncId) (fn:Func) (hf:YtmgdldfokpcbkaaGreatDoor.Tryz.pinned.checked.prog.funcNamed "clearance/clearancelaw15.FitSound" = some f) (hfn:YtmgdldfokpcbkaaGreatDoor.Tryz.pinned.checked.prog.funcs[f]?=some fn) :
    false=YtmgdldfokpcbkaaGreatDoor.Tryz.pinned.checked.prog.looks []∧∀(j:Nat) t,fn.params[j]?=some t→YtmgdldfokpcbkaaGreatDoor.Tryz.pinned.checked.prog.wantsStandIn t=false:=by
  obtain rfl:f=5:=Option.some.inj ((show prog.funcNamed "clearance/clearancelaw15.FitSound" = some 5 by kernel_rfl).symm.trans hf) |>.symm;obtain rfl:fn=f5:=(Option.some.inj (func5.symm.trans hfn)).symm;refine⟨by kernel_rfl,fun j t ht=>?_⟩;rw[params5] at ht;have h:t=25∨t=34:=by simpa using Array.mem_of_getElem? ht
  rcases h with rfl | rfl
  · exact(show prog.wantsStandIn 25=false by kernel_rfl)
  · exact(show prog.wantsStandIn 34=false by kernel_rfl)
theorem fitSound_card:Rows.FitSoundUptoCardSaid :=
  Claim7.holds_tied_plain_at .later [] _ _ _ _ fitSound_proved (fun _ h=>by cases h) (by kernel_rfl) (fun _ h=>by cases h) fitSoundUpto_row_tie rfl ⟨rfl,rfl⟩ (by kernel_rfl) rfl fitSound_plain (by kernel_rfl)
end Go.Proofs.Tryz

namespace Go.Proofs.YtmgdldfokpcbkaaGreatDoor
/-- For every right scope and every command that might have been read: an assertion is told just if nothing is wrong, and what is told fits the scope (FitSound), where what comes in is of bulk at most 1048576. -/
theorem fitSound_card_holds : Rows.FitSoundUptoCardSaid := Go.Proofs.Tryz.fitSound_card
end Go.Proofs.YtmgdldfokpcbkaaGreatDoor
