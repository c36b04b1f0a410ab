/-
  Part 3 of the proof of CommandTellsUptoCardSaid: a logic over the model, the forms of the functions that the law reaches, and what they compute.
-/
import Derived.IntWalk
import Derived.Test.YthncngbmelgmaaaGreatDoorTells2
set_option linter.unusedVariables false
set_option linter.unusedSimpArgs false
set_option linter.defProp false
set_option linter.unusedSectionVars false

namespace Go.Am
section
variable {P : Program} {d : Option Nat} {r : List AO} {K : St → Prop} {t : List V} {l : List (List V)} {σ : Store} {x y z : X} {Q : Exit → St → Prop} {st : St} {a b : AC}
theorem vc_skip : vc P .skip Q st = Q .normal st := rfl
theorem vc_reg {o : List AO} : vc P (.reg o) Q st = vcOps P o (Q .normal) st := rfl
theorem vc_upd : vc P (.upd a) Q st = Upd st (vc P a Q) := rfl
theorem vc_draw {o : List (AO × List Nat)} : vc P (.draw o) Q ⟨t, l, σ⟩ = vcD P o [(l, σ)] [] (Q .normal) ⟨t, l, σ⟩ := rfl
theorem vc_seq : vc P (.seq a b) Q st = vc P a (AThen (vc P b Q) Q) st := rfl
def vcIf (P : Program) (v : V) (a b : AC) (Q : Exit → St → Prop) (st : St) : Prop := match v with | .bool c => (c = true → vc P a Q st) ∧ (c = false → vc P b Q st) | _ => False
theorem vc_cond : vc P (.cond x a b) Q st = vcIf P (ev st x) a b Q st := rfl
theorem vcIf_true : vcIf P (.bool true) a b Q st = vc P a Q st := by simp [vcIf]
theorem vcIf_false : vcIf P (.bool false) a b Q st = vc P b Q st := by simp [vcIf]
theorem vcIf_split {c : Bool} (h1 : c = true → vc P a Q st) (h2 : c = false → vc P b Q st) : vcIf P (.bool c) a b Q st := ⟨h1, h2⟩
theorem vc_rangeS {l : List AO} {x : X} {dI dN dM out nxt : Nat} {y : AC} (h : vcOps P l (fun st1 => ∃ s : List UInt8, ev st1 x = .str s ∧ (∀ c ∈ s, c.toNat < 128) ∧ ∃ I : Nat → Nat → St → Prop,
      (∀ b, Upd (st1.put (some dI) (.raw (.pointer (some ⟨b, 0, none⟩)))) (I b 0)) ∧
      (∀ b i st', I b i st' → st'.t.getD dI .any = .raw (.pointer (some ⟨b, 0, none⟩)) ∧ dN < st'.t.length ∧ dM < st'.t.length) ∧
      (∀ b i c st', s[i]? = some c → I b i st' → vc P y (Blk nxt (RPost out (I b (i + 1)) Q)) ((st'.put (some dN) (.tup [.bool true, .int .i64 (i : Nat), .int .i32 (c.toNat : Nat)])).put (some dM) (.bool true))) ∧
      (∀ b st', I b s.length st' → Q .normal ((st'.put (some dN) (.tup [.bool false])).put (some dM) (.bool false)))) st) : vc P (.rangeS l x dI dN dM out nxt y) Q st := h
theorem rPost_normal {out : Nat} {J : St → Prop} : RPost out J Q .normal st = Upd st J := rfl
theorem rPost_exit {out id : Nat} {J : St → Prop} : RPost out J Q (.exit id) st = if id = out then Q .normal st else Q (.exit id) st := rfl
theorem rPost_ret {out : Nat} {J : St → Prop} : RPost out J Q .ret st = Q .ret st := rfl
theorem vc_scope : vc P (.scope a) Q st = vc P a (NoGo Q) st := rfl
theorem noGo_normal : NoGo Q .normal st = Q .normal st := rfl
theorem noGo_exit {id : Nat} : NoGo Q (.exit id) st = Q (.exit id) st := rfl
theorem noGo_ret : NoGo Q .ret st = Q .ret st := rfl
theorem vc_block {id : Nat} : vc P (.block id a) Q st = vc P a (Blk id Q) st := rfl
theorem vc_exit {id : Nat} : vc P (.exit id) Q st = Q (.exit id) st := rfl
theorem vc_ret : vc P .ret Q st = Q .ret st := rfl
theorem athen_normal : AThen K Q .normal st = K st := rfl
theorem athen_exit {id : Nat} : AThen K Q (.exit id) st = Q (.exit id) st := rfl
theorem athen_ret : AThen K Q .ret st = Q .ret st := rfl
theorem blk_normal {id : Nat} : Blk id Q .normal st = Q .normal st := rfl
theorem blk_ret {id : Nat} : Blk id Q .ret st = Q .ret st := rfl
theorem blk_exit {id id' : Nat} : Blk id Q (.exit id') st = if id' = id then Q .normal st else Q (.exit id') st := rfl
theorem lpost_exit {ι : Type} {I : ι → St} {μ : ι → Nat} {n id : Nat} : LPost I μ Q n (.exit id) st = Q (.exit id) st := rfl
theorem lpost_ret {ι : Type} {I : ι → St} {μ : ι → Nat} {n : Nat} : LPost I μ Q n .ret st = Q .ret st := rfl
theorem lpost_normal {ι : Type} {I : ι → St} {μ : ι → Nat} {n : Nat} : LPost I μ Q n .normal st = Upd st fun st' => ∃ j, st' = I j ∧ μ j < n := rfl
theorem vc_loop {ι : Type} (I : ι → St) (μ : ι → Nat) (h0 : Upd st fun st' => ∃ i, st' = I i) (h : ∀ i, vc P a (LPost I μ Q (μ i)) (I i)) : vc P (.loop a) Q st := ⟨ι, I, μ, h0, h⟩
theorem retQ_ret {rs : List RV} {R' : V → Store → Prop} : RetQ rs R' .ret st = opt ((rvs st rs).map one1) (RetK R' st) := rfl
theorem retQ_normal {rs : List RV} {R' : V → Store → Prop} : RetQ rs R' .normal st = opt ((rvs st rs).map one1) (RetK R' st) := rfl
theorem opt_some {v : V} {K : V → Prop} : opt (some v) K = K v := rfl
theorem rvs_nil : rvs st [] = some [] := rfl
def consO (v : Option V) (l : Option (List V)) : Option (List V) := v.bind fun x => l.map (x :: ·)
theorem consO_some {v : V} {l : List V} : consO (some v) (some l) = some (v :: l) := rfl
theorem rvs_cons {y : RV} {rs : List RV} : rvs st (y :: rs) = consO (rv st y) (rvs st rs) := rfl
theorem rv_tmp {n : Nat} : rv ⟨t, l, σ⟩ (.tmp n) = some (t.getD n .any) := rfl
theorem rv_cell {n m : Nat} {g : Bool} : rv ⟨t, l, σ⟩ (.cell n g m) = ldV ⟨t, l, σ⟩ g m (t.getD n .any) := rfl
theorem one1_one {v : V} : one1 [v] = v := rfl
theorem one1_nil : one1 [] = .tup [] := rfl
theorem one1_more {u v : V} {l : List V} : one1 (u :: v :: l) = .tup (u :: v :: l) := rfl
theorem map_some' {v : List V} {f : List V → V} : Option.map f (some v) = some (f v) := rfl
theorem retK_intro {R' : V → Store → Prop} {v : V} (h1 : v.nol = true) {σ' : Store} (h2 : σ'.sub σ) (h3 : R' v.erase σ') : RetK R' ⟨t, l, σ⟩ v := ⟨h1, σ', h2, h3⟩
theorem ev_s {n : Nat} : ev ⟨t, l, σ⟩ (.s n) = t.getD n .any := rfl
theorem ev_c {v : V} : ev st (.c v) = v := rfl
theorem evs_nil : evs st [] = [] := rfl
theorem evs_cons {xs : List X} : evs st (x :: xs) = ev st x :: evs st xs := rfl
theorem getD_zero {v w : V} : (v :: t).getD 0 w = v := rfl
theorem getD_succ {v w : V} {n : Nat} : (v :: t).getD (n + 1) w = t.getD n w := rfl
theorem set_zero {v w : V} : (v :: t).set 0 w = w :: t := rfl
theorem set_succ {v w : V} {n : Nat} : (v :: t).set (n + 1) w = v :: t.set n w := rfl
theorem put_some {n : Nat} {v : V} : St.put ⟨t, l, σ⟩ (some n) v = ⟨t.set n v, l, σ⟩ := rfl
theorem put_none {v : V} : St.put st none v = st := rfl
theorem o_nil : vcOps P [] K st = K st := rfl
def kL (P : Program) (d : Option Nat) (r : List AO) (K : St → Prop) (st : St) (v : V) : Prop := vcOps P r K (st.put d v)
theorem kL_eq {v : V} : kL P d r K ⟨t, l, σ⟩ v = vcOps P r K (St.put ⟨t, l, σ⟩ d v) := rfl
def optL (o : Option V) (K : V → Prop) : Prop := match o with | some v => K v | none => False
theorem optL_some {v : V} {K : V → Prop} : optL (some v) K = K v := rfl
theorem o_mv : vcOps P (⟨d, .mv x, none⟩ :: r) K st = vcOps P r K (st.put d (ev st x)) := rfl
def pickL (P : Program) (v a b : V) (d : Option Nat) (r : List AO) (K : St → Prop) (st : St) : Prop := match v with | .bool true => vcOps P r K (st.put d a) | .bool false => vcOps P r K (st.put d b) | _ => False
theorem o_pick : vcOps P (⟨d, .pick x y z, none⟩ :: r) K st = pickL P (ev st x) (ev st y) (ev st z) d r K st := by
  simp only [vcOps, AOp.sem, pickL]
  cases ev st x <;> first | rfl | (rename_i b; cases b <;> rfl)
theorem pickL_true {u v : V} : pickL P (.bool true) u v d r K st = vcOps P r K (st.put d u) := rfl
theorem pickL_false {u v : V} : pickL P (.bool false) u v d r K st = vcOps P r K (st.put d v) := rfl
theorem pickL_ff {b c : Bool} : pickL P (.bool b) (.bool c) (.bool false) d r K st = vcOps P r K (st.put d (.bool (b && c))) := by cases b <;> simp [pickL]
theorem pickL_tt {b c : Bool} : pickL P (.bool b) (.bool true) (.bool c) d r K st = vcOps P r K (st.put d (.bool (b || c))) := by cases b <;> simp [pickL]
theorem o_alloc {c : List V} : vcOps P (⟨d, .alloc c, none⟩ :: r) K ⟨t, l, σ⟩ = vcOps P r K (St.put ⟨t, l ++ [c], σ⟩ d (.ptr (.loc l.length) 0)) := rfl
theorem o_box {n : Nat} : vcOps P (⟨d, .box n x, none⟩ :: r) K ⟨t, l, σ⟩ = ((ev ⟨t, l, σ⟩ x).wd = some n ∧ vcOps P r K (St.put ⟨t, l ++ [(ev ⟨t, l, σ⟩ x).cells], σ⟩ d (.ptr (.loc l.length) 0))) := rfl
def kO (P : Program) (d : Option Nat) (r : List AO) (K : St → Prop) (st : St) (cs : List V) : Prop := ∀ b, st.out.box b = none → vcOps P r K (St.put ⟨st.t, st.loc, st.out.set b cs⟩ d (.ptr (.out b) 0))
theorem o_allocO {c : List V} : vcOps P (⟨d, .allocO c, none⟩ :: r) K st = (nolL c = true ∧ kO P d r K st c) := rfl
theorem o_boxO {n : Nat} : vcOps P (⟨d, .boxO n x, none⟩ :: r) K st = ((ev st x).wd = some n ∧ nolL (ev st x).cells = true ∧ kO P d r K st (ev st x).cells) := rfl
theorem kO_intro {c : List V} (h : ∀ b, σ.box b = none → vcOps P r K (St.put ⟨t, l, σ.set b c⟩ d (.ptr (.out b) 0))) : kO P d r K ⟨t, l, σ⟩ c := h
theorem o_build {c : List V} {ps : List (Nat × Nat × X)} : vcOps P (⟨d, .build c ps, none⟩ :: r) K st = optL ((buildV st c ps).map V.agg) (kL P d r K st) := rfl
def optR (o : Option (List (List V))) (k : Nat) (K : V → Prop) : Prop := match o with | some v => K (.sl .full k v) | none => False
theorem optR_some {v : List (List V)} {k : Nat} {K : V → Prop} : optR (some v) k K = K (.sl .full k v) := rfl
theorem o_bslice {k : Nat} {xs : List X} : vcOps P (⟨d, .bslice k xs, none⟩ :: r) K st = optR (rowsV st k xs) k (kL P d r K st) := by
  simp only [vcOps, AOp.sem]
  cases rowsV st k xs <;> rfl
theorem o_load {g : Bool} {n : Nat} : vcOps P (⟨d, .load g n x, none⟩ :: r) K st = optL (ldV st g n (ev st x)) (kL P d r K st) := rfl
def optS (P : Program) (o : Option St) (d : Option Nat) (r : List AO) (K : St → Prop) : Prop := match o with | some st => vcOps P r K (st.put d .any) | none => False
theorem optS_some : optS P (some st) d r K = vcOps P r K (st.put d .any) := rfl
theorem o_store {n : Nat} : vcOps P (⟨d, .store n x y, none⟩ :: r) K st = optS P (stV st n (ev st y) (ev st x)) d r K := by
  simp only [vcOps, AOp.sem, optS]
  cases stV st n (ev st y) (ev st x) <;> rfl
def nilckL (v : V) (K : V → Prop) : Prop := match v with | .ptr p o => K (.ptr p o) | .elt c o => K (.elt c o) | .fn (.func f) a b => K (.fn (.func f) a b) | _ => False
theorem o_nilck : vcOps P (⟨d, .nilck x, none⟩ :: r) K st = nilckL (ev st x) (kL P d r K st) := by
  simp only [vcOps, AOp.sem, nilckL]
  cases ev st x <;> first | rfl | (rename_i f _ _; cases f <;> rfl)
theorem nilckL_ptr {p : Pl} {o : Nat} {K : V → Prop} : nilckL (.ptr p o) K = K (.ptr p o) := rfl
theorem nilckL_elt {c : List V} {o : Nat} {K : V → Prop} : nilckL (.elt c o) K = K (.elt c o) := rfl
theorem nilckL_fn {f : FuncId} {c e : List V} {K : V → Prop} : nilckL (.fn (.func f) c e) K = K (.fn (.func f) c e) := rfl
theorem o_binI {op : BinOp} : vcOps P (⟨d, .binI op x y, none⟩ :: r) K st = optL (binIV op (ev st x) (ev st y)) (kL P d r K st) := rfl
theorem o_binS {op : BinOp} : vcOps P (⟨d, .binS op x y, none⟩ :: r) K st = optL (binSV op (ev st x) (ev st y)) (kL P d r K st) := rfl
theorem o_binB {n : Bool} : vcOps P (⟨d, .binB n x y, none⟩ :: r) K st = optL (eqBV n (ev st x) (ev st y)) (kL P d r K st) := rfl
def catL (u v : V) (K : V → Prop) : Prop := ∃ a b, u = .str a ∧ v = .str b ∧ a.length + b.length ≤ big ∧ K (.str (a ++ b))
theorem o_cat : vcOps P (⟨d, .cat x y, none⟩ :: r) K st = catL (ev st x) (ev st y) (kL P d r K st) := rfl
theorem catL_str {a b : List UInt8} {K : V → Prop} : catL (.str a) (.str b) K = (a.length + b.length ≤ big ∧ K (.str (a ++ b))) := by
  simp only [catL, V.str.injEq, eq_iff_iff]
  constructor
  · rintro ⟨a', b', rfl, rfl, h1, h2⟩; exact ⟨h1, h2⟩
  · rintro ⟨h1, h2⟩; exact ⟨a, b, rfl, rfl, h1, h2⟩
theorem o_eqA {n : Bool} {ks : List Nat} : vcOps P (⟨d, .eqA n ks x y, none⟩ :: r) K st = optL (eqAV n ks (ev st x) (ev st y)) (kL P d r K st) := rfl
def notL (v : V) (K : V → Prop) : Prop := match v with | .bool b => K (.bool (!b)) | _ => False
theorem o_not : vcOps P (⟨d, .not x, none⟩ :: r) K st = notL (ev st x) (kL P d r K st) := by
  simp only [vcOps, AOp.sem, notL]
  cases ev st x <;> rfl
theorem notL_bool {b : Bool} {K : V → Prop} : notL (.bool b) K = K (.bool (!b)) := rfl
def lenL (v : V) (K : V → Prop) : Prop := match v with | .sl _ _ l => K (.int .i64 l.length) | _ => False
theorem o_lenS : vcOps P (⟨d, .lenS x, none⟩ :: r) K st = lenL (ev st x) (kL P d r K st) := by
  simp only [vcOps, AOp.sem, lenL]
  cases ev st x <;> rfl
theorem lenL_sl {τ : Tk} {k : Nat} {m : List (List V)} {K : V → Prop} : lenL (.sl τ k m) K = K (.int .i64 m.length) := rfl
def lenTL (v : V) (K : V → Prop) : Prop := match v with | .str s => K (.int .i64 s.length) | _ => False
theorem o_lenT : vcOps P (⟨d, .lenT x, none⟩ :: r) K st = lenTL (ev st x) (kL P d r K st) := by
  simp only [vcOps, AOp.sem, lenTL]
  cases ev st x <;> rfl
theorem lenTL_str {s : List UInt8} {K : V → Prop} : lenTL (.str s) K = K (.int .i64 s.length) := rfl
def fldL (off : Nat) (v : V) (K : V → Prop) : Prop := match v with | .ptr p o => K (.ptr p (o + off)) | .elt c o => K (.elt c (o + off)) | _ => False
theorem o_fld {n : Nat} : vcOps P (⟨d, .fld n x, none⟩ :: r) K st = fldL n (ev st x) (kL P d r K st) := by
  simp only [vcOps, AOp.sem, fldL]
  cases ev st x <;> rfl
theorem fldL_ptr {p : Pl} {o n : Nat} {K : V → Prop} : fldL n (.ptr p o) K = K (.ptr p (o + n)) := rfl
theorem fldL_elt {c : List V} {o n : Nat} {K : V → Prop} : fldL n (.elt c o) K = K (.elt c (o + n)) := rfl
def fldvL (g : Bool) (off n : Nat) (v : V) (K : V → Prop) : Prop := match v with | .agg cs => optL (ldC g n (cs.drop off)) K | _ => False
theorem o_fldv {g : Bool} {n m : Nat} : vcOps P (⟨d, .fldv g m n x, none⟩ :: r) K st = fldvL g m n (ev st x) (kL P d r K st) := by
  simp only [vcOps, AOp.sem, fldvL]
  cases ev st x <;> rfl
theorem fldvL_agg {g : Bool} {n m : Nat} {cs : List V} {K : V → Prop} : fldvL g m n (.agg cs) K = optL (ldC g n (cs.drop m)) K := rfl
def idxL (k : Nat) (v i : V) (K : V → Prop) : Prop := match v with | .sl _ k' l => k' = k ∧ IdxOk l i fun c => K (.elt c 0) | _ => False
theorem o_idxA {k : Nat} : vcOps P (⟨d, .idxA k x y, none⟩ :: r) K st = idxL k (ev st x) (ev st y) (kL P d r K st) := by
  simp only [vcOps, AOp.sem, idxL]
  cases ev st x <;> rfl
theorem idxL_intro {k : Nat} {τ : Tk} {m : List (List V)} {ik : IntKind} {n : Int} {c : List V} {K : V → Prop} (h0 : 0 ≤ n) (h : m[n.toNat]? = some c) (hk : K (.elt c 0)) : idxL k (.sl τ k m) (.int ik n) K := ⟨rfl, ik, n, c, rfl, h0, h, hk⟩
def idxPL (m k : Nat) (v i : V) (K : V → Prop) : Prop := match v with
  | .ptr p o => ∃ kk n, i = .int kk n ∧ 0 ≤ n ∧ n < (m : Nat) ∧ K (.ptr p (o + n.toNat * k))
  | .elt c o => ∃ kk n, i = .int kk n ∧ 0 ≤ n ∧ n < (m : Nat) ∧ K (.elt c (o + n.toNat * k))
  | _ => False
theorem o_idxP {m k : Nat} : vcOps P (⟨d, .idxP m k x y, none⟩ :: r) K st = idxPL m k (ev st x) (ev st y) (kL P d r K st) := by
  simp only [vcOps, AOp.sem, idxPL]
  cases ev st x <;> rfl
theorem idxPL_ptr {m k o : Nat} {p : Pl} {ik : IntKind} {n : Int} {K : V → Prop} (h0 : 0 ≤ n) (h : n < (m : Nat)) (hk : K (.ptr p (o + n.toNat * k))) : idxPL m k (.ptr p o) (.int ik n) K := ⟨ik, n, rfl, h0, h, hk⟩
theorem idxPL_elt {m k o : Nat} {c : List V} {ik : IntKind} {n : Int} {K : V → Prop} (h0 : 0 ≤ n) (h : n < (m : Nat)) (hk : K (.elt c (o + n.toNat * k))) : idxPL m k (.elt c o) (.int ik n) K := ⟨ik, n, rfl, h0, h, hk⟩
def idxSL (v i : V) (K : V → Prop) : Prop := match v with | .str s => ∃ k n c, i = .int k n ∧ 0 ≤ n ∧ s[n.toNat]? = some c ∧ K (.int .u8 c.toNat) | _ => False
theorem o_idxS : vcOps P (⟨d, .idxS x y, none⟩ :: r) K st = idxSL (ev st x) (ev st y) (kL P d r K st) := by
  simp only [vcOps, AOp.sem, idxSL]
  cases ev st x <;> rfl
theorem idxSL_intro {s : List UInt8} {ik : IntKind} {n : Int} {c : UInt8} {K : V → Prop} (h0 : 0 ≤ n) (h : s[n.toNat]? = some c) (hk : K (.int .u8 c.toNat)) : idxSL (.str s) (.int ik n) K := ⟨ik, n, c, rfl, h0, h, hk⟩
def kC (P : Program) (d : Option Nat) (r : List AO) (K : St → Prop) (t : List V) (l : List (List V)) (v : V) (σ : Store) : Prop := vcOps P r K (St.put ⟨t, l, σ⟩ d v)
theorem kC_eq {v : V} : kC P d r K t l v σ = vcOps P r K (St.put ⟨t, l, σ⟩ d v) := rfl
theorem o_call {f : FuncId} {xs : List X} : vcOps P (⟨d, .call f xs, none⟩ :: r) K ⟨t, l, σ⟩ = (nolL (evs ⟨t, l, σ⟩ xs) = true ∧ PCalls P f (evs ⟨t, l, σ⟩ xs) σ (kC P d r K t l)) := rfl
def callL (P : Program) (v : V) (args : List V) (σ : Store) (K : V → Store → Prop) : Prop := match v with | .fn (.func f) a b => nolL (a ++ args ++ b) = true ∧ PCalls P f (a ++ args ++ b) σ K | _ => False
theorem o_callv {xs : List X} : vcOps P (⟨d, .callv x xs, none⟩ :: r) K ⟨t, l, σ⟩ = callL P (ev ⟨t, l, σ⟩ x) (evs ⟨t, l, σ⟩ xs) σ (kC P d r K t l) := by
  simp only [vcOps, AOp.sem, callL]
  cases ev ⟨t, l, σ⟩ x <;> first | rfl | (rename_i f _ _; cases f <;> rfl)
theorem callL_fn {f : FuncId} {u args v : List V} {K : V → Store → Prop} : callL P (.fn (.func f) u v) args σ K = (nolL (u ++ args ++ v) = true ∧ PCalls P f (u ++ args ++ v) σ K) := rfl
theorem o_app {k : Nat} : vcOps P (⟨d, .app k x y, none⟩ :: r) K ⟨t, l, σ⟩ = AppOk σ k (ev ⟨t, l, σ⟩ x) (ev ⟨t, l, σ⟩ y) (kC P d r K t l) := rfl
theorem o_appS : vcOps P (⟨d, .appS x y, none⟩ :: r) K ⟨t, l, σ⟩ = (∃ a, ev ⟨t, l, σ⟩ y = .str a ∧ AppOk σ 1 (ev ⟨t, l, σ⟩ x) (.sl .no 1 (encB a)) (kC P d r K t l)) := rfl
theorem app_tk {k : Nat} {τ : Nat} {u : Tk} {m n : List (List V)} {K : V → Store → Prop} (hb : m.length + n.length ≤ big) (ht : σ.tip τ = some m.length) (hk : K (.sl (.tk τ) k (m ++ n)) (σ.setTip τ (m.length + n.length))) :
    AppOk σ k (.sl (.tk τ) k m) (.sl u k n) K := ⟨_, m, n, rfl, ⟨u, rfl⟩, hb, ht, hk⟩
theorem app_full {k : Nat} {u : Tk} {m n : List (List V)} {K : V → Store → Prop} (hb : m.length + n.length ≤ big) (hk : ∀ τ, σ.tip τ = none → K (.sl (.tk τ) k (m ++ n)) (σ.setTip τ (m.length + n.length))) :
    AppOk σ k (.sl .full k m) (.sl u k n) K := ⟨_, m, n, rfl, ⟨u, rfl⟩, hb, .inl hk⟩
def extL (i : Nat) (v : V) (K : V → Prop) : Prop := match v with | .tup vs => optL vs[i]? K | _ => False
theorem o_ext {i : Nat} : vcOps P (⟨d, .ext x i, none⟩ :: r) K st = extL i (ev st x) (kL P d r K st) := by
  simp only [vcOps, AOp.sem, extL]
  cases ev st x <;> rfl
theorem extL_zero {u : V} {us : List V} {K : V → Prop} : extL 0 (.tup (u :: us)) K = K u := rfl
theorem extL_succ {i : Nat} {u : V} {us : List V} {K : V → Prop} : extL (i + 1) (.tup (u :: us)) K = extL i (.tup us) K := rfl
theorem o_mkfn {f : Fn} {as bs : List X} : vcOps P (⟨d, .mkfn f as bs, none⟩ :: r) K st = vcOps P r K (st.put d (.fn f (evs st as) (evs st bs))) := rfl
def cvL' (k : IntKind) (v : V) (K : V → Prop) : Prop := match v with | .int _ n => K (.int k (k.wrap n)) | _ => False
theorem o_cvI {k : IntKind} : vcOps P (⟨d, .cvI k x, none⟩ :: r) K st = cvL' k (ev st x) (kL P d r K st) := by
  simp only [vcOps, AOp.sem, cvL']
  cases ev st x <;> rfl
theorem cvL_int {k j : IntKind} {n : Int} {K : V → Prop} : cvL' k (.int j n) K = K (.int k (k.wrap n)) := rfl
theorem o_cvBS : vcOps P (⟨d, .cvBS x, none⟩ :: r) K st = (∃ t s, ev st x = .sl t 1 (encB s) ∧ kL P d r K st (.str s)) := rfl
def gL (P : Program) (v : V) (w : Bool) (d : Option Nat) (op : AOp) (r : List AO) (K : St → Prop) (st : St) : Prop :=
  match v with
  | .bool b => if b = w then vcOps P (⟨d, op, none⟩ :: r) K st else vcOps P r K (st.put d (.tup []))
  | .tup [] => vcOps P r K (st.put d (.tup []))
  | _ => False
theorem o_guard {g : Nat} {w : Bool} {op : AOp} : vcOps P (⟨d, op, some (g, w)⟩ :: r) K ⟨t, l, σ⟩ = gL P (t.getD g .any) w d op r K ⟨t, l, σ⟩ := by
  simp only [vcOps, gL, ev]
  generalize t.getD g .any = v
  cases v <;> first | rfl | (rename_i m; cases m <;> rfl)
theorem gL_und {w : Bool} {op : AOp} : gL P (.tup []) w d op r K st = vcOps P r K (st.put d (.tup [])) := rfl
theorem gL_tt {op : AOp} : gL P (.bool true) true d op r K st = vcOps P (⟨d, op, none⟩ :: r) K st := rfl
theorem gL_ff {op : AOp} : gL P (.bool false) false d op r K st = vcOps P (⟨d, op, none⟩ :: r) K st := rfl
theorem gL_tf {op : AOp} : gL P (.bool true) false d op r K st = vcOps P r K (st.put d (.tup [])) := rfl
theorem gL_ft {op : AOp} : gL P (.bool false) true d op r K st = vcOps P r K (st.put d (.tup [])) := rfl
def ldB (c : Option (List V)) (g : Bool) (n o : Nat) : Option V := c.bind fun cs => ldC g n (cs.drop o)
theorem ldB_some {c : List V} {g : Bool} {n o : Nat} : ldB (some c) g n o = ldC g n (c.drop o) := rfl
theorem ldV_loc' {g : Bool} {n i o : Nat} : ldV ⟨t, l, σ⟩ g n (.ptr (.loc i) o) = ldB l[i]? g n o := rfl
theorem ldV_out {g : Bool} {n i o : Nat} : ldV ⟨t, l, σ⟩ g n (.ptr (.out i) o) = ldB (σ.box i) g n o := rfl
theorem ldV_elt {g : Bool} {n o : Nat} {cs : List V} : ldV st g n (.elt cs o) = ldC g n (cs.drop o) := rfl
theorem ldC_agg {n : Nat} {cs : List V} : ldC true n cs = (takeN n cs).map V.agg := rfl
theorem ldC_one {n : Nat} {c : V} {cs : List V} : ldC false n (c :: cs) = some c := rfl
theorem takeN_zero {cs : List V} : takeN 0 cs = some [] := rfl
def mapC (c : V) : Option (List V) → Option (List V) | some l => some (c :: l) | none => none
theorem takeN_succ' {n : Nat} {c : V} {cs : List V} : takeN (n + 1) (c :: cs) = mapC c (takeN n cs) := by
  simp only [takeN]; cases takeN n cs <;> rfl
theorem mapC_some {c : V} {cs : List V} : mapC c (some cs) = some (c :: cs) := rfl
theorem drop_zero' {cs : List V} : cs.drop 0 = cs := rfl
theorem drop_succ {n : Nat} {c : V} {cs : List V} : (c :: cs).drop (n + 1) = cs.drop n := rfl
def stL (t : List V) (l : List (List V)) (σ : Store) (i o n : Nat) (x : V) : Option (List V) → Option St
  | some cs => if hasN n (cs.drop o) = true ∧ x.wd = some n ∧ oneL x.cells = true then some ⟨t, l.set i (setAt cs o x.cells), σ⟩ else none
  | none => none
theorem stV_loc {n i o : Nat} {v : V} : stV ⟨t, l, σ⟩ n v (.ptr (.loc i) o) = stL t l σ i o n v l[i]? := by
  simp only [stV]; cases l[i]? <;> rfl
theorem stL_some {n i o : Nat} {v : V} {cs : List V} : stL t l σ i o n v (some cs) = if hasN n (cs.drop o) = true ∧ v.wd = some n ∧ oneL v.cells = true then some ⟨t, l.set i (setAt cs o v.cells), σ⟩ else none := rfl
def stO (t : List V) (l : List (List V)) (σ : Store) (i o n : Nat) (x : V) : Option (List V) → Option St
  | some cs => if hasN n (cs.drop o) = true ∧ x.wd = some n ∧ oneL x.cells = true ∧ nolL x.cells = true then some ⟨t, l, σ.set i (setAt cs o x.cells)⟩ else none
  | none => none
theorem stV_out {n i o : Nat} {v : V} : stV ⟨t, l, σ⟩ n v (.ptr (.out i) o) = stO t l σ i o n v (σ.box i) := by
  simp only [stV]; cases σ.box i <;> rfl
theorem stO_some {n i o : Nat} {v : V} {cs : List V} : stO t l σ i o n v (some cs) = if hasN n (cs.drop o) = true ∧ v.wd = some n ∧ oneL v.cells = true ∧ nolL v.cells = true then some ⟨t, l, σ.set i (setAt cs o v.cells)⟩ else none := rfl
theorem set_box {b : Nat} {cs : List V} : (σ.set b cs).box b = some cs := by simp [Store.set]
theorem setTip_box {b τ n : Nat} : (σ.setTip τ n).box b = σ.box b := rfl
theorem set_tip {b τ : Nat} {cs : List V} : (σ.set b cs).tip τ = σ.tip τ := rfl
theorem setTip_tip {τ n : Nat} : (σ.setTip τ n).tip τ = some n := by simp [Store.setTip]
theorem setTip_tip_ne {τ υ n : Nat} (h : υ ≠ τ) : (σ.setTip τ n).tip υ = σ.tip υ := by simp [Store.setTip, h]
theorem buildV_nil {c : List V} : buildV st c [] = some c := rfl
def bldL (st : St) (c : List V) (off n : Nat) (v : V) (ps : List (Nat × Nat × X)) : Option (List V) := if hasN n (c.drop off) = true ∧ v.wd = some n then buildV st (setAt c off v.cells) ps else none
theorem buildV_cons {c : List V} {off n : Nat} {ps : List (Nat × Nat × X)} : buildV st c ((off, n, x) :: ps) = bldL st c off n (ev st x) ps := rfl
theorem bldL_ok {c : List V} {off n : Nat} {v : V} {ps : List (Nat × Nat × X)} : bldL st c off n v ps = if hasN n (c.drop off) = true ∧ v.wd = some n then buildV st (setAt c off v.cells) ps else none := rfl
theorem rowsV_nil {k : Nat} : rowsV st k [] = some [] := rfl
def rowL (c : List V) : Option (List (List V)) → Option (List (List V)) | some l => some (c :: l) | none => none
theorem rowL_some {c : List V} {m : List (List V)} : rowL c (some m) = some (c :: m) := rfl
def rowC (st : St) (k : Nat) (v : V) (xs : List X) : Option (List (List V)) := if v.wd = some k ∧ nolL v.cells = true ∧ oneL v.cells = true then rowL (eraseL v.cells) (rowsV st k xs) else none
theorem rowsV_cons {k : Nat} {xs : List X} : rowsV st k (x :: xs) = rowC st k (ev st x) xs := by
  simp only [rowsV, rowC]
  cases rowsV st k xs <;> rfl
theorem rowC_ok {k : Nat} {v : V} {xs : List X} : rowC st k v xs = if v.wd = some k ∧ nolL v.cells = true ∧ oneL v.cells = true then rowL (eraseL v.cells) (rowsV st k xs) else none := rfl
def VLe (v v' : V) : Prop := ∀ E u, R E v u → R E v' u
theorem VLe.rfl {v : V} : VLe v v := fun _ _ h => h
theorem VLe.any {v : V} : VLe v .any := fun _ _ _ => by simp only [R]
theorem VLe.erase {v : V} : VLe v v.erase := fun _ _ h => R.erase v h
theorem VLe.no {τ : Tk} {k : Nat} {m : List (List V)} : VLe (.sl τ k m) (.sl .no k m) := fun _ _ h => R.erase (.sl τ k m) h
theorem VLe.full {k : Nat} : VLe (.sl .full k []) (.sl .no k []) := VLe.no
def LLe : List V → List V → Prop
  | [], [] => True
  | v :: l, v' :: l' => VLe v v' ∧ LLe l l'
  | _, _ => False
theorem LLe.rfl : ∀ {l : List V}, LLe l l
  | [] => trivial
  | _ :: _ => ⟨VLe.rfl, LLe.rfl⟩
theorem LLe.mono : ∀ {l l' : List V} {E : Env} {us : List Value}, LLe l l' → RL E l us → RL E l' us
  | [], [], _, _, _, h => h
  | [], _ :: _, _, _, h, _ => h.elim
  | _ :: _, [], _, _, h, _ => h.elim
  | v :: l, v' :: l', _, [], _, h => by simp [RL] at h
  | v :: l, v' :: l', _, u :: us, h, hr => by
    simp only [RL] at hr ⊢
    exact ⟨h.1 _ _ hr.1, LLe.mono h.2 hr.2⟩
theorem LLe.length : ∀ {l l' : List V}, LLe l l' → l.length = l'.length
  | [], [], _ => Eq.refl _
  | [], _ :: _, h => h.elim
  | _ :: _, [], h => h.elim
  | v :: l, v' :: l', h => by simp [LLe.length h.2]
theorem LLe.get : ∀ {l l' : List V}, LLe l l' → ∀ (j : Nat) v', l'[j]? = some v' → ∃ v, l[j]? = some v ∧ VLe v v'
  | [], [], _, j, v', h => by simp at h
  | [], _ :: _, h, _, _, _ => h.elim
  | _ :: _, [], h, _, _, _ => h.elim
  | v :: l, w :: l', h, j, v', hj => by
    cases j with
    | zero => simp at hj; subst hj; exact ⟨v, by simp, h.1⟩
    | succ j => simp at hj; obtain ⟨u, h1, h2⟩ := LLe.get h.2 j v' hj; exact ⟨u, by simpa using h1, h2⟩
def LLLe : List (List V) → List (List V) → Prop
  | [], [] => True
  | v :: l, v' :: l' => LLe v v' ∧ LLLe l l'
  | _, _ => False
theorem LLLe.rfl : ∀ {l : List (List V)}, LLLe l l
  | [] => trivial
  | _ :: _ => ⟨LLe.rfl, LLLe.rfl⟩
theorem LLLe.length : ∀ {l l' : List (List V)}, LLLe l l' → l.length = l'.length
  | [], [], _ => Eq.refl _
  | [], _ :: _, h => h.elim
  | _ :: _, [], h => h.elim
  | v :: l, v' :: l', h => by simp [LLLe.length h.2]
theorem LLLe.get : ∀ {l l' : List (List V)}, LLLe l l' → ∀ (j : Nat) v', l'[j]? = some v' → ∃ v, l[j]? = some v ∧ LLe v v'
  | [], [], _, j, v', h => by simp at h
  | [], _ :: _, h, _, _, _ => h.elim
  | _ :: _, [], h, _, _, _ => h.elim
  | v :: l, w :: l', h, j, v', hj => by
    cases j with
    | zero => simp at hj; subst hj; exact ⟨v, by simp, h.1⟩
    | succ j => simp at hj; obtain ⟨u, h1, h2⟩ := LLLe.get h.2 j v' hj; exact ⟨u, by simpa using h1, h2⟩
theorem BoxAt.weak {E : Env} {b : Nat} {cs cs' : List V} (h : LLe cs cs') (k : BoxAt E b cs) : BoxAt E b cs' := by
  obtain ⟨c, e, h1, h2, h3⟩ := k
  refine ⟨c, e, h1, by rw [← h.length]; exact h2, fun j x hx => ?_⟩
  obtain ⟨v, hv, hle⟩ := h.get j x hx
  obtain ⟨u, k1, k2⟩ := h3 j v hv
  exact ⟨u, k1, hle _ _ k2⟩
structure OLe (σ σ' : Store) : Prop where
  box : ∀ b cs', σ'.box b = some cs' → ∃ cs, σ.box b = some cs ∧ LLe cs cs'
  tip : ∀ τ n, σ'.tip τ = some n → σ.tip τ = some n
theorem OLe.rfl {σ : Store} : OLe σ σ := ⟨fun _ cs h => ⟨cs, h, LLe.rfl⟩, fun _ _ h => h⟩
theorem Upd.weak {t t' : List V} {l l' : List (List V)} {σ σ' : Store} (h : LLe t t') (hl : LLLe l l') (ho : OLe σ σ') (hk : K ⟨t', l', σ'⟩) : Upd ⟨t, l, σ⟩ K := by
  intro E a hs
  refine ⟨E, _, rfl, Fr.refl E, ⟨⟨fun b cs hcs => ?_, fun τ n hn => hs.ok.tip τ n (ho.tip τ n hn), hs.ok.fresh, hs.ok.nt⟩, ⟨fun i cs hcs => ?_, fun i hi => hs.okL.none i (by rw [hl.length]; exact hi)⟩, hs.defers, h.mono hs.slot⟩, hk⟩
  · obtain ⟨cs0, h1, h2⟩ := ho.box b cs hcs
    obtain ⟨k1, k2⟩ := hs.ok.box b cs0 h1
    exact ⟨k1, k2.weak h2⟩
  · obtain ⟨cs0, h1, h2⟩ := hl.get i cs hcs
    obtain ⟨b, k1, k2, k3⟩ := hs.okL.box i cs0 h1
    exact ⟨b, k1, k2, k3.weak h2⟩
theorem Upd.slots {t t' : List V} {l : List (List V)} {σ : Store} (h : LLe t t') (hk : K ⟨t', l, σ⟩) : Upd ⟨t, l, σ⟩ K := Upd.weak h LLLe.rfl OLe.rfl hk
theorem PCalls.weak {f : FuncId} {as as' : List V} {σ σ' : Store} {R' : V → Store → Prop} (h : PCalls P f as' σ' R') (ha : LLe as as') (ho : OLe σ σ') : PCalls P f as σ R' := by
  refine ⟨h.1, fun E vs h1 h2 h3 => h.2 E vs h1 ?_ (ha.mono h3)⟩
  refine ⟨fun b cs hcs => ?_, fun τ n hn => h2.tip τ n (ho.tip τ n hn), h2.fresh, h2.nt⟩
  obtain ⟨cs0, k1, k2⟩ := ho.box b cs hcs
  obtain ⟨k3, k4⟩ := h2.box b cs0 k1
  exact ⟨k3, k4.weak k2⟩
end
end Go.Am

namespace Go.Am
section
variable {P : Program} {d : Option Nat} {r : List (AO × List Nat)} {K : St → Prop} {t : List V} {l : List (List V)} {σ : Store} {x y z : X} {st : St} {SN : List Sto} {L : List (V × Bool × Nat × V × List Nat)} {ms : List Nat}
theorem d_nil : vcD P [] SN L K st = (chkL SN L ∧ K st) := rfl
def kD (P : Program) (d : Option Nat) (r : List (AO × List Nat)) (SN : List Sto) (L : List (V × Bool × Nat × V × List Nat)) (K : St → Prop) (st : St) (v : V) : Prop := vcD P r SN L K (st.put d v)
theorem kD_eq {v : V} : kD P d r SN L K ⟨t, l, σ⟩ v = vcD P r SN L K (St.put ⟨t, l, σ⟩ d v) := rfl
theorem d_mv : vcD P ((⟨d, .mv x, none⟩, ms) :: r) SN L K st = vcD P r SN L K (st.put d (ev st x)) := rfl
def pickD (P : Program) (v a b : V) (d : Option Nat) (r : List (AO × List Nat)) (SN : List Sto) (L : List (V × Bool × Nat × V × List Nat)) (K : St → Prop) (st : St) : Prop := match v with | .bool true => vcD P r SN L K (st.put d a) | .bool false => vcD P r SN L K (st.put d b) | _ => False
theorem d_pick : vcD P ((⟨d, .pick x y z, none⟩, ms) :: r) SN L K st = pickD P (ev st x) (ev st y) (ev st z) d r SN L K st := by
  show (match ev st x with | .bool true => _ | .bool false => _ | _ => False) = _
  unfold pickD
  cases ev st x <;> first | rfl | (rename_i b; cases b <;> rfl)
theorem pickD_true {u v : V} : pickD P (.bool true) u v d r SN L K st = vcD P r SN L K (st.put d u) := rfl
theorem pickD_false {u v : V} : pickD P (.bool false) u v d r SN L K st = vcD P r SN L K (st.put d v) := rfl
theorem pickD_ff {b c : Bool} : pickD P (.bool b) (.bool c) (.bool false) d r SN L K st = vcD P r SN L K (st.put d (.bool (b && c))) := by cases b <;> simp [pickD]
theorem pickD_tt {b c : Bool} : pickD P (.bool b) (.bool true) (.bool c) d r SN L K st = vcD P r SN L K (st.put d (.bool (b || c))) := by cases b <;> simp [pickD]
theorem d_alloc {c : List V} : vcD P ((⟨d, .alloc c, none⟩, ms) :: r) SN L K ⟨t, l, σ⟩ = vcD P r (SN ++ [(l ++ [c], σ)]) L K (St.put ⟨t, l ++ [c], σ⟩ d (.ptr (.loc l.length) 0)) := rfl
theorem d_box {n : Nat} : vcD P ((⟨d, .box n x, none⟩, ms) :: r) SN L K ⟨t, l, σ⟩ = ((ev ⟨t, l, σ⟩ x).wd = some n ∧ vcD P r (SN ++ [(l ++ [(ev ⟨t, l, σ⟩ x).cells], σ)]) L K (St.put ⟨t, l ++ [(ev ⟨t, l, σ⟩ x).cells], σ⟩ d (.ptr (.loc l.length) 0))) := rfl
theorem d_boxS {n : Nat} : vcD P ((⟨d, .boxS n x, none⟩, ms) :: r) SN L K ⟨t, l, σ⟩ = ((ev ⟨t, l, σ⟩ x).wd = some n ∧ oneL (ev ⟨t, l, σ⟩ x).cells = true ∧ vcD P r (SN ++ [(l ++ [(ev ⟨t, l, σ⟩ x).cells], σ)]) L K (St.put ⟨t, l ++ [(ev ⟨t, l, σ⟩ x).cells], σ⟩ d (.ptr (.loc l.length) 0))) := rfl
theorem d_build {c : List V} {ps : List (Nat × Nat × X)} : vcD P ((⟨d, .build c ps, none⟩, ms) :: r) SN L K st = optL ((buildV st c ps).map V.agg) (kD P d r SN L K st) := rfl
theorem d_bslice {k : Nat} {xs : List X} : vcD P ((⟨d, .bslice k xs, none⟩, ms) :: r) SN L K st = optR (rowsV st k xs) k (kD P d r SN L K st) := by
  show opt ((rowsV st k xs).map (V.sl .full k)) _ = _
  cases rowsV st k xs <;> rfl
def ldD (P : Program) (a : V) (g : Bool) (n : Nat) (ms : List Nat) (d : Option Nat) (r : List (AO × List Nat)) (SN : List Sto) (L : List (V × Bool × Nat × V × List Nat)) (K : St → Prop) (st : St) : Option V → Prop
  | some v => vcD P r SN ((a, g, n, v, ms) :: L) K (st.put d v)
  | none => False
theorem ldD_some {a v : V} {g : Bool} {n : Nat} : ldD P a g n ms d r SN L K st (some v) = vcD P r SN ((a, g, n, v, ms) :: L) K (st.put d v) := rfl
theorem d_load {g : Bool} {n : Nat} : vcD P ((⟨d, .load g n x, none⟩, ms) :: r) SN L K st = ldD P (ev st x) g n ms d r SN L K st (ldV st g n (ev st x)) := by
  show opt (ldV st g n (ev st x)) _ = _
  cases ldV st g n (ev st x) <;> rfl
def stD (P : Program) (d : Option Nat) (r : List (AO × List Nat)) (SN : List Sto) (L : List (V × Bool × Nat × V × List Nat)) (K : St → Prop) : Option St → Prop
  | some st => vcD P r (SN ++ [(st.loc, st.out)]) L K (st.put d .any)
  | none => False
theorem stD_some : stD P d r SN L K (some ⟨t, l, σ⟩) = vcD P r (SN ++ [(l, σ)]) L K (St.put ⟨t, l, σ⟩ d .any) := rfl
theorem d_store {n : Nat} : vcD P ((⟨d, .store n x y, none⟩, ms) :: r) SN L K st = stD P d r SN L K (stV st n (ev st y) (ev st x)) := by
  show (match stV st n (ev st y) (ev st x) with | some st' => _ | none => False) = _
  cases stV st n (ev st y) (ev st x) <;> rfl
theorem d_nilck : vcD P ((⟨d, .nilck x, none⟩, ms) :: r) SN L K st = nilckL (ev st x) (kD P d r SN L K st) := by
  show (match ev st x with | .ptr p o => _ | .elt c o => _ | .fn (.func f) a b => _ | _ => False) = _
  unfold nilckL
  cases ev st x <;> first | rfl | (rename_i f _ _; cases f <;> rfl)
theorem d_binI {op : BinOp} : vcD P ((⟨d, .binI op x y, none⟩, ms) :: r) SN L K st = optL (binIV op (ev st x) (ev st y)) (kD P d r SN L K st) := rfl
theorem d_binS {op : BinOp} : vcD P ((⟨d, .binS op x y, none⟩, ms) :: r) SN L K st = optL (binSV op (ev st x) (ev st y)) (kD P d r SN L K st) := rfl
theorem d_binB {n : Bool} : vcD P ((⟨d, .binB n x y, none⟩, ms) :: r) SN L K st = optL (eqBV n (ev st x) (ev st y)) (kD P d r SN L K st) := rfl
theorem d_cat : vcD P ((⟨d, .cat x y, none⟩, ms) :: r) SN L K st = catL (ev st x) (ev st y) (kD P d r SN L K st) := rfl
theorem d_eqA {n : Bool} {ks : List Nat} : vcD P ((⟨d, .eqA n ks x y, none⟩, ms) :: r) SN L K st = optL (eqAV n ks (ev st x) (ev st y)) (kD P d r SN L K st) := rfl
theorem d_not : vcD P ((⟨d, .not x, none⟩, ms) :: r) SN L K st = notL (ev st x) (kD P d r SN L K st) := by
  show (match ev st x with | .bool b => _ | _ => False) = _
  unfold notL
  cases ev st x <;> rfl
theorem d_lenS : vcD P ((⟨d, .lenS x, none⟩, ms) :: r) SN L K st = lenL (ev st x) (kD P d r SN L K st) := by
  show (match ev st x with | .sl _ _ l => _ | _ => False) = _
  unfold lenL
  cases ev st x <;> rfl
theorem d_lenT : vcD P ((⟨d, .lenT x, none⟩, ms) :: r) SN L K st = lenTL (ev st x) (kD P d r SN L K st) := by
  show (match ev st x with | .str s => _ | _ => False) = _
  unfold lenTL
  cases ev st x <;> rfl
theorem d_fld {n : Nat} : vcD P ((⟨d, .fld n x, none⟩, ms) :: r) SN L K st = fldL n (ev st x) (kD P d r SN L K st) := by
  show (match ev st x with | .ptr p o => _ | .elt c o => _ | _ => False) = _
  unfold fldL
  cases ev st x <;> rfl
theorem d_fldv {g : Bool} {n m : Nat} : vcD P ((⟨d, .fldv g m n x, none⟩, ms) :: r) SN L K st = fldvL g m n (ev st x) (kD P d r SN L K st) := by
  show (match ev st x with | .agg cs => _ | _ => False) = _
  unfold fldvL
  cases ev st x <;> rfl
theorem d_idxA {k : Nat} : vcD P ((⟨d, .idxA k x y, none⟩, ms) :: r) SN L K st = idxL k (ev st x) (ev st y) (kD P d r SN L K st) := by
  show (match ev st x with | .sl _ k' l => _ | _ => False) = _
  unfold idxL
  cases ev st x <;> rfl
theorem d_idxP {m k : Nat} : vcD P ((⟨d, .idxP m k x y, none⟩, ms) :: r) SN L K st = idxPL m k (ev st x) (ev st y) (kD P d r SN L K st) := by
  show (match ev st x with | .ptr p o => _ | .elt c o => _ | _ => False) = _
  unfold idxPL
  cases ev st x <;> rfl
theorem d_idxS : vcD P ((⟨d, .idxS x y, none⟩, ms) :: r) SN L K st = idxSL (ev st x) (ev st y) (kD P d r SN L K st) := by
  show (match ev st x with | .str s => _ | _ => False) = _
  unfold idxSL
  cases ev st x <;> rfl
def kCD (P : Program) (d : Option Nat) (r : List (AO × List Nat)) (SN : List Sto) (L : List (V × Bool × Nat × V × List Nat)) (K : St → Prop) (t : List V) (l : List (List V)) (v : V) (σ : Store) : Prop := vcD P r (SN ++ [(l, σ)]) L K (St.put ⟨t, l, σ⟩ d v)
theorem kCD_eq {v : V} : kCD P d r SN L K t l v σ = vcD P r (SN ++ [(l, σ)]) L K (St.put ⟨t, l, σ⟩ d v) := rfl
def CallD (P : Program) (f : FuncId) (as : List V) (σ : Store) (K : V → Store → Prop) : Prop := ∃ v σ', PCalls P f as σ (fun v' σ'' => v' = v ∧ σ'' = σ') ∧ K v σ'
theorem CallD.intro {f : FuncId} {as : List V} {K : V → Store → Prop} {v : V} {σ' : Store} (h : PCalls P f as σ fun v' σ'' => v' = v ∧ σ'' = σ') (k : K v σ') : CallD P f as σ K := ⟨v, σ', h, k⟩
theorem d_call {f : FuncId} {xs : List X} : vcD P ((⟨d, .call f xs, none⟩, ms) :: r) SN L K ⟨t, l, σ⟩ = (nolL (evs ⟨t, l, σ⟩ xs) = true ∧ CallD P f (evs ⟨t, l, σ⟩ xs) σ (kCD P d r SN L K t l)) := rfl
def callD (P : Program) (v : V) (args : List V) (σ : Store) (K : V → Store → Prop) : Prop := match v with | .fn (.func f) a b => nolL (a ++ args ++ b) = true ∧ CallD P f (a ++ args ++ b) σ K | _ => False
theorem d_callv {xs : List X} : vcD P ((⟨d, .callv x xs, none⟩, ms) :: r) SN L K ⟨t, l, σ⟩ = callD P (ev ⟨t, l, σ⟩ x) (evs ⟨t, l, σ⟩ xs) σ (kCD P d r SN L K t l) := by
  show (match ev ⟨t, l, σ⟩ x with | .fn (.func f) a b => _ | _ => False) = _
  unfold callD
  cases ev ⟨t, l, σ⟩ x <;> first | rfl | (rename_i f _ _; cases f <;> rfl)
theorem callD_fn {f : FuncId} {u args v : List V} {K : V → Store → Prop} : callD P (.fn (.func f) u v) args σ K = (nolL (u ++ args ++ v) = true ∧ CallD P f (u ++ args ++ v) σ K) := rfl
theorem d_app {k : Nat} : vcD P ((⟨d, .app k x y, none⟩, ms) :: r) SN L K ⟨t, l, σ⟩ = AppD σ k (ev ⟨t, l, σ⟩ x) (ev ⟨t, l, σ⟩ y) (kCD P d r SN L K t l) := rfl
theorem appD_tk {k : Nat} {τ : Nat} {u : Tk} {m n : List (List V)} {K : V → Store → Prop} (hb : m.length + n.length ≤ big) (ht : σ.tip τ = some m.length) (hk : K (.sl (.tk τ) k (m ++ n)) (σ.setTip τ (m.length + n.length))) :
    AppD σ k (.sl (.tk τ) k m) (.sl u k n) K := ⟨_, m, n, rfl, ⟨u, rfl⟩, hb, ht, hk⟩
theorem d_ext {i : Nat} : vcD P ((⟨d, .ext x i, none⟩, ms) :: r) SN L K st = extL i (ev st x) (kD P d r SN L K st) := by
  show (match ev st x with | .tup vs => _ | _ => False) = _
  unfold extL
  cases ev st x <;> rfl
theorem d_mkfn {f : Fn} {as bs : List X} : vcD P ((⟨d, .mkfn f as bs, none⟩, ms) :: r) SN L K st = vcD P r SN L K (st.put d (.fn f (evs st as) (evs st bs))) := rfl
theorem d_cvI {k : IntKind} : vcD P ((⟨d, .cvI k x, none⟩, ms) :: r) SN L K st = cvL' k (ev st x) (kD P d r SN L K st) := by
  show (match ev st x with | .int _ n => _ | _ => False) = _
  unfold cvL'
  cases ev st x <;> rfl
theorem d_cvBS : vcD P ((⟨d, .cvBS x, none⟩, ms) :: r) SN L K st = (∃ t s, ev st x = .sl t 1 (encB s) ∧ kD P d r SN L K st (.str s)) := rfl
def gD (P : Program) (v : V) (w : Bool) (d : Option Nat) (op : AOp) (ms : List Nat) (r : List (AO × List Nat)) (SN : List Sto) (L : List (V × Bool × Nat × V × List Nat)) (K : St → Prop) (st : St) : Prop :=
  match v with
  | .bool b => if b = w then vcD P ((⟨d, op, none⟩, ms) :: r) SN L K st else vcD P r (if op.eff then SN ++ [(st.loc, st.out)] else SN) L K (st.put d (.tup []))
  | .tup [] => vcD P r (if op.eff then SN ++ [(st.loc, st.out)] else SN) L K (st.put d (.tup []))
  | _ => False
theorem d_guard {g : Nat} {w : Bool} {op : AOp} : vcD P ((⟨d, op, some (g, w)⟩, ms) :: r) SN L K ⟨t, l, σ⟩ = gD P (t.getD g .any) w d op ms r SN L K ⟨t, l, σ⟩ := by
  simp only [vcD, gD, ev]
  generalize t.getD g .any = v
  cases v <;> first | rfl | (rename_i m; cases m <;> rfl)
theorem gD_und {w : Bool} {op : AOp} : gD P (.tup []) w d op ms r SN L K ⟨t, l, σ⟩ = vcD P r (if op.eff = true then SN ++ [(l, σ)] else SN) L K (St.put ⟨t, l, σ⟩ d (.tup [])) := rfl
theorem gD_tt {op : AOp} : gD P (.bool true) true d op ms r SN L K st = vcD P ((⟨d, op, none⟩, ms) :: r) SN L K st := rfl
theorem gD_ff {op : AOp} : gD P (.bool false) false d op ms r SN L K st = vcD P ((⟨d, op, none⟩, ms) :: r) SN L K st := rfl
theorem gD_tf {op : AOp} : gD P (.bool true) false d op ms r SN L K ⟨t, l, σ⟩ = vcD P r (if op.eff = true then SN ++ [(l, σ)] else SN) L K (St.put ⟨t, l, σ⟩ d (.tup [])) := rfl
theorem gD_ft {op : AOp} : gD P (.bool false) true d op ms r SN L K ⟨t, l, σ⟩ = vcD P r (if op.eff = true then SN ++ [(l, σ)] else SN) L K (St.put ⟨t, l, σ⟩ d (.tup [])) := rfl
theorem chkL_nil : chkL SN [] = True := rfl
theorem chkL_cons {g : Bool} {n : Nat} {a v : V} : chkL SN ((a, g, n, v, ms) :: L) = (chk1 SN g n a v ms ∧ chkL SN L) := rfl
theorem chk1_nil {g : Bool} {n : Nat} {a v : V} : chk1 SN g n a v [] = True := rfl
theorem chk1_cons {g : Bool} {n m : Nat} {a v : V} : chk1 SN g n a v (m :: ms) = (ldS (SN.getD m stoD) g n a = some v ∧ chk1 SN g n a v ms) := rfl
theorem sget0 {s u : Sto} : (s :: SN).getD 0 u = s := rfl
theorem sgetS {s u : Sto} {n : Nat} : (s :: SN).getD (n + 1) u = SN.getD n u := rfl
theorem sapp0 {s : Sto} : ([] : List Sto) ++ [s] = [s] := rfl
theorem sappS {s u : Sto} : (s :: SN) ++ [u] = s :: (SN ++ [u]) := rfl
theorem ldS_loc {g : Bool} {n i o : Nat} : ldS (l, σ) g n (.ptr (.loc i) o) = ldB l[i]? g n o := rfl
theorem ldS_out {g : Bool} {n i o : Nat} : ldS (l, σ) g n (.ptr (.out i) o) = ldB (σ.box i) g n o := rfl
theorem ldS_elt {g : Bool} {n o : Nat} {cs : List V} {s : Sto} : ldS s g n (.elt cs o) = ldC g n (cs.drop o) := rfl
def drawT (P : Program) (l : List (List V)) (σ : Store) (o : List (AO × List Nat)) (K : St → Prop) : Option (List V) → Prop
  | some t => vcD P o [(l, σ)] [] K ⟨t, l, σ⟩
  | none => False
theorem vc_drawA {Q : Exit → St → Prop} {o : List (AO × List Nat)} {nv : List Nat} : vc P (.drawA nv o) Q ⟨t, l, σ⟩ = drawT P l σ o (Q .normal) (anyAt nv t) := by
  simp only [vc]
  cases anyAt nv t with
  | none => simp [drawT]
  | some t' => simp [drawT]
theorem drawT_some {K : St → Prop} {o : List (AO × List Nat)} : drawT P l σ o K (some t) = vcD P o [(l, σ)] [] K ⟨t, l, σ⟩ := rfl
theorem anyAt_nil : anyAt [] t = some t := rfl
def anyB (b : Bool) (x : Option (List V)) : Option (List V) := if b then x else none
theorem anyAt_cons {d : Nat} {ds : List Nat} : anyAt (d :: ds) t = anyB (decide (d < t.length)) (anyAt ds (t.set d .any)) := by
  simp only [anyAt, anyB, decide_eq_true_eq]
theorem anyB_t {y : Option (List V)} : anyB true y = y := rfl
theorem vc_hole {Q : Exit → St → Prop} {o : List (AO × List Nat)} {h : HI} : vc P (.hole o h) Q ⟨t, l, σ⟩ = vcD P o [(l, σ)] [] (HoleW h (Q .normal)) ⟨t, l, σ⟩ := rfl
theorem hole_eq {h : HI} : HoleW h K ⟨t, l, σ⟩ = HoleK h K ⟨weakT h t, l, σ⟩ := rfl
theorem weakT_none {k : Nat} {a b c e f : X} {d9 d10 dF : Nat} : weakT ⟨k, a, b, c, e, f, none, d9, d10, dF⟩ t = (t.set d9 .any).set d10 .any := rfl
theorem weakT_some {k off : Nat} {a b c e f : X} {d9 d10 dF : Nat} : weakT ⟨k, a, b, c, e, f, some off, d9, d10, dF⟩ t = ((t.set d9 .any).set d10 .any).set dF .any := rfl
theorem hole_intro {h : HI} {τ : Nat} {m : List (List V)} {c : List V} {t' : Tk} {j : IntKind} {p : V} {st' : St} {cs : List V} (es : ev ⟨t, l, σ⟩ h.s = .sl (.tk τ) h.k m) (ez : ev ⟨t, l, σ⟩ h.z = .sl t' h.k [c])
    (el : ev ⟨t, l, σ⟩ h.len = .int j m.length) (hb : m.length + 1 ≤ big) (ht : σ.tip τ = some m.length) (hx : (ev ⟨t, l, σ⟩ h.x).wd = some h.k ∧ oneL (ev ⟨t, l, σ⟩ h.x).cells = true ∧ nolL (ev ⟨t, l, σ⟩ h.x).cells = true)
    (hcs : eraseL (ev ⟨t, l, σ⟩ h.x).cells = cs) (hd : h.d9 < t.length ∧ h.d10 < t.length ∧ (h.fo.isSome = true → h.dF < t.length)) (hp : fldO h.fo (ev ⟨t, l, σ⟩ h.addr) = some p)
    (hst : stV ⟨t, l, σ⟩ 1 (.sl (.tk τ) h.k (m ++ [cs])) p = some st') (hk : K ⟨st'.t, st'.loc, st'.out.setTip τ (m.length + 1)⟩) : HoleK h K ⟨t, l, σ⟩ :=
  ⟨τ, m, c, t', j, es, ez, el, hb, ht, hx.1, hx.2.1, hx.2.2, hd.1, hd.2.1, hd.2.2, p, hp, st', by rw [hcs]; exact hst, hk⟩
end
section
variable {x y z : X} {n m : Nat} {c : List V} {g : Bool} {bo : BinOp} {ks : List Nat} {xs ys : List X} {ps : List (Nat × Nat × X)} {fn : Fn} {ik : IntKind}
theorem eff_pick : (AOp.pick x y z).eff = false := rfl
theorem eff_alloc : (AOp.alloc c).eff = true := rfl
theorem eff_boxS : (AOp.boxS n x).eff = true := rfl
theorem eff_box : (AOp.box n x).eff = true := rfl
theorem eff_build : (AOp.build c ps).eff = false := rfl
theorem eff_bslice : (AOp.bslice n xs).eff = false := rfl
theorem eff_load : (AOp.load g n x).eff = false := rfl
theorem eff_store : (AOp.store n x y).eff = true := rfl
theorem eff_nilck : (AOp.nilck x).eff = false := rfl
theorem eff_binI : (AOp.binI bo x y).eff = false := rfl
theorem eff_binS : (AOp.binS bo x y).eff = false := rfl
theorem eff_binB : (AOp.binB g x y).eff = false := rfl
theorem eff_cat : (AOp.cat x y).eff = false := rfl
theorem eff_eqA : (AOp.eqA g ks x y).eff = false := rfl
theorem eff_not : (AOp.not x).eff = false := rfl
theorem eff_lenS : (AOp.lenS x).eff = false := rfl
theorem eff_lenT : (AOp.lenT x).eff = false := rfl
theorem eff_fld : (AOp.fld n x).eff = false := rfl
theorem eff_fldv : (AOp.fldv g n m x).eff = false := rfl
theorem eff_idxA : (AOp.idxA n x y).eff = false := rfl
theorem eff_idxP {m k : Nat} : (AOp.idxP m k x y).eff = false := rfl
theorem eff_idxS : (AOp.idxS x y).eff = false := rfl
theorem eff_call : (AOp.call n xs).eff = true := rfl
theorem eff_callv : (AOp.callv x xs).eff = true := rfl
theorem eff_app : (AOp.app n x y).eff = true := rfl
theorem eff_appS : (AOp.appS x y).eff = true := rfl
theorem eff_ext : (AOp.ext x n).eff = false := rfl
theorem eff_mkfn : (AOp.mkfn fn xs ys).eff = false := rfl
theorem eff_cvI : (AOp.cvI ik x).eff = false := rfl
theorem eff_cvBS : (AOp.cvBS x).eff = false := rfl
theorem eff_mv : (AOp.mv x).eff = false := rfl
end
end Go.Am

namespace Go.Am
section
variable {k : IntKind} {a b : Int} {c e : List V} {n m : Nat} {x y : V} {u v : List UInt8} {p q : Bool} {l : List (List V)} {τ : Tk}
theorem ikEq_same : ikEq k k = true := by cases k <;> rfl
theorem binIV_int {op : BinOp} : binIV op (.int k a) (.int k b) = intV k a b op := by simp [binIV, ikEq_same]
theorem intV_add : intV k a b .add = some (.int k (k.wrap (a + b))) := rfl
theorem intV_sub : intV k a b .sub = some (.int k (k.wrap (a - b))) := rfl
theorem intV_mul : intV k a b .mul = some (.int k (k.wrap (a * b))) := rfl
theorem intV_eql : intV k a b .eql = some (.bool (decide (a = b))) := rfl
theorem intV_neq : intV k a b .neq = some (.bool (!decide (a = b))) := rfl
theorem intV_lss : intV k a b .lss = some (.bool (decide (a < b))) := rfl
theorem intV_leq : intV k a b .leq = some (.bool (decide (a ≤ b))) := rfl
theorem intV_gtr : intV k a b .gtr = some (.bool (decide (b < a))) := rfl
theorem intV_geq : intV k a b .geq = some (.bool (decide (b ≤ a))) := rfl
theorem binSV_str {op : BinOp} : binSV op (.str u) (.str v) = strV u v op := rfl
theorem strV_eql : strV u v .eql = some (.bool (decide (u = v))) := rfl
theorem strV_neq : strV u v .neq = some (.bool (!decide (u = v))) := rfl
theorem strV_lss : strV u v .lss = some (.bool (Op.bytesLess u v)) := rfl
theorem strV_leq : strV u v .leq = some (.bool (Op.bytesLess u v || decide (u = v))) := rfl
theorem strV_gtr : strV u v .gtr = some (.bool (!(Op.bytesLess u v || decide (u = v)))) := rfl
theorem strV_geq : strV u v .geq = some (.bool (!Op.bytesLess u v)) := rfl
theorem eqBV_f : eqBV false (.bool p) (.bool q) = some (.bool (decide (p = q))) := rfl
theorem eqBV_t : eqBV true (.bool p) (.bool q) = some (.bool (!decide (p = q))) := rfl
def eqM (neg : Bool) : Option Bool → Option V | some b => some (.bool (if neg then !b else b)) | none => none
theorem eqM_f : eqM false (some p) = some (.bool p) := rfl
theorem eqM_t : eqM true (some p) = some (.bool (!p)) := rfl
theorem eqAV_agg {neg : Bool} {ks : List Nat} : eqAV neg ks (.agg c) (.agg e) = eqM neg (eqC ks c e) := by
  simp only [eqAV]; cases eqC ks c e <;> rfl
def andM (b : Bool) : Option Bool → Option Bool | some c => some (b && c) | none => none
theorem andM_some : andM p (some q) = some (p && q) := rfl
theorem eqC_nil : eqC [] [] [] = some true := rfl
theorem eqC_int {ks : List Nat} : eqC (1 :: ks) (.int k a :: c) (.int k b :: e) = andM (decide (a = b)) (eqC ks c e) := by
  simp only [eqC, ikEq_same, if_true]; cases eqC ks c e <;> rfl
theorem eqC_str {ks : List Nat} : eqC (2 :: ks) (.str u :: c) (.str v :: e) = andM (decide (u = v)) (eqC ks c e) := by
  simp only [eqC]; cases eqC ks c e <;> rfl
theorem eqC_bool {ks : List Nat} : eqC (0 :: ks) (.bool p :: c) (.bool q :: e) = andM (decide (p = q)) (eqC ks c e) := by
  simp only [eqC]; cases eqC ks c e <;> rfl
theorem wd_agg : (V.agg c).wd = some c.length := rfl
theorem wd_int : (V.int k a).wd = some 1 := rfl
theorem wd_bool : (V.bool p).wd = some 1 := rfl
theorem wd_str : (V.str u).wd = some 1 := rfl
theorem wd_sl : (V.sl τ n l).wd = some 1 := rfl
theorem wd_ptr {o : Pl} : (V.ptr o n).wd = some 1 := rfl
theorem wd_elt : (V.elt c n).wd = some 1 := rfl
theorem wd_fn {f : Fn} : (V.fn f c e).wd = some 1 := rfl
theorem wd_nilp : V.nilp.wd = some 1 := rfl
theorem cells_agg : (V.agg c).cells = c := rfl
theorem cells_int : (V.int k a).cells = [.int k a] := rfl
theorem cells_bool : (V.bool p).cells = [.bool p] := rfl
theorem cells_str : (V.str u).cells = [.str u] := rfl
theorem cells_sl : (V.sl τ n l).cells = [.sl τ n l] := rfl
theorem cells_ptr {o : Pl} : (V.ptr o n).cells = [.ptr o n] := rfl
theorem cells_elt : (V.elt c n).cells = [.elt c n] := rfl
theorem cells_fn {f : Fn} : (V.fn f c e).cells = [.fn f c e] := rfl
theorem cells_nilp : V.nilp.cells = [.nilp] := rfl
theorem oneL_nil : oneL [] = true := rfl
theorem oneL_cons : oneL (x :: c) = (x.one && oneL c) := rfl
theorem one_int : (V.int k a).one = true := rfl
theorem one_bool : (V.bool p).one = true := rfl
theorem one_str : (V.str u).one = true := rfl
theorem one_sl : (V.sl τ n l).one = true := rfl
theorem one_ptr {o : Pl} : (V.ptr o n).one = true := rfl
theorem one_elt : (V.elt c n).one = true := rfl
theorem one_fn {f : Fn} : (V.fn f c e).one = true := rfl
theorem one_nilp : V.nilp.one = true := rfl
theorem nolL_nil : nolL [] = true := rfl
theorem nolL_cons : nolL (x :: c) = (x.nol && nolL c) := rfl
theorem nol_int : (V.int k a).nol = true := rfl
theorem nol_bool : (V.bool p).nol = true := rfl
theorem nol_str : (V.str u).nol = true := rfl
theorem nol_sl : (V.sl τ n l).nol = true := rfl
theorem nol_any : V.any.nol = true := rfl
theorem nol_out : (V.ptr (.out m) n).nol = true := rfl
theorem nol_elt : (V.elt c n).nol = true := rfl
theorem nol_nilp : V.nilp.nol = true := rfl
theorem nol_agg : (V.agg c).nol = nolL c := rfl
theorem nol_tup : (V.tup c).nol = nolL c := rfl
theorem nol_fn {f : Fn} : (V.fn f c e).nol = (nolL c && nolL e) := rfl
theorem nol_raw {w : Value} : (V.raw w).nol = true := rfl
theorem er_int : (V.int k a).erase = .int k a := rfl
theorem er_bool : (V.bool p).erase = .bool p := rfl
theorem er_str : (V.str u).erase = .str u := rfl
theorem er_sl : (V.sl τ n l).erase = .sl .no n l := rfl
theorem er_any : V.any.erase = .any := rfl
theorem er_ptr {o : Pl} : (V.ptr o n).erase = .ptr o n := rfl
theorem er_elt : (V.elt c n).erase = .elt c n := rfl
theorem er_nilp : V.nilp.erase = .nilp := rfl
theorem er_agg : (V.agg c).erase = .agg (eraseL c) := rfl
theorem er_tup : (V.tup c).erase = .tup (eraseL c) := rfl
theorem er_fn {f : Fn} : (V.fn f c e).erase = .fn f c e := rfl
theorem erL_nil : eraseL [] = [] := rfl
theorem erL_cons : eraseL (x :: c) = x.erase :: eraseL c := rfl
theorem hasN_zero : hasN 0 c = true := by cases c <;> rfl
theorem hasN_succ : hasN (n + 1) (x :: c) = hasN n c := rfl
theorem over_nil : over c [] = c := by cases c <;> rfl
theorem over_cons : over (x :: c) (y :: e) = y :: over c e := rfl
theorem setAt_zero : setAt c 0 e = over c e := by cases c <;> rfl
theorem setAt_succ : setAt (x :: c) (n + 1) e = x :: setAt c n e := rfl
theorem len_nil : ([] : List V).length = 0 := rfl
theorem len_cons : (x :: c).length = c.length + 1 := rfl
theorem get0 : (c :: l)[0]? = some c := rfl
theorem getS : (c :: l)[n + 1]? = l[n]? := by simp
theorem lset0 : (c :: l).set 0 e = e :: l := rfl
theorem lsetS : (c :: l).set (n + 1) e = c :: l.set n e := rfl
theorem app_nil' : ([] : List (List V)) ++ l = l := rfl
theorem app_cons' : (c :: l) ++ [e] = c :: (l ++ [e]) := rfl
theorem vapp_nil : ([] : List V) ++ c = c := rfl
theorem vapp_cons : (x :: c) ++ e = x :: (c ++ e) := rfl
theorem llen_nil : ([] : List (List V)).length = 0 := rfl
theorem llen_cons : (c :: l).length = l.length + 1 := rfl
theorem eqN {a : Nat} : (a = a) = True := by simp
theorem eqI {a : Int} : (a = a) = True := by simp
theorem some_eq {α : Type} {x y : α} : (some x = some y) = (x = y) := by simp
theorem one_eq_one : (1 = 1) = True := by simp
theorem true_eq : (true = true) = True := by simp
theorem false_eq' : (false = true) = False := by simp
theorem tt_and : (true && p) = p := rfl
theorem ff_and : (false && p) = false := rfl
theorem and_tt : (p && true) = p := by simp
theorem and_ff : (p && false) = false := by simp
theorem tt_or : (true || p) = true := rfl
theorem ff_or : (false || p) = p := rfl
theorem or_ff : (p || false) = p := by simp
theorem not_tt : (!true) = false := rfl
theorem not_ff : (!false) = true := rfl
theorem ite_t {α : Type} {x y : α} : (if True then x else y) = x := if_pos trivial
theorem ite_f {α : Type} {x y : α} : (if False then x else y) = y := if_neg fun h => h
theorem itp_t {x y : Prop} : (if True then x else y) = x := if_pos trivial
theorem itp_f {x y : Prop} : (if False then x else y) = y := if_neg fun h => h
theorem tand {q : Prop} : (True ∧ q) = q := by simp
theorem andt {q : Prop} : (q ∧ True) = q := by simp
theorem rlZ {x : V} : List.replicate 0 x = [] := rfl
theorem rlS {x : V} : List.replicate (n + 1) x = x :: List.replicate n x := rfl
theorem lle_any {v : V} : LLe (v :: c) (.any :: e) = LLe c e := by simp [LLe, VLe.any]
theorem lle_same {v : V} : LLe (v :: c) (v :: e) = LLe c e := by simp [LLe, VLe.rfl]
def E0 : Env := ⟨default, fun _ => .const, fun _ => none, fun _ => none⟩
theorem vle_int : VLe (.int k a) (.int k b) = (a = b) := by
  refine propext ⟨fun h => ?_, fun h => h ▸ VLe.rfl⟩
  have := h E0 (.int k a) (by simp [R])
  simpa [R] using this
theorem vle_bool : VLe (.bool p) (.bool q) = (p = q) := by
  refine propext ⟨fun h => ?_, fun h => h ▸ VLe.rfl⟩
  have := h E0 (.bool p) (by simp [R])
  simpa [R] using this
theorem vle_str : VLe (.str u) (.str v) = (u = v) := by
  refine propext ⟨fun h => ?_, fun h => h ▸ VLe.rfl⟩
  have := h E0 (.string ⟨u.toArray⟩) (by simp [R])
  simpa [R] using this
theorem lle_int : LLe (.int k a :: c) (.int k b :: e) = (a = b ∧ LLe c e) := by simp [LLe, vle_int]
theorem lle_bool : LLe (.bool p :: c) (.bool q :: e) = (p = q ∧ LLe c e) := by simp [LLe, vle_bool]
theorem lle_str : LLe (.str u :: c) (.str v :: e) = (u = v ∧ LLe c e) := by simp [LLe, vle_str]
theorem lle_no : LLe (.sl τ n l :: c) (.sl .no n l :: e) = LLe c e := by simp [LLe, VLe.no]
theorem llle_nil : LLLe [] [] = True := rfl
theorem llle_cons {c e : List V} {l m : List (List V)} : LLLe (c :: l) (e :: m) = (LLe c e ∧ LLLe l m) := rfl
theorem llle_same {l : List (List V)} : LLLe l l = True := by simp [LLLe.rfl]
theorem ole_same {σ : Store} : OLe σ σ = True := by simp [OLe.rfl]
theorem lle_nil : LLe [] [] = True := rfl
end
theorem Upd.enter {ι : Type} {I : ι → St} {t : List V} {l : List (List V)} {σ : Store} (j : ι) (h : LLe t (I j).t) (hl : LLLe l (I j).loc) (ho : OLe σ (I j).out) : Upd ⟨t, l, σ⟩ fun st' => ∃ i, st' = I i :=
  Upd.weak h hl ho ⟨j, rfl⟩
theorem Upd.again {ι : Type} {I : ι → St} {μ : ι → Nat} {n : Nat} {t : List V} {l : List (List V)} {σ : Store} (j : ι) (hm : μ j < n) (h : LLe t (I j).t) (hl : LLLe l (I j).loc) (ho : OLe σ (I j).out) :
    Upd ⟨t, l, σ⟩ fun st' => ∃ i, st' = I i ∧ μ i < n := Upd.weak h hl ho ⟨j, rfl, hm⟩
theorem wrap_i64 {x : Int} (h1 : -9223372036854775808 ≤ x) (h2 : x ≤ 9223372036854775807) : IntKind.i64.wrap x = x := IntWalk.i64_in x ⟨h1, h2⟩
theorem Store.set_id {σ : Store} {b : Nat} {cs : List V} (h : σ.box b = some cs) : σ.set b cs = σ := by
  cases σ
  simp only [Store.set, Store.mk.injEq, and_true]
  funext x
  split
  · rename_i hx; rw [hx]; exact h.symm
  · rfl
theorem Store.set_set {σ : Store} {b : Nat} {cs ds : List V} : (σ.set b cs).set b ds = σ.set b ds := by
  simp only [Store.set, Store.mk.injEq, and_true]
  funext x
  split <;> rfl
theorem Store.set_comm {σ : Store} {b c : Nat} {cs ds : List V} (h : b ≠ c) : (σ.set b cs).set c ds = (σ.set c ds).set b cs := by
  simp only [Store.set, Store.mk.injEq, and_true]
  funext x
  by_cases h1 : x = c
  · subst h1
    rw [if_pos rfl, if_neg (fun h2 => h h2.symm), if_pos rfl]
  · rw [if_neg h1, if_neg h1]
def VTo (τ n : Nat) (v v' : V) : Prop := ∀ E E', E.le E' → E'.tip τ = some n → ∀ u, R E v u → R E' v' u
theorem VTo.same {τ n : Nat} {v : V} : VTo τ n v v := fun _ _ h _ _ hr => hr.mono _ h
theorem VTo.le {τ n : Nat} {v v' : V} (h : VLe v v') : VTo τ n v v' := fun _ _ hl _ _ hr => (h _ _ hr).mono _ hl
theorem VTo.tok {τ n k : Nat} {m : List (List V)} (h : m.length = n) : VTo τ n (.sl .full k m) (.sl (.tk τ) k m) := fun E E' hl ht u hr => by
  have hr' := hr.mono _ hl
  simp only [R] at hr' ⊢
  obtain ⟨a, cap, h1, h2, h3, h4⟩ := hr'
  exact ⟨a, cap, h1, h2, h3, n, ht, by omega, fun _ => .inl h4⟩
def LTo (τ n : Nat) : List V → List V → Prop
  | [], [] => True
  | v :: l, v' :: l' => VTo τ n v v' ∧ LTo τ n l l'
  | _, _ => False
theorem LTo.rfl {τ n : Nat} : ∀ {l : List V}, LTo τ n l l
  | [] => trivial
  | _ :: _ => ⟨VTo.same, LTo.rfl⟩
theorem LTo.mono {τ n : Nat} {E E' : Env} (hl : E.le E') (ht : E'.tip τ = some n) : ∀ {l l' : List V} {us : List Value}, LTo τ n l l' → RL E l us → RL E' l' us
  | [], [], [], _, _ => by simp [RL]
  | [], [], _ :: _, _, h => by simp [RL] at h
  | [], _ :: _, _, h, _ => h.elim
  | _ :: _, [], _, h, _ => h.elim
  | v :: l, v' :: l', [], _, h => by simp [RL] at h
  | v :: l, v' :: l', u :: us, h, hr => by
    simp only [RL] at hr ⊢
    exact ⟨h.1 _ _ hl ht _ hr.1, LTo.mono hl ht h.2 hr.2⟩
theorem LTo.length {τ n : Nat} : ∀ {l l' : List V}, LTo τ n l l' → l.length = l'.length
  | [], [], _ => Eq.refl _
  | [], _ :: _, h => h.elim
  | _ :: _, [], h => h.elim
  | v :: l, v' :: l', h => by simp [LTo.length h.2]
theorem LTo.get {τ n : Nat} : ∀ {l l' : List V}, LTo τ n l l' → ∀ (j : Nat) v', l'[j]? = some v' → ∃ v, l[j]? = some v ∧ VTo τ n v v'
  | [], [], _, j, v', h => by simp at h
  | [], _ :: _, h, _, _, _ => h.elim
  | _ :: _, [], h, _, _, _ => h.elim
  | v :: l, w :: l', h, j, v', hj => by
    cases j with
    | zero => simp at hj; subst hj; exact ⟨v, by simp, h.1⟩
    | succ j => simp at hj; obtain ⟨u, h1, h2⟩ := LTo.get h.2 j v' hj; exact ⟨u, by simpa using h1, h2⟩
theorem BoxAt.tok {τ n : Nat} {E E' : Env} (hl : E.le E') (ht : E'.tip τ = some n) {b : Nat} {cs cs' : List V} (hw : E'.w = E.w) (h : LTo τ n cs cs') (k : BoxAt E b cs) : BoxAt E' b cs' := by
  obtain ⟨c, e, h1, h2, h3⟩ := k
  refine ⟨c, e, by rw [hw]; exact h1, by rw [← h.length]; exact h2, fun j x hx => ?_⟩
  obtain ⟨v, hv, hle⟩ := h.get j x hx
  obtain ⟨u, k1, k2⟩ := h3 j v hv
  exact ⟨u, k1, hle _ _ hl ht _ k2⟩
structure OTo (τ n : Nat) (σ σ' : Store) : Prop where
  box : ∀ b cs', σ'.box b = some cs' → ∃ cs, σ.box b = some cs ∧ LTo τ n cs cs'
  tip : ∀ υ m, σ'.tip υ = some m → σ.tip υ = some m
theorem OTo.rfl {τ n : Nat} {σ : Store} : OTo τ n σ σ := ⟨fun _ cs h => ⟨cs, h, LTo.rfl⟩, fun _ _ h => h⟩
theorem OTo.set {τ n b : Nat} {σ : Store} {cs cs' : List V} (h : σ.box b = some cs) (k : LTo τ n cs cs') : OTo τ n σ (σ.set b cs') := by
  refine ⟨fun c ds hds => ?_, fun _ _ h => h⟩
  simp only [Store.set] at hds
  split at hds
  · rename_i hc; subst hc; simp only [Option.some.injEq] at hds; subst hds; exact ⟨cs, h, k⟩
  · exact ⟨ds, hds, LTo.rfl⟩
theorem Upd.tok {t : List V} {l : List (List V)} {σ : Store} {K : St → Prop} (n : Nat) (h : ∀ τ, σ.tip τ = none → ∃ t' l' σ', LTo τ n t t' ∧ l.length = l'.length ∧ (∀ (i : Nat) c', l'[i]? = some c' → ∃ c, l[i]? = some c ∧ LTo τ n c c') ∧ OTo τ n σ σ' ∧ K ⟨t', l', σ'.setTip τ n⟩) :
    Upd ⟨t, l, σ⟩ K := by
  intro E a hs
  obtain ⟨N, hN⟩ := hs.ok.nt
  have hfresh : σ.tip N = none := by
    cases hq : σ.tip N with
    | none => rfl
    | some m => have := hs.ok.tip N m hq; rw [hN N (Nat.le_refl _)] at this; simp at this
  obtain ⟨t', l', σ', h1, h2, h3, h4, h5⟩ := h N hfresh
  let E' : Env := { E with tip := fun t => if t = N then some n else E.tip t }
  have ht : E'.tip N = some n := by simp [E']
  have hfr : Fr E E' := fr_ext (E' := E') hs.ok.fresh (Ext.refl _) (fun _ _ => rfl) (fun t m hm => by
    simp only [E']
    split
    · rename_i hq; subst hq; rw [hN t (Nat.le_refl _)] at hm; simp at hm
    · exact hm)
  have hle : E.le E' := hfr.le fun _ _ h => h
  refine ⟨E', _, rfl, hfr, ⟨⟨fun b cs hcs => ?_, fun τ m hm => ?_, hs.ok.fresh, ?_⟩, ⟨fun i cs hcs => ?_, fun i hi => hs.okL.none i (by rw [h2]; exact hi)⟩, hs.defers, h1.mono hle ht hs.slot⟩, h5⟩
  · obtain ⟨cs0, q1, q2⟩ := h4.box b cs hcs
    obtain ⟨k1, k2⟩ := hs.ok.box b cs0 q1
    exact ⟨k1, k2.tok hfr.nl ht rfl q2⟩
  · simp only [Store.setTip] at hm
    simp only [E']
    split at hm
    · rename_i hq; rw [if_pos hq]; exact hm
    · rename_i hq; rw [if_neg hq]; exact hs.ok.tip τ m (h4.tip τ m hm)
  · exact ⟨N + 1, fun t ht' => by simp only [E']; rw [if_neg (by omega)]; exact hN t (by omega)⟩
  · obtain ⟨c, q1, q2⟩ := h3 i cs hcs
    obtain ⟨b, k1, k2, k3⟩ := hs.okL.box i c q1
    exact ⟨b, k1, k2, k3.tok hle ht rfl q2⟩
def am := And.intro @Store.set_set <| And.intro @vc_drawA <| And.intro @drawT_some <| And.intro @anyAt_nil <| And.intro @anyAt_cons <| And.intro @anyB_t <| And.intro @d_boxS <| And.intro @eff_boxS <| And.intro (And.intro (And.intro (And.intro (And.intro (And.intro (And.intro @d_nil @kD_eq) (And.intro @d_mv (And.intro @d_pick @pickD_true))) (And.intro (And.intro @pickD_false @pickD_ff) (And.intro @pickD_tt (And.intro @d_alloc @d_box)))) (And.intro (And.intro (And.intro @d_build @d_bslice) (And.intro @ldD_some (And.intro @d_load @stD_some))) (And.intro (And.intro @d_store (And.intro @d_nilck @d_binI)) (And.intro @d_binS (And.intro @d_binB @d_cat))))) (And.intro (And.intro (And.intro (And.intro @d_eqA @d_not) (And.intro @d_lenS (And.intro @d_lenT @d_fld))) (And.intro (And.intro @d_fldv (And.intro @d_idxA @d_idxS)) (And.intro @kCD_eq (And.intro @d_call @d_callv)))) (And.intro (And.intro (And.intro @callD_fn @d_app) (And.intro @d_ext (And.intro @d_mkfn @d_cvI))) (And.intro (And.intro @d_guard (And.intro (And.intro @gD_und @gD_tt) @gD_ff)) (And.intro @gD_tf (And.intro @gD_ft @chkL_nil)))))) (And.intro (And.intro (And.intro (And.intro (And.intro @chkL_cons @chk1_nil) (And.intro @chk1_cons (And.intro @sget0 @sgetS))) (And.intro (And.intro @sapp0 @sappS) (And.intro @ldS_loc (And.intro @ldS_out @ldS_elt)))) (And.intro (And.intro (And.intro @vc_hole @hole_eq) (And.intro @weakT_none (And.intro @weakT_some @eff_pick))) (And.intro (And.intro @eff_alloc (And.intro @eff_box @eff_build)) (And.intro @eff_bslice (And.intro @eff_load @eff_store))))) (And.intro (And.intro (And.intro (And.intro @eff_nilck @eff_binI) (And.intro @eff_binS (And.intro @eff_binB @eff_cat))) (And.intro (And.intro @eff_eqA (And.intro @eff_not @eff_lenS)) (And.intro @eff_lenT (And.intro @eff_fld @eff_fldv)))) (And.intro (And.intro (And.intro @eff_idxA @eff_idxS) (And.intro @eff_call (And.intro @eff_callv @eff_app))) (And.intro (And.intro @eff_appS (And.intro @eff_ext @eff_mkfn)) (And.intro @eff_cvI (And.intro @eff_cvBS @eff_mv))))))) <| And.intro @lle_int <| And.intro @lle_bool <| And.intro @lle_str <| And.intro @lle_no <| And.intro @llle_nil <| And.intro @llle_cons <| And.intro @llle_same <| And.intro @ole_same <| And.intro @lle_any <| And.intro @lle_same <| And.intro @lle_nil <| And.intro @Nat.zero_add <| And.intro @Nat.add_zero <| And.intro @eqN <| And.intro @eqI <| And.intro @itp_t <| And.intro @itp_f <| (And.intro (And.intro (And.intro (And.intro (And.intro (And.intro (And.intro @vc_skip (And.intro @vc_reg @vc_upd)) (And.intro (And.intro @vc_draw @vc_seq) (And.intro @vc_cond @vcIf_true))) (And.intro (And.intro (And.intro @vcIf_false @vc_block) (And.intro @vc_exit @vc_ret)) (And.intro (And.intro @athen_normal @athen_exit) (And.intro @athen_ret @blk_normal)))) (And.intro (And.intro (And.intro @blk_ret (And.intro @blk_exit @lpost_exit)) (And.intro (And.intro @lpost_ret @lpost_normal) (And.intro @retQ_ret @retQ_normal))) (And.intro (And.intro (And.intro @opt_some @rvs_nil) (And.intro @consO_some @rvs_cons)) (And.intro (And.intro @rv_tmp @rv_cell) (And.intro @one1_one @one1_nil))))) (And.intro (And.intro (And.intro (And.intro @one1_more (And.intro @map_some' @ev_s)) (And.intro (And.intro @ev_c @evs_nil) (And.intro @evs_cons @getD_zero))) (And.intro (And.intro (And.intro @getD_succ @set_zero) (And.intro @set_succ @put_some)) (And.intro (And.intro @put_none @o_nil) (And.intro @kL_eq @optL_some)))) (And.intro (And.intro (And.intro (And.intro @o_mv @o_pick) (And.intro @pickL_true @pickL_false)) (And.intro (And.intro @pickL_ff @pickL_tt) (And.intro @o_alloc @o_box))) (And.intro (And.intro (And.intro @o_allocO @o_boxO) (And.intro @o_build @optR_some)) (And.intro (And.intro @o_bslice @o_load) (And.intro @optS_some @o_store)))))) (And.intro (And.intro (And.intro (And.intro (And.intro @o_nilck (And.intro @nilckL_ptr @nilckL_elt)) (And.intro (And.intro @nilckL_fn @o_binI) (And.intro @o_binS @o_binB))) (And.intro (And.intro (And.intro @o_cat @catL_str) (And.intro @o_eqA @o_not)) (And.intro (And.intro @notL_bool @o_lenS) (And.intro @lenL_sl @o_lenT)))) (And.intro (And.intro (And.intro @lenTL_str (And.intro @o_fld @fldL_ptr)) (And.intro (And.intro @fldL_elt @o_fldv) (And.intro @fldvL_agg @o_idxA))) (And.intro (And.intro (And.intro @o_idxS @o_call) (And.intro @kC_eq @o_callv)) (And.intro (And.intro @callL_fn @o_app) (And.intro @o_ext @extL_zero))))) (And.intro (And.intro (And.intro (And.intro @extL_succ (And.intro @o_mkfn @o_cvI)) (And.intro (And.intro @cvL_int @o_guard) (And.intro (And.intro @gL_und @gL_tt) @gL_ff))) (And.intro (And.intro (And.intro @gL_tf @gL_ft) (And.intro @ldV_loc' @ldV_out)) (And.intro (And.intro @ldV_elt @ldB_some) (And.intro @ldC_agg @ldC_one)))) (And.intro (And.intro (And.intro (And.intro @takeN_zero @takeN_succ') (And.intro @mapC_some @drop_zero')) (And.intro (And.intro @drop_succ @stV_loc) (And.intro @stL_some @stV_out))) (And.intro (And.intro (And.intro @stO_some @set_box) (And.intro @setTip_box @set_tip)) (And.intro (And.intro @setTip_tip @buildV_nil) (And.intro @buildV_cons @bldL_ok))))))) (And.intro (And.intro (And.intro (And.intro (And.intro (And.intro @rowsV_nil (And.intro @rowsV_cons @rowL_some)) (And.intro (And.intro @rowC_ok @binIV_int) (And.intro @intV_add @intV_sub))) (And.intro (And.intro (And.intro @intV_mul @intV_eql) (And.intro @intV_neq @intV_lss)) (And.intro (And.intro @intV_leq @intV_gtr) (And.intro @intV_geq @binSV_str)))) (And.intro (And.intro (And.intro @strV_eql (And.intro @strV_neq @strV_lss)) (And.intro (And.intro @strV_leq @strV_gtr) (And.intro @strV_geq @eqBV_f))) (And.intro (And.intro (And.intro @eqBV_t @eqM_f) (And.intro @eqM_t @eqAV_agg)) (And.intro (And.intro @andM_some @eqC_nil) (And.intro @eqC_int @eqC_str))))) (And.intro (And.intro (And.intro (And.intro @eqC_bool (And.intro @wd_agg @wd_int)) (And.intro (And.intro @wd_bool @wd_str) (And.intro @wd_sl @wd_ptr))) (And.intro (And.intro (And.intro @wd_elt @wd_fn) (And.intro @wd_nilp @cells_agg)) (And.intro (And.intro @cells_int @cells_bool) (And.intro @cells_str @cells_sl)))) (And.intro (And.intro (And.intro (And.intro @cells_ptr @cells_elt) (And.intro @cells_fn @cells_nilp)) (And.intro (And.intro @oneL_nil @oneL_cons) (And.intro @one_int @one_bool))) (And.intro (And.intro (And.intro @one_str @one_sl) (And.intro @one_ptr @one_elt)) (And.intro (And.intro @one_fn @one_nilp) (And.intro @nolL_nil @nolL_cons)))))) (And.intro (And.intro (And.intro (And.intro (And.intro @nol_int (And.intro @nol_bool @nol_str)) (And.intro (And.intro @nol_sl @nol_any) (And.intro @nol_out @nol_elt))) (And.intro (And.intro (And.intro @nol_nilp @nol_agg) (And.intro @nol_tup @nol_fn)) (And.intro (And.intro @nol_raw @er_int) (And.intro @er_bool @er_str)))) (And.intro (And.intro (And.intro (And.intro @er_sl @er_any) (And.intro @er_ptr @er_elt)) (And.intro (And.intro @er_nilp @er_agg) (And.intro @er_tup @er_fn))) (And.intro (And.intro (And.intro @erL_nil @erL_cons) (And.intro @hasN_zero @hasN_succ)) (And.intro (And.intro @over_nil @over_cons) (And.intro @setAt_zero @setAt_succ))))) (And.intro (And.intro (And.intro (And.intro @len_nil (And.intro @len_cons @get0)) (And.intro (And.intro @getS @lset0) (And.intro @lsetS @app_nil'))) (And.intro (And.intro (And.intro @app_cons' @vapp_nil) (And.intro @vapp_cons @llen_nil)) (And.intro (And.intro @llen_cons @some_eq) (And.intro @one_eq_one @true_eq)))) (And.intro (And.intro (And.intro (And.intro @false_eq' @tt_and) (And.intro @ff_and @and_tt)) (And.intro (And.intro @and_ff @tt_or) (And.intro @ff_or @or_ff))) (And.intro (And.intro (And.intro @not_tt @not_ff) (And.intro @ite_t @ite_f)) (And.intro (And.intro @tand @andt) (And.intro @rlZ @rlS))))))))
end Go.Am

namespace Go.Am
section
variable {τ n k : Nat} {v v' : V} {c e t : List V} {l l' : List (List V)} {σ : Store}
theorem vto_any : VTo τ n v .any = True := by simp [VTo.le VLe.any]
theorem vto_same : VTo τ n v v = True := by simp [VTo.same]
theorem vto_tok : VTo τ 0 (.sl .full k []) (.sl (.tk τ) k []) = True := by simp [VTo.tok]
theorem lto_cons : LTo τ n (v :: c) (v' :: e) = (VTo τ n v v' ∧ LTo τ n c e) := rfl
theorem lto_nil : LTo τ n [] [] = True := rfl
theorem lto_same : LTo τ n c c = True := by simp [LTo.rfl]
def lto := And.intro @vto_any <| And.intro @vto_same <| And.intro @vto_tok <| And.intro @lto_cons <| And.intro @lto_nil @lto_same
theorem Upd.tokEnter {ι : Type} {I : ι → St} (n : Nat) (h : ∀ τ, σ.tip τ = none → ∃ i, LTo τ n t (I i).t ∧ l = (I i).loc ∧ (I i).out = σ.setTip τ n) : Upd ⟨t, l, σ⟩ fun st' => ∃ i, st' = I i :=
  Upd.tok n fun τ hτ => by
    obtain ⟨i, h1, h2, h3⟩ := h τ hτ
    refine ⟨(I i).t, (I i).loc, σ, h1, by rw [h2], fun j c' hc => ⟨c', by rw [h2]; exact hc, LTo.rfl⟩, OTo.rfl, i, ?_⟩
    rw [← h3]
theorem setTip_setTip {τ m n : Nat} : (σ.setTip τ m).setTip τ n = σ.setTip τ n := by
  simp only [Store.setTip, Store.mk.injEq, true_and]
  funext x; split <;> rfl
theorem sub_tip {τ n : Nat} (h : σ.tip τ = none) : σ.sub (σ.setTip τ n) := by
  refine ⟨fun _ _ h => h, fun υ m hm => ?_⟩
  have : υ ≠ τ := by rintro rfl; rw [h] at hm; simp at hm
  simp only [Store.setTip]; rw [if_neg this]; exact hm
theorem setTip_tip_same {τ n : Nat} : (σ.setTip τ n).tip τ = some n := by simp [Store.setTip]
end
theorem take_succ_of {α : Type} {l : List α} {i : Nat} {x : α} (h : l[i]? = some x) : l.take (i + 1) = l.take i ++ [x] := by rw [List.take_add_one, h]; simp
mutual
def V.lo (n : Nat) : V → Bool
  | .ptr (.loc i) _ => decide (i < n)
  | .agg cs => loL n cs
  | .tup cs => loL n cs
  | .fn _ a b => loL n a && loL n b
  | _ => true
def loL (n : Nat) : List V → Bool
  | [] => true
  | x :: xs => x.lo n && loL n xs
end
def loLL (n : Nat) : List (List V) → Bool
  | [] => true
  | x :: xs => loL n x && loLL n xs
def Env.cut (E : Env) (n : Nat) : Env := { E with loc := fun i => if i < n then E.loc i else none }
mutual
theorem R.cut {n : Nat} : ∀ (x : V) {E : Env} {v : Value}, x.lo n = true → R E x v → R (E.cut n) x v
  | .any, _, _, _, _ => by simp only [R]
  | .bool _, _, _, _, h => by simp only [R] at h ⊢; exact h
  | .int _ _, _, _, _, h => by simp only [R] at h ⊢; exact h
  | .str _, _, _, _, h => by simp only [R] at h ⊢; exact h
  | .nilp, _, _, _, h => by simp only [R] at h ⊢; exact h
  | .ptr (.loc i) off, E, _, hl, h => by
    simp only [V.lo, decide_eq_true_eq] at hl
    simp only [R] at h ⊢
    obtain ⟨b, h1, h2⟩ := h
    exact ⟨b, by simp [Env.cut, hl, h1], h2⟩
  | .ptr (.out _) _, _, _, _, h => by simp only [R] at h ⊢; exact h
  | .elt _ _, _, _, _, h => by simp only [R] at h ⊢; exact h
  | .sl _ _ _, _, _, _, h => by simp only [R] at h ⊢; exact h
  | .agg cs, _, _, hl, h => by
    simp only [V.lo] at hl
    simp only [R] at h ⊢
    obtain ⟨vs, h1, h2⟩ := h
    exact ⟨vs, h1, RL.cut cs hl h2⟩
  | .tup cs, _, _, hl, h => by
    simp only [V.lo] at hl
    simp only [R] at h ⊢
    obtain ⟨vs, h1, h2⟩ := h
    exact ⟨vs, h1, RL.cut cs hl h2⟩
  | .fn _ a b, _, _, hl, h => by
    simp only [V.lo, Bool.and_eq_true] at hl
    simp only [R] at h ⊢
    obtain ⟨fs, cs, h1, h2, h3⟩ := h
    exact ⟨fs, cs, h1, RL.cut a hl.1 h2, RL.cut b hl.2 h3⟩
  | .raw _, _, _, _, h => by simp only [R] at h ⊢; exact h
theorem RL.cut {n : Nat} : ∀ (l : List V) {E : Env} {vs : List Value}, loL n l = true → RL E l vs → RL (E.cut n) l vs
  | [], _, [], _, _ => by simp only [RL]
  | [], _, _ :: _, _, h => by simp only [RL] at h
  | _ :: _, _, [], _, h => by simp only [RL] at h
  | x :: xs, _, v :: vs, hl, h => by
    simp only [loL, Bool.and_eq_true] at hl
    simp only [RL] at h ⊢
    exact ⟨R.cut x hl.1 h.1, RL.cut xs hl.2 h.2⟩
end
theorem loL_get {n : Nat} : ∀ {l : List V} {j : Nat} {x : V}, loL n l = true → l[j]? = some x → x.lo n = true
  | [], j, x, _, h => by simp at h
  | y :: ys, 0, x, hl, h => by simp only [loL, Bool.and_eq_true] at hl; simp at h; rw [← h]; exact hl.1
  | y :: ys, j + 1, x, hl, h => by simp only [loL, Bool.and_eq_true] at hl; exact loL_get hl.2 (by simpa using h)
theorem loLL_get {n : Nat} : ∀ {l : List (List V)} {j : Nat} {x : List V}, loLL n l = true → l[j]? = some x → loL n x = true
  | [], j, x, _, h => by simp at h
  | y :: ys, 0, x, hl, h => by simp only [loLL, Bool.and_eq_true] at hl; simp at h; rw [← h]; exact hl.1
  | y :: ys, j + 1, x, hl, h => by simp only [loLL, Bool.and_eq_true] at hl; exact loLL_get hl.2 (by simpa using h)
theorem BoxAt.cut {E : Env} {n b : Nat} {cs : List V} (h : loL n cs = true) (k : BoxAt E b cs) : BoxAt (E.cut n) b cs := by
  obtain ⟨c, e, h1, h2, h3⟩ := k
  exact ⟨c, e, h1, h2, fun j x hx => by
    obtain ⟨u, k1, k2⟩ := h3 j x hx
    exact ⟨u, k1, R.cut x (loL_get h hx) k2⟩⟩
theorem Fr.cut (E : Env) (n : Nat) : Fr E (E.cut n) :=
  ⟨rfl, rfl, rfl, Nat.le_refl _, fun _ => rfl, (Env.le.refl E).cell, (Env.le.refl E).tok, fun _ _ _ => ⟨rfl, rfl⟩, fun _ _ h => h, fun _ _ c _ h => ⟨c, h⟩, fun _ i _ h => ⟨i, h⟩, fun _ c _ h => ⟨c, h, rfl⟩⟩
theorem Upd.drop {t : List V} {l l2 : List (List V)} {σ : Store} {K : St → Prop} (ht : loL l.length t = true) (hl : loLL l.length l = true) (hk : K ⟨t, l, σ⟩) : Upd ⟨t, l ++ l2, σ⟩ K := by
  intro E a hs
  refine ⟨E.cut l.length, ⟨t, l, σ⟩, rfl, Fr.cut E _, ⟨⟨hs.ok.box, hs.ok.tip, hs.ok.fresh, hs.ok.nt⟩, ⟨fun i cs hcs => ?_, fun i hi => ?_⟩, hs.defers, RL.cut _ ht hs.slot⟩, hk⟩
  · have hi : i < l.length := (List.getElem?_eq_some_iff.1 hcs).1
    obtain ⟨b, k1, k2, k3⟩ := hs.okL.box i cs (by rw [List.getElem?_append_left hi]; exact hcs)
    exact ⟨b, by simp [Env.cut, hi, k1], k2, k3.cut (loLL_get hl hcs)⟩
  · simp only [Env.cut]; rw [if_neg (by simp only at hi; omega)]
theorem LLLe.app : ∀ {l l' m : List (List V)}, LLLe (l.take l'.length) l' → LLLe l (l' ++ l.drop l'.length)
  | [], [], _, _ => trivial
  | [], _ :: _, _, h => h.elim
  | v :: l, [], m, _ => by simp [LLLe.rfl]
  | v :: l, w :: l', m, h => by
    simp only [List.length_cons, List.take_succ_cons, LLLe] at h
    simp only [List.length_cons, List.cons_append, List.drop_succ_cons, LLLe]
    exact ⟨h.1, LLLe.app (m := m) h.2⟩
theorem Upd.drops {t t' : List V} {l l' : List (List V)} {σ σ' : Store} {K : St → Prop} (h : LLe t t') (hl : LLLe (l.take l'.length) l') (ho : OLe σ σ') (h1 : loL l'.length t' = true) (h2 : loLL l'.length l' = true) (hk : K ⟨t', l', σ'⟩) : Upd ⟨t, l, σ⟩ K :=
  (Upd.weak (K := fun st => st = ⟨t', l' ++ l.drop l'.length, σ'⟩) h (LLLe.app (m := []) hl) ho rfl).bind fun _ e => e ▸ Upd.drop h1 h2 hk
theorem Upd.againD {ι : Type} {I : ι → St} {μ : ι → Nat} {n : Nat} {t : List V} {l : List (List V)} {σ : Store} (j : ι) (hm : μ j < n) (h : LLe t (I j).t) (hl : LLLe (l.take (I j).loc.length) (I j).loc) (ho : OLe σ (I j).out) (h1 : loL (I j).loc.length (I j).t = true) (h2 : loLL (I j).loc.length (I j).loc = true) :
    Upd ⟨t, l, σ⟩ fun st' => ∃ i, st' = I i ∧ μ i < n := Upd.drops h hl ho h1 h2 ⟨j, rfl, hm⟩
section
variable {P : Program} {d : Option Nat} {q : OQ} {xs : List X} {r : List AO} {K : St → Prop} {t : List V} {l : List (List V)} {σ : Store}
theorem o_own : vcOps P (⟨d, .own q xs, none⟩ :: r) K ⟨t, l, σ⟩ = q.sem σ (kC P d r K t l) (evs ⟨t, l, σ⟩ xs) := rfl
theorem own_nil {H : V → Store → Prop} : OQ.sem σ H .nil [] = H (.raw (.slice none 0 0)) σ := rfl
theorem lle_raw {u : Value} {c e : List V} : LLe (.raw u :: c) (.raw u :: e) = LLe c e := by simp [LLe, VLe.rfl]
def amo := And.intro @o_own <| And.intro @own_nil @lle_raw
def Own (σ : Store) (k : Nat) (v : V) (rows : List (List V)) : Prop :=
  ∃ a cap, v = .raw (.slice a rows.length cap) ∧ rows.length ≤ cap ∧ (∀ r ∈ rows, r.length = k) ∧ (cap = 0 ∨ ∃ b cs, a = some ⟨b, 0, none⟩ ∧ σ.box b = some cs ∧ cs.length = cap * k ∧ cs.take (rows.length * k) = rows.flatten)
def ownB : V → Option Nat
  | .raw (.slice (some ⟨b, _, _⟩) _ _) => some b
  | _ => none
theorem Own.none {k : Nat} : Own σ k (.raw (.slice none 0 0)) [] := ⟨_, 0, rfl, by simp, by simp, .inl rfl⟩
theorem Own.len {k : Nat} {v : V} {rows : List (List V)} {H : V → Store → Prop} (h : Own σ k v rows) (hk : H (.int .i64 rows.length) σ) : OQ.sem σ H .len [v] := by
  obtain ⟨a, cap, rfl, _⟩ := h
  exact hk
theorem Own.frame {σ' : Store} {k : Nat} {v : V} {rows : List (List V)} (h : Own σ k v rows) (hb : ∀ b cs, ownB v = some b → σ.box b = some cs → σ'.box b = some cs) : Own σ' k v rows := by
  obtain ⟨a, cap, rfl, h1, h2, h3⟩ := h
  refine ⟨a, cap, rfl, h1, h2, ?_⟩
  rcases h3 with h3 | ⟨b, cs, rfl, h4, h5⟩
  · exact .inl h3
  · exact .inr ⟨b, cs, rfl, hb b cs rfl h4, h5⟩
theorem flatten_take {k : Nat} : ∀ {rows : List (List V)} {m : Nat}, (∀ r ∈ rows, r.length = k) → rows.flatten.take (m * k) = (rows.take m).flatten
  | [], m, _ => by simp
  | r :: rows, 0, _ => by simp
  | r :: rows, m + 1, h => by
    simp only [List.forall_mem_cons] at h
    rw [List.flatten_cons, List.take_succ_cons, List.flatten_cons, Nat.add_mul, Nat.one_mul, List.take_append, h.1, List.take_of_length_le (by omega), show m * k + k - k = m * k by omega, flatten_take h.2]
theorem flatten_drop {k : Nat} : ∀ {rows : List (List V)} {m : Nat}, (∀ r ∈ rows, r.length = k) → rows.flatten.drop (m * k) = (rows.drop m).flatten
  | [], m, _ => by simp
  | r :: rows, 0, _ => by simp
  | r :: rows, m + 1, h => by
    simp only [List.forall_mem_cons] at h
    rw [List.flatten_cons, List.drop_succ_cons, Nat.add_mul, Nat.one_mul, List.drop_append, h.1, List.drop_of_length_le (by omega), show m * k + k - k = m * k by omega, List.nil_append, flatten_drop h.2]
theorem Own.idx {k : Nat} {v : V} {rows : List (List V)} {H : V → Store → Prop} {j : Int} {i : IntKind} {c : List V} (h : Own σ k v rows) (h0 : 0 ≤ j) (hj : rows[j.toNat]? = some c)
    (hk : ∀ b cs rest, ownB v = some b → σ.box b = some cs → cs.drop (j.toNat * k) = c ++ rest → H (.ptr (.out b) (j.toNat * k)) σ) : OQ.sem σ H (.idx k) [v, .int i j] := by
  obtain ⟨a, cap, rfl, h1, h2, h3⟩ := h
  have hlt := (List.getElem?_eq_some_iff.1 hj).1
  rcases h3 with h3 | ⟨b, cs, rfl, h4, h5, h6⟩
  · omega
  · have e1 : cs = rows.flatten ++ cs.drop (rows.length * k) := by rw [← h6]; simp
    have e2 : rows.drop j.toNat = c :: rows.drop (j.toNat + 1) := by
      rw [List.drop_eq_getElem_cons hlt, (List.getElem?_eq_some_iff.1 hj).2]
    have hfl := flat_length h2
    have e3 : cs.drop (j.toNat * k) = c ++ ((rows.drop (j.toNat + 1)).flatten ++ cs.drop (rows.length * k)) := by
      have hle : j.toNat * k ≤ rows.length * k := Nat.mul_le_mul_right _ (by omega)
      rw [e1, List.drop_append_of_le_length (by rw [hfl]; exact hle), flatten_drop h2, e2, List.flatten_cons, List.append_assoc]
      congr 2
      rw [List.drop_append, hfl]
      simp [List.drop_of_length_le, hfl]
    show 0 ≤ j ∧ j < (rows.length : Nat) ∧ H (.ptr (.out b) (0 + j.toNat * k)) σ
    rw [Nat.zero_add]
    exact ⟨h0, by omega, hk b cs _ rfl h4 e3⟩
theorem Own.take {k m : Nat} {v : V} {rows : List (List V)} {H : V → Store → Prop} {i : IntKind} {j : Int} (h : Own σ k v rows) (h0 : 0 ≤ j) (hj : j.toNat = m) (hm : m ≤ rows.length) (hk : ∀ v', Own σ k v' (rows.take m) → ownB v' = ownB v → H v' σ) : OQ.sem σ H (.slc k false true false) [v, .int i j] := by
  obtain ⟨a, cap, rfl, h1, h2, h3⟩ := h
  show bnd false 0 [.int i j] fun m vs => bnd true rows.length vs fun h vs => bnd false cap vs fun M vs => vs = [] ∧ m ≤ h ∧ h ≤ M ∧ M ≤ cap ∧ H (.raw (.slice (if M = m then a else a.map (·.add (m * k))) (h - m) (M - m))) σ
  refine ⟨h0, rfl, by omega, by omega, Nat.le_refl _, ?_⟩
  have ea : (if cap = 0 then a else a.map (·.add (0 * k))) = a := by
    split
    · rfl
    · rcases h3 with h3 | ⟨b, cs, rfl, _⟩
      · omega
      · simp [addr_add]
  rw [ea, hj]
  refine hk _ ⟨a, cap, ?_, ?_, fun r hr => h2 r (List.mem_of_mem_take hr), ?_⟩ (by cases a with
    | none => rfl
    | some ad => cases ad; rfl)
  · rw [List.length_take, Nat.min_eq_left hm]; rfl
  · rw [List.length_take]; omega
  · rcases h3 with h3 | ⟨b, cs, rfl, h4, h5, h6⟩
    · exact .inl h3
    · refine .inr ⟨b, cs, rfl, h4, h5, ?_⟩
      rw [List.length_take, Nat.min_eq_left hm, ← flatten_take h2, ← h6, List.take_take, Nat.min_eq_left (Nat.mul_le_mul_right _ hm)]
structure OwnF (σ : Store) (v : V) (σ' : Store) (v' : V) : Prop where
  keep : ∀ b cs, σ.box b = some cs → ownB v ≠ some b → σ'.box b = some cs
  tip : σ'.tip = σ.tip
  new : ∀ b, ownB v' = some b → ownB v = some b ∨ σ.box b = none
theorem setAt_end {k n : Nat} : ∀ {cs xs ys : List V}, cs.take n = ys → n + xs.length ≤ cs.length → ys.length = n → (setAt cs n xs).take (n + xs.length) = ys ++ xs ∧ (setAt cs n xs).length = cs.length := by
  intro cs xs ys h1 h2 h3
  have ov : ∀ {cs xs : List V}, xs.length ≤ cs.length → (over cs xs).take xs.length = xs ∧ (over cs xs).length = cs.length := by
    intro cs
    induction cs with
    | nil => intro xs h; cases xs with | nil => simp [over] | cons x xs => simp at h
    | cons c cs ih =>
      intro xs h
      cases xs with
      | nil => simp [over]
      | cons x xs =>
        obtain ⟨k1, k2⟩ := ih (xs := xs) (by simpa using h)
        simp [over, k1, k2]
  induction n generalizing cs ys with
  | zero =>
    simp at h3; subst h3
    obtain ⟨k1, k2⟩ := ov (cs := cs) (xs := xs) (by omega)
    have e : setAt cs 0 xs = over cs xs := by cases cs <;> rfl
    rw [e]; simpa using ⟨k1, k2⟩
  | succ n ih =>
    cases cs with
    | nil => simp at h2
    | cons c cs =>
      cases ys with
      | nil => simp at h3
      | cons y ys =>
        simp only [List.take_succ_cons, List.cons.injEq] at h1
        obtain ⟨k1, k2⟩ := ih (cs := cs) (ys := ys) h1.2 (by simp at h2; omega) (by simpa using h3)
        simp only [setAt]
        rw [show n + 1 + xs.length = (n + xs.length) + 1 by omega]
        simp [k1, k2, h1.1]
theorem Own.app {k : Nat} {v : V} {rows m : List (List V)} {tk : Tk} {H : V → Store → Prop} (h : Own σ k v rows) (hm : ∀ r ∈ m, r.length = k) (hn : nolL m.flatten = true) (hb : rows.length + m.length ≤ big)
    (hk : ∀ v' σ', Own σ' k v' (rows ++ m) → OwnF σ v σ' v' → H v' σ') : OQ.sem σ H (.app k) [v, .sl tk k m] := by
  obtain ⟨a, cap, rfl, h1, h2, h3⟩ := h
  have hfm := flat_length hm
  have hfr := flat_length h2
  refine ⟨rfl, h1, hb, hn, fun e => ?_, fun e hle => ?_, fun hlt => ?_⟩
  · subst e
    refine hk _ _ ⟨a, cap, by simp, by simpa using h1, by simpa using h2, by simpa using h3⟩ ⟨fun _ _ h _ => h, rfl, fun b hb => .inl hb⟩
  · rcases h3 with h3 | ⟨b, cs, rfl, h4, h5, h6⟩
    · have : m.length = 0 := by omega
      exact absurd (List.eq_nil_of_length_eq_zero this) e
    · have hfit : rows.length * k + m.length * k ≤ cs.length := by rw [h5, ← Nat.add_mul]; exact Nat.mul_le_mul_right _ hle
      refine ⟨b, cs, rfl, h4, hfit, hk _ _ ⟨some ⟨b, 0, Option.none⟩, cap, by simp, by simpa using hle, fun r hr => ?_, .inr ⟨b, _, rfl, Store.set_same _ _ _, ?_, ?_⟩⟩ ⟨fun b' cs' hb' hne => ?_, rfl, fun b' hb' => .inl hb'⟩⟩
      · rcases List.mem_append.1 hr with hr | hr
        · exact h2 r hr
        · exact hm r hr
      · rw [(setAt_end (k := k) h6 (by rw [hfm]; exact hfit) hfr).2]; exact h5
      · have := (setAt_end (k := k) h6 (by rw [hfm]; exact hfit) hfr).1
        rw [hfm] at this
        rw [List.length_append, Nat.add_mul, this, List.flatten_append]
      · have : b' ≠ b := by rintro rfl; exact hne rfl
        rw [Store.set_other _ _ this]; exact hb'
  · have base : ∀ cs : List V, cs.take (rows.length * k) = rows.flatten → ∀ b' cap', σ.box b' = Option.none → rows.length + m.length ≤ cap' → H (.raw (.slice (some ⟨b', 0, Option.none⟩) (rows.length + m.length) cap')) (σ.set b' (cs.take (rows.length * k) ++ m.flatten ++ List.replicate ((cap' - (rows.length + m.length)) * k) .any)) := by
      intro cs h6 b' cap' hb' hc
      refine hk _ _ ⟨some ⟨b', 0, Option.none⟩, cap', by simp, by simpa using hc, fun r hr => ?_, .inr ⟨b', _, rfl, Store.set_same _ _ _, ?_, ?_⟩⟩ ⟨fun b'' cs' hb'' hne => ?_, rfl, fun b'' hb'' => ?_⟩
      · rcases List.mem_append.1 hr with hr | hr
        · exact h2 r hr
        · exact hm r hr
      · rw [h6]; simp only [List.length_append, hfr, hfm, List.length_replicate]
        rw [← Nat.add_mul, ← Nat.add_mul]; congr 1; omega
      · rw [h6, List.length_append, List.flatten_append, List.take_append_of_le_length (by simp only [List.length_append, hfr, hfm]; rw [Nat.add_mul]; omega), List.take_of_length_le (by simp only [List.length_append, hfr, hfm]; rw [Nat.add_mul]; omega)]
      · have : b'' ≠ b' := by rintro rfl; rw [hb'] at hb''; simp at hb''
        rw [Store.set_other _ _ this]; exact hb''
      · simp only [ownB, Option.some.injEq] at hb''; subst hb''; exact .inr hb'
    rcases h3 with h3 | ⟨b, cs, rfl, h4, h5, h6⟩
    · have h0 : rows = [] := List.eq_nil_of_length_eq_zero (by omega)
      subst h0
      exact ⟨[], .inl ⟨rfl, rfl⟩, base [] (by simp)⟩
    · refine ⟨cs, .inr ⟨b, rfl, h4, ?_⟩, base cs h6⟩
      rw [h5]; exact Nat.mul_le_mul_right _ h1
theorem OwnF.refl {v : V} : OwnF σ v σ v := ⟨fun _ _ h _ => h, rfl, fun _ h => .inl h⟩
structure OwnS (σ0 σ : Store) (v : V) : Prop where
  sub : σ0.sub σ
  new : ∀ b, ownB v = some b → σ0.box b = none
theorem OwnS.step {σ0 σ' : Store} {v v' : V} (h : OwnS σ0 σ v) (f : OwnF σ v σ' v') : OwnS σ0 σ' v' := by
  refine ⟨⟨fun b cs hb => ?_, fun t n hn => by rw [f.tip]; exact h.sub.2 t n hn⟩, fun b hb => ?_⟩
  · exact f.keep b cs (h.sub.1 b cs hb) (fun e => by rw [h.new b e] at hb; simp at hb)
  · rcases f.new b hb with e | e
    · exact h.new b e
    · cases hq : σ0.box b with
      | none => rfl
      | some cs => rw [h.sub.1 b cs hq] at e; simp at e
end
section
variable {P : Program} {d : Option Nat} {K : St → Prop} {st : St} {b w : Bool}
theorem gL_split {op : AOp} {r : List AO} (h1 : b = true → gL P (.bool true) w d op r K st) (h2 : b = false → gL P (.bool false) w d op r K st) : gL P (.bool b) w d op r K st := by cases b with
  | true => exact h1 rfl
  | false => exact h2 rfl
theorem pickL_split {x y : V} {r : List AO} (h1 : b = true → pickL P (.bool true) x y d r K st) (h2 : b = false → pickL P (.bool false) x y d r K st) : pickL P (.bool b) x y d r K st := by cases b with
  | true => exact h1 rfl
  | false => exact h2 rfl
end
section
variable {P : Program} {d : Option Nat} {K : St → Prop} {t : List V} {l : List (List V)} {σ : Store} {r : List AO}
def evO (st : St) : Option X → Option V
  | none => none
  | some x => some (ev st x)
def inB (n : Nat) (dflt : Nat) : Option V → Prop
  | none => n = dflt
  | some v => ∃ j, v = .int j n
def slSL (v : V) (lo hi : Option V) (H : V → Prop) : Prop := ∃ s a b, v = .str s ∧ a ≤ b ∧ b ≤ s.length ∧ inB a 0 lo ∧ inB b s.length hi ∧ H (.str ((s.take b).drop a))
def slcL (k : Nat) (v : V) (lo hi mx : Option V) (H : V → Prop) : Prop := ∃ τ l a b, v = .sl τ k l ∧ a ≤ b ∧ b ≤ l.length ∧ inB a 0 lo ∧ inB b l.length hi ∧
  match mx with
  | none => H (.sl .no k ((l.take b).drop a))
  | some y => (∃ j, y = .int j b) ∧ H (.sl .full k ((l.take b).drop a))
theorem o_slS' {x : X} {lo hi : Option X} : vcOps P (⟨d, .slS x lo hi, none⟩ :: r) K ⟨t, l, σ⟩ = slSL (ev ⟨t, l, σ⟩ x) (evO ⟨t, l, σ⟩ lo) (evO ⟨t, l, σ⟩ hi) (kL P d r K ⟨t, l, σ⟩) := by
  cases lo <;> cases hi <;> rfl
theorem o_slc' {k : Nat} {x : X} {lo hi mx : Option X} : vcOps P (⟨d, .slc k x lo hi mx, none⟩ :: r) K ⟨t, l, σ⟩ = slcL k (ev ⟨t, l, σ⟩ x) (evO ⟨t, l, σ⟩ lo) (evO ⟨t, l, σ⟩ hi) (evO ⟨t, l, σ⟩ mx) (kL P d r K ⟨t, l, σ⟩) := by
  cases lo <;> cases hi <;> cases mx <;> rfl
theorem d_slS' {x : X} {lo hi : Option X} {ms : List Nat} {r : List (AO × List Nat)} {SN : List Sto} {L : List (V × Bool × Nat × V × List Nat)} : vcD P ((⟨d, .slS x lo hi, none⟩, ms) :: r) SN L K ⟨t, l, σ⟩ = slSL (ev ⟨t, l, σ⟩ x) (evO ⟨t, l, σ⟩ lo) (evO ⟨t, l, σ⟩ hi) (kD P d r SN L K ⟨t, l, σ⟩) := by
  cases lo <;> cases hi <;> rfl
theorem d_slc' {k : Nat} {x : X} {lo hi mx : Option X} {ms : List Nat} {r : List (AO × List Nat)} {SN : List Sto} {L : List (V × Bool × Nat × V × List Nat)} : vcD P ((⟨d, .slc k x lo hi mx, none⟩, ms) :: r) SN L K ⟨t, l, σ⟩ = slcL k (ev ⟨t, l, σ⟩ x) (evO ⟨t, l, σ⟩ lo) (evO ⟨t, l, σ⟩ hi) (evO ⟨t, l, σ⟩ mx) (kD P d r SN L K ⟨t, l, σ⟩) := by
  cases lo <;> cases hi <;> cases mx <;> rfl
theorem evO_none {st : St} : evO st none = none := rfl
theorem evO_some {st : St} {x : X} : evO st (some x) = some (ev st x) := rfl
theorem slSL_intro {s : List UInt8} {j j' : IntKind} {a b : Nat} {H : V → Prop} (h1 : a ≤ b) (h2 : b ≤ s.length) (h : H (.str ((s.take b).drop a))) : slSL (.str s) (some (.int j a)) (some (.int j' b)) H := ⟨s, a, b, rfl, h1, h2, ⟨j, rfl⟩, ⟨j', rfl⟩, h⟩
theorem slcL_from {k : Nat} {τ : Tk} {m : List (List V)} {j : IntKind} {a : Nat} {H : V → Prop} (h2 : a ≤ m.length) (h : H (.sl .no k (m.drop a))) : slcL k (.sl τ k m) (some (.int j a)) none none H := ⟨τ, m, a, m.length, rfl, h2, Nat.le_refl _, ⟨j, rfl⟩, rfl, by rw [List.take_length]; exact h⟩
def amc := And.intro @o_cvBS <| And.intro @o_appS <| And.intro @o_slS' <| And.intro @o_slc' <| And.intro @d_slS' <| And.intro @d_slc' <| And.intro @evO_none <| And.intro @evO_some <| And.intro @o_idxP <| And.intro @d_idxP <| And.intro @d_cvBS <| And.intro @vc_scope <| And.intro @noGo_normal <| And.intro @noGo_exit <| And.intro @noGo_ret <| And.intro @rPost_normal <| And.intro @rPost_exit <| And.intro @rPost_ret @eff_idxP
end
theorem encB_append (a b : List UInt8) : encB (a ++ b) = encB a ++ encB b := by simp [encB]
theorem encB_length (a : List UInt8) : (encB a).length = a.length := by simp [encB]
end Go.Am

namespace Go.Am
structure Tok where
  kind : Int
  text : List UInt8
  pos : Int
inductive Tree where
  | mk (tok : Tok) (kids : List Tree) (fin : Int)
def Tree.tok : Tree → Tok | .mk t _ _ => t
def Tree.kids : Tree → List Tree | .mk _ k _ => k
def Tree.fin : Tree → Int | .mk _ _ e => e
mutual
def Tree.enc : Tree → List V
  | .mk t ks e => [.int .u8 t.kind, .str t.text, .int .i64 t.pos, .sl .no 5 (encs ks), .int .i64 e]
def encs : List Tree → List (List V)
  | [] => []
  | t :: ts => t.enc :: encs ts
end
theorem encs_map : ∀ l, encs l = l.map Tree.enc
  | [] => rfl
  | t :: ts => by simp [encs, encs_map ts]
theorem encs_length (l : List Tree) : (encs l).length = l.length := by simp [encs_map]
theorem enc_eq (t : Tree) : t.enc = [.int .u8 t.tok.kind, .str t.tok.text, .int .i64 t.tok.pos, .sl .no 5 (encs t.kids), .int .i64 t.fin] := by
  cases t; simp only [Tree.enc, Tree.tok, Tree.kids, Tree.fin]
mutual
def Tree.many : Tree → Nat
  | .mk _ ks _ => manys ks
def manys : List Tree → Nat
  | [] => 0
  | t :: ts => 1 + t.many + manys ts
end
theorem many_eq (t : Tree) : t.many = manys t.kids := by cases t; simp [Tree.many, Tree.kids]
theorem manys_append : ∀ a b, manys (a ++ b) = manys a + manys b
  | [], b => by simp [manys]
  | t :: ts, b => by simp [manys, manys_append ts b]; omega
theorem manys_ge : ∀ l, l.length ≤ manys l
  | [] => by simp [manys]
  | t :: ts => by simp [manys]; have := manys_ge ts; omega
theorem manys_get {l : List Tree} {i : Nat} (h : i < l.length) : manys l = manys (l.take i) + (1 + manys l[i].kids) + manys (l.drop (i + 1)) := by
  have : l = l.take i ++ l[i] :: l.drop (i + 1) := by simp
  have e := congrArg manys this
  rw [e, manys_append]
  simp only [manys, many_eq]; omega
theorem manys_kids {l : List Tree} {i : Nat} (h : i < l.length) : manys l[i].kids + 1 ≤ manys l := by
  have := manys_get h; omega
structure Word where
  text : List UInt8
  pos : Int
def Word.enc (w : Word) : List V := [.str w.text, .int .i64 w.pos]
inductive Nd where
  | mk (kind pos : Int) (text : List UInt8) (names : List Word) (kids : List Nd)
namespace Nd
def kind : Nd → Int | .mk k _ _ _ _ => k
def pos : Nd → Int | .mk _ p _ _ _ => p
def text : Nd → List UInt8 | .mk _ _ t _ _ => t
def names : Nd → List Word | .mk _ _ _ w _ => w
def kids : Nd → List Nd | .mk _ _ _ _ k => k
end Nd
mutual
def Nd.enc : Nd → List V
  | .mk k p t ws ks => [.int .i64 k, .int .i64 p, .str t, .sl .no 2 (ws.map Word.enc), .sl .no 5 (nencs ks)]
def nencs : List Nd → List (List V)
  | [] => []
  | n :: ns => n.enc :: nencs ns
end
theorem nencs_map : ∀ l, nencs l = l.map Nd.enc
  | [] => rfl
  | t :: ts => by simp [nencs, nencs_map ts]
theorem Nd.enc_eq (n : Nd) : n.enc = [.int .i64 n.kind, .int .i64 n.pos, .str n.text, .sl .no 2 (n.names.map Word.enc), .sl .no 5 (n.kids.map Nd.enc)] := by
  cases n; simp only [Nd.enc, Nd.kind, Nd.pos, Nd.text, Nd.names, Nd.kids, nencs_map]
structure Rdr where
  l : List Tree
  at_ : Int
  fin : Int
  bad : Option Int
def badC (b : Option Int) : Int := match b with | some _ => 2 | none => 0
def badA (b : Option Int) : Int := match b with | some a => a | none => 0
def Rdr.enc (r : Rdr) : List V := [.sl .no 5 (encs r.l), .int .i64 r.at_, .int .i64 r.fin, .int .i64 (badC r.bad), .int .i64 (badA r.bad)]
def isK (l : List Tree) (at_ : Int) (k : Int) : Bool := decide (0 ≤ at_) && match l[at_.toNat]? with | some t => decide (t.tok.kind = k) | none => false
def Rdr.ok (r : Rdr) : Bool := r.bad.isNone
def Rdr.spot (r : Rdr) : Int := if 0 ≤ r.at_ then (match r.l[r.at_.toNat]? with | some t => t.tok.pos | none => r.fin) else r.fin
def Rdr.fail (r : Rdr) : Rdr := match r.bad with | some _ => r | none => { r with bad := some r.spot }
def Rdr.sees (r : Rdr) (k : Int) : Bool := r.ok && isK r.l r.at_ k
def Tree.zero : Tree := .mk ⟨0, [], 0⟩ [] 0
def Rdr.take (r : Rdr) (k : Int) : Tree × Rdr := if r.sees k then (r.l.getD r.at_.toNat .zero, { r with at_ := r.at_ + 1 }) else (.zero, r.fail)
def Rdr.word (r : Rdr) : Word × Rdr := (⟨(r.take 97).1.tok.text, (r.take 97).1.tok.pos⟩, (r.take 97).2)
theorem Rdr.ex1 {r : Rdr} {n : Nat} : r.enc.drop n = [V.sl .no 5 (encs r.l), .int .i64 r.at_, .int .i64 r.fin, .int .i64 (badC r.bad), .int .i64 (badA r.bad)].drop n := rfl
theorem Rdr.ex2 {r : Rdr} {n : Nat} {x : List V} : setAt r.enc n x = setAt [V.sl .no 5 (encs r.l), .int .i64 r.at_, .int .i64 r.fin, .int .i64 (badC r.bad), .int .i64 (badA r.bad)] n x := rfl
theorem Rdr.ex3 {r : Rdr} {n : Nat} {g : Bool} : ldC g n r.enc = ldC g n [V.sl .no 5 (encs r.l), .int .i64 r.at_, .int .i64 r.fin, .int .i64 (badC r.bad), .int .i64 (badA r.bad)] := rfl
theorem Rdr.ex4 {r : Rdr} {n : Nat} : hasN n r.enc = hasN n [V.sl .no 5 (encs r.l), .int .i64 r.at_, .int .i64 r.fin, .int .i64 (badC r.bad), .int .i64 (badA r.bad)] := rfl
theorem Rdr.ex : (∀ {r : Rdr} {n : Nat}, r.enc.drop n = [V.sl .no 5 (encs r.l), .int .i64 r.at_, .int .i64 r.fin, .int .i64 (badC r.bad), .int .i64 (badA r.bad)].drop n) ∧
    (∀ {r : Rdr} {n : Nat} {x : List V}, setAt r.enc n x = setAt [V.sl .no 5 (encs r.l), .int .i64 r.at_, .int .i64 r.fin, .int .i64 (badC r.bad), .int .i64 (badA r.bad)] n x) ∧
    (∀ {r : Rdr} {n : Nat} {g : Bool}, ldC g n r.enc = ldC g n [V.sl .no 5 (encs r.l), .int .i64 r.at_, .int .i64 r.fin, .int .i64 (badC r.bad), .int .i64 (badA r.bad)]) ∧
    (∀ {r : Rdr} {n : Nat}, hasN n r.enc = hasN n [V.sl .no 5 (encs r.l), .int .i64 r.at_, .int .i64 r.fin, .int .i64 (badC r.bad), .int .i64 (badA r.bad)]) := ⟨Rdr.ex1, Rdr.ex2, Rdr.ex3, Rdr.ex4⟩
def goG {β : Type} (step : Rdr × List β → Rdr × List β) : Nat → Rdr × List β → Rdr × List β
  | 0, a => a
  | n + 1, a => if a.1.sees 44 then goG step n (step ((a.1.take 44).2, a.2)) else a
def someG {β : Type} (step : Rdr × List β → Rdr × List β) (r : Rdr) : Rdr × List β := goG step r.l.length (step (r, []))
def wStep (a : Rdr × List Word) : Rdr × List Word := (a.1.word.2, a.2 ++ [a.1.word.1])
theorem Rdr.take_l (r : Rdr) (k : Int) : (r.take k).2.l = r.l := by
  unfold Rdr.take; split
  · rfl
  · unfold Rdr.fail; split <;> rfl
theorem Rdr.fail_at (r : Rdr) : r.fail.at_ = r.at_ := by unfold Rdr.fail; split <;> rfl
theorem Rdr.fail_ok (r : Rdr) : r.fail.bad ≠ none := by
  unfold Rdr.fail
  split
  · rename_i h; rw [h]; simp
  · simp
theorem Rdr.take_at (r : Rdr) (k : Int) : (r.sees k = true ∧ (r.take k).2.at_ = r.at_ + 1 ∧ (r.take k).2.bad = none ∧ 0 ≤ r.at_ ∧ r.at_ < r.l.length) ∨ (r.sees k = false ∧ (r.take k).2.at_ = r.at_ ∧ (r.take k).2.bad ≠ none) := by
  cases h : r.sees k
  · right
    simp only [Rdr.take, h, Bool.false_eq_true, if_false, true_and]
    exact ⟨r.fail_at, r.fail_ok⟩
  · left
    have h' := h
    simp only [Rdr.sees, Rdr.ok, isK, Bool.and_eq_true, decide_eq_true_eq, Option.isNone_iff_eq_none] at h'
    obtain ⟨h1, h0, hk⟩ := h'
    simp only [Rdr.take, h, if_true, true_and]
    refine ⟨h1, h0, ?_⟩
    cases hq : r.l[r.at_.toNat]? with
    | none => rw [hq] at hk; simp at hk
    | some t => have := (List.getElem?_eq_some_iff.1 hq).1; omega
theorem Rdr.take_many (r : Rdr) (k : Int) : manys (r.take k).1.kids ≤ manys r.l ∧ ((r.take k).2.bad = none → manys (r.take k).1.kids + 1 ≤ manys r.l) := by
  rcases r.take_at k with ⟨h, _, _, h1, h2⟩ | ⟨h, _, h1⟩
  · have hlt : r.at_.toNat < r.l.length := by omega
    have := manys_kids hlt
    simp only [Rdr.take, h, if_true, List.getD, List.getElem?_eq_getElem hlt, Option.getD_some]
    exact ⟨by omega, fun _ => this⟩
  · refine ⟨?_, fun hb => absurd hb h1⟩
    simp [Rdr.take, h, Tree.zero, Tree.kids, manys]
def Tree.inner (t : Tree) : Rdr := ⟨t.kids, 0, t.fin, none⟩
def Rdr.close (r : Rdr) : Rdr := if r.ok = true ∧ r.at_ < r.l.length then r.fail else r
def Rdr.under (r i : Rdr) : Rdr := { r with bad := i.close.bad }
structure Reads {β : Type} (one : Rdr → β × Rdr) : Prop where
  l : ∀ r, (one r).2.l = r.l
  go : ∀ r, 0 ≤ r.at_ → r.at_ ≤ r.l.length → r.at_ ≤ (one r).2.at_ ∧ (one r).2.at_ ≤ r.l.length ∧ ((one r).2.bad = none → r.at_ + 1 ≤ (one r).2.at_)
def oStep {β : Type} (one : Rdr → β × Rdr) (a : Rdr × List β) : Rdr × List β := ((one a.1).2, a.2 ++ [(one a.1).1])
def Rdr.inside {β : Type} (step : Rdr × List β → Rdr × List β) (empty : Bool) (t : Tree) : Rdr × List β := if empty = true ∧ t.kids.length = 0 then (t.inner, []) else someG step t.inner
def Rdr.bracket {β : Type} (step : Rdr × List β → Rdr × List β) (kind : Int) (empty : Bool) (r : Rdr) : (List β × Int) × Rdr :=
  if (r.take kind).2.ok = true then (((Rdr.inside step empty (r.take kind).1).2, (r.take kind).1.tok.pos), (r.take kind).2.under (Rdr.inside step empty (r.take kind).1).1) else (([], 0), (r.take kind).2)
def Rdr.nodes (one : Rdr → Nd × Rdr) (kind : Int) (empty : Bool) (r : Rdr) : (List Nd × Int) × Rdr := r.bracket (oStep one) kind empty
def Rdr.words (empty : Bool) (r : Rdr) : (List Word × Int) × Rdr := r.bracket wStep 123 empty
end Go.Am

namespace Go.Am
def xm (d a : Nat) : AO := ⟨some d, .mv (.s a), none⟩
def xi (d : Nat) (n : Int) : AO := ⟨some d, .mv (.c (.int .i64 n)), none⟩
def xb (p : BinOp) (d a b : Nat) : AO := ⟨some d, .binI p (.s a) (.s b), none⟩
def xB (p : BinOp) (d a : Nat) (n : Int) : AO := ⟨some d, .binI p (.s a) (.c (.int .i64 n)), none⟩
def xu (p : BinOp) (d a : Nat) (n : Int) : AO := ⟨some d, .binI p (.s a) (.c (.int .u8 n)), none⟩
def xl (n d a : Nat) : AO := ⟨some d, .load true n (.s a), none⟩
def xo (d a : Nat) : AO := ⟨some d, .load false 1 (.s a), none⟩
def xk (d a : Nat) : AO := ⟨some d, .nilck (.s a), none⟩
def xf (o d a : Nat) : AO := ⟨some d, .fld o (.s a), none⟩
def xv (n o d a : Nat) : AO := ⟨some d, .fldv true o n (.s a), none⟩
def xw (o d a : Nat) : AO := ⟨some d, .fldv false o 1 (.s a), none⟩
def xL (d a : Nat) : AO := ⟨some d, .lenS (.s a), none⟩
def xT (d a : Nat) : AO := ⟨some d, .lenT (.s a), none⟩
def xA (k d a b : Nat) : AO := ⟨some d, .idxA k (.s a) (.s b), none⟩
def xS (d a b : Nat) : AO := ⟨some d, .idxS (.s a) (.s b), none⟩
def xs (n a b : Nat) : AO := ⟨none, .store n (.s a) (.s b), none⟩
def xe (d a i : Nat) : AO := ⟨some d, .ext (.s a) i, none⟩
def xc (f : FuncId) (d : Nat) (l : List X) : AO := ⟨some d, .call f l, none⟩
def xp (d a b c : Nat) : AO := ⟨some d, .pick (.s a) (.s b) (.s c), none⟩
def xa (k d a b : Nat) : AO := ⟨some d, .app k (.s a) (.s b), none⟩
def xg (n : Nat) (o : AO) : AO := ⟨o.dst, o.op, some (n, true)⟩
def xh (n : Nat) (o : AO) : AO := ⟨o.dst, o.op, some (n, false)⟩
section
variable {d a b c n k i o : Nat} {z : Int} {p : BinOp} {f : FuncId} {l : List X} {g : Option Nat} {q : AOp}
theorem xm_ : xm d a = ⟨some d, .mv (.s a), none⟩ := rfl
theorem xi_ : xi d z = ⟨some d, .mv (.c (.int .i64 z)), none⟩ := rfl
theorem xb_ : xb p d a b = ⟨some d, .binI p (.s a) (.s b), none⟩ := rfl
theorem xB_ : xB p d a z = ⟨some d, .binI p (.s a) (.c (.int .i64 z)), none⟩ := rfl
theorem xu_ : xu p d a z = ⟨some d, .binI p (.s a) (.c (.int .u8 z)), none⟩ := rfl
theorem xl_ : xl n d a = ⟨some d, .load true n (.s a), none⟩ := rfl
theorem xo_ : xo d a = ⟨some d, .load false 1 (.s a), none⟩ := rfl
theorem xk_ : xk d a = ⟨some d, .nilck (.s a), none⟩ := rfl
theorem xf_ : xf o d a = ⟨some d, .fld o (.s a), none⟩ := rfl
theorem xv_ : xv n o d a = ⟨some d, .fldv true o n (.s a), none⟩ := rfl
theorem xw_ : xw o d a = ⟨some d, .fldv false o 1 (.s a), none⟩ := rfl
theorem xL_ : xL d a = ⟨some d, .lenS (.s a), none⟩ := rfl
theorem xT_ : xT d a = ⟨some d, .lenT (.s a), none⟩ := rfl
theorem xA_ : xA k d a b = ⟨some d, .idxA k (.s a) (.s b), none⟩ := rfl
theorem xS_ : xS d a b = ⟨some d, .idxS (.s a) (.s b), none⟩ := rfl
theorem xs_ : xs n a b = ⟨none, .store n (.s a) (.s b), none⟩ := rfl
theorem xe_ : xe d a i = ⟨some d, .ext (.s a) i, none⟩ := rfl
theorem xc_ : xc f d l = ⟨some d, .call f l, none⟩ := rfl
theorem xp_ : xp d a b c = ⟨some d, .pick (.s a) (.s b) (.s c), none⟩ := rfl
theorem xa_ : xa k d a b = ⟨some d, .app k (.s a) (.s b), none⟩ := rfl
theorem xg_ : xg n ⟨g, q, none⟩ = ⟨g, q, some (n, true)⟩ := rfl
theorem xh_ : xh n ⟨g, q, none⟩ = ⟨g, q, some (n, false)⟩ := rfl
end
def ams := And.intro @xm_ <| And.intro @xi_ <| And.intro @xb_ <| And.intro @xB_ <| And.intro @xu_ <| And.intro @xl_ <| And.intro @xo_ <| And.intro @xk_ <| And.intro @xf_ <| And.intro @xv_ <| And.intro @xw_ <| And.intro @xL_ <| And.intro @xT_ <| And.intro @xA_ <| And.intro @xS_ <| And.intro @xs_ <| And.intro @xe_ <| And.intro @xc_ <| And.intro @xp_ <| And.intro @xa_ <| And.intro @xg_ @xh_
theorem Store.subT {a b c : Store} (h : a.sub b) (k : b.sub c) : a.sub c := ⟨fun x cs hx => k.1 x cs (h.1 x cs hx), fun x n hx => k.2 x n (h.2 x n hx)⟩
end Go.Am

namespace Go.Am
def Rdr.leaf (kind : Int) (r : Rdr) : Nd × Rdr := (.mk kind r.word.1.pos r.word.1.text [] [], r.word.2)
def Rdr.rule (r : Rdr) : Nd × Rdr :=
  (.mk 6 r.word.1.pos r.word.1.text ((r.word.2.take 58).2.words true).1.1 [], ((r.word.2.take 58).2.words true).2)
def Rdr.constant : Nat → Rdr → Nd × Rdr
  | 0, r => r.leaf 2
  | n + 1, r =>
    if r.sees 123 = true then (.mk 3 (r.words true).1.2 [] (r.words true).1.1 [], (r.words true).2)
    else if r.sees 40 = true then (.mk 4 (r.nodes (Rdr.constant n) 40 false).1.2 [] [] (r.nodes (Rdr.constant n) 40 false).1.1, (r.nodes (Rdr.constant n) 40 false).2)
    else if r.sees 91 = true then (.mk 5 (r.nodes Rdr.rule 91 true).1.2 [] [] (r.nodes Rdr.rule 91 true).1.1, (r.nodes Rdr.rule 91 true).2)
    else r.leaf 2
def Rdr.atom (n : Nat) (r : Rdr) : Nd × Rdr :=
  if r.sees 35 = true then (.mk 7 (r.take 35).1.tok.pos [] [] [(Rdr.constant n (r.take 35).2).1], (Rdr.constant n (r.take 35).2).2) else r.leaf 1
def Rdr.label : Nat → Rdr → Nd × Rdr
  | 0, r => r.leaf 1
  | n + 1, r =>
    if r.sees 43 = true then (.mk 8 (r.take 43).1.tok.pos [] [] ((r.take 43).2.nodes (Rdr.label n) 40 false).1.1, ((r.take 43).2.nodes (Rdr.label n) 40 false).2)
    else if r.sees 38 = true then (.mk 9 (r.take 38).1.tok.pos [] [] ((r.take 38).2.nodes (Rdr.label n) 40 false).1.1, ((r.take 38).2.nodes (Rdr.label n) 40 false).2)
    else r.atom (n + 1)
def Rdr.field (n : Nat) (r : Rdr) : Nd × Rdr :=
  (.mk 11 r.word.1.pos r.word.1.text [] [((r.word.2.take 61).2.atom n).1], ((r.word.2.take 61).2.atom n).2)
end Go.Am

namespace Go.Am
def Goes (r r' : Rdr) : Prop := r'.l = r.l ∧ (0 ≤ r.at_ → r.at_ ≤ r.l.length → r.at_ ≤ r'.at_ ∧ r'.at_ ≤ r.l.length ∧ (r'.bad = none → r.at_ + 1 ≤ r'.at_))
theorem Goes.trans {a b c : Rdr} (h : Goes a b) (k : Goes b c) : Goes a c := by
  refine ⟨k.1.trans h.1, fun h1 h2 => ?_⟩
  obtain ⟨p1, p2, p3⟩ := h.2 h1 h2
  obtain ⟨q1, q2, q3⟩ := k.2 (by omega) (by rw [h.1]; exact p2)
  rw [h.1] at q2
  exact ⟨by omega, q2, fun hq => by have := q3 hq; omega⟩
theorem goes_take (r : Rdr) (k : Int) : Goes r (r.take k).2 := by
  refine ⟨r.take_l k, fun h1 h2 => ?_⟩
  rcases r.take_at k with ⟨_, e, _, h3, h4⟩ | ⟨_, e, hb⟩
  · rw [e]; exact ⟨by omega, by omega, fun _ => by omega⟩
  · rw [e]; exact ⟨by omega, h2, fun hq => absurd hq hb⟩
theorem goes_word (r : Rdr) : Goes r r.word.2 := goes_take r 97
theorem goes_leaf (r : Rdr) (k : Int) : Goes r (r.leaf k).2 := goes_word r
theorem goes_bracket {β : Type} (step : Rdr × List β → Rdr × List β) (k : Int) (e : Bool) (r : Rdr) : Goes r (r.bracket step k e).2 := by
  have h := goes_take r k
  unfold Rdr.bracket
  split
  · rename_i hok
    have hb : (r.take k).2.bad = none := by simpa [Rdr.ok] using hok
    exact ⟨h.1, fun h1 h2 => by
      obtain ⟨p1, p2, p3⟩ := h.2 h1 h2
      exact ⟨p1, p2, fun _ => p3 hb⟩⟩
  · exact h
theorem goes_words (r : Rdr) (e : Bool) : Goes r (r.words e).2 := goes_bracket _ _ _ _
theorem goes_nodes (r : Rdr) (one : Rdr → Nd × Rdr) (k : Int) (e : Bool) : Goes r (r.nodes one k e).2 := goes_bracket _ _ _ _
theorem reads_of {one : Rdr → Nd × Rdr} (h : ∀ r, Goes r (one r).2) : Reads one := ⟨fun r => (h r).1, fun r => (h r).2⟩
theorem goes_rule (r : Rdr) : Goes r r.rule.2 := ((goes_word r).trans (goes_take _ _)).trans (goes_words _ _)
theorem goes_constant : ∀ (n : Nat) (r : Rdr), Goes r (Rdr.constant n r).2
  | 0, r => goes_leaf r 2
  | n + 1, r => by
    simp only [Rdr.constant]
    split
    · exact goes_words r true
    · split
      · exact goes_nodes r _ 40 false
      · split
        · exact goes_nodes r _ 91 true
        · exact goes_leaf r 2
theorem goes_atom (n : Nat) (r : Rdr) : Goes r (r.atom n).2 := by
  simp only [Rdr.atom]
  split
  · exact (goes_take r 35).trans (goes_constant n _)
  · exact goes_leaf r 1
theorem goes_label : ∀ (n : Nat) (r : Rdr), Goes r (Rdr.label n r).2
  | 0, r => goes_leaf r 1
  | n + 1, r => by
    simp only [Rdr.label]
    split
    · exact (goes_take r 43).trans (goes_nodes _ _ 40 false)
    · split
      · exact (goes_take r 38).trans (goes_nodes _ _ 40 false)
      · exact goes_atom (n + 1) r
theorem goes_field (n : Nat) (r : Rdr) : Goes r (r.field n).2 := ((goes_word r).trans (goes_take _ _)).trans (goes_atom n _)
end Go.Am

namespace Go.Am
def Rdr.rowIn (n : Nat) (i : Rdr) : (Rdr × List Nd) × List Word :=
  let a := if i.sees 124 = true then (i, []) else someG (oStep (Rdr.field n)) i
  if a.1.sees 124 = true then (((a.1.take 124).2.word.2, a.2), [(a.1.take 124).2.word.1]) else (a, [])
def Rdr.rowOf (n : Nat) (t : Tree) : (Rdr × List Nd) × List Word := if t.kids.length = 0 then ((t.inner, []), []) else t.inner.rowIn n
def Rdr.row (n : Nat) (r : Rdr) : Nd × Rdr :=
  if r.sees 91 = true then (.mk 10 (r.take 91).1.tok.pos [] (Rdr.rowOf n (r.take 91).1).2 (Rdr.rowOf n (r.take 91).1).1.2, (r.take 91).2.under (Rdr.rowOf n (r.take 91).1).1.1) else r.leaf 1
def Nd.zero : Nd := .mk 0 0 [] [] []
def readAt (one : Rdr → Nd × Rdr) (l : List Tree) (at_ fin : Int) : Nd × Int × Option Int :=
  match (one ⟨l, at_, fin, none⟩).2.bad with
  | some b => (.zero, 0, some b)
  | none => ((one ⟨l, at_, fin, none⟩).1, (one ⟨l, at_, fin, none⟩).2.at_, none)
def wordsAt (l : List Tree) (at_ fin : Int) : List Word × Option Int :=
  match ((⟨l, at_, fin, none⟩ : Rdr).words false).2.bad with
  | some b => ([], some b)
  | none => (((⟨l, at_, fin, none⟩ : Rdr).words false).1.1, none)
end Go.Am

namespace Go.Am
structure Got where
  node : Nd
  next : Int
  bad : Bool
  pos : Int
def Got.enc (g : Got) : List V := [.int .i64 g.node.kind, .int .i64 g.node.pos, .str g.node.text, .sl .no 2 (g.node.names.map Word.enc), .sl .no 5 (g.node.kids.map Nd.enc), .int .i64 g.next, .bool g.bad, .int .i64 g.pos]
theorem nencs_at {l : List Nd} {j : Nat} {t : Nd} (h : l[j]? = some t) : (l.map Nd.enc)[((j : Nat) : Int).toNat]? = some t.enc := by simp [h]
theorem wencs_at {l : List Word} {j : Nat} {t : Word} (h : l[j]? = some t) : (l.map Word.enc)[((j : Nat) : Int).toNat]? = some t.enc := by simp [h]
end Go.Am

namespace Go.Am
theorem Tree.r_len {x : Tree} : x.enc.length = 5 := by rw [enc_eq]; rfl
theorem Tree.r_one {x : Tree} : oneL x.enc = true := by rw [enc_eq]; rfl
theorem Tree.r_nol {x : Tree} : nolL x.enc = true := by rw [enc_eq]; rfl
theorem Tree.r_er {x : Tree} : eraseL x.enc = x.enc := by rw [enc_eq]; rfl
theorem Tree.r_tk {x : Tree} : takeN 5 x.enc = some x.enc := by rw [enc_eq]; rfl
theorem Tree.r_ld {x : Tree} : ldC true 5 x.enc = some (.agg x.enc) := by rw [enc_eq]; rfl
theorem Tree.r_has {x : Tree} : hasN 5 x.enc = true := by rw [enc_eq]; rfl
theorem Tree.r_ov {x : Tree} {z0 z1 z2 z3 z4 : V} : over [z0, z1, z2, z3, z4] x.enc = x.enc := by rw [enc_eq]; rfl
theorem Tree.r_lo {x : Tree} {n : Nat} : loL n x.enc = true := by rw [enc_eq]; rfl
def Tree.rec_ := And.intro @Tree.r_len <| And.intro @Tree.r_one <| And.intro @Tree.r_nol <| And.intro @Tree.r_er <| And.intro @Tree.r_tk <| And.intro @Tree.r_ld <| And.intro @Tree.r_has <| And.intro @Tree.r_ov @Tree.r_lo
theorem Nd.r_len {x : Nd} : x.enc.length = 5 := by rw [Nd.enc_eq]; rfl
theorem Nd.r_one {x : Nd} : oneL x.enc = true := by rw [Nd.enc_eq]; rfl
theorem Nd.r_nol {x : Nd} : nolL x.enc = true := by rw [Nd.enc_eq]; rfl
theorem Nd.r_er {x : Nd} : eraseL x.enc = x.enc := by rw [Nd.enc_eq]; rfl
theorem Nd.r_tk {x : Nd} : takeN 5 x.enc = some x.enc := by rw [Nd.enc_eq]; rfl
theorem Nd.r_ld {x : Nd} : ldC true 5 x.enc = some (.agg x.enc) := by rw [Nd.enc_eq]; rfl
theorem Nd.r_has {x : Nd} : hasN 5 x.enc = true := by rw [Nd.enc_eq]; rfl
theorem Nd.r_ov {x : Nd} {z0 z1 z2 z3 z4 : V} : over [z0, z1, z2, z3, z4] x.enc = x.enc := by rw [Nd.enc_eq]; rfl
theorem Nd.r_lo {x : Nd} {n : Nat} : loL n x.enc = true := by rw [Nd.enc_eq]; rfl
def Nd.rec_ := And.intro @Nd.r_len <| And.intro @Nd.r_one <| And.intro @Nd.r_nol <| And.intro @Nd.r_er <| And.intro @Nd.r_tk <| And.intro @Nd.r_ld <| And.intro @Nd.r_has <| And.intro @Nd.r_ov @Nd.r_lo
theorem Word.r_len {x : Word} : x.enc.length = 2 := by rw [Word.enc]; rfl
theorem Word.r_one {x : Word} : oneL x.enc = true := by rw [Word.enc]; rfl
theorem Word.r_nol {x : Word} : nolL x.enc = true := by rw [Word.enc]; rfl
theorem Word.r_er {x : Word} : eraseL x.enc = x.enc := by rw [Word.enc]; rfl
theorem Word.r_tk {x : Word} : takeN 2 x.enc = some x.enc := by rw [Word.enc]; rfl
theorem Word.r_ld {x : Word} : ldC true 2 x.enc = some (.agg x.enc) := by rw [Word.enc]; rfl
theorem Word.r_has {x : Word} : hasN 2 x.enc = true := by rw [Word.enc]; rfl
theorem Word.r_ov {x : Word} {z0 z1 : V} : over [z0, z1] x.enc = x.enc := by rw [Word.enc]; rfl
theorem Word.r_lo {x : Word} {n : Nat} : loL n x.enc = true := by rw [Word.enc]; rfl
def Word.rec_ := And.intro @Word.r_len <| And.intro @Word.r_one <| And.intro @Word.r_nol <| And.intro @Word.r_er <| And.intro @Word.r_tk <| And.intro @Word.r_ld <| And.intro @Word.r_has <| And.intro @Word.r_ov @Word.r_lo
theorem Got.r_len {x : Got} : x.enc.length = 8 := by rw [Got.enc]; rfl
theorem Got.r_one {x : Got} : oneL x.enc = true := by rw [Got.enc]; rfl
theorem Got.r_nol {x : Got} : nolL x.enc = true := by rw [Got.enc]; rfl
theorem Got.r_er {x : Got} : eraseL x.enc = x.enc := by rw [Got.enc]; rfl
theorem Got.r_tk {x : Got} : takeN 8 x.enc = some x.enc := by rw [Got.enc]; rfl
theorem Got.r_ld {x : Got} : ldC true 8 x.enc = some (.agg x.enc) := by rw [Got.enc]; rfl
theorem Got.r_has {x : Got} : hasN 8 x.enc = true := by rw [Got.enc]; rfl
theorem Got.r_ov {x : Got} {z0 z1 z2 z3 z4 z5 z6 z7 : V} : over [z0, z1, z2, z3, z4, z5, z6, z7] x.enc = x.enc := by rw [Got.enc]; rfl
theorem Got.r_lo {x : Got} {n : Nat} : loL n x.enc = true := by rw [Got.enc]; rfl
def Got.rec_ := And.intro @Got.r_len <| And.intro @Got.r_one <| And.intro @Got.r_nol <| And.intro @Got.r_er <| And.intro @Got.r_tk <| And.intro @Got.r_ld <| And.intro @Got.r_has <| And.intro @Got.r_ov @Got.r_lo
theorem Nd.x1 {r : Nd} : r.enc.drop 1 = [V.int .i64 r.pos, .str r.text, .sl .no 2 (r.names.map Word.enc), .sl .no 5 (r.kids.map Nd.enc)] := by rw [Nd.enc_eq]; rfl
theorem Nd.x2 {r : Nd} : r.enc.drop 2 = [V.str r.text, .sl .no 2 (r.names.map Word.enc), .sl .no 5 (r.kids.map Nd.enc)] := by rw [Nd.enc_eq]; rfl
theorem Nd.x3 {r : Nd} : r.enc.drop 3 = [V.sl .no 2 (r.names.map Word.enc), .sl .no 5 (r.kids.map Nd.enc)] := by rw [Nd.enc_eq]; rfl
theorem Nd.x4 {r : Nd} : r.enc.drop 4 = [V.sl .no 5 (r.kids.map Nd.enc)] := by rw [Nd.enc_eq]; rfl
theorem Nd.x0 {r : Nd} : ldC false 1 r.enc = some (.int .i64 r.kind) := by rw [Nd.enc_eq]; rfl
def Nd.fl := And.intro @Nd.x0 <| And.intro @Nd.x1 <| And.intro @Nd.x2 <| And.intro @Nd.x3 @Nd.x4
theorem Tree.x1 {r : Tree} : r.enc.drop 1 = [V.str r.tok.text, .int .i64 r.tok.pos, .sl .no 5 (encs r.kids), .int .i64 r.fin] := by rw [enc_eq]; rfl
theorem Tree.x2 {r : Tree} : r.enc.drop 2 = [V.int .i64 r.tok.pos, .sl .no 5 (encs r.kids), .int .i64 r.fin] := by rw [enc_eq]; rfl
theorem Tree.x3 {r : Tree} : r.enc.drop 3 = [V.sl .no 5 (encs r.kids), .int .i64 r.fin] := by rw [enc_eq]; rfl
theorem Tree.x4 {r : Tree} : r.enc.drop 4 = [V.int .i64 r.fin] := by rw [enc_eq]; rfl
theorem Tree.x0 {r : Tree} : ldC false 1 r.enc = some (.int .u8 r.tok.kind) := by rw [enc_eq]; rfl
theorem Tree.xt {r : Tree} : ldC true 3 r.enc = some (.agg [.int .u8 r.tok.kind, .str r.tok.text, .int .i64 r.tok.pos]) := by rw [enc_eq]; rfl
def Tree.fl := And.intro @Tree.x0 <| And.intro @Tree.xt <| And.intro @Tree.x1 <| And.intro @Tree.x2 <| And.intro @Tree.x3 @Tree.x4
end Go.Am

namespace Go.Am
def Got.put (g : Got) (f : Nd → Nd) : Got := if g.bad = true then g else { g with node := f g.node }
end Go.Am

namespace Go.Am
def letZ (c : Int) : Bool := decide (97 ≤ c) && decide (c ≤ 122)
def goesZ (c : Int) : Bool := letZ c || (decide (48 ≤ c) && decide (c ≤ 57)) || decide (c = 95)
def signs : List Int := [35, 43, 38, 40, 41, 123, 125, 91, 93, 44, 58, 61, 124, 60]
def signZ (c : Int) : Bool := signs.any fun s => decide (s = c)
def closing (c : Int) : Int := if c = 40 then 41 else if c = 123 ∨ c = 91 then c + 2 else 0
def closesZ (c : Int) : Bool := decide (c = 41) || decide (c = 125) || decide (c = 93)
def goesB (c : UInt8) : Bool := goesZ c.toNat
def letB (c : UInt8) : Bool := letZ c.toNat
def nameR (s : List UInt8) : Bool := decide (s.length ≤ 16) && (match s with | [] => false | c :: r => letB c && r.all goesB)
end Go.Am

namespace Go.Am
def Tok.enc (t : Tok) : List V := [.int .u8 t.kind, .str t.text, .int .i64 t.pos]
def runR (r : List UInt8) : List UInt8 := r.takeWhile goesB
def lexF : Nat → Nat → List UInt8 → List Tok → List Tok × Option Int
  | 0, _, _, acc => (acc, none)
  | _, _, [], acc => (acc, none)
  | n + 1, p, c :: r, acc =>
    if c.toNat = 45 ∧ (r.head?.map UInt8.toNat) = some 45 then (acc, none)
    else if 0 < (runR (c :: r)).length ∧ nameR (runR (c :: r)) = true then lexF n (p + (runR (c :: r)).length) ((c :: r).drop (runR (c :: r)).length) (acc ++ [⟨97, runR (c :: r), p⟩])
    else if signZ (c.toNat : Nat) = true then lexF n (p + 1) r (acc ++ [⟨(c.toNat : Nat), [c], p⟩])
    else if c.toNat = 32 ∨ c.toNat = 9 then lexF n (p + 1) r acc
    else ([], some p)
def lexR (s : List UInt8) : List Tok × Option Int := lexF s.length 0 s []
def badL (b : Option Int) : V := .agg [.int .i64 (match b with | some _ => 1 | none => 0), .int .i64 (badA b)]
def kindAt (l : List Tok) (i : Nat) : Int := match l[i]? with | some t => t.kind | none => 0
def partnerF (l : List Tok) (at_ : Nat) : Nat → Nat → Int → Nat
  | 0, _, _ => at_
  | n + 1, i, deep =>
    let d := (deep + (if closing (kindAt l i) ≠ 0 then 1 else 0)) - (if closesZ (kindAt l i) = true then 1 else 0)
    if d = 0 then i else partnerF l at_ n (i + 1) d
def tokN (l : List Tok) (i : Nat) : Tok := match l[i]? with | some t => t | none => ⟨0, [], 0⟩
def textF : Option Int → List Tok → List UInt8
  | _, [] => []
  | k, t :: ts => (if k = some 97 ∧ t.kind = 97 then [32] else []) ++ t.text ++ textF (some t.kind) ts
def textR (l : List Tok) : List UInt8 := textF none l
mutual
def Tree.flat : Tree → List Tok
  | .mk t ks e => t :: (if closing t.kind ≠ 0 then flats ks ++ [⟨closing t.kind, [UInt8.ofNat (closing t.kind).toNat], e⟩] else [])
def flats : List Tree → List Tok
  | [] => []
  | t :: ts => t.flat ++ flats ts
end
theorem runR_len (r : List UInt8) : (runR r).length ≤ r.length := by
  unfold runR
  exact List.Sublist.length_le (List.takeWhile_sublist _)
theorem runR_le {s : List UInt8} {a : Nat} : (runR (s.drop a)).length ≤ s.length - a := by
  have := runR_len (s.drop a)
  rwa [List.length_drop] at this
theorem takeWhile_take {α : Type} {f : α → Bool} : ∀ (r : List α), r.take (r.takeWhile f).length = r.takeWhile f
  | [] => rfl
  | c :: r => by
    simp only [List.takeWhile_cons]
    split
    · simp [takeWhile_take r]
    · simp
theorem cut_run {s : List UInt8} {a : Nat} : (s.take (a + (runR (s.drop a)).length)).drop a = runR (s.drop a) := by
  rw [List.drop_take, Nat.add_sub_cancel_left]
  exact takeWhile_take _
theorem cut_one {s : List UInt8} {a : Nat} (h : a < s.length) : (s.take (a + 1)).drop a = [s[a]] := by
  rw [List.drop_take, Nat.add_sub_cancel_left, List.drop_eq_getElem_cons h]; rfl
theorem lexF_len : ∀ (n p : Nat) (r : List UInt8) (acc : List Tok), r.length ≤ n → (lexF n p r acc).1.length ≤ acc.length + r.length
  | 0, _, r, acc, _ => by cases r <;> simp [lexF]
  | n + 1, p, [], acc, _ => by simp [lexF]
  | n + 1, p, c :: r, acc, h => by
    simp only [lexF]
    have hr := runR_len (c :: r)
    simp only [List.length_cons] at h hr ⊢
    split
    · simp only; omega
    · split
      · rename_i h1
        have := lexF_len n (p + (runR (c :: r)).length) ((c :: r).drop (runR (c :: r)).length) (acc ++ [⟨97, runR (c :: r), p⟩]) (by simp; omega)
        simp at this; omega
      · split
        · have := lexF_len n (p + 1) r (acc ++ [⟨(c.toNat : Nat), [c], p⟩]) (by omega)
          simp at this; omega
        · split
          · have := lexF_len n (p + 1) r acc (by omega); omega
          · simp
theorem lexR_len (s : List UInt8) : (lexR s).1.length ≤ s.length := by
  have := lexF_len s.length 0 s [] (Nat.le_refl _)
  simpa [lexR] using this
end Go.Am

namespace Go.Am
def joinC : List (List UInt8) → List UInt8
  | [] => []
  | x :: xs => x ++ xs.flatMap fun y => 44 :: y
theorem joinC_snoc (l : List (List UInt8)) (y : List UInt8) : joinC (l ++ [y]) = joinC l ++ (if 0 < l.length then [44] else []) ++ y := by
  cases l with
  | nil => simp [joinC]
  | cons x xs => simp [joinC]
theorem joinC_len : ∀ l : List (List UInt8), (joinC l).length ≤ (l.map fun x => x.length + 1).sum
  | [] => by simp [joinC]
  | x :: xs => by
    simp only [joinC, List.length_append, List.length_flatMap, List.map_cons, List.sum_cons]
    have : (xs.map fun y => (44 :: y).length) = xs.map fun x => x.length + 1 := by simp
    rw [this]; omega
def wtext (ws : List Word) : List UInt8 := joinC (ws.map Word.text)
def headT : List (List UInt8) → List UInt8
  | [] => []
  | x :: _ => x
mutual
def Nd.txt : Nd → List UInt8
  | .mk k _ t ws ks =>
    if k = 1 ∨ k = 2 then t
    else if k = 3 then [123] ++ wtext ws ++ [125]
    else if k = 4 then [40] ++ joinC (txts ks) ++ [41]
    else if k = 5 then [91] ++ joinC (txts ks) ++ [93]
    else if k = 6 then t ++ [58, 123] ++ wtext ws ++ [125]
    else if k = 7 then [35] ++ headT (txts ks)
    else if k = 8 then [43, 40] ++ joinC (txts ks) ++ [41]
    else if k = 9 then [38, 40] ++ joinC (txts ks) ++ [41]
    else if k = 10 then ([91] ++ joinC (txts ks)) ++ (if 0 < ws.length then [124] ++ wtext ws else []) ++ [93]
    else if k = 11 then t ++ [61] ++ headT (txts ks)
    else []
def txts : List Nd → List (List UInt8)
  | [] => []
  | n :: ns => n.txt :: txts ns
end
theorem txts_map : ∀ l, txts l = l.map Nd.txt
  | [] => rfl
  | n :: ns => by simp [txts, txts_map ns]
def wsum (ws : List Word) : Nat := (ws.map fun w => w.text.length + 1).sum
mutual
def Nd.wt : Nd → Nat
  | .mk _ _ t ws ks => t.length + wsum ws + wts ks + 4
def wts : List Nd → Nat
  | [] => 0
  | n :: ns => n.wt + 1 + wts ns
end
theorem wts_map : ∀ l, wts l = (l.map fun n => n.wt + 1).sum
  | [] => rfl
  | n :: ns => by simp [wts, wts_map ns]
theorem wtext_len (ws : List Word) : (wtext ws).length ≤ wsum ws := by
  have := joinC_len (ws.map Word.text)
  simpa [wtext, wsum, List.map_map, Function.comp_def] using this
theorem wt_mem {l : List Nd} {n : Nd} (h : n ∈ l) : n.wt + 1 ≤ wts l := by
  induction l with
  | nil => simp at h
  | cons m ms ih =>
    rcases List.mem_cons.1 h with rfl | h
    · simp only [wts]; omega
    · have := ih h; simp only [wts]; omega
theorem ktext_len : ∀ (l : List Nd), (∀ n ∈ l, n.txt.length ≤ n.wt) → (joinC (txts l)).length ≤ wts l := fun l h => by
  refine Nat.le_trans (joinC_len _) ?_
  rw [txts_map, wts_map, List.map_map]
  induction l with
  | nil => simp
  | cons n ns ih =>
    simp only [List.map_cons, List.sum_cons, Function.comp]
    have h1 := h n (by simp)
    have h2 := ih fun m hm => h m (by simp [hm])
    omega
theorem head_len (l : List Nd) (h : ∀ n ∈ l, n.txt.length ≤ n.wt) : (headT (txts l)).length ≤ wts l := by
  cases l with
  | nil => simp [txts, headT]
  | cons n ns => have := h n (by simp); simp only [txts, headT, wts]; omega
mutual
theorem txt_len : ∀ (n : Nd), n.txt.length ≤ n.wt
  | .mk k p t ws ks => by
    have h1 := wtext_len ws
    have h2 := ktext_len ks (txt_lens ks)
    have h3 := head_len ks (txt_lens ks)
    simp only [Nd.txt, Nd.wt]
    repeat' split
    all_goals (try simp only [List.length_append, List.length_cons, List.length_nil])
    all_goals omega
theorem txt_lens : ∀ (l : List Nd), ∀ n ∈ l, n.txt.length ≤ n.wt
  | [], n, h => by simp at h
  | m :: ms, n, h => by
    rcases List.mem_cons.1 h with h | h
    · rw [h]; exact txt_len m
    · exact txt_lens ms n h
end
end Go.Am

namespace Go.Am
def rightW (ws : List Word) : Bool := ws.all fun w => nameR w.text
def Nd.leafQ (n : Nd) : Bool := nameR n.text && decide ((n.names.length : Int) + n.kids.length = 0)
def Nd.bareQ (n : Nd) : Bool := decide (n.text = []) && decide ((n.names.length : Int) = 0)
def Nd.ruleQ (n : Nd) : Bool := decide (n.kind = 6) && nameR n.text && rightW n.names && decide ((n.kids.length : Int) = 0)
mutual
def Nd.constQ : Nd → Bool
  | .mk k p t ws ks =>
    if k = 2 then (Nd.mk k p t ws ks).leafQ
    else if k = 3 then decide (t = []) && rightW ws && decide ((ks.length : Int) = 0)
    else if k = 4 then (Nd.mk k p t ws ks).bareQ && decide ((0 : Int) < ks.length) && constsQ ks
    else if k = 5 then (Nd.mk k p t ws ks).bareQ && ks.all Nd.ruleQ
    else false
def constsQ : List Nd → Bool
  | [] => true
  | n :: ns => n.constQ && constsQ ns
end
theorem constsQ_all : ∀ l, constsQ l = l.all Nd.constQ
  | [] => rfl
  | n :: ns => by simp [constsQ, constsQ_all ns]
theorem Nd.constQ_eq (n : Nd) : n.constQ = if n.kind = 2 then n.leafQ else if n.kind = 3 then decide (n.text = []) && rightW n.names && decide ((n.kids.length : Int) = 0)
    else if n.kind = 4 then n.bareQ && decide ((0 : Int) < n.kids.length) && n.kids.all Nd.constQ else if n.kind = 5 then n.bareQ && n.kids.all Nd.ruleQ else false := by
  cases n; rw [← constsQ_all]; rw [Nd.constQ]; rfl
def headQ (f : Nd → Bool) : List Nd → Bool
  | [] => false
  | n :: _ => f n
mutual
def Nd.labelQ : Nd → Bool
  | .mk k p t ws ks =>
    if k = 1 then (Nd.mk k p t ws ks).leafQ
    else if k = 7 then (Nd.mk k p t ws ks).bareQ && decide ((ks.length : Int) = 1) && headQ Nd.constQ ks
    else if k = 8 ∨ k = 9 then (Nd.mk k p t ws ks).bareQ && decide ((0 : Int) < ks.length) && labelsQ ks
    else false
def labelsQ : List Nd → Bool
  | [] => true
  | n :: ns => n.labelQ && labelsQ ns
end
theorem labelsQ_all : ∀ l, labelsQ l = l.all Nd.labelQ
  | [] => rfl
  | n :: ns => by simp [labelsQ, labelsQ_all ns]
theorem Nd.labelQ_eq (n : Nd) : n.labelQ = if n.kind = 1 then n.leafQ else if n.kind = 7 then n.bareQ && decide ((n.kids.length : Int) = 1) && headQ Nd.constQ n.kids
    else if n.kind = 8 ∨ n.kind = 9 then n.bareQ && decide ((0 : Int) < n.kids.length) && n.kids.all Nd.labelQ else false := by
  cases n; rw [← labelsQ_all]; rw [Nd.labelQ]; rfl
def Nd.atomQ (n : Nd) : Bool := (decide (n.kind = 1) || decide (n.kind = 7)) && n.labelQ
def Nd.fieldQ (n : Nd) : Bool := decide (n.kind = 11) && nameR n.text && decide ((n.names.length : Int) = 0) && decide ((n.kids.length : Int) = 1) && headQ Nd.atomQ n.kids
def Nd.rowQ (n : Nd) : Bool :=
  if n.kind = 10 then decide (n.text = []) && decide ((n.names.length : Int) ≤ 1) && rightW n.names && n.kids.all Nd.fieldQ else decide (n.kind = 1) && n.labelQ
def sameW : List Word → List Word → Bool
  | [], [] => true
  | w :: ws, u :: us => decide (w.text = u.text) && sameW ws us
  | _, _ => false
mutual
def Nd.sameQ : Nd → Nd → Bool
  | .mk k _ t ws ks, n => decide (k = n.kind) && decide (t = n.text) && sameW ws n.names && samesQ ks n.kids
def samesQ : List Nd → List Nd → Bool
  | [], [] => true
  | n :: ns, m :: ms => n.sameQ m && samesQ ns ms
  | _, _ => false
end
theorem Nd.sameQ_eq (n m : Nd) : n.sameQ m = (decide (n.kind = m.kind) && decide (n.text = m.text) && sameW n.names m.names && samesQ n.kids m.kids) := by cases n; rw [Nd.sameQ]; rfl
theorem sameW_refl : ∀ l, sameW l l = true
  | [] => rfl
  | w :: ws => by simp [sameW, sameW_refl ws]
mutual
theorem Nd.sameQ_refl : ∀ n : Nd, n.sameQ n = true
  | .mk k p t ws ks => by simp [Nd.sameQ, Nd.kind, Nd.text, Nd.names, Nd.kids, sameW_refl, samesQ_refl ks]
theorem samesQ_refl : ∀ l : List Nd, samesQ l l = true
  | [] => by simp [samesQ]
  | n :: ns => by simp [samesQ, Nd.sameQ_refl n, samesQ_refl ns]
end
theorem sameW_len : ∀ {a b : List Word}, sameW a b = true → a.length = b.length
  | [], [], _ => rfl
  | [], _ :: _, h => by simp [sameW] at h
  | _ :: _, [], h => by simp [sameW] at h
  | _ :: ws, _ :: us, h => by simp only [sameW, Bool.and_eq_true] at h; simp [sameW_len h.2]
theorem samesQ_len : ∀ {a b : List Nd}, samesQ a b = true → a.length = b.length
  | [], [], _ => rfl
  | [], _ :: _, h => by simp [samesQ] at h
  | _ :: _, [], h => by simp [samesQ] at h
  | _ :: ws, _ :: us, h => by simp only [samesQ, Bool.and_eq_true] at h; simp [samesQ_len h.2]
theorem sameW_at : ∀ {a b : List Word} {i : Nat} (ha : i < a.length) (hb : i < b.length), a.length = b.length → sameW (a.take i) (b.take i) = true → sameW (a.take (i + 1)) (b.take (i + 1)) = decide (a[i].text = b[i].text) ∧ (decide (a[i].text = b[i].text) = false → sameW a b = false)
  | w :: ws, u :: us, 0, _, _, _, _ => by simp [sameW]; intro h1 h2; exact absurd h2 h1
  | w :: ws, u :: us, i + 1, ha, hb, hl, h => by
    simp only [List.take_succ_cons, sameW, Bool.and_eq_true] at h ⊢
    have := sameW_at (a := ws) (b := us) (i := i) (by simpa using ha) (by simpa using hb) (by simpa using hl) h.2
    simp only [h.1, Bool.true_and, List.getElem_cons_succ]
    exact this
  | [], _, _, ha, _, _, _ => by simp at ha
  | _ :: _, [], _, _, hb, _, _ => by simp at hb
theorem samesQ_at : ∀ {a b : List Nd} {i : Nat} (ha : i < a.length) (hb : i < b.length), a.length = b.length → samesQ (a.take i) (b.take i) = true → samesQ (a.take (i + 1)) (b.take (i + 1)) = a[i].sameQ b[i] ∧ (a[i].sameQ b[i] = false → samesQ a b = false)
  | w :: ws, u :: us, 0, _, _, _, _ => by simp [samesQ]; intro h1 h2; rw [h1] at h2; simp at h2
  | w :: ws, u :: us, i + 1, ha, hb, hl, h => by
    simp only [List.take_succ_cons, samesQ, Bool.and_eq_true] at h ⊢
    have := samesQ_at (a := ws) (b := us) (i := i) (by simpa using ha) (by simpa using hb) (by simpa using hl) h.2
    simp only [h.1, Bool.true_and, List.getElem_cons_succ]
    exact this
  | [], _, _, ha, _, _, _ => by simp at ha
  | _ :: _, [], _, _, hb, _, _ => by simp at hb
end Go.Am

namespace Go.Am
mutual
def Nd.cnt : Nd → Nat
  | .mk _ _ _ ws ks => 1 + ws.length + cnts ks
def cnts : List Nd → Nat
  | [] => 0
  | n :: ns => n.cnt + cnts ns
end
theorem cnts_append : ∀ a b : List Nd, cnts (a ++ b) = cnts a + cnts b
  | [], b => by simp [cnts]
  | x :: xs, b => by simp only [List.cons_append, cnts, cnts_append xs b]; omega
theorem cnts_at {l : List Nd} {i : Nat} (h : i < l.length) : cnts (l.take (i + 1)) = cnts (l.take i) + l[i].cnt := by
  rw [List.take_add_one, List.getElem?_eq_getElem h, cnts_append]; simp [cnts]
theorem cnts_take (l : List Nd) (i : Nat) : cnts (l.take i) ≤ cnts l := by
  have := cnts_append (l.take i) (l.drop i)
  rw [List.take_append_drop] at this
  omega
theorem wlen (l : List Word) : l.length ≤ wsum l := by
  unfold wsum
  induction l with
  | nil => simp
  | cons w ws ih => simp only [List.map_cons, List.sum_cons, List.length_cons]; omega
mutual
theorem cnt_wt : ∀ n : Nd, n.cnt ≤ n.wt
  | .mk k p t ws ks => by
    have := cnts_wt ks
    have := wlen ws
    simp only [Nd.cnt, Nd.wt]; omega
theorem cnts_wt : ∀ l : List Nd, cnts l ≤ wts l
  | [] => by simp [cnts, wts]
  | n :: ns => by
    have := cnt_wt n
    have := cnts_wt ns
    simp only [cnts, wts]; omega
end
end Go.Am

namespace Go.Am
def delta (l : List Tok) (i : Nat) : Int := (if closing (kindAt l i) ≠ 0 then 1 else 0) - (if closesZ (kindAt l i) = true then 1 else 0)
theorem partnerF_succ {l : List Tok} {x n i : Nat} {d : Int} : partnerF l x (n + 1) i d = if d + delta l i = 0 then i else partnerF l x n (i + 1) (d + delta l i) := by
  simp only [partnerF, delta]
  have e : d + (if closing (kindAt l i) ≠ 0 then 1 else 0) - (if closesZ (kindAt l i) = true then 1 else 0) = d + ((if closing (kindAt l i) ≠ 0 then 1 else 0) - (if closesZ (kindAt l i) = true then 1 else 0)) := by omega
  rw [e]
  rfl
theorem delta_ge (l : List Tok) (i : Nat) : -1 ≤ delta l i := by unfold delta; split <;> split <;> omega
theorem partnerF_rng {l : List Tok} {x : Nat} : ∀ (n i : Nat) (d : Int), partnerF l x n i d = x ∨ i ≤ partnerF l x n i d
  | 0, _, _ => .inl rfl
  | n + 1, i, d => by
    rw [partnerF_succ]
    split
    · exact .inr (Nat.le_refl _)
    · rcases partnerF_rng n (i + 1) (d + delta l i) with h | h
      · exact .inl h
      · exact .inr (by omega)
theorem less {l : List Tok} {x y : Nat} : ∀ (n p : Nat) (a b : Int), 1 ≤ a → a < b → y < p → x < p → p ≤ partnerF l x n p b → partnerF l y n p a < partnerF l x n p b
  | 0, p, a, b, _, _, _, hx, h => by simp only [partnerF] at h; omega
  | n + 1, p, a, b, ha, hb, hy, hx, h => by
    have hd := delta_ge l p
    simp only [partnerF_succ] at h ⊢
    rw [if_neg (show ¬ b + delta l p = 0 by omega)] at h ⊢
    have h2 : p + 1 ≤ partnerF l x n (p + 1) (b + delta l p) := by rcases partnerF_rng (l := l) (x := x) n (p + 1) (b + delta l p) with e | e <;> omega
    split
    · omega
    · exact less n (p + 1) _ _ (by omega) (by omega) (by omega) (by omega) h2
end Go.Am

namespace Go.Am
structure Eats (r r' : Rdr) (seg : List Tree) : Prop where
  ex : ∃ pre post, r.l = pre ++ seg ++ post ∧ r.at_ = (pre.length : Nat) ∧ r'.at_ = ((pre ++ seg).length : Nat)
  l : r'.l = r.l
  b : r.bad = none
  b' : r'.bad = none
theorem Eats.trans {r r' r'' : Rdr} {a b : List Tree} (h : Eats r r' a) (k : Eats r' r'' b) : Eats r r'' (a ++ b) := by
  obtain ⟨pre, post, e1, e2, e3⟩ := h.ex
  obtain ⟨pre', post', f1, f2, f3⟩ := k.ex
  refine ⟨⟨pre, post', ?_, e2, ?_⟩, k.l.trans h.l, h.b, k.b'⟩
  · have hl : (pre ++ a).length = pre'.length := by omega
    have : pre ++ a ++ post = pre' ++ (b ++ post') := by rw [← e1, ← h.l, f1, List.append_assoc]
    obtain ⟨g1, g2⟩ := List.append_inj this hl
    rw [e1, g2]; simp
  · rw [f3]
    have hl : (pre ++ a).length = pre'.length := by omega
    simp only [List.length_append] at hl ⊢
    omega
def szs (l : List Tree) : Nat := 26 * manys l
section
variable {β : Type} {one : Rdr → β × Rdr} {T : β → List UInt8} {Q : β → Prop} {S : β → Nat}
structure Has (T : β → List UInt8) (Q : β → Prop) (S : β → Nat) (seg : List Tree) (xs : List β) : Prop where
  t : textR (flats seg) = joinC (xs.map T)
  q : ∀ x ∈ xs, Q x
  s : (xs.map S).sum ≤ szs seg
  n : 0 < xs.length
end
end Go.Am

namespace Go.Am
def SN (n : Nd) : Nat := n.wt + 1
end Go.Am

namespace Go.Am
end Go.Am

namespace Go.Am
abbrev Sh := Int × List UInt8
def Tok.sh (t : Tok) : Sh := (t.kind, t.text)
def sgn (c : UInt8) : Sh := ((c.toNat : Nat), [c])
def LexTo (s : List UInt8) (ks : List Sh) : Prop := ∀ (n p : Nat) (acc : List Tok), s.length ≤ n → ∃ toks, lexF n p s acc = (acc ++ toks, none) ∧ toks.map Tok.sh = ks
def Stop : List UInt8 → Prop
  | [] => True
  | c :: _ => goesB c = false
theorem runR_no {c : UInt8} {s : List UInt8} (h : goesB c = false) : runR (c :: s) = [] := by simp [runR, List.takeWhile_cons, h]
theorem lex_sign {c : UInt8} (h1 : signZ (c.toNat : Nat) = true) (h2 : goesB c = false) (h3 : c.toNat ≠ 45) {s : List UInt8} {ks : List Sh} (h : LexTo s ks) : LexTo ([c] ++ s) ([sgn c] ++ ks) := by
  intro n p acc hn
  rcases n with _ | n
  · simp at hn
  obtain ⟨toks, e1, e2⟩ := h n (p + 1) (acc ++ [⟨(c.toNat : Nat), [c], p⟩]) (by simpa using hn)
  refine ⟨⟨(c.toNat : Nat), [c], p⟩ :: toks, ?_, by simp [Tok.sh, sgn, e2]⟩
  rw [List.singleton_append, lexF]
  rw [if_neg (fun h => h3 h.1), runR_no h2, if_neg (by simp), if_pos h1, e1]
  simp
def LexN (tx : List UInt8) (sh : List Sh) : Prop := ∀ s ks, Stop s → LexTo s ks → LexTo (tx ++ s) (sh ++ ks)
def LexS (tx : List UInt8) (sh : List Sh) : Prop := ∀ s ks, LexTo s ks → LexTo (tx ++ s) (sh ++ ks)
theorem LexS.n {t : List UInt8} {k : List Sh} (h : LexS t k) : LexN t k := fun s ks _ hl => h s ks hl
theorem lexS (c : UInt8) (h : (signZ (c.toNat : Nat) && !goesB c && decide (c.toNat ≠ 45)) = true) : LexS [c] [sgn c] := fun _ _ hl => by
  simp only [Bool.and_eq_true, Bool.not_eq_true', decide_eq_true_eq] at h
  exact lex_sign h.1.1 h.1.2 h.2 hl
theorem LexS.app {a b : List UInt8} {x y : List Sh} (h : LexS a x) (k : LexS b y) : LexS (a ++ b) (x ++ y) := fun s ks hl => by
  rw [List.append_assoc, List.append_assoc]; exact h _ _ (k _ _ hl)
theorem LexN.sign {a : List UInt8} {c : UInt8} {x : List Sh} (h : LexN a x) (hc : (signZ (c.toNat : Nat) && !goesB c && decide (c.toNat ≠ 45)) = true) : LexS (a ++ [c]) (x ++ [sgn c]) := fun s ks hl => by
  rw [List.append_assoc, List.append_assoc]
  have := hc
  simp only [Bool.and_eq_true, Bool.not_eq_true', decide_eq_true_eq] at this
  exact h _ _ this.1.2 (lexS c hc _ _ hl)
theorem LexS.nn {a b : List UInt8} {x y : List Sh} (h : LexS a x) (k : LexN b y) : LexN (a ++ b) (x ++ y) := fun s ks hs hl => by
  rw [List.append_assoc, List.append_assoc]; exact h _ _ (k _ _ hs hl)
end Go.Am

namespace Go.Am
end Go.Am

namespace Go.Am
end Go.Am

namespace Go.Am
def treeP : List Tok → List (Tok × List Tree) → List Tree → List Tree × Option Int
  | [], op, row => match op.getLast? with | some (t, _) => ([], some t.pos) | none => (row, none)
  | t :: ts, op, row =>
    if closing t.kind ≠ 0 then (if 24 ≤ op.length then ([], some t.pos) else treeP ts (op ++ [(t, row)]) [])
    else if closesZ t.kind = true then
      match op.getLast? with
      | none => ([], some t.pos)
      | some (u, ahead) => if closing u.kind = t.kind then treeP ts op.dropLast (ahead ++ [.mk u row t.pos]) else ([], some t.pos)
    else treeP ts op (row ++ [.mk t [] t.pos])
def Tk.ok (σ0 σ : Store) (n : Nat) : Tk → Prop
  | .full => True
  | .tk τ => σ0.tip τ = none ∧ σ.tip τ = some n
  | .no => False
def Tk.name : Tk → Option Nat
  | .tk τ => some τ
  | _ => none
def Toks (σ0 σ : Store) (L : List (Tk × Nat)) : Prop := σ0.sub σ ∧ (∀ p ∈ L, p.1.ok σ0 σ p.2) ∧ (L.filterMap fun p => p.1.name).Nodup
theorem Toks.init {σ : Store} {L : List (Tk × Nat)} (h : ∀ p ∈ L, p.1 = .full) : Toks σ σ L := by
  refine ⟨Store.sub_refl σ, fun p hp => by rw [h p hp]; trivial, ?_⟩
  have : L.filterMap (fun p => p.1.name) = [] := by
    rw [List.filterMap_eq_nil_iff]; intro p hp; rw [h p hp]; rfl
  rw [this]; exact List.nodup_nil
theorem Toks.perm {σ0 σ : Store} {L L' : List (Tk × Nat)} (h : Toks σ0 σ L) (hp : L.Perm L') : Toks σ0 σ L' :=
  ⟨h.1, fun p hm => h.2.1 p (hp.mem_iff.2 hm), (hp.filterMap _).nodup_iff.1 h.2.2⟩
theorem Toks.tail {σ0 σ : Store} {p : Tk × Nat} {L : List (Tk × Nat)} (h : Toks σ0 σ (p :: L)) : Toks σ0 σ L := by
  refine ⟨h.1, fun q hq => h.2.1 q (by simp [hq]), ?_⟩
  have := h.2.2
  simp only [List.filterMap_cons] at this
  split at this
  · exact this
  · exact (List.nodup_cons.1 this).2
theorem Toks.full {σ0 σ : Store} {n : Nat} {L : List (Tk × Nat)} (h : Toks σ0 σ L) : Toks σ0 σ ((.full, n) :: L) :=
  ⟨h.1, fun q hq => by rcases List.mem_cons.1 hq with rfl | hq; exact trivial; exact h.2.1 q hq, by simpa [List.filterMap_cons, Tk.name] using h.2.2⟩
theorem Toks.put {σ0 σ : Store} {tk : Tk} {n m τ : Nat} {L : List (Tk × Nat)} (h : Toks σ0 σ ((tk, n) :: L)) (h0 : σ0.tip τ = none) (ht : tk = .tk τ ∨ σ.tip τ = none) : Toks σ0 (σ.setTip τ m) ((.tk τ, m) :: L) := by
  have hnm : τ ∉ L.filterMap fun p => p.1.name := fun hm => by
    obtain ⟨⟨t, k⟩, hq, hn⟩ := List.mem_filterMap.1 hm
    cases t with
    | no => simp [Tk.name] at hn
    | full => simp [Tk.name] at hn
    | tk υ =>
      simp only [Tk.name, Option.some.injEq] at hn
      subst hn
      rcases ht with rfl | ht
      · have := h.2.2
        simp only [List.filterMap_cons, Tk.name] at this
        exact (List.nodup_cons.1 this).1 hm
      · have := (h.2.1 (.tk υ, k) (by simp [hq])).2
        rw [ht] at this; simp at this
  refine ⟨⟨h.1.1, fun t k hk => ?_⟩, fun p hp => ?_, ?_⟩
  · have hne : t ≠ τ := by rintro rfl; rw [h0] at hk; simp at hk
    simp only [Store.setTip, if_neg hne]
    exact h.1.2 t k hk
  · rcases List.mem_cons.1 hp with rfl | hp2
    · exact ⟨h0, by simp [Store.setTip]⟩
    · have := h.2.1 p (by simp [hp2])
      obtain ⟨t, k⟩ := p
      cases t with
      | no => exact this
      | full => trivial
      | tk υ =>
        have hne : υ ≠ τ := by rintro rfl; exact hnm (List.mem_filterMap.2 ⟨(.tk υ, k), hp2, rfl⟩)
        exact ⟨this.1, by simp only [Store.setTip, if_neg hne]; exact this.2⟩
  · simp only [List.filterMap_cons, Tk.name]
    exact List.nodup_cons.2 ⟨hnm, h.tail.2.2⟩
theorem Toks.fresh {σ0 σ : Store} {L : List (Tk × Nat)} (h : Toks σ0 σ L) {τ : Nat} (ht : σ.tip τ = none) : σ0.tip τ = none := by
  cases hq : σ0.tip τ with
  | none => rfl
  | some n => rw [h.1.2 τ n hq] at ht; simp at ht
theorem app_any {σ0 σ : Store} {tk u : Tk} {k : Nat} {m n : List (List V)} {K : V → Store → Prop} {L : List (Tk × Nat)} (h : Toks σ0 σ ((tk, m.length) :: L)) (hb : m.length + n.length ≤ big)
    (hk : ∀ τ, Toks σ0 (σ.setTip τ (m.length + n.length)) ((.tk τ, m.length + n.length) :: L) → K (.sl (.tk τ) k (m ++ n)) (σ.setTip τ (m.length + n.length))) : AppOk σ k (.sl tk k m) (.sl u k n) K := by
  have hh := h.2.1 (tk, m.length) (by simp)
  cases tk with
  | no => exact hh.elim
  | full => exact app_full hb fun τ hτ => hk τ (h.put (h.fresh hτ) (.inr hτ))
  | tk τ => exact app_tk hb hh.2 (hk τ (h.put hh.1 (.inl rfl)))
theorem own_keep {σ : Store} {H : V → Store → Prop} {k : Nat} {cs : List V} : OQ.sem σ H (.keep k) [.agg cs] = (cs.length = k ∧ nolL cs = true ∧ oneL cs = true ∧ H (.sl .full k [cs]) σ) := by
  simp only [OQ.sem, keepOk, keepV, V.wd, V.cells, Option.some.injEq]
  by_cases h : cs.length = k ∧ nolL cs = true ∧ oneL cs = true
  · rw [if_pos h]; simp [h]
  · rw [if_neg h]; simp; intro h1 h2 h3; exact absurd ⟨h1, h2, h3⟩ h
theorem slcL_full {k : Nat} {τ : Tk} {m : List (List V)} {j j' : IntKind} {b : Nat} {H : V → Prop} (h2 : b ≤ m.length) (h : H (.sl .full k (m.take b))) : slcL k (.sl τ k m) none (some (.int j b)) (some (.int j' b)) H := ⟨τ, m, 0, b, rfl, Nat.zero_le _, h2, rfl, ⟨j, rfl⟩, ⟨j', rfl⟩, h⟩
end Go.Am

namespace Go.Am
structure Cmd where
  op : Int
  pos : Int
  name : Word
  names : List Word
  pairs : List (Word × Word)
  pairsAt : Int
  left : Nd
  right : Nd
def Cmd.zero : Cmd := ⟨0, 0, ⟨[], 0⟩, [], [], 0, .zero, .zero⟩
def penc (p : Word × Word) : List V := [.str p.1.text, .int .i64 p.1.pos, .str p.2.text, .int .i64 p.2.pos]
def Cmd.encP (c : Cmd) (pc : V) : List V := [.int .i64 c.op, .int .i64 c.pos, .str c.name.text, .int .i64 c.name.pos, .sl .no 2 (c.names.map Word.enc), pc, .int .i64 c.pairsAt,
  .int .i64 c.left.kind, .int .i64 c.left.pos, .str c.left.text, .sl .no 2 (c.left.names.map Word.enc), .sl .no 5 (c.left.kids.map Nd.enc), .int .i64 c.right.kind, .int .i64 c.right.pos, .str c.right.text, .sl .no 2 (c.right.names.map Word.enc), .sl .no 5 (c.right.kids.map Nd.enc)]
def pcell : List (Word × Word) → V
  | [] => .sl .full 4 []
  | p :: ps => .sl .no 4 ((p :: ps).map penc)
def Cmd.enc (c : Cmd) : List V := c.encP (.sl .no 4 (c.pairs.map penc))
def formT : List (List UInt8 × List UInt8) :=
  [([], []), ([99, 104, 97, 105, 110], [110, 119]), ([112, 111, 119, 101, 114], [110, 119]), ([112, 114, 111, 100, 117, 99, 116], [110, 119]), ([103, 114, 105, 100], [110, 119, 112]), ([116, 97, 98, 108, 101], [110, 119, 112]), ([108, 97, 98, 101, 108], [110, 119]), ([114, 111, 119], [110, 119]), ([108, 101, 113], [110, 116, 116]), ([114, 111, 119, 101, 113], [110, 114, 114]), ([108, 97, 99, 107, 115], [110, 102]), ([112, 117, 115, 104], []), ([112, 111, 112], []), ([99, 104, 101, 99, 107], []), ([99, 111, 114, 101], []), ([119, 104, 121], [110])]
def formCells : List V := (formT.map fun p => [V.str p.1, V.str p.2]).flatten
def formOf (op : Int) : List UInt8 × List UInt8 := if 0 ≤ op ∧ op < 16 then formT.getD op.toNat ([], []) else ([], [])
def numF (w : List UInt8) : Nat → Nat → Int
  | 0, _ => 0
  | n + 1, op => if 0 < op ∧ (formOf op).1 = w then op else numF w n (op + 1)
def numberP (w : List UInt8) : Int := numF w 16 0
def Rdr.pairsG : Nat → Rdr → List (Word × Word) → Rdr × List (Word × Word)
  | 0, i, acc => (i, acc)
  | n + 1, i, acc =>
    if i.bad ≠ none then (i, acc)
    else
      if ((i.word.2.take 60).2.word).2.at_ = i.l.length then (((i.word.2.take 60).2.word).2, acc ++ [(i.word.1, ((i.word.2.take 60).2.word).1)])
      else pairsG n (((i.word.2.take 60).2.word).2.take 44).2 (acc ++ [(i.word.1, ((i.word.2.take 60).2.word).1)])
def Rdr.bads (r : Rdr) (b : Option Int) : Rdr := match b with | some a => { r with bad := some a } | none => r
def pairsP (r : Rdr) (c : Cmd) : Rdr × Cmd :=
  let t := (r.take 123).1
  let r1 := (r.take 123).2
  if r1.bad ≠ none ∨ t.kids.length = 0 then (r1, { c with pairsAt := t.tok.pos })
  else (r1.bads (t.inner.pairsG (t.kids.length + 1) []).1.bad, { c with pairsAt := t.tok.pos, pairs := (t.inner.pairsG (t.kids.length + 1) []).2 })
def nodeP (r : Rdr) (c : Cmd) (g : Nd × Int × Option Int) : Rdr × Cmd :=
  match g.2.2 with
  | some a => ({ r with bad := some a }, c)
  | none => ({ r with at_ := g.2.1 }, if c.left.kind = 0 then { c with left := g.1 } else { c with right := g.1 })
def partP (letter : UInt8) (x : Rdr × Cmd) : Rdr × Cmd :=
  if x.1.bad ≠ none then x
  else if letter = 110 then (x.1.word.2, { x.2 with name := x.1.word.1 })
  else if letter = 102 then (x.1.word.2, { x.2 with names := [x.1.word.1] })
  else if letter = 119 then ({ x.1 with bad := (wordsAt x.1.l x.1.at_ x.1.fin).2, at_ := x.1.at_ + 1 }, { x.2 with names := (wordsAt x.1.l x.1.at_ x.1.fin).1 })
  else if letter = 112 then pairsP x.1 x.2
  else if letter = 116 then nodeP x.1 x.2 (readAt (Rdr.label (manys x.1.l)) x.1.l x.1.at_ x.1.fin)
  else if letter = 114 then nodeP x.1 x.2 (readAt (Rdr.row (manys x.1.l)) x.1.l x.1.at_ x.1.fin)
  else x
def partsP : List UInt8 → Rdr × Cmd → Rdr × Cmd
  | [], x => x
  | k :: ks, x => partsP ks (partP k x)
def endP (x : Rdr × Cmd) : Cmd × Int × Int :=
  match (if x.1.bad = none ∧ x.1.at_ < x.1.l.length then x.1.fail else x.1).bad with
  | some a => (.zero, 2, a)
  | none => (x.2, 0, 0)
def cmdP (l : List Tree) (fin : Int) : Cmd × Int × Int :=
  match l with
  | [] => (.zero, 0, 0)
  | t :: _ =>
    let w := (⟨l, 0, fin, none⟩ : Rdr).word
    if numberP w.1.text = 0 then (.zero, 2, t.tok.pos)
    else endP (partsP (formOf (numberP w.1.text)).2 (w.2, { Cmd.zero with op := numberP w.1.text, pos := w.1.pos }))
def readP (s : List UInt8) : Cmd × Int × Int :=
  match (lexR s).2 with
  | some a => (.zero, 1, a)
  | none => match (treeP (lexR s).1 [] []).2 with
    | some a => (.zero, 2, a)
    | none => cmdP (treeP (lexR s).1 [] []).1 s.length
end Go.Am

namespace Go.Am
structure PInv (l : List Tree) (fin : Int) (x : Rdr × Cmd) : Prop where
  hl : x.1.l = l
  hf : x.1.fin = fin
  ge : 0 ≤ x.1.at_
  le : x.1.at_ ≤ (l.length : Int) + 1
  ok : x.1.bad = none → x.1.at_ ≤ (l.length : Int)
theorem fail_fin (r : Rdr) : r.fail.fin = r.fin := by unfold Rdr.fail; split <;> rfl
theorem take_fin (r : Rdr) (k : Int) : (r.take k).2.fin = r.fin := by
  unfold Rdr.take
  split
  · rfl
  · exact fail_fin r
theorem goes_row (n : Nat) (r : Rdr) : Goes r (r.row n).2 := by
  unfold Rdr.row
  split
  · rename_i hs
    have h := goes_take r 91
    have hb : (r.take 91).2.bad = none := by
      rcases r.take_at 91 with ⟨_, _, hb, _, _⟩ | ⟨h', _⟩
      · exact hb
      · rw [hs] at h'; simp at h'
    exact ⟨h.1, fun h1 h2 => by
      obtain ⟨p1, p2, p3⟩ := h.2 h1 h2
      exact ⟨p1, p2, fun _ => p3 hb⟩⟩
  · exact goes_leaf r 1
theorem PInv.goes {l : List Tree} {fin : Int} {x : Rdr × Cmd} {r : Rdr} {c : Cmd} (h : PInv l fin x) (hb : x.1.bad = none) (g : Goes x.1 r) (hf : r.fin = x.1.fin) : PInv l fin (r, c) := by
  obtain ⟨h1, h2, h3, h4, h5⟩ := h
  have h5 := h5 hb
  obtain ⟨g1, g2⟩ := g
  rw [h1] at g2
  have g2 := g2 h3 (by omega)
  exact ⟨g1.trans h1, hf.trans h2, by simp only; omega, by simp only; omega, fun _ => by simp only; omega⟩
theorem PInv.bad {l : List Tree} {fin : Int} {r : Rdr} {c c' : Cmd} {a : Int} (h : PInv l fin (r, c)) : PInv l fin ({ r with bad := some a }, c') := ⟨h.hl, h.hf, h.ge, h.le, fun h => by simp at h⟩
theorem nodeP_inv {l : List Tree} {fin : Int} {r : Rdr} {c : Cmd} {one : Rdr → Nd × Rdr} (h : PInv l fin (r, c)) (hb : r.bad = none) (ho : ∀ r, Goes r (one r).2) : PInv l fin (nodeP r c (readAt one r.l r.at_ r.fin)) := by
  unfold nodeP readAt
  have he : (⟨r.l, r.at_, r.fin, none⟩ : Rdr) = r := by cases r; simp only at hb; subst hb; rfl
  rw [he]
  cases hq : (one r).2.bad with
  | some a => exact h.bad
  | none =>
    obtain ⟨g1, g2⟩ := ho r
    have h5 := h.ok hb
    have h3 := h.ge
    have h1 := h.hl
    simp only at h5 h3 h1
    rw [h1] at g2
    have g2 := g2 h3 h5
    exact ⟨h.hl, h.hf, by simp only; omega, by simp only; omega, fun _ => by simp only; omega⟩
theorem pairsP_inv {l : List Tree} {fin : Int} {r : Rdr} {c : Cmd} (h : PInv l fin (r, c)) (hb : r.bad = none) : PInv l fin (pairsP r c) := by
  have h1 : ∀ c', PInv l fin ((r.take 123).2, c') := fun c' => PInv.goes (x := (r, c)) h hb (goes_take r 123) (take_fin r 123)
  unfold pairsP
  simp only
  split
  · exact h1 _
  · unfold Rdr.bads
    split
    · exact (h1 c).bad
    · exact h1 _
theorem partP_inv {l : List Tree} {fin : Int} {x : Rdr × Cmd} (h : PInv l fin x) (k : UInt8) : PInv l fin (partP k x) := by
  obtain ⟨r, c⟩ := x
  unfold partP
  simp only
  split
  · exact h
  rename_i hb
  have hb : r.bad = none := by simpa using hb
  split
  · exact PInv.goes (x := (r, c)) h hb (goes_word r) (take_fin r 97)
  split
  · exact PInv.goes (x := (r, c)) h hb (goes_word r) (take_fin r 97)
  split
  · have h5 := h.ok hb
    have h3 := h.ge
    simp only at h5 h3
    refine ⟨h.hl, h.hf, by simp only; omega, by simp only; omega, fun hn => ?_⟩
    have he : (⟨r.l, r.at_, r.fin, none⟩ : Rdr) = r := by cases r; simp only at hb; subst hb; rfl
    simp only [wordsAt, he] at hn
    cases hq : (r.words false).2.bad with
    | some a => rw [hq] at hn; simp at hn
    | none =>
      obtain ⟨g1, g2⟩ := goes_words r false
      have h1 := h.hl
      simp only at h1
      rw [h1] at g2
      have := (g2 h3 h5)
      have := this.2.2 hq
      simp only; omega
  split
  · exact pairsP_inv h hb
  split
  · exact nodeP_inv h hb (goes_label _)
  split
  · exact nodeP_inv h hb (goes_row _)
  · exact h
theorem partsP_snoc : ∀ (ks : List UInt8) (k : UInt8) (x : Rdr × Cmd), partsP (ks ++ [k]) x = partP k (partsP ks x)
  | [], _, _ => rfl
  | _ :: ks, k, x => partsP_snoc ks k _
theorem partsP_inv {l : List Tree} {fin : Int} : ∀ (ks : List UInt8) {x : Rdr × Cmd}, PInv l fin x → PInv l fin (partsP ks x)
  | [], _, h => h
  | k :: ks, _, h => partsP_inv ks (partP_inv h k)
theorem partP_pairs {k : UInt8} {x : Rdr × Cmd} (h : k ≠ 112 ∨ x.1.bad ≠ none) : (partP k x).2.pairs = x.2.pairs := by
  unfold partP
  split
  · rfl
  rename_i hb
  have hb : x.1.bad = none := by simpa using hb
  have hk : k ≠ 112 := by rcases h with h | h; exact h; exact absurd hb h
  split
  · rfl
  split
  · rfl
  split
  · rfl
  have hn : ∀ g, (nodeP x.1 x.2 g).2.pairs = x.2.pairs := fun g => by
    unfold nodeP
    split
    · rfl
    · simp only; split <;> rfl
  split
  · exact hn _
  split
  · exact hn _
  · rfl
theorem partsP_pairs : ∀ (ks : List UInt8) {x : Rdr × Cmd}, (∀ k ∈ ks, k ≠ 112) → (partsP ks x).2.pairs = x.2.pairs
  | [], _, _ => rfl
  | k :: ks, x, h => (partsP_pairs ks fun j hj => h j (by simp [hj])).trans (partP_pairs (.inl (h k (by simp))))
theorem form_once (op : Int) (i : Nat) (h : (formOf op).2[i]? = some 112) : ∀ k ∈ (formOf op).2.take i, k ≠ 112 := by
  unfold formOf at h ⊢
  split at h
  · rename_i h1
    rw [if_pos h1]
    have hlt : op.toNat < 16 := by omega
    generalize op.toNat = n at h hlt ⊢
    have key : ∀ n < 16, ∀ i < 3, (formT.getD n ([], [])).2[i]? = some 112 → ∀ k ∈ (formT.getD n ([], [])).2.take i, k ≠ 112 := by decide
    have hl : ∀ n < 16, (formT.getD n ([], [])).2.length ≤ 3 := by decide
    have := (List.getElem?_eq_some_iff.1 h).1
    exact key n hlt i (by have := hl n hlt; omega) h
  · simp at h
theorem form_ascii (op : Int) : ∀ c ∈ (formOf op).2, c.toNat < 128 := by
  unfold formOf
  split
  · rename_i h1
    have hlt : op.toNat < 16 := by omega
    generalize op.toNat = n at hlt ⊢
    have key : ∀ n < 16, ∀ c ∈ (formT.getD n ([], [])).2, c.toNat < 128 := by decide
    exact key n hlt
  · simp
end Go.Am

namespace Go.Am
end Go.Am

namespace Go.Am
theorem Env.ok.weak {E : Env} {σ σ' : Store} (h : E.ok σ) (ho : OLe σ σ') : E.ok σ' := by
  refine ⟨fun b cs hb => ?_, fun t n ht => h.tip t n (ho.tip t n ht), h.fresh, h.nt⟩
  obtain ⟨ds, h1, h2⟩ := ho.box b cs hb
  obtain ⟨k1, k2⟩ := h.box b ds h1
  exact ⟨k1, k2.weak h2⟩
theorem PCalls.le {P : Program} {f : FuncId} {as : List V} {σ : Store} {v : V} {S S' : Store} (h : PCalls P f as σ fun v' σ' => v' = v ∧ σ' = S) (ho : OLe S S') : PCalls P f as σ fun v' σ' => v' = v ∧ σ' = S' :=
  ⟨h.1, fun E vs h1 h2 h3 => (h.2 E vs h1 h2 h3).mono fun _ _ ⟨v', x, E', σ', a, b, c, d, e, f, g⟩ => ⟨v', x, E', S', a, b, c, (g.2 ▸ d).weak ho, e, f, g.1, rfl⟩⟩
theorem OLe.set {σ : Store} {b : Nat} {A B : List V} (h : LLe A B) : OLe (σ.set b A) (σ.set b B) := by
  refine ⟨fun x cs' hx => ?_, fun _ _ h => h⟩
  simp only [Store.set] at hx ⊢
  by_cases e : x = b
  · rw [if_pos e] at hx ⊢
    simp only [Option.some.injEq] at hx; subst hx
    exact ⟨A, Eq.refl _, h⟩
  · rw [if_neg e] at hx ⊢
    exact ⟨cs', hx, LLe.rfl⟩
end Go.Am

namespace Go.Am
end Go.Am

namespace Go.Am
def In (N p : Int) : Prop := 0 ≤ p ∧ p ≤ N
inductive TOk (N : Int) : Tree → Prop
  | mk (t : Tok) (ks : List Tree) (e : Int) : In N t.pos → In N e → (∀ k ∈ ks, TOk N k) → TOk N (.mk t ks e)
theorem TOk.fin {N : Int} {t : Tree} (h : TOk N t) : In N t.fin := by cases h; assumption
theorem TOk.pos {N : Int} {t : Tree} (h : TOk N t) : In N t.tok.pos := by cases h; assumption
theorem TOk.kids {N : Int} {t : Tree} (h : TOk N t) : ∀ k ∈ t.kids, TOk N k := by cases h; assumption
section
variable {N : Int} (h0 : 0 ≤ N)
include h0
end
end Go.Am

namespace Go.Am
def joinS (sep : List UInt8) : List (List UInt8) → List UInt8
  | [] => []
  | x :: xs => x ++ xs.flatMap fun y => sep ++ y
theorem joinS_snoc (sep : List UInt8) (l : List (List UInt8)) (y : List UInt8) : joinS sep (l ++ [y]) = joinS sep l ++ (if 0 < l.length then sep else []) ++ y := by
  cases l with
  | nil => simp [joinS]
  | cons x xs => simp [joinS]
theorem joinS_C (l : List (List UInt8)) : joinS [44] l = joinC l := by cases l <;> rfl
theorem joinS_take {sep : List UInt8} {l : List (List UInt8)} {i : Nat} (h : i < l.length) : joinS sep (l.take (i + 1)) = joinS sep (l.take i) ++ (if 0 < i then sep else []) ++ l[i] := by
  rw [List.take_succ_eq_append_getElem h, joinS_snoc, List.length_take, Nat.min_eq_left (Nat.le_of_lt h)]
theorem joinS_le {sep : List UInt8} {l : List (List UInt8)} {i : Nat} : (joinS sep (l.take i)).length ≤ (joinS sep l).length := by
  have key : ∀ a b : List (List UInt8), (joinS sep a).length ≤ (joinS sep (a ++ b)).length := fun a b => by
    cases a with
    | nil => simp [joinS]
    | cons x xs => simp [joinS, List.flatMap_append]
  have := key (l.take i) (l.drop i)
  rwa [List.take_append_drop] at this
def pairT (p : Word × Word) : List UInt8 := p.1.text ++ [60] ++ p.2.text
def braceT (l : List (List UInt8)) : List UInt8 := [123] ++ joinC l ++ [125]
def pieceT (k : UInt8) (c : Cmd) (n : Nd) : List UInt8 :=
  if k = 110 then c.name.text
  else if k = 102 then joinC (c.names.map Word.text)
  else if k = 119 then braceT (c.names.map Word.text)
  else if k = 112 then braceT (c.pairs.map pairT)
  else n.txt
def isTerm (k : UInt8) : Bool := k ≠ 110 && k ≠ 102 && k ≠ 119 && k ≠ 112
def stepC (c : Cmd) (x : List (List UInt8) × List Nd) (k : UInt8) : List (List UInt8) × List Nd := (x.1 ++ [pieceT k c (x.2.headD .zero)], if isTerm k = true then x.2.tail else x.2)
def piecesT (c : Cmd) (ks : List UInt8) : List (List UInt8) × List Nd := ks.foldl (stepC c) ([(formOf c.op).1], [c.left, c.right])
def textC (c : Cmd) : List UInt8 := joinS [32] (piecesT c (formOf c.op).2).1
theorem piecesT_snoc (c : Cmd) (ks : List UInt8) (k : UInt8) : piecesT c (ks ++ [k]) = stepC c (piecesT c ks) k := by simp [piecesT, List.foldl_append]
def psum (l : List (Word × Word)) : Nat := (l.map fun p => p.1.text.length + p.2.text.length + 2).sum
theorem psum_at {l : List (Word × Word)} {i : Nat} (h : i < l.length) : l[i].1.text.length + l[i].2.text.length + 2 ≤ psum l := by
  induction l generalizing i with
  | nil => simp at h
  | cons p ps ih =>
    cases i with
    | zero => simp [psum]
    | succ i =>
      have := ih (i := i) (by simp at h; omega)
      simp only [psum, List.map_cons, List.sum_cons, List.getElem_cons_succ] at this ⊢
      omega
theorem psum_len (l : List (Word × Word)) : (joinC (l.map pairT)).length ≤ psum l ∧ l.length ≤ psum l := by
  induction l with
  | nil => simp [joinC, psum]
  | cons p ps ih =>
    have key : ∀ qs : List (Word × Word), ((qs.map pairT).flatMap fun y => 44 :: y).length ≤ psum qs := fun qs => by
      induction qs with
      | nil => simp
      | cons q qs ih => simp [pairT, psum] at ih ⊢; omega
    have := key ps
    have := ih.2
    simp [joinC, pairT, psum] at *
    omega
def Cmd.wt (c : Cmd) : Nat := c.name.text.length + wsum c.names + psum c.pairs + c.left.wt + c.right.wt
theorem psum_word (l : List Word) : (joinC (l.map Word.text)).length ≤ wsum l ∧ l.length ≤ wsum l := ⟨wtext_len l, by
  induction l with
  | nil => simp
  | cons w ws ih => simp [wsum] at ih ⊢; omega⟩
theorem piece_len {k : UInt8} {c : Cmd} {n : Nd} (h : n.wt ≤ c.wt) : (pieceT k c n).length ≤ c.wt + 2 := by
  have h1 := (psum_word c.names).1
  have h2 := (psum_len c.pairs).1
  have h3 := txt_len n
  have h4 : c.wt = c.name.text.length + wsum c.names + psum c.pairs + c.left.wt + c.right.wt := rfl
  unfold pieceT braceT
  split
  · omega
  split
  · omega
  split
  · simp; omega
  split
  · simp; omega
  · omega
theorem word_len (op : Int) : (formOf op).1.length ≤ 8 := by
  unfold formOf
  split
  · rename_i h1
    have hlt : op.toNat < 16 := by omega
    generalize op.toNat = n at hlt ⊢
    have key : ∀ n < 16, (formT.getD n ([], [])).1.length ≤ 8 := by decide
    exact key n hlt
  · simp
theorem zero_wt : Nd.zero.wt = 4 := by simp [Nd.zero, Nd.wt, wsum, wts]
theorem wt_four (n : Nd) : 4 ≤ n.wt := by cases n; simp only [Nd.wt]; omega
theorem pieces_ok (c : Cmd) (ks : List UInt8) : (∀ x ∈ (piecesT c ks).1, x.length ≤ c.wt + 8) ∧ (∀ n ∈ (piecesT c ks).2, n.wt ≤ c.wt) ∧ (piecesT c ks).1.length = ks.length + 1 ∧ (piecesT c ks).2 = [c.left, c.right].drop (ks.filter isTerm).length := by
  have hc : c.wt = c.name.text.length + wsum c.names + psum c.pairs + c.left.wt + c.right.wt := rfl
  rcases List.eq_nil_or_concat ks with rfl | ⟨ys, k, rfl⟩
  · have := word_len c.op
    refine ⟨?_, ?_, rfl, rfl⟩
    · intro x hx; simp [piecesT] at hx; subst hx; omega
    · intro n hn; simp [piecesT] at hn; rcases hn with rfl | rfl <;> omega
  · obtain ⟨i1, i2, i3, i4⟩ := pieces_ok c ys
    rw [List.concat_eq_append, piecesT_snoc]
    have hz : ((piecesT c ys).2.headD .zero).wt ≤ c.wt := by
      cases hq : (piecesT c ys).2 with
      | nil => have := wt_four c.left; simp [zero_wt]; omega
      | cons n ns => exact i2 n (by rw [hq]; simp)
    refine ⟨?_, ?_, ?_, ?_⟩
    · intro x hx
      rcases List.mem_append.1 hx with hx | hx
      · exact i1 x hx
      · rw [List.mem_singleton] at hx; subst hx; have := piece_len (k := k) hz; omega
    · intro n hn
      simp only [stepC] at hn
      split at hn
      · exact i2 n (List.mem_of_mem_tail hn)
      · exact i2 n hn
    · simp [stepC, i3]
    · simp only [stepC, i4]
      cases h : isTerm k
      · simp [h]
      · simp [h]
termination_by ks.length
decreasing_by subst_vars; simp
theorem joinS_len {B : Nat} : ∀ (l : List (List UInt8)), (∀ x ∈ l, x.length ≤ B) → (joinS [32] l).length ≤ l.length * (B + 1)
  | [], _ => by simp [joinS]
  | x :: xs, h => by
    have hx := h x (by simp)
    have key : ∀ ys : List (List UInt8), (∀ x ∈ ys, x.length ≤ B) → (ys.flatMap fun y => [32] ++ y).length ≤ ys.length * (B + 1) := fun ys => by
      induction ys with
      | nil => simp
      | cons y ys ih =>
        intro h
        have h1 := h y (by simp)
        have h2 := ih fun x hx => h x (by simp [hx])
        simp only [List.flatMap_cons, List.length_append, List.length_cons, List.length_nil, Nat.add_mul] at h2 ⊢
        omega
    have := key xs fun x hx => h x (by simp [hx])
    simp only [joinS, List.length_append, List.length_cons, Nat.add_mul] at this ⊢
    omega
theorem form_terms (op : Int) : ∀ i < (formOf op).2.length, ∀ k, (formOf op).2[i]? = some k → isTerm k = true → (((formOf op).2.take i).filter isTerm).length < 2 := by
  unfold formOf
  split
  · rename_i h1
    have hlt : op.toNat < 16 := by omega
    generalize op.toNat = n at hlt ⊢
    have key : ∀ n < 16, ∀ i < (formT.getD n ([], [])).2.length, ∀ k ∈ (formT.getD n ([], [])).2[i]?, isTerm k = true → (((formT.getD n ([], [])).2.take i).filter isTerm).length < 2 := by decide
    intro i hi k hk
    exact key n hlt i hi k hk
  · simp
end Go.Am

namespace Go.Am
def cntN (op : Int) (k : UInt8) : Nat := (formOf op).2.count k
def namedQ (l : List (List UInt8)) : Bool := l.all nameR
def Cmd.nameQ (c : Cmd) : Bool := if cntN c.op 110 = 0 then decide (c.name.text = []) else nameR c.name.text
def Cmd.namesQ (c : Cmd) : Bool :=
  if 0 < cntN c.op 119 then decide (0 < c.names.length) && namedQ (c.names.map Word.text)
  else if 0 < cntN c.op 102 then decide (c.names.length = 1) && namedQ (c.names.map Word.text)
  else decide (c.names.length = 0)
def pairQ (p : Word × Word) : Bool := nameR p.1.text && nameR p.2.text
def Cmd.pairsQ (c : Cmd) : Bool := if cntN c.op 112 = 0 then decide (c.pairs.length = 0) else c.pairs.all pairQ
def Cmd.termsQ (c : Cmd) : Bool :=
  if 0 < cntN c.op 116 then c.left.labelQ && c.right.labelQ
  else if 0 < cntN c.op 114 then c.left.rowQ && c.right.rowQ
  else c.left.sameQ .zero && c.right.sameQ .zero
def Cmd.rightQ (c : Cmd) : Bool := decide (0 ≤ c.op ∧ c.op ≤ 15) && c.nameQ && c.namesQ && c.pairsQ && c.termsQ
def samePQ : List (Word × Word) → List (Word × Word) → Bool
  | [], [] => true
  | p :: ps, q :: qs => decide (p.1.text = q.1.text) && decide (p.2.text = q.2.text) && samePQ ps qs
  | _, _ => false
def Cmd.sameQ (a b : Cmd) : Bool := decide (a.op = b.op) && decide (a.name.text = b.name.text) && sameW a.names b.names && samePQ a.pairs b.pairs && a.left.sameQ b.left && a.right.sameQ b.right
theorem samePQ_len : ∀ {a b : List (Word × Word)}, samePQ a b = true → a.length = b.length
  | [], [], _ => rfl
  | [], _ :: _, h => by simp [samePQ] at h
  | _ :: _, [], h => by simp [samePQ] at h
  | _ :: ws, _ :: us, h => by simp only [samePQ, Bool.and_eq_true] at h; simp [samePQ_len h.2]
theorem samePQ_at : ∀ {a b : List (Word × Word)} {i : Nat} (h : i < a.length) (h2 : i < b.length), a.length = b.length → samePQ (a.take i) (b.take i) = true →
    (samePQ (a.take (i + 1)) (b.take (i + 1)) = (decide (a[i].1.text = b[i].1.text) && decide (a[i].2.text = b[i].2.text))) ∧ ((decide (a[i].1.text = b[i].1.text) && decide (a[i].2.text = b[i].2.text)) = false → samePQ a b = false)
  | p :: ps, q :: qs, 0, _, _, _, _ => by
    refine ⟨by simp [samePQ], fun h => ?_⟩
    simp only [List.getElem_cons_zero] at h
    simp only [samePQ, h, Bool.false_and]
  | p :: ps, q :: qs, i + 1, h, h2, hl, hs => by
    simp only [List.take_succ_cons, samePQ, Bool.and_eq_true] at hs
    obtain ⟨k1, k2⟩ := samePQ_at (a := ps) (b := qs) (i := i) (by simpa using h) (by simpa using h2) (by simpa using hl) hs.2
    refine ⟨?_, fun h => ?_⟩
    · rw [List.take_succ_cons, List.take_succ_cons, samePQ, k1]
      simp [hs.1.1, hs.1.2]
    · simp only [List.getElem_cons_succ] at h
      simp [samePQ, k2 h]
end Go.Am

namespace Go.Am
end Go.Am

namespace Go.Am
end Go.Am

namespace Go.Am
end Go.Am

namespace Go.Am
end Go.Am

namespace Go.Am
theorem pairsG_bad {i : Rdr} {b : Int} (h : i.bad = some b) : ∀ n acc, (Rdr.pairsG n i acc).1.bad = some b
  | 0, _ => h
  | n + 1, _ => by simp [Rdr.pairsG, h]
section
variable {N : Int} (h0 : 0 ≤ N)
include h0
end
end Go.Am

namespace Go.Am
end Go.Am

namespace Go.Am
def firstF (f : Nat → Bool) : Nat → Nat → Int
  | 0, _ => -1
  | n + 1, i => if f i = true then (i : Nat) else firstF f n (i + 1)
theorem firstF_neg (f : Nat → Bool) : ∀ n i, firstF f n i < 0 ↔ ∀ k, i ≤ k → k < i + n → f k = false
  | 0, i => by simp only [firstF]; constructor <;> intro _ <;> first | omega | (intro k h1 h2; omega)
  | n + 1, i => by
    simp only [firstF]
    split
    · rename_i h
      constructor
      · intro h'; omega
      · intro h'; have := h' i (by omega) (by omega); rw [h] at this; simp at this
    · rename_i h
      rw [firstF_neg f n (i + 1)]
      constructor
      · intro h' k h1 h2
        by_cases e : k = i
        · subst e; simpa using h
        · exact h' k (by omega) (by omega)
      · intro h' k h1 h2; exact h' k (by omega) (by omega)
theorem firstF_ne {a b : List (List UInt8)} (h : a.length = b.length) : (decide (firstF (fun i => decide (a.getD i [] ≠ b.getD i [])) a.length 0 < 0)) = decide (a = b) := by
  rw [decide_eq_decide, firstF_neg]
  constructor
  · intro h'
    apply List.ext_getElem h
    intro i h1 h2
    have := h' i (by omega) (by omega)
    simpa [h1, h2] using this
  · rintro rfl k _ _; simp
theorem sameW_eq : ∀ a b : List Word, sameW a b = decide (a.map Word.text = b.map Word.text)
  | [], [] => by simp [sameW]
  | [], _ :: _ => by simp [sameW]
  | _ :: _, [] => by simp [sameW]
  | w :: ws, u :: us => by simp [sameW, sameW_eq ws us]
end Go.Am

namespace Go.Am
def at_ (pre us : List Tree) (fin : Int) (k : Nat) : Rdr := ⟨pre ++ us, ((pre.length + k : Nat) : Int), fin, none⟩
section
variable {β : Type} {one : Nat → Rdr → β × Rdr} {sm : β → β → Bool} {S : β → List Sh}
end
end Go.Am

namespace Go.Am
end Go.Am

namespace Go.Am
end Go.Am

namespace Go.Am
end Go.Am

namespace Go.Am
end Go.Am

namespace Go.Am
end Go.Am

namespace Go.Am
end Go.Am
