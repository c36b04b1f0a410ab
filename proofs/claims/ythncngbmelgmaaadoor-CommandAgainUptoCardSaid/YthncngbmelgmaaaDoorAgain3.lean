/-
  Part 3 of the proof of CommandAgainUptoCardSaid: a logic over the model, the forms of the functions that the law reaches, and what they compute.
-/
import Derived.IntWalk
import Derived.Test.YthncngbmelgmaaaDoorAgain2
set_option linter.unusedVariables false
set_option linter.unusedSimpArgs false
set_option linter.defProp false
set_option linter.unusedSectionVars false

namespace Go.Am
section
variable {P : Program} {d : Option Nat} {r : List AO} {K : St → Prop} {t : List V} {l : List (List V)} {σ : Store} {x y z : X} {Q : Exit → St → Prop} {st : St} {a b : AC}
theorem vc_skip : vc P .skip Q st = Q .normal st := rfl
theorem vc_reg {o : List AO} : vc P (.reg o) Q st = vcOps P o (Q .normal) st := rfl
theorem vc_upd : vc P (.upd a) Q st = Upd st (vc P a Q) := rfl
theorem vc_draw {o : List (AO × List Nat)} : vc P (.draw o) Q ⟨t, l, σ⟩ = vcD P o [(l, σ)] [] (Q .normal) ⟨t, l, σ⟩ := rfl
theorem vc_seq : vc P (.seq a b) Q st = vc P a (AThen (vc P b Q) Q) st := rfl
def vcIf (P : Program) (v : V) (a b : AC) (Q : Exit → St → Prop) (st : St) : Prop := match v with | .bool c => (c = true → vc P a Q st) ∧ (c = false → vc P b Q st) | _ => False
theorem vc_cond : vc P (.cond x a b) Q st = vcIf P (ev st x) a b Q st := rfl
theorem vcIf_true : vcIf P (.bool true) a b Q st = vc P a Q st := by simp [vcIf]
theorem vcIf_false : vcIf P (.bool false) a b Q st = vc P b Q st := by simp [vcIf]
theorem vcIf_split {c : Bool} (h1 : c = true → vc P a Q st) (h2 : c = false → vc P b Q st) : vcIf P (.bool c) a b Q st := ⟨h1, h2⟩
theorem vc_rangeS {l : List AO} {x : X} {dI dN dM out nxt : Nat} {y : AC} (h : vcOps P l (fun st1 => ∃ s : List UInt8, ev st1 x = .str s ∧ (∀ c ∈ s, c.toNat < 128) ∧ ∃ I : Nat → Nat → St → Prop,
      (∀ b, Upd (st1.put (some dI) (.raw (.pointer (some ⟨b, 0, none⟩)))) (I b 0)) ∧
      (∀ b i st', I b i st' → st'.t.getD dI .any = .raw (.pointer (some ⟨b, 0, none⟩)) ∧ dN < st'.t.length ∧ dM < st'.t.length) ∧
      (∀ b i c st', s[i]? = some c → I b i st' → vc P y (Blk nxt (RPost out (I b (i + 1)) Q)) ((st'.put (some dN) (.tup [.bool true, .int .i64 (i : Nat), .int .i32 (c.toNat : Nat)])).put (some dM) (.bool true))) ∧
      (∀ b st', I b s.length st' → Q .normal ((st'.put (some dN) (.tup [.bool false])).put (some dM) (.bool false)))) st) : vc P (.rangeS l x dI dN dM out nxt y) Q st := h
theorem rPost_normal {out : Nat} {J : St → Prop} : RPost out J Q .normal st = Upd st J := rfl
theorem rPost_exit {out id : Nat} {J : St → Prop} : RPost out J Q (.exit id) st = if id = out then Q .normal st else Q (.exit id) st := rfl
theorem rPost_ret {out : Nat} {J : St → Prop} : RPost out J Q .ret st = Q .ret st := rfl
theorem vc_scope : vc P (.scope a) Q st = vc P a (NoGo Q) st := rfl
theorem noGo_normal : NoGo Q .normal st = Q .normal st := rfl
theorem noGo_exit {id : Nat} : NoGo Q (.exit id) st = Q (.exit id) st := rfl
theorem noGo_ret : NoGo Q .ret st = Q .ret st := rfl
theorem vc_block {id : Nat} : vc P (.block id a) Q st = vc P a (Blk id Q) st := rfl
theorem vc_exit {id : Nat} : vc P (.exit id) Q st = Q (.exit id) st := rfl
theorem vc_ret : vc P .ret Q st = Q .ret st := rfl
theorem athen_normal : AThen K Q .normal st = K st := rfl
theorem athen_exit {id : Nat} : AThen K Q (.exit id) st = Q (.exit id) st := rfl
theorem athen_ret : AThen K Q .ret st = Q .ret st := rfl
theorem blk_normal {id : Nat} : Blk id Q .normal st = Q .normal st := rfl
theorem blk_ret {id : Nat} : Blk id Q .ret st = Q .ret st := rfl
theorem blk_exit {id id' : Nat} : Blk id Q (.exit id') st = if id' = id then Q .normal st else Q (.exit id') st := rfl
theorem lpost_exit {ι : Type} {I : ι → St} {μ : ι → Nat} {n id : Nat} : LPost I μ Q n (.exit id) st = Q (.exit id) st := rfl
theorem lpost_ret {ι : Type} {I : ι → St} {μ : ι → Nat} {n : Nat} : LPost I μ Q n .ret st = Q .ret st := rfl
theorem lpost_normal {ι : Type} {I : ι → St} {μ : ι → Nat} {n : Nat} : LPost I μ Q n .normal st = Upd st fun st' => ∃ j, st' = I j ∧ μ j < n := rfl
theorem vc_loop {ι : Type} (I : ι → St) (μ : ι → Nat) (h0 : Upd st fun st' => ∃ i, st' = I i) (h : ∀ i, vc P a (LPost I μ Q (μ i)) (I i)) : vc P (.loop a) Q st := ⟨ι, I, μ, h0, h⟩
theorem retQ_ret {rs : List RV} {R' : V → Store → Prop} : RetQ rs R' .ret st = opt ((rvs st rs).map one1) (RetK R' st) := rfl
theorem retQ_normal {rs : List RV} {R' : V → Store → Prop} : RetQ rs R' .normal st = opt ((rvs st rs).map one1) (RetK R' st) := rfl
theorem opt_some {v : V} {K : V → Prop} : opt (some v) K = K v := rfl
theorem rvs_nil : rvs st [] = some [] := rfl
def consO (v : Option V) (l : Option (List V)) : Option (List V) := v.bind fun x => l.map (x :: ·)
theorem consO_some {v : V} {l : List V} : consO (some v) (some l) = some (v :: l) := rfl
theorem rvs_cons {y : RV} {rs : List RV} : rvs st (y :: rs) = consO (rv st y) (rvs st rs) := rfl
theorem rv_tmp {n : Nat} : rv ⟨t, l, σ⟩ (.tmp n) = some (t.getD n .any) := rfl
theorem rv_cell {n m : Nat} {g : Bool} : rv ⟨t, l, σ⟩ (.cell n g m) = ldV ⟨t, l, σ⟩ g m (t.getD n .any) := rfl
theorem one1_one {v : V} : one1 [v] = v := rfl
theorem one1_nil : one1 [] = .tup [] := rfl
theorem one1_more {u v : V} {l : List V} : one1 (u :: v :: l) = .tup (u :: v :: l) := rfl
theorem map_some' {v : List V} {f : List V → V} : Option.map f (some v) = some (f v) := rfl
theorem retK_intro {R' : V → Store → Prop} {v : V} (h1 : v.nol = true) {σ' : Store} (h2 : σ'.sub σ) (h3 : R' v.erase σ') : RetK R' ⟨t, l, σ⟩ v := ⟨h1, σ', h2, h3⟩
theorem ev_s {n : Nat} : ev ⟨t, l, σ⟩ (.s n) = t.getD n .any := rfl
theorem ev_c {v : V} : ev st (.c v) = v := rfl
theorem evs_nil : evs st [] = [] := rfl
theorem evs_cons {xs : List X} : evs st (x :: xs) = ev st x :: evs st xs := rfl
theorem getD_zero {v w : V} : (v :: t).getD 0 w = v := rfl
theorem getD_succ {v w : V} {n : Nat} : (v :: t).getD (n + 1) w = t.getD n w := rfl
theorem set_zero {v w : V} : (v :: t).set 0 w = w :: t := rfl
theorem set_succ {v w : V} {n : Nat} : (v :: t).set (n + 1) w = v :: t.set n w := rfl
theorem put_some {n : Nat} {v : V} : St.put ⟨t, l, σ⟩ (some n) v = ⟨t.set n v, l, σ⟩ := rfl
theorem put_none {v : V} : St.put st none v = st := rfl
theorem o_nil : vcOps P [] K st = K st := rfl
def kL (P : Program) (d : Option Nat) (r : List AO) (K : St → Prop) (st : St) (v : V) : Prop := vcOps P r K (st.put d v)
theorem kL_eq {v : V} : kL P d r K ⟨t, l, σ⟩ v = vcOps P r K (St.put ⟨t, l, σ⟩ d v) := rfl
def optL (o : Option V) (K : V → Prop) : Prop := match o with | some v => K v | none => False
theorem optL_some {v : V} {K : V → Prop} : optL (some v) K = K v := rfl
theorem o_mv : vcOps P (⟨d, .mv x, none⟩ :: r) K st = vcOps P r K (st.put d (ev st x)) := rfl
def pickL (P : Program) (v a b : V) (d : Option Nat) (r : List AO) (K : St → Prop) (st : St) : Prop := match v with | .bool true => vcOps P r K (st.put d a) | .bool false => vcOps P r K (st.put d b) | _ => False
theorem o_pick : vcOps P (⟨d, .pick x y z, none⟩ :: r) K st = pickL P (ev st x) (ev st y) (ev st z) d r K st := by
  simp only [vcOps, AOp.sem, pickL]
  cases ev st x <;> first | rfl | (rename_i b; cases b <;> rfl)
theorem pickL_true {u v : V} : pickL P (.bool true) u v d r K st = vcOps P r K (st.put d u) := rfl
theorem pickL_false {u v : V} : pickL P (.bool false) u v d r K st = vcOps P r K (st.put d v) := rfl
theorem pickL_ff {b c : Bool} : pickL P (.bool b) (.bool c) (.bool false) d r K st = vcOps P r K (st.put d (.bool (b && c))) := by cases b <;> simp [pickL]
theorem pickL_tt {b c : Bool} : pickL P (.bool b) (.bool true) (.bool c) d r K st = vcOps P r K (st.put d (.bool (b || c))) := by cases b <;> simp [pickL]
theorem o_alloc {c : List V} : vcOps P (⟨d, .alloc c, none⟩ :: r) K ⟨t, l, σ⟩ = vcOps P r K (St.put ⟨t, l ++ [c], σ⟩ d (.ptr (.loc l.length) 0)) := rfl
theorem o_box {n : Nat} : vcOps P (⟨d, .box n x, none⟩ :: r) K ⟨t, l, σ⟩ = ((ev ⟨t, l, σ⟩ x).wd = some n ∧ vcOps P r K (St.put ⟨t, l ++ [(ev ⟨t, l, σ⟩ x).cells], σ⟩ d (.ptr (.loc l.length) 0))) := rfl
def kO (P : Program) (d : Option Nat) (r : List AO) (K : St → Prop) (st : St) (cs : List V) : Prop := ∀ b, st.out.box b = none → vcOps P r K (St.put ⟨st.t, st.loc, st.out.set b cs⟩ d (.ptr (.out b) 0))
theorem o_allocO {c : List V} : vcOps P (⟨d, .allocO c, none⟩ :: r) K st = (nolL c = true ∧ kO P d r K st c) := rfl
theorem o_boxO {n : Nat} : vcOps P (⟨d, .boxO n x, none⟩ :: r) K st = ((ev st x).wd = some n ∧ nolL (ev st x).cells = true ∧ kO P d r K st (ev st x).cells) := rfl
theorem kO_intro {c : List V} (h : ∀ b, σ.box b = none → vcOps P r K (St.put ⟨t, l, σ.set b c⟩ d (.ptr (.out b) 0))) : kO P d r K ⟨t, l, σ⟩ c := h
theorem o_build {c : List V} {ps : List (Nat × Nat × X)} : vcOps P (⟨d, .build c ps, none⟩ :: r) K st = optL ((buildV st c ps).map V.agg) (kL P d r K st) := rfl
def optR (o : Option (List (List V))) (k : Nat) (K : V → Prop) : Prop := match o with | some v => K (.sl .full k v) | none => False
theorem optR_some {v : List (List V)} {k : Nat} {K : V → Prop} : optR (some v) k K = K (.sl .full k v) := rfl
theorem o_bslice {k : Nat} {xs : List X} : vcOps P (⟨d, .bslice k xs, none⟩ :: r) K st = optR (rowsV st k xs) k (kL P d r K st) := by
  simp only [vcOps, AOp.sem]
  cases rowsV st k xs <;> rfl
theorem o_load {g : Bool} {n : Nat} : vcOps P (⟨d, .load g n x, none⟩ :: r) K st = optL (ldV st g n (ev st x)) (kL P d r K st) := rfl
def optS (P : Program) (o : Option St) (d : Option Nat) (r : List AO) (K : St → Prop) : Prop := match o with | some st => vcOps P r K (st.put d .any) | none => False
theorem optS_some : optS P (some st) d r K = vcOps P r K (st.put d .any) := rfl
theorem o_store {n : Nat} : vcOps P (⟨d, .store n x y, none⟩ :: r) K st = optS P (stV st n (ev st y) (ev st x)) d r K := by
  simp only [vcOps, AOp.sem, optS]
  cases stV st n (ev st y) (ev st x) <;> rfl
def nilckL (v : V) (K : V → Prop) : Prop := match v with | .ptr p o => K (.ptr p o) | .elt c o => K (.elt c o) | .fn (.func f) a b => K (.fn (.func f) a b) | _ => False
theorem o_nilck : vcOps P (⟨d, .nilck x, none⟩ :: r) K st = nilckL (ev st x) (kL P d r K st) := by
  simp only [vcOps, AOp.sem, nilckL]
  cases ev st x <;> first | rfl | (rename_i f _ _; cases f <;> rfl)
theorem nilckL_ptr {p : Pl} {o : Nat} {K : V → Prop} : nilckL (.ptr p o) K = K (.ptr p o) := rfl
theorem nilckL_elt {c : List V} {o : Nat} {K : V → Prop} : nilckL (.elt c o) K = K (.elt c o) := rfl
theorem nilckL_fn {f : FuncId} {c e : List V} {K : V → Prop} : nilckL (.fn (.func f) c e) K = K (.fn (.func f) c e) := rfl
theorem o_binI {op : BinOp} : vcOps P (⟨d, .binI op x y, none⟩ :: r) K st = optL (binIV op (ev st x) (ev st y)) (kL P d r K st) := rfl
theorem o_binS {op : BinOp} : vcOps P (⟨d, .binS op x y, none⟩ :: r) K st = optL (binSV op (ev st x) (ev st y)) (kL P d r K st) := rfl
theorem o_binB {n : Bool} : vcOps P (⟨d, .binB n x y, none⟩ :: r) K st = optL (eqBV n (ev st x) (ev st y)) (kL P d r K st) := rfl
def catL (u v : V) (K : V → Prop) : Prop := ∃ a b, u = .str a ∧ v = .str b ∧ a.length + b.length ≤ big ∧ K (.str (a ++ b))
theorem o_cat : vcOps P (⟨d, .cat x y, none⟩ :: r) K st = catL (ev st x) (ev st y) (kL P d r K st) := rfl
theorem catL_str {a b : List UInt8} {K : V → Prop} : catL (.str a) (.str b) K = (a.length + b.length ≤ big ∧ K (.str (a ++ b))) := by
  simp only [catL, V.str.injEq, eq_iff_iff]
  constructor
  · rintro ⟨a', b', rfl, rfl, h1, h2⟩; exact ⟨h1, h2⟩
  · rintro ⟨h1, h2⟩; exact ⟨a, b, rfl, rfl, h1, h2⟩
theorem o_eqA {n : Bool} {ks : List Nat} : vcOps P (⟨d, .eqA n ks x y, none⟩ :: r) K st = optL (eqAV n ks (ev st x) (ev st y)) (kL P d r K st) := rfl
def notL (v : V) (K : V → Prop) : Prop := match v with | .bool b => K (.bool (!b)) | _ => False
theorem o_not : vcOps P (⟨d, .not x, none⟩ :: r) K st = notL (ev st x) (kL P d r K st) := by
  simp only [vcOps, AOp.sem, notL]
  cases ev st x <;> rfl
theorem notL_bool {b : Bool} {K : V → Prop} : notL (.bool b) K = K (.bool (!b)) := rfl
def lenL (v : V) (K : V → Prop) : Prop := match v with | .sl _ _ l => K (.int .i64 l.length) | _ => False
theorem o_lenS : vcOps P (⟨d, .lenS x, none⟩ :: r) K st = lenL (ev st x) (kL P d r K st) := by
  simp only [vcOps, AOp.sem, lenL]
  cases ev st x <;> rfl
theorem lenL_sl {τ : Tk} {k : Nat} {m : List (List V)} {K : V → Prop} : lenL (.sl τ k m) K = K (.int .i64 m.length) := rfl
def lenTL (v : V) (K : V → Prop) : Prop := match v with | .str s => K (.int .i64 s.length) | _ => False
theorem o_lenT : vcOps P (⟨d, .lenT x, none⟩ :: r) K st = lenTL (ev st x) (kL P d r K st) := by
  simp only [vcOps, AOp.sem, lenTL]
  cases ev st x <;> rfl
theorem lenTL_str {s : List UInt8} {K : V → Prop} : lenTL (.str s) K = K (.int .i64 s.length) := rfl
def fldL (off : Nat) (v : V) (K : V → Prop) : Prop := match v with | .ptr p o => K (.ptr p (o + off)) | .elt c o => K (.elt c (o + off)) | _ => False
theorem o_fld {n : Nat} : vcOps P (⟨d, .fld n x, none⟩ :: r) K st = fldL n (ev st x) (kL P d r K st) := by
  simp only [vcOps, AOp.sem, fldL]
  cases ev st x <;> rfl
theorem fldL_ptr {p : Pl} {o n : Nat} {K : V → Prop} : fldL n (.ptr p o) K = K (.ptr p (o + n)) := rfl
theorem fldL_elt {c : List V} {o n : Nat} {K : V → Prop} : fldL n (.elt c o) K = K (.elt c (o + n)) := rfl
def fldvL (g : Bool) (off n : Nat) (v : V) (K : V → Prop) : Prop := match v with | .agg cs => optL (ldC g n (cs.drop off)) K | _ => False
theorem o_fldv {g : Bool} {n m : Nat} : vcOps P (⟨d, .fldv g m n x, none⟩ :: r) K st = fldvL g m n (ev st x) (kL P d r K st) := by
  simp only [vcOps, AOp.sem, fldvL]
  cases ev st x <;> rfl
theorem fldvL_agg {g : Bool} {n m : Nat} {cs : List V} {K : V → Prop} : fldvL g m n (.agg cs) K = optL (ldC g n (cs.drop m)) K := rfl
def idxL (k : Nat) (v i : V) (K : V → Prop) : Prop := match v with | .sl _ k' l => k' = k ∧ IdxOk l i fun c => K (.elt c 0) | _ => False
theorem o_idxA {k : Nat} : vcOps P (⟨d, .idxA k x y, none⟩ :: r) K st = idxL k (ev st x) (ev st y) (kL P d r K st) := by
  simp only [vcOps, AOp.sem, idxL]
  cases ev st x <;> rfl
theorem idxL_intro {k : Nat} {τ : Tk} {m : List (List V)} {ik : IntKind} {n : Int} {c : List V} {K : V → Prop} (h0 : 0 ≤ n) (h : m[n.toNat]? = some c) (hk : K (.elt c 0)) : idxL k (.sl τ k m) (.int ik n) K := ⟨rfl, ik, n, c, rfl, h0, h, hk⟩
def idxPL (m k : Nat) (v i : V) (K : V → Prop) : Prop := match v with
  | .ptr p o => ∃ kk n, i = .int kk n ∧ 0 ≤ n ∧ n < (m : Nat) ∧ K (.ptr p (o + n.toNat * k))
  | .elt c o => ∃ kk n, i = .int kk n ∧ 0 ≤ n ∧ n < (m : Nat) ∧ K (.elt c (o + n.toNat * k))
  | _ => False
theorem o_idxP {m k : Nat} : vcOps P (⟨d, .idxP m k x y, none⟩ :: r) K st = idxPL m k (ev st x) (ev st y) (kL P d r K st) := by
  simp only [vcOps, AOp.sem, idxPL]
  cases ev st x <;> rfl
theorem idxPL_ptr {m k o : Nat} {p : Pl} {ik : IntKind} {n : Int} {K : V → Prop} (h0 : 0 ≤ n) (h : n < (m : Nat)) (hk : K (.ptr p (o + n.toNat * k))) : idxPL m k (.ptr p o) (.int ik n) K := ⟨ik, n, rfl, h0, h, hk⟩
theorem idxPL_elt {m k o : Nat} {c : List V} {ik : IntKind} {n : Int} {K : V → Prop} (h0 : 0 ≤ n) (h : n < (m : Nat)) (hk : K (.elt c (o + n.toNat * k))) : idxPL m k (.elt c o) (.int ik n) K := ⟨ik, n, rfl, h0, h, hk⟩
def idxSL (v i : V) (K : V → Prop) : Prop := match v with | .str s => ∃ k n c, i = .int k n ∧ 0 ≤ n ∧ s[n.toNat]? = some c ∧ K (.int .u8 c.toNat) | _ => False
theorem o_idxS : vcOps P (⟨d, .idxS x y, none⟩ :: r) K st = idxSL (ev st x) (ev st y) (kL P d r K st) := by
  simp only [vcOps, AOp.sem, idxSL]
  cases ev st x <;> rfl
theorem idxSL_intro {s : List UInt8} {ik : IntKind} {n : Int} {c : UInt8} {K : V → Prop} (h0 : 0 ≤ n) (h : s[n.toNat]? = some c) (hk : K (.int .u8 c.toNat)) : idxSL (.str s) (.int ik n) K := ⟨ik, n, c, rfl, h0, h, hk⟩
def kC (P : Program) (d : Option Nat) (r : List AO) (K : St → Prop) (t : List V) (l : List (List V)) (v : V) (σ : Store) : Prop := vcOps P r K (St.put ⟨t, l, σ⟩ d v)
theorem kC_eq {v : V} : kC P d r K t l v σ = vcOps P r K (St.put ⟨t, l, σ⟩ d v) := rfl
theorem o_call {f : FuncId} {xs : List X} : vcOps P (⟨d, .call f xs, none⟩ :: r) K ⟨t, l, σ⟩ = (nolL (evs ⟨t, l, σ⟩ xs) = true ∧ PCalls P f (evs ⟨t, l, σ⟩ xs) σ (kC P d r K t l)) := rfl
def callL (P : Program) (v : V) (args : List V) (σ : Store) (K : V → Store → Prop) : Prop := match v with | .fn (.func f) a b => nolL (a ++ args ++ b) = true ∧ PCalls P f (a ++ args ++ b) σ K | _ => False
theorem o_callv {xs : List X} : vcOps P (⟨d, .callv x xs, none⟩ :: r) K ⟨t, l, σ⟩ = callL P (ev ⟨t, l, σ⟩ x) (evs ⟨t, l, σ⟩ xs) σ (kC P d r K t l) := by
  simp only [vcOps, AOp.sem, callL]
  cases ev ⟨t, l, σ⟩ x <;> first | rfl | (rename_i f _ _; cases f <;> rfl)
theorem callL_fn {f : FuncId} {u args v : List V} {K : V → Store → Prop} : callL P (.fn (.func f) u v) args σ K = (nolL (u ++ args ++ v) = true ∧ PCalls P f (u ++ args ++ v) σ K) := rfl
theorem o_app {k : Nat} : vcOps P (⟨d, .app k x y, none⟩ :: r) K ⟨t, l, σ⟩ = AppOk σ k (ev ⟨t, l, σ⟩ x) (ev ⟨t, l, σ⟩ y) (kC P d r K t l) := rfl
theorem o_appS : vcOps P (⟨d, .appS x y, none⟩ :: r) K ⟨t, l, σ⟩ = (∃ a, ev ⟨t, l, σ⟩ y = .str a ∧ AppOk σ 1 (ev ⟨t, l, σ⟩ x) (.sl .no 1 (encB a)) (kC P d r K t l)) := rfl
theorem app_tk {k : Nat} {τ : Nat} {u : Tk} {m n : List (List V)} {K : V → Store → Prop} (hb : m.length + n.length ≤ big) (ht : σ.tip τ = some m.length) (hk : K (.sl (.tk τ) k (m ++ n)) (σ.setTip τ (m.length + n.length))) :
    AppOk σ k (.sl (.tk τ) k m) (.sl u k n) K := ⟨_, m, n, rfl, ⟨u, rfl⟩, hb, ht, hk⟩
theorem app_full {k : Nat} {u : Tk} {m n : List (List V)} {K : V → Store → Prop} (hb : m.length + n.length ≤ big) (hk : ∀ τ, σ.tip τ = none → K (.sl (.tk τ) k (m ++ n)) (σ.setTip τ (m.length + n.length))) :
    AppOk σ k (.sl .full k m) (.sl u k n) K := ⟨_, m, n, rfl, ⟨u, rfl⟩, hb, .inl hk⟩
def extL (i : Nat) (v : V) (K : V → Prop) : Prop := match v with | .tup vs => optL vs[i]? K | _ => False
theorem o_ext {i : Nat} : vcOps P (⟨d, .ext x i, none⟩ :: r) K st = extL i (ev st x) (kL P d r K st) := by
  simp only [vcOps, AOp.sem, extL]
  cases ev st x <;> rfl
theorem extL_zero {u : V} {us : List V} {K : V → Prop} : extL 0 (.tup (u :: us)) K = K u := rfl
theorem extL_succ {i : Nat} {u : V} {us : List V} {K : V → Prop} : extL (i + 1) (.tup (u :: us)) K = extL i (.tup us) K := rfl
theorem o_mkfn {f : Fn} {as bs : List X} : vcOps P (⟨d, .mkfn f as bs, none⟩ :: r) K st = vcOps P r K (st.put d (.fn f (evs st as) (evs st bs))) := rfl
def cvL' (k : IntKind) (v : V) (K : V → Prop) : Prop := match v with | .int _ n => K (.int k (k.wrap n)) | _ => False
theorem o_cvI {k : IntKind} : vcOps P (⟨d, .cvI k x, none⟩ :: r) K st = cvL' k (ev st x) (kL P d r K st) := by
  simp only [vcOps, AOp.sem, cvL']
  cases ev st x <;> rfl
theorem cvL_int {k j : IntKind} {n : Int} {K : V → Prop} : cvL' k (.int j n) K = K (.int k (k.wrap n)) := rfl
theorem o_cvBS : vcOps P (⟨d, .cvBS x, none⟩ :: r) K st = (∃ t s, ev st x = .sl t 1 (encB s) ∧ kL P d r K st (.str s)) := rfl
def gL (P : Program) (v : V) (w : Bool) (d : Option Nat) (op : AOp) (r : List AO) (K : St → Prop) (st : St) : Prop :=
  match v with
  | .bool b => if b = w then vcOps P (⟨d, op, none⟩ :: r) K st else vcOps P r K (st.put d (.tup []))
  | .tup [] => vcOps P r K (st.put d (.tup []))
  | _ => False
theorem o_guard {g : Nat} {w : Bool} {op : AOp} : vcOps P (⟨d, op, some (g, w)⟩ :: r) K ⟨t, l, σ⟩ = gL P (t.getD g .any) w d op r K ⟨t, l, σ⟩ := by
  simp only [vcOps, gL, ev]
  generalize t.getD g .any = v
  cases v <;> first | rfl | (rename_i m; cases m <;> rfl)
theorem gL_und {w : Bool} {op : AOp} : gL P (.tup []) w d op r K st = vcOps P r K (st.put d (.tup [])) := rfl
theorem gL_tt {op : AOp} : gL P (.bool true) true d op r K st = vcOps P (⟨d, op, none⟩ :: r) K st := rfl
theorem gL_ff {op : AOp} : gL P (.bool false) false d op r K st = vcOps P (⟨d, op, none⟩ :: r) K st := rfl
theorem gL_tf {op : AOp} : gL P (.bool true) false d op r K st = vcOps P r K (st.put d (.tup [])) := rfl
theorem gL_ft {op : AOp} : gL P (.bool false) true d op r K st = vcOps P r K (st.put d (.tup [])) := rfl
def ldB (c : Option (List V)) (g : Bool) (n o : Nat) : Option V := c.bind fun cs => ldC g n (cs.drop o)
theorem ldB_some {c : List V} {g : Bool} {n o : Nat} : ldB (some c) g n o = ldC g n (c.drop o) := rfl
theorem ldV_loc' {g : Bool} {n i o : Nat} : ldV ⟨t, l, σ⟩ g n (.ptr (.loc i) o) = ldB l[i]? g n o := rfl
theorem ldV_out {g : Bool} {n i o : Nat} : ldV ⟨t, l, σ⟩ g n (.ptr (.out i) o) = ldB (σ.box i) g n o := rfl
theorem ldV_elt {g : Bool} {n o : Nat} {cs : List V} : ldV st g n (.elt cs o) = ldC g n (cs.drop o) := rfl
theorem ldC_agg {n : Nat} {cs : List V} : ldC true n cs = (takeN n cs).map V.agg := rfl
theorem ldC_one {n : Nat} {c : V} {cs : List V} : ldC false n (c :: cs) = some c := rfl
theorem takeN_zero {cs : List V} : takeN 0 cs = some [] := rfl
def mapC (c : V) : Option (List V) → Option (List V) | some l => some (c :: l) | none => none
theorem takeN_succ' {n : Nat} {c : V} {cs : List V} : takeN (n + 1) (c :: cs) = mapC c (takeN n cs) := by
  simp only [takeN]; cases takeN n cs <;> rfl
theorem mapC_some {c : V} {cs : List V} : mapC c (some cs) = some (c :: cs) := rfl
theorem drop_zero' {cs : List V} : cs.drop 0 = cs := rfl
theorem drop_succ {n : Nat} {c : V} {cs : List V} : (c :: cs).drop (n + 1) = cs.drop n := rfl
def stL (t : List V) (l : List (List V)) (σ : Store) (i o n : Nat) (x : V) : Option (List V) → Option St
  | some cs => if hasN n (cs.drop o) = true ∧ x.wd = some n ∧ oneL x.cells = true then some ⟨t, l.set i (setAt cs o x.cells), σ⟩ else none
  | none => none
theorem stV_loc {n i o : Nat} {v : V} : stV ⟨t, l, σ⟩ n v (.ptr (.loc i) o) = stL t l σ i o n v l[i]? := by
  simp only [stV]; cases l[i]? <;> rfl
theorem stL_some {n i o : Nat} {v : V} {cs : List V} : stL t l σ i o n v (some cs) = if hasN n (cs.drop o) = true ∧ v.wd = some n ∧ oneL v.cells = true then some ⟨t, l.set i (setAt cs o v.cells), σ⟩ else none := rfl
def stO (t : List V) (l : List (List V)) (σ : Store) (i o n : Nat) (x : V) : Option (List V) → Option St
  | some cs => if hasN n (cs.drop o) = true ∧ x.wd = some n ∧ oneL x.cells = true ∧ nolL x.cells = true then some ⟨t, l, σ.set i (setAt cs o x.cells)⟩ else none
  | none => none
theorem stV_out {n i o : Nat} {v : V} : stV ⟨t, l, σ⟩ n v (.ptr (.out i) o) = stO t l σ i o n v (σ.box i) := by
  simp only [stV]; cases σ.box i <;> rfl
theorem stO_some {n i o : Nat} {v : V} {cs : List V} : stO t l σ i o n v (some cs) = if hasN n (cs.drop o) = true ∧ v.wd = some n ∧ oneL v.cells = true ∧ nolL v.cells = true then some ⟨t, l, σ.set i (setAt cs o v.cells)⟩ else none := rfl
theorem set_box {b : Nat} {cs : List V} : (σ.set b cs).box b = some cs := by simp [Store.set]
theorem setTip_box {b τ n : Nat} : (σ.setTip τ n).box b = σ.box b := rfl
theorem set_tip {b τ : Nat} {cs : List V} : (σ.set b cs).tip τ = σ.tip τ := rfl
theorem setTip_tip {τ n : Nat} : (σ.setTip τ n).tip τ = some n := by simp [Store.setTip]
theorem setTip_tip_ne {τ υ n : Nat} (h : υ ≠ τ) : (σ.setTip τ n).tip υ = σ.tip υ := by simp [Store.setTip, h]
theorem buildV_nil {c : List V} : buildV st c [] = some c := rfl
def bldL (st : St) (c : List V) (off n : Nat) (v : V) (ps : List (Nat × Nat × X)) : Option (List V) := if hasN n (c.drop off) = true ∧ v.wd = some n then buildV st (setAt c off v.cells) ps else none
theorem buildV_cons {c : List V} {off n : Nat} {ps : List (Nat × Nat × X)} : buildV st c ((off, n, x) :: ps) = bldL st c off n (ev st x) ps := rfl
theorem bldL_ok {c : List V} {off n : Nat} {v : V} {ps : List (Nat × Nat × X)} : bldL st c off n v ps = if hasN n (c.drop off) = true ∧ v.wd = some n then buildV st (setAt c off v.cells) ps else none := rfl
theorem rowsV_nil {k : Nat} : rowsV st k [] = some [] := rfl
def rowL (c : List V) : Option (List (List V)) → Option (List (List V)) | some l => some (c :: l) | none => none
theorem rowL_some {c : List V} {m : List (List V)} : rowL c (some m) = some (c :: m) := rfl
def rowC (st : St) (k : Nat) (v : V) (xs : List X) : Option (List (List V)) := if v.wd = some k ∧ nolL v.cells = true ∧ oneL v.cells = true then rowL (eraseL v.cells) (rowsV st k xs) else none
theorem rowsV_cons {k : Nat} {xs : List X} : rowsV st k (x :: xs) = rowC st k (ev st x) xs := by
  simp only [rowsV, rowC]
  cases rowsV st k xs <;> rfl
theorem rowC_ok {k : Nat} {v : V} {xs : List X} : rowC st k v xs = if v.wd = some k ∧ nolL v.cells = true ∧ oneL v.cells = true then rowL (eraseL v.cells) (rowsV st k xs) else none := rfl
def VLe (v v' : V) : Prop := ∀ E u, R E v u → R E v' u
theorem VLe.rfl {v : V} : VLe v v := fun _ _ h => h
theorem VLe.any {v : V} : VLe v .any := fun _ _ _ => by simp only [R]
theorem VLe.erase {v : V} : VLe v v.erase := fun _ _ h => R.erase v h
theorem VLe.no {τ : Tk} {k : Nat} {m : List (List V)} : VLe (.sl τ k m) (.sl .no k m) := fun _ _ h => R.erase (.sl τ k m) h
theorem VLe.full {k : Nat} : VLe (.sl .full k []) (.sl .no k []) := VLe.no
def LLe : List V → List V → Prop
  | [], [] => True
  | v :: l, v' :: l' => VLe v v' ∧ LLe l l'
  | _, _ => False
theorem LLe.rfl : ∀ {l : List V}, LLe l l
  | [] => trivial
  | _ :: _ => ⟨VLe.rfl, LLe.rfl⟩
theorem LLe.mono : ∀ {l l' : List V} {E : Env} {us : List Value}, LLe l l' → RL E l us → RL E l' us
  | [], [], _, _, _, h => h
  | [], _ :: _, _, _, h, _ => h.elim
  | _ :: _, [], _, _, h, _ => h.elim
  | v :: l, v' :: l', _, [], _, h => by simp [RL] at h
  | v :: l, v' :: l', _, u :: us, h, hr => by
    simp only [RL] at hr ⊢
    exact ⟨h.1 _ _ hr.1, LLe.mono h.2 hr.2⟩
theorem LLe.length : ∀ {l l' : List V}, LLe l l' → l.length = l'.length
  | [], [], _ => Eq.refl _
  | [], _ :: _, h => h.elim
  | _ :: _, [], h => h.elim
  | v :: l, v' :: l', h => by simp [LLe.length h.2]
theorem LLe.get : ∀ {l l' : List V}, LLe l l' → ∀ (j : Nat) v', l'[j]? = some v' → ∃ v, l[j]? = some v ∧ VLe v v'
  | [], [], _, j, v', h => by simp at h
  | [], _ :: _, h, _, _, _ => h.elim
  | _ :: _, [], h, _, _, _ => h.elim
  | v :: l, w :: l', h, j, v', hj => by
    cases j with
    | zero => simp at hj; subst hj; exact ⟨v, by simp, h.1⟩
    | succ j => simp at hj; obtain ⟨u, h1, h2⟩ := LLe.get h.2 j v' hj; exact ⟨u, by simpa using h1, h2⟩
def LLLe : List (List V) → List (List V) → Prop
  | [], [] => True
  | v :: l, v' :: l' => LLe v v' ∧ LLLe l l'
  | _, _ => False
theorem LLLe.rfl : ∀ {l : List (List V)}, LLLe l l
  | [] => trivial
  | _ :: _ => ⟨LLe.rfl, LLLe.rfl⟩
theorem LLLe.length : ∀ {l l' : List (List V)}, LLLe l l' → l.length = l'.length
  | [], [], _ => Eq.refl _
  | [], _ :: _, h => h.elim
  | _ :: _, [], h => h.elim
  | v :: l, v' :: l', h => by simp [LLLe.length h.2]
theorem LLLe.get : ∀ {l l' : List (List V)}, LLLe l l' → ∀ (j : Nat) v', l'[j]? = some v' → ∃ v, l[j]? = some v ∧ LLe v v'
  | [], [], _, j, v', h => by simp at h
  | [], _ :: _, h, _, _, _ => h.elim
  | _ :: _, [], h, _, _, _ => h.elim
  | v :: l, w :: l', h, j, v', hj => by
    cases j with
    | zero => simp at hj; subst hj; exact ⟨v, by simp, h.1⟩
    | succ j => simp at hj; obtain ⟨u, h1, h2⟩ := LLLe.get h.2 j v' hj; exact ⟨u, by simpa using h1, h2⟩
theorem BoxAt.weak {E : Env} {b : Nat} {cs cs' : List V} (h : LLe cs cs') (k : BoxAt E b cs) : BoxAt E b cs' := by
  obtain ⟨c, e, h1, h2, h3⟩ := k
  refine ⟨c, e, h1, by rw [← h.length]; exact h2, fun j x hx => ?_⟩
  obtain ⟨v, hv, hle⟩ := h.get j x hx
  obtain ⟨u, k1, k2⟩ := h3 j v hv
  exact ⟨u, k1, hle _ _ k2⟩
structure OLe (σ σ' : Store) : Prop where
  box : ∀ b cs', σ'.box b = some cs' → ∃ cs, σ.box b = some cs ∧ LLe cs cs'
  tip : ∀ τ n, σ'.tip τ = some n → σ.tip τ = some n
theorem OLe.rfl {σ : Store} : OLe σ σ := ⟨fun _ cs h => ⟨cs, h, LLe.rfl⟩, fun _ _ h => h⟩
theorem Upd.weak {t t' : List V} {l l' : List (List V)} {σ σ' : Store} (h : LLe t t') (hl : LLLe l l') (ho : OLe σ σ') (hk : K ⟨t', l', σ'⟩) : Upd ⟨t, l, σ⟩ K := by
  intro E a hs
  refine ⟨E, _, rfl, Fr.refl E, ⟨⟨fun b cs hcs => ?_, fun τ n hn => hs.ok.tip τ n (ho.tip τ n hn), hs.ok.fresh, hs.ok.nt⟩, ⟨fun i cs hcs => ?_, fun i hi => hs.okL.none i (by rw [hl.length]; exact hi)⟩, hs.defers, h.mono hs.slot⟩, hk⟩
  · obtain ⟨cs0, h1, h2⟩ := ho.box b cs hcs
    obtain ⟨k1, k2⟩ := hs.ok.box b cs0 h1
    exact ⟨k1, k2.weak h2⟩
  · obtain ⟨cs0, h1, h2⟩ := hl.get i cs hcs
    obtain ⟨b, k1, k2, k3⟩ := hs.okL.box i cs0 h1
    exact ⟨b, k1, k2, k3.weak h2⟩
theorem Upd.slots {t t' : List V} {l : List (List V)} {σ : Store} (h : LLe t t') (hk : K ⟨t', l, σ⟩) : Upd ⟨t, l, σ⟩ K := Upd.weak h LLLe.rfl OLe.rfl hk
theorem PCalls.weak {f : FuncId} {as as' : List V} {σ σ' : Store} {R' : V → Store → Prop} (h : PCalls P f as' σ' R') (ha : LLe as as') (ho : OLe σ σ') : PCalls P f as σ R' := by
  refine ⟨h.1, fun E vs h1 h2 h3 => h.2 E vs h1 ?_ (ha.mono h3)⟩
  refine ⟨fun b cs hcs => ?_, fun τ n hn => h2.tip τ n (ho.tip τ n hn), h2.fresh, h2.nt⟩
  obtain ⟨cs0, k1, k2⟩ := ho.box b cs hcs
  obtain ⟨k3, k4⟩ := h2.box b cs0 k1
  exact ⟨k3, k4.weak k2⟩
end
end Go.Am

namespace Go.Am
section
variable {P : Program} {d : Option Nat} {r : List (AO × List Nat)} {K : St → Prop} {t : List V} {l : List (List V)} {σ : Store} {x y z : X} {st : St} {SN : List Sto} {L : List (V × Bool × Nat × V × List Nat)} {ms : List Nat}
theorem d_nil : vcD P [] SN L K st = (chkL SN L ∧ K st) := rfl
def kD (P : Program) (d : Option Nat) (r : List (AO × List Nat)) (SN : List Sto) (L : List (V × Bool × Nat × V × List Nat)) (K : St → Prop) (st : St) (v : V) : Prop := vcD P r SN L K (st.put d v)
theorem kD_eq {v : V} : kD P d r SN L K ⟨t, l, σ⟩ v = vcD P r SN L K (St.put ⟨t, l, σ⟩ d v) := rfl
theorem d_mv : vcD P ((⟨d, .mv x, none⟩, ms) :: r) SN L K st = vcD P r SN L K (st.put d (ev st x)) := rfl
def pickD (P : Program) (v a b : V) (d : Option Nat) (r : List (AO × List Nat)) (SN : List Sto) (L : List (V × Bool × Nat × V × List Nat)) (K : St → Prop) (st : St) : Prop := match v with | .bool true => vcD P r SN L K (st.put d a) | .bool false => vcD P r SN L K (st.put d b) | _ => False
theorem d_pick : vcD P ((⟨d, .pick x y z, none⟩, ms) :: r) SN L K st = pickD P (ev st x) (ev st y) (ev st z) d r SN L K st := by
  show (match ev st x with | .bool true => _ | .bool false => _ | _ => False) = _
  unfold pickD
  cases ev st x <;> first | rfl | (rename_i b; cases b <;> rfl)
theorem pickD_true {u v : V} : pickD P (.bool true) u v d r SN L K st = vcD P r SN L K (st.put d u) := rfl
theorem pickD_false {u v : V} : pickD P (.bool false) u v d r SN L K st = vcD P r SN L K (st.put d v) := rfl
theorem pickD_ff {b c : Bool} : pickD P (.bool b) (.bool c) (.bool false) d r SN L K st = vcD P r SN L K (st.put d (.bool (b && c))) := by cases b <;> simp [pickD]
theorem pickD_tt {b c : Bool} : pickD P (.bool b) (.bool true) (.bool c) d r SN L K st = vcD P r SN L K (st.put d (.bool (b || c))) := by cases b <;> simp [pickD]
theorem d_alloc {c : List V} : vcD P ((⟨d, .alloc c, none⟩, ms) :: r) SN L K ⟨t, l, σ⟩ = vcD P r (SN ++ [(l ++ [c], σ)]) L K (St.put ⟨t, l ++ [c], σ⟩ d (.ptr (.loc l.length) 0)) := rfl
theorem d_box {n : Nat} : vcD P ((⟨d, .box n x, none⟩, ms) :: r) SN L K ⟨t, l, σ⟩ = ((ev ⟨t, l, σ⟩ x).wd = some n ∧ vcD P r (SN ++ [(l ++ [(ev ⟨t, l, σ⟩ x).cells], σ)]) L K (St.put ⟨t, l ++ [(ev ⟨t, l, σ⟩ x).cells], σ⟩ d (.ptr (.loc l.length) 0))) := rfl
theorem d_boxS {n : Nat} : vcD P ((⟨d, .boxS n x, none⟩, ms) :: r) SN L K ⟨t, l, σ⟩ = ((ev ⟨t, l, σ⟩ x).wd = some n ∧ oneL (ev ⟨t, l, σ⟩ x).cells = true ∧ vcD P r (SN ++ [(l ++ [(ev ⟨t, l, σ⟩ x).cells], σ)]) L K (St.put ⟨t, l ++ [(ev ⟨t, l, σ⟩ x).cells], σ⟩ d (.ptr (.loc l.length) 0))) := rfl
theorem d_build {c : List V} {ps : List (Nat × Nat × X)} : vcD P ((⟨d, .build c ps, none⟩, ms) :: r) SN L K st = optL ((buildV st c ps).map V.agg) (kD P d r SN L K st) := rfl
theorem d_bslice {k : Nat} {xs : List X} : vcD P ((⟨d, .bslice k xs, none⟩, ms) :: r) SN L K st = optR (rowsV st k xs) k (kD P d r SN L K st) := by
  show opt ((rowsV st k xs).map (V.sl .full k)) _ = _
  cases rowsV st k xs <;> rfl
def ldD (P : Program) (a : V) (g : Bool) (n : Nat) (ms : List Nat) (d : Option Nat) (r : List (AO × List Nat)) (SN : List Sto) (L : List (V × Bool × Nat × V × List Nat)) (K : St → Prop) (st : St) : Option V → Prop
  | some v => vcD P r SN ((a, g, n, v, ms) :: L) K (st.put d v)
  | none => False
theorem ldD_some {a v : V} {g : Bool} {n : Nat} : ldD P a g n ms d r SN L K st (some v) = vcD P r SN ((a, g, n, v, ms) :: L) K (st.put d v) := rfl
theorem d_load {g : Bool} {n : Nat} : vcD P ((⟨d, .load g n x, none⟩, ms) :: r) SN L K st = ldD P (ev st x) g n ms d r SN L K st (ldV st g n (ev st x)) := by
  show opt (ldV st g n (ev st x)) _ = _
  cases ldV st g n (ev st x) <;> rfl
def stD (P : Program) (d : Option Nat) (r : List (AO × List Nat)) (SN : List Sto) (L : List (V × Bool × Nat × V × List Nat)) (K : St → Prop) : Option St → Prop
  | some st => vcD P r (SN ++ [(st.loc, st.out)]) L K (st.put d .any)
  | none => False
theorem stD_some : stD P d r SN L K (some ⟨t, l, σ⟩) = vcD P r (SN ++ [(l, σ)]) L K (St.put ⟨t, l, σ⟩ d .any) := rfl
theorem d_store {n : Nat} : vcD P ((⟨d, .store n x y, none⟩, ms) :: r) SN L K st = stD P d r SN L K (stV st n (ev st y) (ev st x)) := by
  show (match stV st n (ev st y) (ev st x) with | some st' => _ | none => False) = _
  cases stV st n (ev st y) (ev st x) <;> rfl
theorem d_nilck : vcD P ((⟨d, .nilck x, none⟩, ms) :: r) SN L K st = nilckL (ev st x) (kD P d r SN L K st) := by
  show (match ev st x with | .ptr p o => _ | .elt c o => _ | .fn (.func f) a b => _ | _ => False) = _
  unfold nilckL
  cases ev st x <;> first | rfl | (rename_i f _ _; cases f <;> rfl)
theorem d_binI {op : BinOp} : vcD P ((⟨d, .binI op x y, none⟩, ms) :: r) SN L K st = optL (binIV op (ev st x) (ev st y)) (kD P d r SN L K st) := rfl
theorem d_binS {op : BinOp} : vcD P ((⟨d, .binS op x y, none⟩, ms) :: r) SN L K st = optL (binSV op (ev st x) (ev st y)) (kD P d r SN L K st) := rfl
theorem d_binB {n : Bool} : vcD P ((⟨d, .binB n x y, none⟩, ms) :: r) SN L K st = optL (eqBV n (ev st x) (ev st y)) (kD P d r SN L K st) := rfl
theorem d_cat : vcD P ((⟨d, .cat x y, none⟩, ms) :: r) SN L K st = catL (ev st x) (ev st y) (kD P d r SN L K st) := rfl
theorem d_eqA {n : Bool} {ks : List Nat} : vcD P ((⟨d, .eqA n ks x y, none⟩, ms) :: r) SN L K st = optL (eqAV n ks (ev st x) (ev st y)) (kD P d r SN L K st) := rfl
theorem d_not : vcD P ((⟨d, .not x, none⟩, ms) :: r) SN L K st = notL (ev st x) (kD P d r SN L K st) := by
  show (match ev st x with | .bool b => _ | _ => False) = _
  unfold notL
  cases ev st x <;> rfl
theorem d_lenS : vcD P ((⟨d, .lenS x, none⟩, ms) :: r) SN L K st = lenL (ev st x) (kD P d r SN L K st) := by
  show (match ev st x with | .sl _ _ l => _ | _ => False) = _
  unfold lenL
  cases ev st x <;> rfl
theorem d_lenT : vcD P ((⟨d, .lenT x, none⟩, ms) :: r) SN L K st = lenTL (ev st x) (kD P d r SN L K st) := by
  show (match ev st x with | .str s => _ | _ => False) = _
  unfold lenTL
  cases ev st x <;> rfl
theorem d_fld {n : Nat} : vcD P ((⟨d, .fld n x, none⟩, ms) :: r) SN L K st = fldL n (ev st x) (kD P d r SN L K st) := by
  show (match ev st x with | .ptr p o => _ | .elt c o => _ | _ => False) = _
  unfold fldL
  cases ev st x <;> rfl
theorem d_fldv {g : Bool} {n m : Nat} : vcD P ((⟨d, .fldv g m n x, none⟩, ms) :: r) SN L K st = fldvL g m n (ev st x) (kD P d r SN L K st) := by
  show (match ev st x with | .agg cs => _ | _ => False) = _
  unfold fldvL
  cases ev st x <;> rfl
theorem d_idxA {k : Nat} : vcD P ((⟨d, .idxA k x y, none⟩, ms) :: r) SN L K st = idxL k (ev st x) (ev st y) (kD P d r SN L K st) := by
  show (match ev st x with | .sl _ k' l => _ | _ => False) = _
  unfold idxL
  cases ev st x <;> rfl
theorem d_idxP {m k : Nat} : vcD P ((⟨d, .idxP m k x y, none⟩, ms) :: r) SN L K st = idxPL m k (ev st x) (ev st y) (kD P d r SN L K st) := by
  show (match ev st x with | .ptr p o => _ | .elt c o => _ | _ => False) = _
  unfold idxPL
  cases ev st x <;> rfl
theorem d_idxS : vcD P ((⟨d, .idxS x y, none⟩, ms) :: r) SN L K st = idxSL (ev st x) (ev st y) (kD P d r SN L K st) := by
  show (match ev st x with | .str s => _ | _ => False) = _
  unfold idxSL
  cases ev st x <;> rfl
def kCD (P : Program) (d : Option Nat) (r : List (AO × List Nat)) (SN : List Sto) (L : List (V × Bool × Nat × V × List Nat)) (K : St → Prop) (t : List V) (l : List (List V)) (v : V) (σ : Store) : Prop := vcD P r (SN ++ [(l, σ)]) L K (St.put ⟨t, l, σ⟩ d v)
theorem kCD_eq {v : V} : kCD P d r SN L K t l v σ = vcD P r (SN ++ [(l, σ)]) L K (St.put ⟨t, l, σ⟩ d v) := rfl
def CallD (P : Program) (f : FuncId) (as : List V) (σ : Store) (K : V → Store → Prop) : Prop := ∃ v σ', PCalls P f as σ (fun v' σ'' => v' = v ∧ σ'' = σ') ∧ K v σ'
theorem CallD.intro {f : FuncId} {as : List V} {K : V → Store → Prop} {v : V} {σ' : Store} (h : PCalls P f as σ fun v' σ'' => v' = v ∧ σ'' = σ') (k : K v σ') : CallD P f as σ K := ⟨v, σ', h, k⟩
theorem d_call {f : FuncId} {xs : List X} : vcD P ((⟨d, .call f xs, none⟩, ms) :: r) SN L K ⟨t, l, σ⟩ = (nolL (evs ⟨t, l, σ⟩ xs) = true ∧ CallD P f (evs ⟨t, l, σ⟩ xs) σ (kCD P d r SN L K t l)) := rfl
def callD (P : Program) (v : V) (args : List V) (σ : Store) (K : V → Store → Prop) : Prop := match v with | .fn (.func f) a b => nolL (a ++ args ++ b) = true ∧ CallD P f (a ++ args ++ b) σ K | _ => False
theorem d_callv {xs : List X} : vcD P ((⟨d, .callv x xs, none⟩, ms) :: r) SN L K ⟨t, l, σ⟩ = callD P (ev ⟨t, l, σ⟩ x) (evs ⟨t, l, σ⟩ xs) σ (kCD P d r SN L K t l) := by
  show (match ev ⟨t, l, σ⟩ x with | .fn (.func f) a b => _ | _ => False) = _
  unfold callD
  cases ev ⟨t, l, σ⟩ x <;> first | rfl | (rename_i f _ _; cases f <;> rfl)
theorem callD_fn {f : FuncId} {u args v : List V} {K : V → Store → Prop} : callD P (.fn (.func f) u v) args σ K = (nolL (u ++ args ++ v) = true ∧ CallD P f (u ++ args ++ v) σ K) := rfl
theorem d_app {k : Nat} : vcD P ((⟨d, .app k x y, none⟩, ms) :: r) SN L K ⟨t, l, σ⟩ = AppD σ k (ev ⟨t, l, σ⟩ x) (ev ⟨t, l, σ⟩ y) (kCD P d r SN L K t l) := rfl
theorem appD_tk {k : Nat} {τ : Nat} {u : Tk} {m n : List (List V)} {K : V → Store → Prop} (hb : m.length + n.length ≤ big) (ht : σ.tip τ = some m.length) (hk : K (.sl (.tk τ) k (m ++ n)) (σ.setTip τ (m.length + n.length))) :
    AppD σ k (.sl (.tk τ) k m) (.sl u k n) K := ⟨_, m, n, rfl, ⟨u, rfl⟩, hb, ht, hk⟩
theorem d_ext {i : Nat} : vcD P ((⟨d, .ext x i, none⟩, ms) :: r) SN L K st = extL i (ev st x) (kD P d r SN L K st) := by
  show (match ev st x with | .tup vs => _ | _ => False) = _
  unfold extL
  cases ev st x <;> rfl
theorem d_mkfn {f : Fn} {as bs : List X} : vcD P ((⟨d, .mkfn f as bs, none⟩, ms) :: r) SN L K st = vcD P r SN L K (st.put d (.fn f (evs st as) (evs st bs))) := rfl
theorem d_cvI {k : IntKind} : vcD P ((⟨d, .cvI k x, none⟩, ms) :: r) SN L K st = cvL' k (ev st x) (kD P d r SN L K st) := by
  show (match ev st x with | .int _ n => _ | _ => False) = _
  unfold cvL'
  cases ev st x <;> rfl
theorem d_cvBS : vcD P ((⟨d, .cvBS x, none⟩, ms) :: r) SN L K st = (∃ t s, ev st x = .sl t 1 (encB s) ∧ kD P d r SN L K st (.str s)) := rfl
def gD (P : Program) (v : V) (w : Bool) (d : Option Nat) (op : AOp) (ms : List Nat) (r : List (AO × List Nat)) (SN : List Sto) (L : List (V × Bool × Nat × V × List Nat)) (K : St → Prop) (st : St) : Prop :=
  match v with
  | .bool b => if b = w then vcD P ((⟨d, op, none⟩, ms) :: r) SN L K st else vcD P r (if op.eff then SN ++ [(st.loc, st.out)] else SN) L K (st.put d (.tup []))
  | .tup [] => vcD P r (if op.eff then SN ++ [(st.loc, st.out)] else SN) L K (st.put d (.tup []))
  | _ => False
theorem d_guard {g : Nat} {w : Bool} {op : AOp} : vcD P ((⟨d, op, some (g, w)⟩, ms) :: r) SN L K ⟨t, l, σ⟩ = gD P (t.getD g .any) w d op ms r SN L K ⟨t, l, σ⟩ := by
  simp only [vcD, gD, ev]
  generalize t.getD g .any = v
  cases v <;> first | rfl | (rename_i m; cases m <;> rfl)
theorem gD_und {w : Bool} {op : AOp} : gD P (.tup []) w d op ms r SN L K ⟨t, l, σ⟩ = vcD P r (if op.eff = true then SN ++ [(l, σ)] else SN) L K (St.put ⟨t, l, σ⟩ d (.tup [])) := rfl
theorem gD_tt {op : AOp} : gD P (.bool true) true d op ms r SN L K st = vcD P ((⟨d, op, none⟩, ms) :: r) SN L K st := rfl
theorem gD_ff {op : AOp} : gD P (.bool false) false d op ms r SN L K st = vcD P ((⟨d, op, none⟩, ms) :: r) SN L K st := rfl
theorem gD_tf {op : AOp} : gD P (.bool true) false d op ms r SN L K ⟨t, l, σ⟩ = vcD P r (if op.eff = true then SN ++ [(l, σ)] else SN) L K (St.put ⟨t, l, σ⟩ d (.tup [])) := rfl
theorem gD_ft {op : AOp} : gD P (.bool false) true d op ms r SN L K ⟨t, l, σ⟩ = vcD P r (if op.eff = true then SN ++ [(l, σ)] else SN) L K (St.put ⟨t, l, σ⟩ d (.tup [])) := rfl
theorem chkL_nil : chkL SN [] = True := rfl
theorem chkL_cons {g : Bool} {n : Nat} {a v : V} : chkL SN ((a, g, n, v, ms) :: L) = (chk1 SN g n a v ms ∧ chkL SN L) := rfl
theorem chk1_nil {g : Bool} {n : Nat} {a v : V} : chk1 SN g n a v [] = True := rfl
theorem chk1_cons {g : Bool} {n m : Nat} {a v : V} : chk1 SN g n a v (m :: ms) = (ldS (SN.getD m stoD) g n a = some v ∧ chk1 SN g n a v ms) := rfl
theorem sget0 {s u : Sto} : (s :: SN).getD 0 u = s := rfl
theorem sgetS {s u : Sto} {n : Nat} : (s :: SN).getD (n + 1) u = SN.getD n u := rfl
theorem sapp0 {s : Sto} : ([] : List Sto) ++ [s] = [s] := rfl
theorem sappS {s u : Sto} : (s :: SN) ++ [u] = s :: (SN ++ [u]) := rfl
theorem ldS_loc {g : Bool} {n i o : Nat} : ldS (l, σ) g n (.ptr (.loc i) o) = ldB l[i]? g n o := rfl
theorem ldS_out {g : Bool} {n i o : Nat} : ldS (l, σ) g n (.ptr (.out i) o) = ldB (σ.box i) g n o := rfl
theorem ldS_elt {g : Bool} {n o : Nat} {cs : List V} {s : Sto} : ldS s g n (.elt cs o) = ldC g n (cs.drop o) := rfl
def drawT (P : Program) (l : List (List V)) (σ : Store) (o : List (AO × List Nat)) (K : St → Prop) : Option (List V) → Prop
  | some t => vcD P o [(l, σ)] [] K ⟨t, l, σ⟩
  | none => False
theorem vc_drawA {Q : Exit → St → Prop} {o : List (AO × List Nat)} {nv : List Nat} : vc P (.drawA nv o) Q ⟨t, l, σ⟩ = drawT P l σ o (Q .normal) (anyAt nv t) := by
  simp only [vc]
  cases anyAt nv t with
  | none => simp [drawT]
  | some t' => simp [drawT]
theorem drawT_some {K : St → Prop} {o : List (AO × List Nat)} : drawT P l σ o K (some t) = vcD P o [(l, σ)] [] K ⟨t, l, σ⟩ := rfl
theorem anyAt_nil : anyAt [] t = some t := rfl
def anyB (b : Bool) (x : Option (List V)) : Option (List V) := if b then x else none
theorem anyAt_cons {d : Nat} {ds : List Nat} : anyAt (d :: ds) t = anyB (decide (d < t.length)) (anyAt ds (t.set d .any)) := by
  simp only [anyAt, anyB, decide_eq_true_eq]
theorem anyB_t {y : Option (List V)} : anyB true y = y := rfl
theorem vc_hole {Q : Exit → St → Prop} {o : List (AO × List Nat)} {h : HI} : vc P (.hole o h) Q ⟨t, l, σ⟩ = vcD P o [(l, σ)] [] (HoleW h (Q .normal)) ⟨t, l, σ⟩ := rfl
theorem hole_eq {h : HI} : HoleW h K ⟨t, l, σ⟩ = HoleK h K ⟨weakT h t, l, σ⟩ := rfl
theorem weakT_none {k : Nat} {a b c e f : X} {d9 d10 dF : Nat} : weakT ⟨k, a, b, c, e, f, none, d9, d10, dF⟩ t = (t.set d9 .any).set d10 .any := rfl
theorem weakT_some {k off : Nat} {a b c e f : X} {d9 d10 dF : Nat} : weakT ⟨k, a, b, c, e, f, some off, d9, d10, dF⟩ t = ((t.set d9 .any).set d10 .any).set dF .any := rfl
theorem hole_intro {h : HI} {τ : Nat} {m : List (List V)} {c : List V} {t' : Tk} {j : IntKind} {p : V} {st' : St} {cs : List V} (es : ev ⟨t, l, σ⟩ h.s = .sl (.tk τ) h.k m) (ez : ev ⟨t, l, σ⟩ h.z = .sl t' h.k [c])
    (el : ev ⟨t, l, σ⟩ h.len = .int j m.length) (hb : m.length + 1 ≤ big) (ht : σ.tip τ = some m.length) (hx : (ev ⟨t, l, σ⟩ h.x).wd = some h.k ∧ oneL (ev ⟨t, l, σ⟩ h.x).cells = true ∧ nolL (ev ⟨t, l, σ⟩ h.x).cells = true)
    (hcs : eraseL (ev ⟨t, l, σ⟩ h.x).cells = cs) (hd : h.d9 < t.length ∧ h.d10 < t.length ∧ (h.fo.isSome = true → h.dF < t.length)) (hp : fldO h.fo (ev ⟨t, l, σ⟩ h.addr) = some p)
    (hst : stV ⟨t, l, σ⟩ 1 (.sl (.tk τ) h.k (m ++ [cs])) p = some st') (hk : K ⟨st'.t, st'.loc, st'.out.setTip τ (m.length + 1)⟩) : HoleK h K ⟨t, l, σ⟩ :=
  ⟨τ, m, c, t', j, es, ez, el, hb, ht, hx.1, hx.2.1, hx.2.2, hd.1, hd.2.1, hd.2.2, p, hp, st', by rw [hcs]; exact hst, hk⟩
end
section
variable {x y z : X} {n m : Nat} {c : List V} {g : Bool} {bo : BinOp} {ks : List Nat} {xs ys : List X} {ps : List (Nat × Nat × X)} {fn : Fn} {ik : IntKind}
theorem eff_pick : (AOp.pick x y z).eff = false := rfl
theorem eff_alloc : (AOp.alloc c).eff = true := rfl
theorem eff_boxS : (AOp.boxS n x).eff = true := rfl
theorem eff_box : (AOp.box n x).eff = true := rfl
theorem eff_build : (AOp.build c ps).eff = false := rfl
theorem eff_bslice : (AOp.bslice n xs).eff = false := rfl
theorem eff_load : (AOp.load g n x).eff = false := rfl
theorem eff_store : (AOp.store n x y).eff = true := rfl
theorem eff_nilck : (AOp.nilck x).eff = false := rfl
theorem eff_binI : (AOp.binI bo x y).eff = false := rfl
theorem eff_binS : (AOp.binS bo x y).eff = false := rfl
theorem eff_binB : (AOp.binB g x y).eff = false := rfl
theorem eff_cat : (AOp.cat x y).eff = false := rfl
theorem eff_eqA : (AOp.eqA g ks x y).eff = false := rfl
theorem eff_not : (AOp.not x).eff = false := rfl
theorem eff_lenS : (AOp.lenS x).eff = false := rfl
theorem eff_lenT : (AOp.lenT x).eff = false := rfl
theorem eff_fld : (AOp.fld n x).eff = false := rfl
theorem eff_fldv : (AOp.fldv g n m x).eff = false := rfl
theorem eff_idxA : (AOp.idxA n x y).eff = false := rfl
theorem eff_idxP {m k : Nat} : (AOp.idxP m k x y).eff = false := rfl
theorem eff_idxS : (AOp.idxS x y).eff = false := rfl
theorem eff_call : (AOp.call n xs).eff = true := rfl
theorem eff_callv : (AOp.callv x xs).eff = true := rfl
theorem eff_app : (AOp.app n x y).eff = true := rfl
theorem eff_appS : (AOp.appS x y).eff = true := rfl
theorem eff_ext : (AOp.ext x n).eff = false := rfl
theorem eff_mkfn : (AOp.mkfn fn xs ys).eff = false := rfl
theorem eff_cvI : (AOp.cvI ik x).eff = false := rfl
theorem eff_cvBS : (AOp.cvBS x).eff = false := rfl
theorem eff_mv : (AOp.mv x).eff = false := rfl
end
end Go.Am

namespace Go.Am
section
variable {k : IntKind} {a b : Int} {c e : List V} {n m : Nat} {x y : V} {u v : List UInt8} {p q : Bool} {l : List (List V)} {τ : Tk}
theorem ikEq_same : ikEq k k = true := by cases k <;> rfl
theorem binIV_int {op : BinOp} : binIV op (.int k a) (.int k b) = intV k a b op := by simp [binIV, ikEq_same]
theorem intV_add : intV k a b .add = some (.int k (k.wrap (a + b))) := rfl
theorem intV_sub : intV k a b .sub = some (.int k (k.wrap (a - b))) := rfl
theorem intV_mul : intV k a b .mul = some (.int k (k.wrap (a * b))) := rfl
theorem intV_eql : intV k a b .eql = some (.bool (decide (a = b))) := rfl
theorem intV_neq : intV k a b .neq = some (.bool (!decide (a = b))) := rfl
theorem intV_lss : intV k a b .lss = some (.bool (decide (a < b))) := rfl
theorem intV_leq : intV k a b .leq = some (.bool (decide (a ≤ b))) := rfl
theorem intV_gtr : intV k a b .gtr = some (.bool (decide (b < a))) := rfl
theorem intV_geq : intV k a b .geq = some (.bool (decide (b ≤ a))) := rfl
theorem binSV_str {op : BinOp} : binSV op (.str u) (.str v) = strV u v op := rfl
theorem strV_eql : strV u v .eql = some (.bool (decide (u = v))) := rfl
theorem strV_neq : strV u v .neq = some (.bool (!decide (u = v))) := rfl
theorem strV_lss : strV u v .lss = some (.bool (Op.bytesLess u v)) := rfl
theorem strV_leq : strV u v .leq = some (.bool (Op.bytesLess u v || decide (u = v))) := rfl
theorem strV_gtr : strV u v .gtr = some (.bool (!(Op.bytesLess u v || decide (u = v)))) := rfl
theorem strV_geq : strV u v .geq = some (.bool (!Op.bytesLess u v)) := rfl
theorem eqBV_f : eqBV false (.bool p) (.bool q) = some (.bool (decide (p = q))) := rfl
theorem eqBV_t : eqBV true (.bool p) (.bool q) = some (.bool (!decide (p = q))) := rfl
def eqM (neg : Bool) : Option Bool → Option V | some b => some (.bool (if neg then !b else b)) | none => none
theorem eqM_f : eqM false (some p) = some (.bool p) := rfl
theorem eqM_t : eqM true (some p) = some (.bool (!p)) := rfl
theorem eqAV_agg {neg : Bool} {ks : List Nat} : eqAV neg ks (.agg c) (.agg e) = eqM neg (eqC ks c e) := by
  simp only [eqAV]; cases eqC ks c e <;> rfl
def andM (b : Bool) : Option Bool → Option Bool | some c => some (b && c) | none => none
theorem andM_some : andM p (some q) = some (p && q) := rfl
theorem eqC_nil : eqC [] [] [] = some true := rfl
theorem eqC_int {ks : List Nat} : eqC (1 :: ks) (.int k a :: c) (.int k b :: e) = andM (decide (a = b)) (eqC ks c e) := by
  simp only [eqC, ikEq_same, if_true]; cases eqC ks c e <;> rfl
theorem eqC_str {ks : List Nat} : eqC (2 :: ks) (.str u :: c) (.str v :: e) = andM (decide (u = v)) (eqC ks c e) := by
  simp only [eqC]; cases eqC ks c e <;> rfl
theorem eqC_bool {ks : List Nat} : eqC (0 :: ks) (.bool p :: c) (.bool q :: e) = andM (decide (p = q)) (eqC ks c e) := by
  simp only [eqC]; cases eqC ks c e <;> rfl
theorem wd_agg : (V.agg c).wd = some c.length := rfl
theorem wd_int : (V.int k a).wd = some 1 := rfl
theorem wd_bool : (V.bool p).wd = some 1 := rfl
theorem wd_str : (V.str u).wd = some 1 := rfl
theorem wd_sl : (V.sl τ n l).wd = some 1 := rfl
theorem wd_ptr {o : Pl} : (V.ptr o n).wd = some 1 := rfl
theorem wd_elt : (V.elt c n).wd = some 1 := rfl
theorem wd_fn {f : Fn} : (V.fn f c e).wd = some 1 := rfl
theorem wd_nilp : V.nilp.wd = some 1 := rfl
theorem cells_agg : (V.agg c).cells = c := rfl
theorem cells_int : (V.int k a).cells = [.int k a] := rfl
theorem cells_bool : (V.bool p).cells = [.bool p] := rfl
theorem cells_str : (V.str u).cells = [.str u] := rfl
theorem cells_sl : (V.sl τ n l).cells = [.sl τ n l] := rfl
theorem cells_ptr {o : Pl} : (V.ptr o n).cells = [.ptr o n] := rfl
theorem cells_elt : (V.elt c n).cells = [.elt c n] := rfl
theorem cells_fn {f : Fn} : (V.fn f c e).cells = [.fn f c e] := rfl
theorem cells_nilp : V.nilp.cells = [.nilp] := rfl
theorem oneL_nil : oneL [] = true := rfl
theorem oneL_cons : oneL (x :: c) = (x.one && oneL c) := rfl
theorem one_int : (V.int k a).one = true := rfl
theorem one_bool : (V.bool p).one = true := rfl
theorem one_str : (V.str u).one = true := rfl
theorem one_sl : (V.sl τ n l).one = true := rfl
theorem one_ptr {o : Pl} : (V.ptr o n).one = true := rfl
theorem one_elt : (V.elt c n).one = true := rfl
theorem one_fn {f : Fn} : (V.fn f c e).one = true := rfl
theorem one_nilp : V.nilp.one = true := rfl
theorem nolL_nil : nolL [] = true := rfl
theorem nolL_cons : nolL (x :: c) = (x.nol && nolL c) := rfl
theorem nol_int : (V.int k a).nol = true := rfl
theorem nol_bool : (V.bool p).nol = true := rfl
theorem nol_str : (V.str u).nol = true := rfl
theorem nol_sl : (V.sl τ n l).nol = true := rfl
theorem nol_any : V.any.nol = true := rfl
theorem nol_out : (V.ptr (.out m) n).nol = true := rfl
theorem nol_elt : (V.elt c n).nol = true := rfl
theorem nol_nilp : V.nilp.nol = true := rfl
theorem nol_agg : (V.agg c).nol = nolL c := rfl
theorem nol_tup : (V.tup c).nol = nolL c := rfl
theorem nol_fn {f : Fn} : (V.fn f c e).nol = (nolL c && nolL e) := rfl
theorem nol_raw {w : Value} : (V.raw w).nol = true := rfl
theorem er_int : (V.int k a).erase = .int k a := rfl
theorem er_bool : (V.bool p).erase = .bool p := rfl
theorem er_str : (V.str u).erase = .str u := rfl
theorem er_sl : (V.sl τ n l).erase = .sl .no n l := rfl
theorem er_any : V.any.erase = .any := rfl
theorem er_ptr {o : Pl} : (V.ptr o n).erase = .ptr o n := rfl
theorem er_elt : (V.elt c n).erase = .elt c n := rfl
theorem er_nilp : V.nilp.erase = .nilp := rfl
theorem er_agg : (V.agg c).erase = .agg (eraseL c) := rfl
theorem er_tup : (V.tup c).erase = .tup (eraseL c) := rfl
theorem er_fn {f : Fn} : (V.fn f c e).erase = .fn f c e := rfl
theorem erL_nil : eraseL [] = [] := rfl
theorem erL_cons : eraseL (x :: c) = x.erase :: eraseL c := rfl
theorem hasN_zero : hasN 0 c = true := by cases c <;> rfl
theorem hasN_succ : hasN (n + 1) (x :: c) = hasN n c := rfl
theorem over_nil : over c [] = c := by cases c <;> rfl
theorem over_cons : over (x :: c) (y :: e) = y :: over c e := rfl
theorem setAt_zero : setAt c 0 e = over c e := by cases c <;> rfl
theorem setAt_succ : setAt (x :: c) (n + 1) e = x :: setAt c n e := rfl
theorem len_nil : ([] : List V).length = 0 := rfl
theorem len_cons : (x :: c).length = c.length + 1 := rfl
theorem get0 : (c :: l)[0]? = some c := rfl
theorem getS : (c :: l)[n + 1]? = l[n]? := by simp
theorem lset0 : (c :: l).set 0 e = e :: l := rfl
theorem lsetS : (c :: l).set (n + 1) e = c :: l.set n e := rfl
theorem app_nil' : ([] : List (List V)) ++ l = l := rfl
theorem app_cons' : (c :: l) ++ [e] = c :: (l ++ [e]) := rfl
theorem vapp_nil : ([] : List V) ++ c = c := rfl
theorem vapp_cons : (x :: c) ++ e = x :: (c ++ e) := rfl
theorem llen_nil : ([] : List (List V)).length = 0 := rfl
theorem llen_cons : (c :: l).length = l.length + 1 := rfl
theorem eqN {a : Nat} : (a = a) = True := by simp
theorem eqI {a : Int} : (a = a) = True := by simp
theorem some_eq {α : Type} {x y : α} : (some x = some y) = (x = y) := by simp
theorem one_eq_one : (1 = 1) = True := by simp
theorem true_eq : (true = true) = True := by simp
theorem false_eq' : (false = true) = False := by simp
theorem tt_and : (true && p) = p := rfl
theorem ff_and : (false && p) = false := rfl
theorem and_tt : (p && true) = p := by simp
theorem and_ff : (p && false) = false := by simp
theorem tt_or : (true || p) = true := rfl
theorem ff_or : (false || p) = p := rfl
theorem or_ff : (p || false) = p := by simp
theorem not_tt : (!true) = false := rfl
theorem not_ff : (!false) = true := rfl
theorem ite_t {α : Type} {x y : α} : (if True then x else y) = x := if_pos trivial
theorem ite_f {α : Type} {x y : α} : (if False then x else y) = y := if_neg fun h => h
theorem itp_t {x y : Prop} : (if True then x else y) = x := if_pos trivial
theorem itp_f {x y : Prop} : (if False then x else y) = y := if_neg fun h => h
theorem tand {q : Prop} : (True ∧ q) = q := by simp
theorem andt {q : Prop} : (q ∧ True) = q := by simp
theorem rlZ {x : V} : List.replicate 0 x = [] := rfl
theorem rlS {x : V} : List.replicate (n + 1) x = x :: List.replicate n x := rfl
theorem lle_any {v : V} : LLe (v :: c) (.any :: e) = LLe c e := by simp [LLe, VLe.any]
theorem lle_same {v : V} : LLe (v :: c) (v :: e) = LLe c e := by simp [LLe, VLe.rfl]
def E0 : Env := ⟨default, fun _ => .const, fun _ => none, fun _ => none⟩
theorem vle_int : VLe (.int k a) (.int k b) = (a = b) := by
  refine propext ⟨fun h => ?_, fun h => h ▸ VLe.rfl⟩
  have := h E0 (.int k a) (by simp [R])
  simpa [R] using this
theorem vle_bool : VLe (.bool p) (.bool q) = (p = q) := by
  refine propext ⟨fun h => ?_, fun h => h ▸ VLe.rfl⟩
  have := h E0 (.bool p) (by simp [R])
  simpa [R] using this
theorem vle_str : VLe (.str u) (.str v) = (u = v) := by
  refine propext ⟨fun h => ?_, fun h => h ▸ VLe.rfl⟩
  have := h E0 (.string ⟨u.toArray⟩) (by simp [R])
  simpa [R] using this
theorem lle_int : LLe (.int k a :: c) (.int k b :: e) = (a = b ∧ LLe c e) := by simp [LLe, vle_int]
theorem lle_bool : LLe (.bool p :: c) (.bool q :: e) = (p = q ∧ LLe c e) := by simp [LLe, vle_bool]
theorem lle_str : LLe (.str u :: c) (.str v :: e) = (u = v ∧ LLe c e) := by simp [LLe, vle_str]
theorem lle_no : LLe (.sl τ n l :: c) (.sl .no n l :: e) = LLe c e := by simp [LLe, VLe.no]
theorem llle_nil : LLLe [] [] = True := rfl
theorem llle_cons {c e : List V} {l m : List (List V)} : LLLe (c :: l) (e :: m) = (LLe c e ∧ LLLe l m) := rfl
theorem llle_same {l : List (List V)} : LLLe l l = True := by simp [LLLe.rfl]
theorem ole_same {σ : Store} : OLe σ σ = True := by simp [OLe.rfl]
theorem lle_nil : LLe [] [] = True := rfl
end
theorem Upd.enter {ι : Type} {I : ι → St} {t : List V} {l : List (List V)} {σ : Store} (j : ι) (h : LLe t (I j).t) (hl : LLLe l (I j).loc) (ho : OLe σ (I j).out) : Upd ⟨t, l, σ⟩ fun st' => ∃ i, st' = I i :=
  Upd.weak h hl ho ⟨j, rfl⟩
theorem Upd.again {ι : Type} {I : ι → St} {μ : ι → Nat} {n : Nat} {t : List V} {l : List (List V)} {σ : Store} (j : ι) (hm : μ j < n) (h : LLe t (I j).t) (hl : LLLe l (I j).loc) (ho : OLe σ (I j).out) :
    Upd ⟨t, l, σ⟩ fun st' => ∃ i, st' = I i ∧ μ i < n := Upd.weak h hl ho ⟨j, rfl, hm⟩
theorem wrap_i64 {x : Int} (h1 : -9223372036854775808 ≤ x) (h2 : x ≤ 9223372036854775807) : IntKind.i64.wrap x = x := IntWalk.i64_in x ⟨h1, h2⟩
theorem Store.set_id {σ : Store} {b : Nat} {cs : List V} (h : σ.box b = some cs) : σ.set b cs = σ := by
  cases σ
  simp only [Store.set, Store.mk.injEq, and_true]
  funext x
  split
  · rename_i hx; rw [hx]; exact h.symm
  · rfl
theorem Store.set_set {σ : Store} {b : Nat} {cs ds : List V} : (σ.set b cs).set b ds = σ.set b ds := by
  simp only [Store.set, Store.mk.injEq, and_true]
  funext x
  split <;> rfl
theorem Store.set_comm {σ : Store} {b c : Nat} {cs ds : List V} (h : b ≠ c) : (σ.set b cs).set c ds = (σ.set c ds).set b cs := by
  simp only [Store.set, Store.mk.injEq, and_true]
  funext x
  by_cases h1 : x = c
  · subst h1
    rw [if_pos rfl, if_neg (fun h2 => h h2.symm), if_pos rfl]
  · rw [if_neg h1, if_neg h1]
def VTo (τ n : Nat) (v v' : V) : Prop := ∀ E E', E.le E' → E'.tip τ = some n → ∀ u, R E v u → R E' v' u
theorem VTo.same {τ n : Nat} {v : V} : VTo τ n v v := fun _ _ h _ _ hr => hr.mono _ h
theorem VTo.le {τ n : Nat} {v v' : V} (h : VLe v v') : VTo τ n v v' := fun _ _ hl _ _ hr => (h _ _ hr).mono _ hl
theorem VTo.tok {τ n k : Nat} {m : List (List V)} (h : m.length = n) : VTo τ n (.sl .full k m) (.sl (.tk τ) k m) := fun E E' hl ht u hr => by
  have hr' := hr.mono _ hl
  simp only [R] at hr' ⊢
  obtain ⟨a, cap, h1, h2, h3, h4⟩ := hr'
  exact ⟨a, cap, h1, h2, h3, n, ht, by omega, fun _ => .inl h4⟩
def LTo (τ n : Nat) : List V → List V → Prop
  | [], [] => True
  | v :: l, v' :: l' => VTo τ n v v' ∧ LTo τ n l l'
  | _, _ => False
theorem LTo.rfl {τ n : Nat} : ∀ {l : List V}, LTo τ n l l
  | [] => trivial
  | _ :: _ => ⟨VTo.same, LTo.rfl⟩
theorem LTo.mono {τ n : Nat} {E E' : Env} (hl : E.le E') (ht : E'.tip τ = some n) : ∀ {l l' : List V} {us : List Value}, LTo τ n l l' → RL E l us → RL E' l' us
  | [], [], [], _, _ => by simp [RL]
  | [], [], _ :: _, _, h => by simp [RL] at h
  | [], _ :: _, _, h, _ => h.elim
  | _ :: _, [], _, h, _ => h.elim
  | v :: l, v' :: l', [], _, h => by simp [RL] at h
  | v :: l, v' :: l', u :: us, h, hr => by
    simp only [RL] at hr ⊢
    exact ⟨h.1 _ _ hl ht _ hr.1, LTo.mono hl ht h.2 hr.2⟩
theorem LTo.length {τ n : Nat} : ∀ {l l' : List V}, LTo τ n l l' → l.length = l'.length
  | [], [], _ => Eq.refl _
  | [], _ :: _, h => h.elim
  | _ :: _, [], h => h.elim
  | v :: l, v' :: l', h => by simp [LTo.length h.2]
theorem LTo.get {τ n : Nat} : ∀ {l l' : List V}, LTo τ n l l' → ∀ (j : Nat) v', l'[j]? = some v' → ∃ v, l[j]? = some v ∧ VTo τ n v v'
  | [], [], _, j, v', h => by simp at h
  | [], _ :: _, h, _, _, _ => h.elim
  | _ :: _, [], h, _, _, _ => h.elim
  | v :: l, w :: l', h, j, v', hj => by
    cases j with
    | zero => simp at hj; subst hj; exact ⟨v, by simp, h.1⟩
    | succ j => simp at hj; obtain ⟨u, h1, h2⟩ := LTo.get h.2 j v' hj; exact ⟨u, by simpa using h1, h2⟩
theorem BoxAt.tok {τ n : Nat} {E E' : Env} (hl : E.le E') (ht : E'.tip τ = some n) {b : Nat} {cs cs' : List V} (hw : E'.w = E.w) (h : LTo τ n cs cs') (k : BoxAt E b cs) : BoxAt E' b cs' := by
  obtain ⟨c, e, h1, h2, h3⟩ := k
  refine ⟨c, e, by rw [hw]; exact h1, by rw [← h.length]; exact h2, fun j x hx => ?_⟩
  obtain ⟨v, hv, hle⟩ := h.get j x hx
  obtain ⟨u, k1, k2⟩ := h3 j v hv
  exact ⟨u, k1, hle _ _ hl ht _ k2⟩
structure OTo (τ n : Nat) (σ σ' : Store) : Prop where
  box : ∀ b cs', σ'.box b = some cs' → ∃ cs, σ.box b = some cs ∧ LTo τ n cs cs'
  tip : ∀ υ m, σ'.tip υ = some m → σ.tip υ = some m
theorem OTo.rfl {τ n : Nat} {σ : Store} : OTo τ n σ σ := ⟨fun _ cs h => ⟨cs, h, LTo.rfl⟩, fun _ _ h => h⟩
theorem OTo.set {τ n b : Nat} {σ : Store} {cs cs' : List V} (h : σ.box b = some cs) (k : LTo τ n cs cs') : OTo τ n σ (σ.set b cs') := by
  refine ⟨fun c ds hds => ?_, fun _ _ h => h⟩
  simp only [Store.set] at hds
  split at hds
  · rename_i hc; subst hc; simp only [Option.some.injEq] at hds; subst hds; exact ⟨cs, h, k⟩
  · exact ⟨ds, hds, LTo.rfl⟩
theorem Upd.tok {t : List V} {l : List (List V)} {σ : Store} {K : St → Prop} (n : Nat) (h : ∀ τ, σ.tip τ = none → ∃ t' l' σ', LTo τ n t t' ∧ l.length = l'.length ∧ (∀ (i : Nat) c', l'[i]? = some c' → ∃ c, l[i]? = some c ∧ LTo τ n c c') ∧ OTo τ n σ σ' ∧ K ⟨t', l', σ'.setTip τ n⟩) :
    Upd ⟨t, l, σ⟩ K := by
  intro E a hs
  obtain ⟨N, hN⟩ := hs.ok.nt
  have hfresh : σ.tip N = none := by
    cases hq : σ.tip N with
    | none => rfl
    | some m => have := hs.ok.tip N m hq; rw [hN N (Nat.le_refl _)] at this; simp at this
  obtain ⟨t', l', σ', h1, h2, h3, h4, h5⟩ := h N hfresh
  let E' : Env := { E with tip := fun t => if t = N then some n else E.tip t }
  have ht : E'.tip N = some n := by simp [E']
  have hfr : Fr E E' := fr_ext (E' := E') hs.ok.fresh (Ext.refl _) (fun _ _ => rfl) (fun t m hm => by
    simp only [E']
    split
    · rename_i hq; subst hq; rw [hN t (Nat.le_refl _)] at hm; simp at hm
    · exact hm)
  have hle : E.le E' := hfr.le fun _ _ h => h
  refine ⟨E', _, rfl, hfr, ⟨⟨fun b cs hcs => ?_, fun τ m hm => ?_, hs.ok.fresh, ?_⟩, ⟨fun i cs hcs => ?_, fun i hi => hs.okL.none i (by rw [h2]; exact hi)⟩, hs.defers, h1.mono hle ht hs.slot⟩, h5⟩
  · obtain ⟨cs0, q1, q2⟩ := h4.box b cs hcs
    obtain ⟨k1, k2⟩ := hs.ok.box b cs0 q1
    exact ⟨k1, k2.tok hfr.nl ht rfl q2⟩
  · simp only [Store.setTip] at hm
    simp only [E']
    split at hm
    · rename_i hq; rw [if_pos hq]; exact hm
    · rename_i hq; rw [if_neg hq]; exact hs.ok.tip τ m (h4.tip τ m hm)
  · exact ⟨N + 1, fun t ht' => by simp only [E']; rw [if_neg (by omega)]; exact hN t (by omega)⟩
  · obtain ⟨c, q1, q2⟩ := h3 i cs hcs
    obtain ⟨b, k1, k2, k3⟩ := hs.okL.box i c q1
    exact ⟨b, k1, k2, k3.tok hle ht rfl q2⟩
def am := And.intro @Store.set_set <| And.intro @vc_drawA <| And.intro @drawT_some <| And.intro @anyAt_nil <| And.intro @anyAt_cons <| And.intro @anyB_t <| And.intro @d_boxS <| And.intro @eff_boxS <| And.intro (And.intro (And.intro (And.intro (And.intro (And.intro (And.intro @d_nil @kD_eq) (And.intro @d_mv (And.intro @d_pick @pickD_true))) (And.intro (And.intro @pickD_false @pickD_ff) (And.intro @pickD_tt (And.intro @d_alloc @d_box)))) (And.intro (And.intro (And.intro @d_build @d_bslice) (And.intro @ldD_some (And.intro @d_load @stD_some))) (And.intro (And.intro @d_store (And.intro @d_nilck @d_binI)) (And.intro @d_binS (And.intro @d_binB @d_cat))))) (And.intro (And.intro (And.intro (And.intro @d_eqA @d_not) (And.intro @d_lenS (And.intro @d_lenT @d_fld))) (And.intro (And.intro @d_fldv (And.intro @d_idxA @d_idxS)) (And.intro @kCD_eq (And.intro @d_call @d_callv)))) (And.intro (And.intro (And.intro @callD_fn @d_app) (And.intro @d_ext (And.intro @d_mkfn @d_cvI))) (And.intro (And.intro @d_guard (And.intro (And.intro @gD_und @gD_tt) @gD_ff)) (And.intro @gD_tf (And.intro @gD_ft @chkL_nil)))))) (And.intro (And.intro (And.intro (And.intro (And.intro @chkL_cons @chk1_nil) (And.intro @chk1_cons (And.intro @sget0 @sgetS))) (And.intro (And.intro @sapp0 @sappS) (And.intro @ldS_loc (And.intro @ldS_out @ldS_elt)))) (And.intro (And.intro (And.intro @vc_hole @hole_eq) (And.intro @weakT_none (And.intro @weakT_some @eff_pick))) (And.intro (And.intro @eff_alloc (And.intro @eff_box @eff_build)) (And.intro @eff_bslice (And.intro @eff_load @eff_store))))) (And.intro (And.intro (And.intro (And.intro @eff_nilck @eff_binI) (And.intro @eff_binS (And.intro @eff_binB @eff_cat))) (And.intro (And.intro @eff_eqA (And.intro @eff_not @eff_lenS)) (And.intro @eff_lenT (And.intro @eff_fld @eff_fldv)))) (And.intro (And.intro (And.intro @eff_idxA @eff_idxS) (And.intro @eff_call (And.intro @eff_callv @eff_app))) (And.intro (And.intro @eff_appS (And.intro @eff_ext @eff_mkfn)) (And.intro @eff_cvI (And.intro @eff_cvBS @eff_mv))))))) <| And.intro @lle_int <| And.intro @lle_bool <| And.intro @lle_str <| And.intro @lle_no <| And.intro @llle_nil <| And.intro @llle_cons <| And.intro @llle_same <| And.intro @ole_same <| And.intro @lle_any <| And.intro @lle_same <| And.intro @lle_nil <| And.intro @Nat.zero_add <| And.intro @Nat.add_zero <| And.intro @eqN <| And.intro @eqI <| And.intro @itp_t <| And.intro @itp_f <| (And.intro (And.intro (And.intro (And.intro (And.intro (And.intro (And.intro @vc_skip (And.intro @vc_reg @vc_upd)) (And.intro (And.intro @vc_draw @vc_seq) (And.intro @vc_cond @vcIf_true))) (And.intro (And.intro (And.intro @vcIf_false @vc_block) (And.intro @vc_exit @vc_ret)) (And.intro (And.intro @athen_normal @athen_exit) (And.intro @athen_ret @blk_normal)))) (And.intro (And.intro (And.intro @blk_ret (And.intro @blk_exit @lpost_exit)) (And.intro (And.intro @lpost_ret @lpost_normal) (And.intro @retQ_ret @retQ_normal))) (And.intro (And.intro (And.intro @opt_some @rvs_nil) (And.intro @consO_some @rvs_cons)) (And.intro (And.intro @rv_tmp @rv_cell) (And.intro @one1_one @one1_nil))))) (And.intro (And.intro (And.intro (And.intro @one1_more (And.intro @map_some' @ev_s)) (And.intro (And.intro @ev_c @evs_nil) (And.intro @evs_cons @getD_zero))) (And.intro (And.intro (And.intro @getD_succ @set_zero) (And.intro @set_succ @put_some)) (And.intro (And.intro @put_none @o_nil) (And.intro @kL_eq @optL_some)))) (And.intro (And.intro (And.intro (And.intro @o_mv @o_pick) (And.intro @pickL_true @pickL_false)) (And.intro (And.intro @pickL_ff @pickL_tt) (And.intro @o_alloc @o_box))) (And.intro (And.intro (And.intro @o_allocO @o_boxO) (And.intro @o_build @optR_some)) (And.intro (And.intro @o_bslice @o_load) (And.intro @optS_some @o_store)))))) (And.intro (And.intro (And.intro (And.intro (And.intro @o_nilck (And.intro @nilckL_ptr @nilckL_elt)) (And.intro (And.intro @nilckL_fn @o_binI) (And.intro @o_binS @o_binB))) (And.intro (And.intro (And.intro @o_cat @catL_str) (And.intro @o_eqA @o_not)) (And.intro (And.intro @notL_bool @o_lenS) (And.intro @lenL_sl @o_lenT)))) (And.intro (And.intro (And.intro @lenTL_str (And.intro @o_fld @fldL_ptr)) (And.intro (And.intro @fldL_elt @o_fldv) (And.intro @fldvL_agg @o_idxA))) (And.intro (And.intro (And.intro @o_idxS @o_call) (And.intro @kC_eq @o_callv)) (And.intro (And.intro @callL_fn @o_app) (And.intro @o_ext @extL_zero))))) (And.intro (And.intro (And.intro (And.intro @extL_succ (And.intro @o_mkfn @o_cvI)) (And.intro (And.intro @cvL_int @o_guard) (And.intro (And.intro @gL_und @gL_tt) @gL_ff))) (And.intro (And.intro (And.intro @gL_tf @gL_ft) (And.intro @ldV_loc' @ldV_out)) (And.intro (And.intro @ldV_elt @ldB_some) (And.intro @ldC_agg @ldC_one)))) (And.intro (And.intro (And.intro (And.intro @takeN_zero @takeN_succ') (And.intro @mapC_some @drop_zero')) (And.intro (And.intro @drop_succ @stV_loc) (And.intro @stL_some @stV_out))) (And.intro (And.intro (And.intro @stO_some @set_box) (And.intro @setTip_box @set_tip)) (And.intro (And.intro @setTip_tip @buildV_nil) (And.intro @buildV_cons @bldL_ok))))))) (And.intro (And.intro (And.intro (And.intro (And.intro (And.intro @rowsV_nil (And.intro @rowsV_cons @rowL_some)) (And.intro (And.intro @rowC_ok @binIV_int) (And.intro @intV_add @intV_sub))) (And.intro (And.intro (And.intro @intV_mul @intV_eql) (And.intro @intV_neq @intV_lss)) (And.intro (And.intro @intV_leq @intV_gtr) (And.intro @intV_geq @binSV_str)))) (And.intro (And.intro (And.intro @strV_eql (And.intro @strV_neq @strV_lss)) (And.intro (And.intro @strV_leq @strV_gtr) (And.intro @strV_geq @eqBV_f))) (And.intro (And.intro (And.intro @eqBV_t @eqM_f) (And.intro @eqM_t @eqAV_agg)) (And.intro (And.intro @andM_some @eqC_nil) (And.intro @eqC_int @eqC_str))))) (And.intro (And.intro (And.intro (And.intro @eqC_bool (And.intro @wd_agg @wd_int)) (And.intro (And.intro @wd_bool @wd_str) (And.intro @wd_sl @wd_ptr))) (And.intro (And.intro (And.intro @wd_elt @wd_fn) (And.intro @wd_nilp @cells_agg)) (And.intro (And.intro @cells_int @cells_bool) (And.intro @cells_str @cells_sl)))) (And.intro (And.intro (And.intro (And.intro @cells_ptr @cells_elt) (And.intro @cells_fn @cells_nilp)) (And.intro (And.intro @oneL_nil @oneL_cons) (And.intro @one_int @one_bool))) (And.intro (And.intro (And.intro @one_str @one_sl) (And.intro @one_ptr @one_elt)) (And.intro (And.intro @one_fn @one_nilp) (And.intro @nolL_nil @nolL_cons)))))) (And.intro (And.intro (And.intro (And.intro (And.intro @nol_int (And.intro @nol_bool @nol_str)) (And.intro (And.intro @nol_sl @nol_any) (And.intro @nol_out @nol_elt))) (And.intro (And.intro (And.intro @nol_nilp @nol_agg) (And.intro @nol_tup @nol_fn)) (And.intro (And.intro @nol_raw @er_int) (And.intro @er_bool @er_str)))) (And.intro (And.intro (And.intro (And.intro @er_sl @er_any) (And.intro @er_ptr @er_elt)) (And.intro (And.intro @er_nilp @er_agg) (And.intro @er_tup @er_fn))) (And.intro (And.intro (And.intro @erL_nil @erL_cons) (And.intro @hasN_zero @hasN_succ)) (And.intro (And.intro @over_nil @over_cons) (And.intro @setAt_zero @setAt_succ))))) (And.intro (And.intro (And.intro (And.intro @len_nil (And.intro @len_cons @get0)) (And.intro (And.intro @getS @lset0) (And.intro @lsetS @app_nil'))) (And.intro (And.intro (And.intro @app_cons' @vapp_nil) (And.intro @vapp_cons @llen_nil)) (And.intro (And.intro @llen_cons @some_eq) (And.intro @one_eq_one @true_eq)))) (And.intro (And.intro (And.intro (And.intro @false_eq' @tt_and) (And.intro @ff_and @and_tt)) (And.intro (And.intro @and_ff @tt_or) (And.intro @ff_or @or_ff))) (And.intro (And.intro (And.intro @not_tt @not_ff) (And.intro @ite_t @ite_f)) (And.intro (And.intro @tand @andt) (And.intro @rlZ @rlS))))))))
end Go.Am

namespace Go.Am
section
variable {τ n k : Nat} {v v' : V} {c e t : List V} {l l' : List (List V)} {σ : Store}
theorem vto_any : VTo τ n v .any = True := by simp [VTo.le VLe.any]
theorem vto_same : VTo τ n v v = True := by simp [VTo.same]
theorem vto_tok : VTo τ 0 (.sl .full k []) (.sl (.tk τ) k []) = True := by simp [VTo.tok]
theorem lto_cons : LTo τ n (v :: c) (v' :: e) = (VTo τ n v v' ∧ LTo τ n c e) := rfl
theorem lto_nil : LTo τ n [] [] = True := rfl
theorem lto_same : LTo τ n c c = True := by simp [LTo.rfl]
def lto := And.intro @vto_any <| And.intro @vto_same <| And.intro @vto_tok <| And.intro @lto_cons <| And.intro @lto_nil @lto_same
theorem Upd.tokEnter {ι : Type} {I : ι → St} (n : Nat) (h : ∀ τ, σ.tip τ = none → ∃ i, LTo τ n t (I i).t ∧ l = (I i).loc ∧ (I i).out = σ.setTip τ n) : Upd ⟨t, l, σ⟩ fun st' => ∃ i, st' = I i :=
  Upd.tok n fun τ hτ => by
    obtain ⟨i, h1, h2, h3⟩ := h τ hτ
    refine ⟨(I i).t, (I i).loc, σ, h1, by rw [h2], fun j c' hc => ⟨c', by rw [h2]; exact hc, LTo.rfl⟩, OTo.rfl, i, ?_⟩
    rw [← h3]
theorem setTip_setTip {τ m n : Nat} : (σ.setTip τ m).setTip τ n = σ.setTip τ n := by
  simp only [Store.setTip, Store.mk.injEq, true_and]
  funext x; split <;> rfl
theorem sub_tip {τ n : Nat} (h : σ.tip τ = none) : σ.sub (σ.setTip τ n) := by
  refine ⟨fun _ _ h => h, fun υ m hm => ?_⟩
  have : υ ≠ τ := by rintro rfl; rw [h] at hm; simp at hm
  simp only [Store.setTip]; rw [if_neg this]; exact hm
theorem setTip_tip_same {τ n : Nat} : (σ.setTip τ n).tip τ = some n := by simp [Store.setTip]
end
theorem take_succ_of {α : Type} {l : List α} {i : Nat} {x : α} (h : l[i]? = some x) : l.take (i + 1) = l.take i ++ [x] := by rw [List.take_add_one, h]; simp
mutual
def V.lo (n : Nat) : V → Bool
  | .ptr (.loc i) _ => decide (i < n)
  | .agg cs => loL n cs
  | .tup cs => loL n cs
  | .fn _ a b => loL n a && loL n b
  | _ => true
def loL (n : Nat) : List V → Bool
  | [] => true
  | x :: xs => x.lo n && loL n xs
end
def loLL (n : Nat) : List (List V) → Bool
  | [] => true
  | x :: xs => loL n x && loLL n xs
def Env.cut (E : Env) (n : Nat) : Env := { E with loc := fun i => if i < n then E.loc i else none }
mutual
theorem R.cut {n : Nat} : ∀ (x : V) {E : Env} {v : Value}, x.lo n = true → R E x v → R (E.cut n) x v
  | .any, _, _, _, _ => by simp only [R]
  | .bool _, _, _, _, h => by simp only [R] at h ⊢; exact h
  | .int _ _, _, _, _, h => by simp only [R] at h ⊢; exact h
  | .str _, _, _, _, h => by simp only [R] at h ⊢; exact h
  | .nilp, _, _, _, h => by simp only [R] at h ⊢; exact h
  | .ptr (.loc i) off, E, _, hl, h => by
    simp only [V.lo, decide_eq_true_eq] at hl
    simp only [R] at h ⊢
    obtain ⟨b, h1, h2⟩ := h
    exact ⟨b, by simp [Env.cut, hl, h1], h2⟩
  | .ptr (.out _) _, _, _, _, h => by simp only [R] at h ⊢; exact h
  | .elt _ _, _, _, _, h => by simp only [R] at h ⊢; exact h
  | .sl _ _ _, _, _, _, h => by simp only [R] at h ⊢; exact h
  | .agg cs, _, _, hl, h => by
    simp only [V.lo] at hl
    simp only [R] at h ⊢
    obtain ⟨vs, h1, h2⟩ := h
    exact ⟨vs, h1, RL.cut cs hl h2⟩
  | .tup cs, _, _, hl, h => by
    simp only [V.lo] at hl
    simp only [R] at h ⊢
    obtain ⟨vs, h1, h2⟩ := h
    exact ⟨vs, h1, RL.cut cs hl h2⟩
  | .fn _ a b, _, _, hl, h => by
    simp only [V.lo, Bool.and_eq_true] at hl
    simp only [R] at h ⊢
    obtain ⟨fs, cs, h1, h2, h3⟩ := h
    exact ⟨fs, cs, h1, RL.cut a hl.1 h2, RL.cut b hl.2 h3⟩
  | .raw _, _, _, _, h => by simp only [R] at h ⊢; exact h
theorem RL.cut {n : Nat} : ∀ (l : List V) {E : Env} {vs : List Value}, loL n l = true → RL E l vs → RL (E.cut n) l vs
  | [], _, [], _, _ => by simp only [RL]
  | [], _, _ :: _, _, h => by simp only [RL] at h
  | _ :: _, _, [], _, h => by simp only [RL] at h
  | x :: xs, _, v :: vs, hl, h => by
    simp only [loL, Bool.and_eq_true] at hl
    simp only [RL] at h ⊢
    exact ⟨R.cut x hl.1 h.1, RL.cut xs hl.2 h.2⟩
end
theorem loL_get {n : Nat} : ∀ {l : List V} {j : Nat} {x : V}, loL n l = true → l[j]? = some x → x.lo n = true
  | [], j, x, _, h => by simp at h
  | y :: ys, 0, x, hl, h => by simp only [loL, Bool.and_eq_true] at hl; simp at h; rw [← h]; exact hl.1
  | y :: ys, j + 1, x, hl, h => by simp only [loL, Bool.and_eq_true] at hl; exact loL_get hl.2 (by simpa using h)
theorem loLL_get {n : Nat} : ∀ {l : List (List V)} {j : Nat} {x : List V}, loLL n l = true → l[j]? = some x → loL n x = true
  | [], j, x, _, h => by simp at h
  | y :: ys, 0, x, hl, h => by simp only [loLL, Bool.and_eq_true] at hl; simp at h; rw [← h]; exact hl.1
  | y :: ys, j + 1, x, hl, h => by simp only [loLL, Bool.and_eq_true] at hl; exact loLL_get hl.2 (by simpa using h)
theorem BoxAt.cut {E : Env} {n b : Nat} {cs : List V} (h : loL n cs = true) (k : BoxAt E b cs) : BoxAt (E.cut n) b cs := by
  obtain ⟨c, e, h1, h2, h3⟩ := k
  exact ⟨c, e, h1, h2, fun j x hx => by
    obtain ⟨u, k1, k2⟩ := h3 j x hx
    exact ⟨u, k1, R.cut x (loL_get h hx) k2⟩⟩
theorem Fr.cut (E : Env) (n : Nat) : Fr E (E.cut n) :=
  ⟨rfl, rfl, rfl, Nat.le_refl _, fun _ => rfl, (Env.le.refl E).cell, (Env.le.refl E).tok, fun _ _ _ => ⟨rfl, rfl⟩, fun _ _ h => h, fun _ _ c _ h => ⟨c, h⟩, fun _ i _ h => ⟨i, h⟩, fun _ c _ h => ⟨c, h, rfl⟩⟩
theorem Upd.drop {t : List V} {l l2 : List (List V)} {σ : Store} {K : St → Prop} (ht : loL l.length t = true) (hl : loLL l.length l = true) (hk : K ⟨t, l, σ⟩) : Upd ⟨t, l ++ l2, σ⟩ K := by
  intro E a hs
  refine ⟨E.cut l.length, ⟨t, l, σ⟩, rfl, Fr.cut E _, ⟨⟨hs.ok.box, hs.ok.tip, hs.ok.fresh, hs.ok.nt⟩, ⟨fun i cs hcs => ?_, fun i hi => ?_⟩, hs.defers, RL.cut _ ht hs.slot⟩, hk⟩
  · have hi : i < l.length := (List.getElem?_eq_some_iff.1 hcs).1
    obtain ⟨b, k1, k2, k3⟩ := hs.okL.box i cs (by rw [List.getElem?_append_left hi]; exact hcs)
    exact ⟨b, by simp [Env.cut, hi, k1], k2, k3.cut (loLL_get hl hcs)⟩
  · simp only [Env.cut]; rw [if_neg (by simp only at hi; omega)]
theorem LLLe.app : ∀ {l l' m : List (List V)}, LLLe (l.take l'.length) l' → LLLe l (l' ++ l.drop l'.length)
  | [], [], _, _ => trivial
  | [], _ :: _, _, h => h.elim
  | v :: l, [], m, _ => by simp [LLLe.rfl]
  | v :: l, w :: l', m, h => by
    simp only [List.length_cons, List.take_succ_cons, LLLe] at h
    simp only [List.length_cons, List.cons_append, List.drop_succ_cons, LLLe]
    exact ⟨h.1, LLLe.app (m := m) h.2⟩
theorem Upd.drops {t t' : List V} {l l' : List (List V)} {σ σ' : Store} {K : St → Prop} (h : LLe t t') (hl : LLLe (l.take l'.length) l') (ho : OLe σ σ') (h1 : loL l'.length t' = true) (h2 : loLL l'.length l' = true) (hk : K ⟨t', l', σ'⟩) : Upd ⟨t, l, σ⟩ K :=
  (Upd.weak (K := fun st => st = ⟨t', l' ++ l.drop l'.length, σ'⟩) h (LLLe.app (m := []) hl) ho rfl).bind fun _ e => e ▸ Upd.drop h1 h2 hk
theorem Upd.againD {ι : Type} {I : ι → St} {μ : ι → Nat} {n : Nat} {t : List V} {l : List (List V)} {σ : Store} (j : ι) (hm : μ j < n) (h : LLe t (I j).t) (hl : LLLe (l.take (I j).loc.length) (I j).loc) (ho : OLe σ (I j).out) (h1 : loL (I j).loc.length (I j).t = true) (h2 : loLL (I j).loc.length (I j).loc = true) :
    Upd ⟨t, l, σ⟩ fun st' => ∃ i, st' = I i ∧ μ i < n := Upd.drops h hl ho h1 h2 ⟨j, rfl, hm⟩
section
variable {P : Program} {d : Option Nat} {q : OQ} {xs : List X} {r : List AO} {K : St → Prop} {t : List V} {l : List (List V)} {σ : Store}
theorem o_own : vcOps P (⟨d, .own q xs, none⟩ :: r) K ⟨t, l, σ⟩ = q.sem σ (kC P d r K t l) (evs ⟨t, l, σ⟩ xs) := rfl
theorem own_nil {H : V → Store → Prop} : OQ.sem σ H .nil [] = H (.raw (.slice none 0 0)) σ := rfl
theorem lle_raw {u : Value} {c e : List V} : LLe (.raw u :: c) (.raw u :: e) = LLe c e := by simp [LLe, VLe.rfl]
def amo := And.intro @o_own <| And.intro @own_nil @lle_raw
def Own (σ : Store) (k : Nat) (v : V) (rows : List (List V)) : Prop :=
  ∃ a cap, v = .raw (.slice a rows.length cap) ∧ rows.length ≤ cap ∧ (∀ r ∈ rows, r.length = k) ∧ (cap = 0 ∨ ∃ b cs, a = some ⟨b, 0, none⟩ ∧ σ.box b = some cs ∧ cs.length = cap * k ∧ cs.take (rows.length * k) = rows.flatten)
def ownB : V → Option Nat
  | .raw (.slice (some ⟨b, _, _⟩) _ _) => some b
  | _ => none
theorem Own.none {k : Nat} : Own σ k (.raw (.slice none 0 0)) [] := ⟨_, 0, rfl, by simp, by simp, .inl rfl⟩
theorem Own.len {k : Nat} {v : V} {rows : List (List V)} {H : V → Store → Prop} (h : Own σ k v rows) (hk : H (.int .i64 rows.length) σ) : OQ.sem σ H .len [v] := by
  obtain ⟨a, cap, rfl, _⟩ := h
  exact hk
theorem Own.frame {σ' : Store} {k : Nat} {v : V} {rows : List (List V)} (h : Own σ k v rows) (hb : ∀ b cs, ownB v = some b → σ.box b = some cs → σ'.box b = some cs) : Own σ' k v rows := by
  obtain ⟨a, cap, rfl, h1, h2, h3⟩ := h
  refine ⟨a, cap, rfl, h1, h2, ?_⟩
  rcases h3 with h3 | ⟨b, cs, rfl, h4, h5⟩
  · exact .inl h3
  · exact .inr ⟨b, cs, rfl, hb b cs rfl h4, h5⟩
theorem flatten_take {k : Nat} : ∀ {rows : List (List V)} {m : Nat}, (∀ r ∈ rows, r.length = k) → rows.flatten.take (m * k) = (rows.take m).flatten
  | [], m, _ => by simp
  | r :: rows, 0, _ => by simp
  | r :: rows, m + 1, h => by
    simp only [List.forall_mem_cons] at h
    rw [List.flatten_cons, List.take_succ_cons, List.flatten_cons, Nat.add_mul, Nat.one_mul, List.take_append, h.1, List.take_of_length_le (by omega), show m * k + k - k = m * k by omega, flatten_take h.2]
theorem flatten_drop {k : Nat} : ∀ {rows : List (List V)} {m : Nat}, (∀ r ∈ rows, r.length = k) → rows.flatten.drop (m * k) = (rows.drop m).flatten
  | [], m, _ => by simp
  | r :: rows, 0, _ => by simp
  | r :: rows, m + 1, h => by
    simp only [List.forall_mem_cons] at h
    rw [List.flatten_cons, List.drop_succ_cons, Nat.add_mul, Nat.one_mul, List.drop_append, h.1, List.drop_of_length_le (by omega), show m * k + k - k = m * k by omega, List.nil_append, flatten_drop h.2]
theorem Own.idx {k : Nat} {v : V} {rows : List (List V)} {H : V → Store → Prop} {j : Int} {i : IntKind} {c : List V} (h : Own σ k v rows) (h0 : 0 ≤ j) (hj : rows[j.toNat]? = some c)
    (hk : ∀ b cs rest, ownB v = some b → σ.box b = some cs → cs.drop (j.toNat * k) = c ++ rest → H (.ptr (.out b) (j.toNat * k)) σ) : OQ.sem σ H (.idx k) [v, .int i j] := by
  obtain ⟨a, cap, rfl, h1, h2, h3⟩ := h
  have hlt := (List.getElem?_eq_some_iff.1 hj).1
  rcases h3 with h3 | ⟨b, cs, rfl, h4, h5, h6⟩
  · omega
  · have e1 : cs = rows.flatten ++ cs.drop (rows.length * k) := by rw [← h6]; simp
    have e2 : rows.drop j.toNat = c :: rows.drop (j.toNat + 1) := by
      rw [List.drop_eq_getElem_cons hlt, (List.getElem?_eq_some_iff.1 hj).2]
    have hfl := flat_length h2
    have e3 : cs.drop (j.toNat * k) = c ++ ((rows.drop (j.toNat + 1)).flatten ++ cs.drop (rows.length * k)) := by
      have hle : j.toNat * k ≤ rows.length * k := Nat.mul_le_mul_right _ (by omega)
      rw [e1, List.drop_append_of_le_length (by rw [hfl]; exact hle), flatten_drop h2, e2, List.flatten_cons, List.append_assoc]
      congr 2
      rw [List.drop_append, hfl]
      simp [List.drop_of_length_le, hfl]
    show 0 ≤ j ∧ j < (rows.length : Nat) ∧ H (.ptr (.out b) (0 + j.toNat * k)) σ
    rw [Nat.zero_add]
    exact ⟨h0, by omega, hk b cs _ rfl h4 e3⟩
theorem Own.take {k m : Nat} {v : V} {rows : List (List V)} {H : V → Store → Prop} {i : IntKind} {j : Int} (h : Own σ k v rows) (h0 : 0 ≤ j) (hj : j.toNat = m) (hm : m ≤ rows.length) (hk : ∀ v', Own σ k v' (rows.take m) → ownB v' = ownB v → H v' σ) : OQ.sem σ H (.slc k false true false) [v, .int i j] := by
  obtain ⟨a, cap, rfl, h1, h2, h3⟩ := h
  show bnd false 0 [.int i j] fun m vs => bnd true rows.length vs fun h vs => bnd false cap vs fun M vs => vs = [] ∧ m ≤ h ∧ h ≤ M ∧ M ≤ cap ∧ H (.raw (.slice (if M = m then a else a.map (·.add (m * k))) (h - m) (M - m))) σ
  refine ⟨h0, rfl, by omega, by omega, Nat.le_refl _, ?_⟩
  have ea : (if cap = 0 then a else a.map (·.add (0 * k))) = a := by
    split
    · rfl
    · rcases h3 with h3 | ⟨b, cs, rfl, _⟩
      · omega
      · simp [addr_add]
  rw [ea, hj]
  refine hk _ ⟨a, cap, ?_, ?_, fun r hr => h2 r (List.mem_of_mem_take hr), ?_⟩ (by cases a with
    | none => rfl
    | some ad => cases ad; rfl)
  · rw [List.length_take, Nat.min_eq_left hm]; rfl
  · rw [List.length_take]; omega
  · rcases h3 with h3 | ⟨b, cs, rfl, h4, h5, h6⟩
    · exact .inl h3
    · refine .inr ⟨b, cs, rfl, h4, h5, ?_⟩
      rw [List.length_take, Nat.min_eq_left hm, ← flatten_take h2, ← h6, List.take_take, Nat.min_eq_left (Nat.mul_le_mul_right _ hm)]
structure OwnF (σ : Store) (v : V) (σ' : Store) (v' : V) : Prop where
  keep : ∀ b cs, σ.box b = some cs → ownB v ≠ some b → σ'.box b = some cs
  tip : σ'.tip = σ.tip
  new : ∀ b, ownB v' = some b → ownB v = some b ∨ σ.box b = none
theorem setAt_end {k n : Nat} : ∀ {cs xs ys : List V}, cs.take n = ys → n + xs.length ≤ cs.length → ys.length = n → (setAt cs n xs).take (n + xs.length) = ys ++ xs ∧ (setAt cs n xs).length = cs.length := by
  intro cs xs ys h1 h2 h3
  have ov : ∀ {cs xs : List V}, xs.length ≤ cs.length → (over cs xs).take xs.length = xs ∧ (over cs xs).length = cs.length := by
    intro cs
    induction cs with
    | nil => intro xs h; cases xs with | nil => simp [over] | cons x xs => simp at h
    | cons c cs ih =>
      intro xs h
      cases xs with
      | nil => simp [over]
      | cons x xs =>
        obtain ⟨k1, k2⟩ := ih (xs := xs) (by simpa using h)
        simp [over, k1, k2]
  induction n generalizing cs ys with
  | zero =>
    simp at h3; subst h3
    obtain ⟨k1, k2⟩ := ov (cs := cs) (xs := xs) (by omega)
    have e : setAt cs 0 xs = over cs xs := by cases cs <;> rfl
    rw [e]; simpa using ⟨k1, k2⟩
  | succ n ih =>
    cases cs with
    | nil => simp at h2
    | cons c cs =>
      cases ys with
      | nil => simp at h3
      | cons y ys =>
        simp only [List.take_succ_cons, List.cons.injEq] at h1
        obtain ⟨k1, k2⟩ := ih (cs := cs) (ys := ys) h1.2 (by simp at h2; omega) (by simpa using h3)
        simp only [setAt]
        rw [show n + 1 + xs.length = (n + xs.length) + 1 by omega]
        simp [k1, k2, h1.1]
theorem Own.app {k : Nat} {v : V} {rows m : List (List V)} {tk : Tk} {H : V → Store → Prop} (h : Own σ k v rows) (hm : ∀ r ∈ m, r.length = k) (hn : nolL m.flatten = true) (hb : rows.length + m.length ≤ big)
    (hk : ∀ v' σ', Own σ' k v' (rows ++ m) → OwnF σ v σ' v' → H v' σ') : OQ.sem σ H (.app k) [v, .sl tk k m] := by
  obtain ⟨a, cap, rfl, h1, h2, h3⟩ := h
  have hfm := flat_length hm
  have hfr := flat_length h2
  refine ⟨rfl, h1, hb, hn, fun e => ?_, fun e hle => ?_, fun hlt => ?_⟩
  · subst e
    refine hk _ _ ⟨a, cap, by simp, by simpa using h1, by simpa using h2, by simpa using h3⟩ ⟨fun _ _ h _ => h, rfl, fun b hb => .inl hb⟩
  · rcases h3 with h3 | ⟨b, cs, rfl, h4, h5, h6⟩
    · have : m.length = 0 := by omega
      exact absurd (List.eq_nil_of_length_eq_zero this) e
    · have hfit : rows.length * k + m.length * k ≤ cs.length := by rw [h5, ← Nat.add_mul]; exact Nat.mul_le_mul_right _ hle
      refine ⟨b, cs, rfl, h4, hfit, hk _ _ ⟨some ⟨b, 0, Option.none⟩, cap, by simp, by simpa using hle, fun r hr => ?_, .inr ⟨b, _, rfl, Store.set_same _ _ _, ?_, ?_⟩⟩ ⟨fun b' cs' hb' hne => ?_, rfl, fun b' hb' => .inl hb'⟩⟩
      · rcases List.mem_append.1 hr with hr | hr
        · exact h2 r hr
        · exact hm r hr
      · rw [(setAt_end (k := k) h6 (by rw [hfm]; exact hfit) hfr).2]; exact h5
      · have := (setAt_end (k := k) h6 (by rw [hfm]; exact hfit) hfr).1
        rw [hfm] at this
        rw [List.length_append, Nat.add_mul, this, List.flatten_append]
      · have : b' ≠ b := by rintro rfl; exact hne rfl
        rw [Store.set_other _ _ this]; exact hb'
  · have base : ∀ cs : List V, cs.take (rows.length * k) = rows.flatten → ∀ b' cap', σ.box b' = Option.none → rows.length + m.length ≤ cap' → H (.raw (.slice (some ⟨b', 0, Option.none⟩) (rows.length + m.length) cap')) (σ.set b' (cs.take (rows.length * k) ++ m.flatten ++ List.replicate ((cap' - (rows.length + m.length)) * k) .any)) := by
      intro cs h6 b' cap' hb' hc
      refine hk _ _ ⟨some ⟨b', 0, Option.none⟩, cap', by simp, by simpa using hc, fun r hr => ?_, .inr ⟨b', _, rfl, Store.set_same _ _ _, ?_, ?_⟩⟩ ⟨fun b'' cs' hb'' hne => ?_, rfl, fun b'' hb'' => ?_⟩
      · rcases List.mem_append.1 hr with hr | hr
        · exact h2 r hr
        · exact hm r hr
      · rw [h6]; simp only [List.length_append, hfr, hfm, List.length_replicate]
        rw [← Nat.add_mul, ← Nat.add_mul]; congr 1; omega
      · rw [h6, List.length_append, List.flatten_append, List.take_append_of_le_length (by simp only [List.length_append, hfr, hfm]; rw [Nat.add_mul]; omega), List.take_of_length_le (by simp only [List.length_append, hfr, hfm]; rw [Nat.add_mul]; omega)]
      · have : b'' ≠ b' := by rintro rfl; rw [hb'] at hb''; simp at hb''
        rw [Store.set_other _ _ this]; exact hb''
      · simp only [ownB, Option.some.injEq] at hb''; subst hb''; exact .inr hb'
    rcases h3 with h3 | ⟨b, cs, rfl, h4, h5, h6⟩
    · have h0 : rows = [] := List.eq_nil_of_length_eq_zero (by omega)
      subst h0
      exact ⟨[], .inl ⟨rfl, rfl⟩, base [] (by simp)⟩
    · refine ⟨cs, .inr ⟨b, rfl, h4, ?_⟩, base cs h6⟩
      rw [h5]; exact Nat.mul_le_mul_right _ h1
theorem OwnF.refl {v : V} : OwnF σ v σ v := ⟨fun _ _ h _ => h, rfl, fun _ h => .inl h⟩
structure OwnS (σ0 σ : Store) (v : V) : Prop where
  sub : σ0.sub σ
  new : ∀ b, ownB v = some b → σ0.box b = none
theorem OwnS.step {σ0 σ' : Store} {v v' : V} (h : OwnS σ0 σ v) (f : OwnF σ v σ' v') : OwnS σ0 σ' v' := by
  refine ⟨⟨fun b cs hb => ?_, fun t n hn => by rw [f.tip]; exact h.sub.2 t n hn⟩, fun b hb => ?_⟩
  · exact f.keep b cs (h.sub.1 b cs hb) (fun e => by rw [h.new b e] at hb; simp at hb)
  · rcases f.new b hb with e | e
    · exact h.new b e
    · cases hq : σ0.box b with
      | none => rfl
      | some cs => rw [h.sub.1 b cs hq] at e; simp at e
end
section
variable {P : Program} {d : Option Nat} {K : St → Prop} {st : St} {b w : Bool}
theorem gL_split {op : AOp} {r : List AO} (h1 : b = true → gL P (.bool true) w d op r K st) (h2 : b = false → gL P (.bool false) w d op r K st) : gL P (.bool b) w d op r K st := by cases b with
  | true => exact h1 rfl
  | false => exact h2 rfl
theorem pickL_split {x y : V} {r : List AO} (h1 : b = true → pickL P (.bool true) x y d r K st) (h2 : b = false → pickL P (.bool false) x y d r K st) : pickL P (.bool b) x y d r K st := by cases b with
  | true => exact h1 rfl
  | false => exact h2 rfl
end
section
variable {P : Program} {d : Option Nat} {K : St → Prop} {t : List V} {l : List (List V)} {σ : Store} {r : List AO}
def evO (st : St) : Option X → Option V
  | none => none
  | some x => some (ev st x)
def inB (n : Nat) (dflt : Nat) : Option V → Prop
  | none => n = dflt
  | some v => ∃ j, v = .int j n
def slSL (v : V) (lo hi : Option V) (H : V → Prop) : Prop := ∃ s a b, v = .str s ∧ a ≤ b ∧ b ≤ s.length ∧ inB a 0 lo ∧ inB b s.length hi ∧ H (.str ((s.take b).drop a))
def slcL (k : Nat) (v : V) (lo hi mx : Option V) (H : V → Prop) : Prop := ∃ τ l a b, v = .sl τ k l ∧ a ≤ b ∧ b ≤ l.length ∧ inB a 0 lo ∧ inB b l.length hi ∧
  match mx with
  | none => H (.sl .no k ((l.take b).drop a))
  | some y => (∃ j, y = .int j b) ∧ H (.sl .full k ((l.take b).drop a))
theorem o_slS' {x : X} {lo hi : Option X} : vcOps P (⟨d, .slS x lo hi, none⟩ :: r) K ⟨t, l, σ⟩ = slSL (ev ⟨t, l, σ⟩ x) (evO ⟨t, l, σ⟩ lo) (evO ⟨t, l, σ⟩ hi) (kL P d r K ⟨t, l, σ⟩) := by
  cases lo <;> cases hi <;> rfl
theorem o_slc' {k : Nat} {x : X} {lo hi mx : Option X} : vcOps P (⟨d, .slc k x lo hi mx, none⟩ :: r) K ⟨t, l, σ⟩ = slcL k (ev ⟨t, l, σ⟩ x) (evO ⟨t, l, σ⟩ lo) (evO ⟨t, l, σ⟩ hi) (evO ⟨t, l, σ⟩ mx) (kL P d r K ⟨t, l, σ⟩) := by
  cases lo <;> cases hi <;> cases mx <;> rfl
theorem d_slS' {x : X} {lo hi : Option X} {ms : List Nat} {r : List (AO × List Nat)} {SN : List Sto} {L : List (V × Bool × Nat × V × List Nat)} : vcD P ((⟨d, .slS x lo hi, none⟩, ms) :: r) SN L K ⟨t, l, σ⟩ = slSL (ev ⟨t, l, σ⟩ x) (evO ⟨t, l, σ⟩ lo) (evO ⟨t, l, σ⟩ hi) (kD P d r SN L K ⟨t, l, σ⟩) := by
  cases lo <;> cases hi <;> rfl
theorem d_slc' {k : Nat} {x : X} {lo hi mx : Option X} {ms : List Nat} {r : List (AO × List Nat)} {SN : List Sto} {L : List (V × Bool × Nat × V × List Nat)} : vcD P ((⟨d, .slc k x lo hi mx, none⟩, ms) :: r) SN L K ⟨t, l, σ⟩ = slcL k (ev ⟨t, l, σ⟩ x) (evO ⟨t, l, σ⟩ lo) (evO ⟨t, l, σ⟩ hi) (evO ⟨t, l, σ⟩ mx) (kD P d r SN L K ⟨t, l, σ⟩) := by
  cases lo <;> cases hi <;> cases mx <;> rfl
theorem evO_none {st : St} : evO st none = none := rfl
theorem evO_some {st : St} {x : X} : evO st (some x) = some (ev st x) := rfl
theorem slSL_intro {s : List UInt8} {j j' : IntKind} {a b : Nat} {H : V → Prop} (h1 : a ≤ b) (h2 : b ≤ s.length) (h : H (.str ((s.take b).drop a))) : slSL (.str s) (some (.int j a)) (some (.int j' b)) H := ⟨s, a, b, rfl, h1, h2, ⟨j, rfl⟩, ⟨j', rfl⟩, h⟩
theorem slcL_from {k : Nat} {τ : Tk} {m : List (List V)} {j : IntKind} {a : Nat} {H : V → Prop} (h2 : a ≤ m.length) (h : H (.sl .no k (m.drop a))) : slcL k (.sl τ k m) (some (.int j a)) none none H := ⟨τ, m, a, m.length, rfl, h2, Nat.le_refl _, ⟨j, rfl⟩, rfl, by rw [List.take_length]; exact h⟩
def amc := And.intro @o_cvBS <| And.intro @o_appS <| And.intro @o_slS' <| And.intro @o_slc' <| And.intro @d_slS' <| And.intro @d_slc' <| And.intro @evO_none <| And.intro @evO_some <| And.intro @o_idxP <| And.intro @d_idxP <| And.intro @d_cvBS <| And.intro @vc_scope <| And.intro @noGo_normal <| And.intro @noGo_exit <| And.intro @noGo_ret <| And.intro @rPost_normal <| And.intro @rPost_exit <| And.intro @rPost_ret @eff_idxP
end
theorem encB_append (a b : List UInt8) : encB (a ++ b) = encB a ++ encB b := by simp [encB]
theorem encB_length (a : List UInt8) : (encB a).length = a.length := by simp [encB]
end Go.Am

namespace Go.Am
structure Tok where
  kind : Int
  text : List UInt8
  pos : Int
inductive Tree where
  | mk (tok : Tok) (kids : List Tree) (fin : Int)
def Tree.tok : Tree → Tok | .mk t _ _ => t
def Tree.kids : Tree → List Tree | .mk _ k _ => k
def Tree.fin : Tree → Int | .mk _ _ e => e
mutual
def Tree.enc : Tree → List V
  | .mk t ks e => [.int .u8 t.kind, .str t.text, .int .i64 t.pos, .sl .no 5 (encs ks), .int .i64 e]
def encs : List Tree → List (List V)
  | [] => []
  | t :: ts => t.enc :: encs ts
end
theorem encs_map : ∀ l, encs l = l.map Tree.enc
  | [] => rfl
  | t :: ts => by simp [encs, encs_map ts]
theorem encs_length (l : List Tree) : (encs l).length = l.length := by simp [encs_map]
theorem enc_eq (t : Tree) : t.enc = [.int .u8 t.tok.kind, .str t.tok.text, .int .i64 t.tok.pos, .sl .no 5 (encs t.kids), .int .i64 t.fin] := by
  cases t; simp only [Tree.enc, Tree.tok, Tree.kids, Tree.fin]
mutual
def Tree.many : Tree → Nat
  | .mk _ ks _ => manys ks
def manys : List Tree → Nat
  | [] => 0
  | t :: ts => 1 + t.many + manys ts
end
theorem many_eq (t : Tree) : t.many = manys t.kids := by cases t; simp [Tree.many, Tree.kids]
theorem manys_append : ∀ a b, manys (a ++ b) = manys a + manys b
  | [], b => by simp [manys]
  | t :: ts, b => by simp [manys, manys_append ts b]; omega
theorem manys_ge : ∀ l, l.length ≤ manys l
  | [] => by simp [manys]
  | t :: ts => by simp [manys]; have := manys_ge ts; omega
theorem manys_get {l : List Tree} {i : Nat} (h : i < l.length) : manys l = manys (l.take i) + (1 + manys l[i].kids) + manys (l.drop (i + 1)) := by
  have : l = l.take i ++ l[i] :: l.drop (i + 1) := by simp
  have e := congrArg manys this
  rw [e, manys_append]
  simp only [manys, many_eq]; omega
theorem manys_kids {l : List Tree} {i : Nat} (h : i < l.length) : manys l[i].kids + 1 ≤ manys l := by
  have := manys_get h; omega
structure Word where
  text : List UInt8
  pos : Int
def Word.enc (w : Word) : List V := [.str w.text, .int .i64 w.pos]
inductive Nd where
  | mk (kind pos : Int) (text : List UInt8) (names : List Word) (kids : List Nd)
namespace Nd
def kind : Nd → Int | .mk k _ _ _ _ => k
def pos : Nd → Int | .mk _ p _ _ _ => p
def text : Nd → List UInt8 | .mk _ _ t _ _ => t
def names : Nd → List Word | .mk _ _ _ w _ => w
def kids : Nd → List Nd | .mk _ _ _ _ k => k
end Nd
mutual
def Nd.enc : Nd → List V
  | .mk k p t ws ks => [.int .i64 k, .int .i64 p, .str t, .sl .no 2 (ws.map Word.enc), .sl .no 5 (nencs ks)]
def nencs : List Nd → List (List V)
  | [] => []
  | n :: ns => n.enc :: nencs ns
end
theorem nencs_map : ∀ l, nencs l = l.map Nd.enc
  | [] => rfl
  | t :: ts => by simp [nencs, nencs_map ts]
theorem Nd.enc_eq (n : Nd) : n.enc = [.int .i64 n.kind, .int .i64 n.pos, .str n.text, .sl .no 2 (n.names.map Word.enc), .sl .no 5 (n.kids.map Nd.enc)] := by
  cases n; simp only [Nd.enc, Nd.kind, Nd.pos, Nd.text, Nd.names, Nd.kids, nencs_map]
structure Rdr where
  l : List Tree
  at_ : Int
  fin : Int
  bad : Option Int
def badC (b : Option Int) : Int := match b with | some _ => 2 | none => 0
def badA (b : Option Int) : Int := match b with | some a => a | none => 0
def Rdr.enc (r : Rdr) : List V := [.sl .no 5 (encs r.l), .int .i64 r.at_, .int .i64 r.fin, .int .i64 (badC r.bad), .int .i64 (badA r.bad)]
def isK (l : List Tree) (at_ : Int) (k : Int) : Bool := decide (0 ≤ at_) && match l[at_.toNat]? with | some t => decide (t.tok.kind = k) | none => false
def Rdr.ok (r : Rdr) : Bool := r.bad.isNone
def Rdr.spot (r : Rdr) : Int := if 0 ≤ r.at_ then (match r.l[r.at_.toNat]? with | some t => t.tok.pos | none => r.fin) else r.fin
def Rdr.fail (r : Rdr) : Rdr := match r.bad with | some _ => r | none => { r with bad := some r.spot }
def Rdr.sees (r : Rdr) (k : Int) : Bool := r.ok && isK r.l r.at_ k
def Tree.zero : Tree := .mk ⟨0, [], 0⟩ [] 0
def Rdr.take (r : Rdr) (k : Int) : Tree × Rdr := if r.sees k then (r.l.getD r.at_.toNat .zero, { r with at_ := r.at_ + 1 }) else (.zero, r.fail)
def Rdr.word (r : Rdr) : Word × Rdr := (⟨(r.take 97).1.tok.text, (r.take 97).1.tok.pos⟩, (r.take 97).2)
theorem Rdr.ex1 {r : Rdr} {n : Nat} : r.enc.drop n = [V.sl .no 5 (encs r.l), .int .i64 r.at_, .int .i64 r.fin, .int .i64 (badC r.bad), .int .i64 (badA r.bad)].drop n := rfl
theorem Rdr.ex2 {r : Rdr} {n : Nat} {x : List V} : setAt r.enc n x = setAt [V.sl .no 5 (encs r.l), .int .i64 r.at_, .int .i64 r.fin, .int .i64 (badC r.bad), .int .i64 (badA r.bad)] n x := rfl
theorem Rdr.ex3 {r : Rdr} {n : Nat} {g : Bool} : ldC g n r.enc = ldC g n [V.sl .no 5 (encs r.l), .int .i64 r.at_, .int .i64 r.fin, .int .i64 (badC r.bad), .int .i64 (badA r.bad)] := rfl
theorem Rdr.ex4 {r : Rdr} {n : Nat} : hasN n r.enc = hasN n [V.sl .no 5 (encs r.l), .int .i64 r.at_, .int .i64 r.fin, .int .i64 (badC r.bad), .int .i64 (badA r.bad)] := rfl
theorem Rdr.ex : (∀ {r : Rdr} {n : Nat}, r.enc.drop n = [V.sl .no 5 (encs r.l), .int .i64 r.at_, .int .i64 r.fin, .int .i64 (badC r.bad), .int .i64 (badA r.bad)].drop n) ∧
    (∀ {r : Rdr} {n : Nat} {x : List V}, setAt r.enc n x = setAt [V.sl .no 5 (encs r.l), .int .i64 r.at_, .int .i64 r.fin, .int .i64 (badC r.bad), .int .i64 (badA r.bad)] n x) ∧
    (∀ {r : Rdr} {n : Nat} {g : Bool}, ldC g n r.enc = ldC g n [V.sl .no 5 (encs r.l), .int .i64 r.at_, .int .i64 r.fin, .int .i64 (badC r.bad), .int .i64 (badA r.bad)]) ∧
    (∀ {r : Rdr} {n : Nat}, hasN n r.enc = hasN n [V.sl .no 5 (encs r.l), .int .i64 r.at_, .int .i64 r.fin, .int .i64 (badC r.bad), .int .i64 (badA r.bad)]) := ⟨Rdr.ex1, Rdr.ex2, Rdr.ex3, Rdr.ex4⟩
def goG {β : Type} (step : Rdr × List β → Rdr × List β) : Nat → Rdr × List β → Rdr × List β
  | 0, a => a
  | n + 1, a => if a.1.sees 44 then goG step n (step ((a.1.take 44).2, a.2)) else a
def someG {β : Type} (step : Rdr × List β → Rdr × List β) (r : Rdr) : Rdr × List β := goG step r.l.length (step (r, []))
def wStep (a : Rdr × List Word) : Rdr × List Word := (a.1.word.2, a.2 ++ [a.1.word.1])
theorem Rdr.take_l (r : Rdr) (k : Int) : (r.take k).2.l = r.l := by
  unfold Rdr.take; split
  · rfl
  · unfold Rdr.fail; split <;> rfl
theorem Rdr.fail_at (r : Rdr) : r.fail.at_ = r.at_ := by unfold Rdr.fail; split <;> rfl
theorem Rdr.fail_ok (r : Rdr) : r.fail.bad ≠ none := by
  unfold Rdr.fail
  split
  · rename_i h; rw [h]; simp
  · simp
theorem Rdr.take_at (r : Rdr) (k : Int) : (r.sees k = true ∧ (r.take k).2.at_ = r.at_ + 1 ∧ (r.take k).2.bad = none ∧ 0 ≤ r.at_ ∧ r.at_ < r.l.length) ∨ (r.sees k = false ∧ (r.take k).2.at_ = r.at_ ∧ (r.take k).2.bad ≠ none) := by
  cases h : r.sees k
  · right
    simp only [Rdr.take, h, Bool.false_eq_true, if_false, true_and]
    exact ⟨r.fail_at, r.fail_ok⟩
  · left
    have h' := h
    simp only [Rdr.sees, Rdr.ok, isK, Bool.and_eq_true, decide_eq_true_eq, Option.isNone_iff_eq_none] at h'
    obtain ⟨h1, h0, hk⟩ := h'
    simp only [Rdr.take, h, if_true, true_and]
    refine ⟨h1, h0, ?_⟩
    cases hq : r.l[r.at_.toNat]? with
    | none => rw [hq] at hk; simp at hk
    | some t => have := (List.getElem?_eq_some_iff.1 hq).1; omega
theorem Rdr.take_many (r : Rdr) (k : Int) : manys (r.take k).1.kids ≤ manys r.l ∧ ((r.take k).2.bad = none → manys (r.take k).1.kids + 1 ≤ manys r.l) := by
  rcases r.take_at k with ⟨h, _, _, h1, h2⟩ | ⟨h, _, h1⟩
  · have hlt : r.at_.toNat < r.l.length := by omega
    have := manys_kids hlt
    simp only [Rdr.take, h, if_true, List.getD, List.getElem?_eq_getElem hlt, Option.getD_some]
    exact ⟨by omega, fun _ => this⟩
  · refine ⟨?_, fun hb => absurd hb h1⟩
    simp [Rdr.take, h, Tree.zero, Tree.kids, manys]
def Tree.inner (t : Tree) : Rdr := ⟨t.kids, 0, t.fin, none⟩
def Rdr.close (r : Rdr) : Rdr := if r.ok = true ∧ r.at_ < r.l.length then r.fail else r
def Rdr.under (r i : Rdr) : Rdr := { r with bad := i.close.bad }
structure Reads {β : Type} (one : Rdr → β × Rdr) : Prop where
  l : ∀ r, (one r).2.l = r.l
  go : ∀ r, 0 ≤ r.at_ → r.at_ ≤ r.l.length → r.at_ ≤ (one r).2.at_ ∧ (one r).2.at_ ≤ r.l.length ∧ ((one r).2.bad = none → r.at_ + 1 ≤ (one r).2.at_)
def oStep {β : Type} (one : Rdr → β × Rdr) (a : Rdr × List β) : Rdr × List β := ((one a.1).2, a.2 ++ [(one a.1).1])
def Rdr.inside {β : Type} (step : Rdr × List β → Rdr × List β) (empty : Bool) (t : Tree) : Rdr × List β := if empty = true ∧ t.kids.length = 0 then (t.inner, []) else someG step t.inner
def Rdr.bracket {β : Type} (step : Rdr × List β → Rdr × List β) (kind : Int) (empty : Bool) (r : Rdr) : (List β × Int) × Rdr :=
  if (r.take kind).2.ok = true then (((Rdr.inside step empty (r.take kind).1).2, (r.take kind).1.tok.pos), (r.take kind).2.under (Rdr.inside step empty (r.take kind).1).1) else (([], 0), (r.take kind).2)
def Rdr.nodes (one : Rdr → Nd × Rdr) (kind : Int) (empty : Bool) (r : Rdr) : (List Nd × Int) × Rdr := r.bracket (oStep one) kind empty
def Rdr.words (empty : Bool) (r : Rdr) : (List Word × Int) × Rdr := r.bracket wStep 123 empty
end Go.Am

namespace Go.Am
def xm (d a : Nat) : AO := ⟨some d, .mv (.s a), none⟩
def xi (d : Nat) (n : Int) : AO := ⟨some d, .mv (.c (.int .i64 n)), none⟩
def xb (p : BinOp) (d a b : Nat) : AO := ⟨some d, .binI p (.s a) (.s b), none⟩
def xB (p : BinOp) (d a : Nat) (n : Int) : AO := ⟨some d, .binI p (.s a) (.c (.int .i64 n)), none⟩
def xu (p : BinOp) (d a : Nat) (n : Int) : AO := ⟨some d, .binI p (.s a) (.c (.int .u8 n)), none⟩
def xl (n d a : Nat) : AO := ⟨some d, .load true n (.s a), none⟩
def xo (d a : Nat) : AO := ⟨some d, .load false 1 (.s a), none⟩
def xk (d a : Nat) : AO := ⟨some d, .nilck (.s a), none⟩
def xf (o d a : Nat) : AO := ⟨some d, .fld o (.s a), none⟩
def xv (n o d a : Nat) : AO := ⟨some d, .fldv true o n (.s a), none⟩
def xw (o d a : Nat) : AO := ⟨some d, .fldv false o 1 (.s a), none⟩
def xL (d a : Nat) : AO := ⟨some d, .lenS (.s a), none⟩
def xT (d a : Nat) : AO := ⟨some d, .lenT (.s a), none⟩
def xA (k d a b : Nat) : AO := ⟨some d, .idxA k (.s a) (.s b), none⟩
def xS (d a b : Nat) : AO := ⟨some d, .idxS (.s a) (.s b), none⟩
def xs (n a b : Nat) : AO := ⟨none, .store n (.s a) (.s b), none⟩
def xe (d a i : Nat) : AO := ⟨some d, .ext (.s a) i, none⟩
def xc (f : FuncId) (d : Nat) (l : List X) : AO := ⟨some d, .call f l, none⟩
def xp (d a b c : Nat) : AO := ⟨some d, .pick (.s a) (.s b) (.s c), none⟩
def xa (k d a b : Nat) : AO := ⟨some d, .app k (.s a) (.s b), none⟩
def xg (n : Nat) (o : AO) : AO := ⟨o.dst, o.op, some (n, true)⟩
def xh (n : Nat) (o : AO) : AO := ⟨o.dst, o.op, some (n, false)⟩
section
variable {d a b c n k i o : Nat} {z : Int} {p : BinOp} {f : FuncId} {l : List X} {g : Option Nat} {q : AOp}
theorem xm_ : xm d a = ⟨some d, .mv (.s a), none⟩ := rfl
theorem xi_ : xi d z = ⟨some d, .mv (.c (.int .i64 z)), none⟩ := rfl
theorem xb_ : xb p d a b = ⟨some d, .binI p (.s a) (.s b), none⟩ := rfl
theorem xB_ : xB p d a z = ⟨some d, .binI p (.s a) (.c (.int .i64 z)), none⟩ := rfl
theorem xu_ : xu p d a z = ⟨some d, .binI p (.s a) (.c (.int .u8 z)), none⟩ := rfl
theorem xl_ : xl n d a = ⟨some d, .load true n (.s a), none⟩ := rfl
theorem xo_ : xo d a = ⟨some d, .load false 1 (.s a), none⟩ := rfl
theorem xk_ : xk d a = ⟨some d, .nilck (.s a), none⟩ := rfl
theorem xf_ : xf o d a = ⟨some d, .fld o (.s a), none⟩ := rfl
theorem xv_ : xv n o d a = ⟨some d, .fldv true o n (.s a), none⟩ := rfl
theorem xw_ : xw o d a = ⟨some d, .fldv false o 1 (.s a), none⟩ := rfl
theorem xL_ : xL d a = ⟨some d, .lenS (.s a), none⟩ := rfl
theorem xT_ : xT d a = ⟨some d, .lenT (.s a), none⟩ := rfl
theorem xA_ : xA k d a b = ⟨some d, .idxA k (.s a) (.s b), none⟩ := rfl
theorem xS_ : xS d a b = ⟨some d, .idxS (.s a) (.s b), none⟩ := rfl
theorem xs_ : xs n a b = ⟨none, .store n (.s a) (.s b), none⟩ := rfl
theorem xe_ : xe d a i = ⟨some d, .ext (.s a) i, none⟩ := rfl
theorem xc_ : xc f d l = ⟨some d, .call f l, none⟩ := rfl
theorem xp_ : xp d a b c = ⟨some d, .pick (.s a) (.s b) (.s c), none⟩ := rfl
theorem xa_ : xa k d a b = ⟨some d, .app k (.s a) (.s b), none⟩ := rfl
theorem xg_ : xg n ⟨g, q, none⟩ = ⟨g, q, some (n, true)⟩ := rfl
theorem xh_ : xh n ⟨g, q, none⟩ = ⟨g, q, some (n, false)⟩ := rfl
end
def ams := And.intro @xm_ <| And.intro @xi_ <| And.intro @xb_ <| And.intro @xB_ <| And.intro @xu_ <| And.intro @xl_ <| And.intro @xo_ <| And.intro @xk_ <| And.intro @xf_ <| And.intro @xv_ <| And.intro @xw_ <| And.intro @xL_ <| And.intro @xT_ <| And.intro @xA_ <| And.intro @xS_ <| And.intro @xs_ <| And.intro @xe_ <| And.intro @xc_ <| And.intro @xp_ <| And.intro @xa_ <| And.intro @xg_ @xh_
theorem Store.subT {a b c : Store} (h : a.sub b) (k : b.sub c) : a.sub c := ⟨fun x cs hx => k.1 x cs (h.1 x cs hx), fun x n hx => k.2 x n (h.2 x n hx)⟩
end Go.Am

namespace Go.Am
def Rdr.leaf (kind : Int) (r : Rdr) : Nd × Rdr := (.mk kind r.word.1.pos r.word.1.text [] [], r.word.2)
def Rdr.rule (r : Rdr) : Nd × Rdr :=
  (.mk 6 r.word.1.pos r.word.1.text ((r.word.2.take 58).2.words true).1.1 [], ((r.word.2.take 58).2.words true).2)
def Rdr.constant : Nat → Rdr → Nd × Rdr
  | 0, r => r.leaf 2
  | n + 1, r =>
    if r.sees 123 = true then (.mk 3 (r.words true).1.2 [] (r.words true).1.1 [], (r.words true).2)
    else if r.sees 40 = true then (.mk 4 (r.nodes (Rdr.constant n) 40 false).1.2 [] [] (r.nodes (Rdr.constant n) 40 false).1.1, (r.nodes (Rdr.constant n) 40 false).2)
    else if r.sees 91 = true then (.mk 5 (r.nodes Rdr.rule 91 true).1.2 [] [] (r.nodes Rdr.rule 91 true).1.1, (r.nodes Rdr.rule 91 true).2)
    else r.leaf 2
def Rdr.atom (n : Nat) (r : Rdr) : Nd × Rdr :=
  if r.sees 35 = true then (.mk 7 (r.take 35).1.tok.pos [] [] [(Rdr.constant n (r.take 35).2).1], (Rdr.constant n (r.take 35).2).2) else r.leaf 1
def Rdr.label : Nat → Rdr → Nd × Rdr
  | 0, r => r.leaf 1
  | n + 1, r =>
    if r.sees 43 = true then (.mk 8 (r.take 43).1.tok.pos [] [] ((r.take 43).2.nodes (Rdr.label n) 40 false).1.1, ((r.take 43).2.nodes (Rdr.label n) 40 false).2)
    else if r.sees 38 = true then (.mk 9 (r.take 38).1.tok.pos [] [] ((r.take 38).2.nodes (Rdr.label n) 40 false).1.1, ((r.take 38).2.nodes (Rdr.label n) 40 false).2)
    else r.atom (n + 1)
def Rdr.field (n : Nat) (r : Rdr) : Nd × Rdr :=
  (.mk 11 r.word.1.pos r.word.1.text [] [((r.word.2.take 61).2.atom n).1], ((r.word.2.take 61).2.atom n).2)
end Go.Am

namespace Go.Am
def Goes (r r' : Rdr) : Prop := r'.l = r.l ∧ (0 ≤ r.at_ → r.at_ ≤ r.l.length → r.at_ ≤ r'.at_ ∧ r'.at_ ≤ r.l.length ∧ (r'.bad = none → r.at_ + 1 ≤ r'.at_))
theorem Goes.trans {a b c : Rdr} (h : Goes a b) (k : Goes b c) : Goes a c := by
  refine ⟨k.1.trans h.1, fun h1 h2 => ?_⟩
  obtain ⟨p1, p2, p3⟩ := h.2 h1 h2
  obtain ⟨q1, q2, q3⟩ := k.2 (by omega) (by rw [h.1]; exact p2)
  rw [h.1] at q2
  exact ⟨by omega, q2, fun hq => by have := q3 hq; omega⟩
theorem goes_take (r : Rdr) (k : Int) : Goes r (r.take k).2 := by
  refine ⟨r.take_l k, fun h1 h2 => ?_⟩
  rcases r.take_at k with ⟨_, e, _, h3, h4⟩ | ⟨_, e, hb⟩
  · rw [e]; exact ⟨by omega, by omega, fun _ => by omega⟩
  · rw [e]; exact ⟨by omega, h2, fun hq => absurd hq hb⟩
theorem goes_word (r : Rdr) : Goes r r.word.2 := goes_take r 97
theorem goes_leaf (r : Rdr) (k : Int) : Goes r (r.leaf k).2 := goes_word r
theorem goes_bracket {β : Type} (step : Rdr × List β → Rdr × List β) (k : Int) (e : Bool) (r : Rdr) : Goes r (r.bracket step k e).2 := by
  have h := goes_take r k
  unfold Rdr.bracket
  split
  · rename_i hok
    have hb : (r.take k).2.bad = none := by simpa [Rdr.ok] using hok
    exact ⟨h.1, fun h1 h2 => by
      obtain ⟨p1, p2, p3⟩ := h.2 h1 h2
      exact ⟨p1, p2, fun _ => p3 hb⟩⟩
  · exact h
theorem goes_words (r : Rdr) (e : Bool) : Goes r (r.words e).2 := goes_bracket _ _ _ _
theorem goes_nodes (r : Rdr) (one : Rdr → Nd × Rdr) (k : Int) (e : Bool) : Goes r (r.nodes one k e).2 := goes_bracket _ _ _ _
theorem reads_of {one : Rdr → Nd × Rdr} (h : ∀ r, Goes r (one r).2) : Reads one := ⟨fun r => (h r).1, fun r => (h r).2⟩
theorem goes_rule (r : Rdr) : Goes r r.rule.2 := ((goes_word r).trans (goes_take _ _)).trans (goes_words _ _)
theorem goes_constant : ∀ (n : Nat) (r : Rdr), Goes r (Rdr.constant n r).2
  | 0, r => goes_leaf r 2
  | n + 1, r => by
    simp only [Rdr.constant]
    split
    · exact goes_words r true
    · split
      · exact goes_nodes r _ 40 false
      · split
        · exact goes_nodes r _ 91 true
        · exact goes_leaf r 2
theorem goes_atom (n : Nat) (r : Rdr) : Goes r (r.atom n).2 := by
  simp only [Rdr.atom]
  split
  · exact (goes_take r 35).trans (goes_constant n _)
  · exact goes_leaf r 1
theorem goes_label : ∀ (n : Nat) (r : Rdr), Goes r (Rdr.label n r).2
  | 0, r => goes_leaf r 1
  | n + 1, r => by
    simp only [Rdr.label]
    split
    · exact (goes_take r 43).trans (goes_nodes _ _ 40 false)
    · split
      · exact (goes_take r 38).trans (goes_nodes _ _ 40 false)
      · exact goes_atom (n + 1) r
theorem goes_field (n : Nat) (r : Rdr) : Goes r (r.field n).2 := ((goes_word r).trans (goes_take _ _)).trans (goes_atom n _)
end Go.Am

namespace Go.Am
def Rdr.rowIn (n : Nat) (i : Rdr) : (Rdr × List Nd) × List Word :=
  let a := if i.sees 124 = true then (i, []) else someG (oStep (Rdr.field n)) i
  if a.1.sees 124 = true then (((a.1.take 124).2.word.2, a.2), [(a.1.take 124).2.word.1]) else (a, [])
def Rdr.rowOf (n : Nat) (t : Tree) : (Rdr × List Nd) × List Word := if t.kids.length = 0 then ((t.inner, []), []) else t.inner.rowIn n
def Rdr.row (n : Nat) (r : Rdr) : Nd × Rdr :=
  if r.sees 91 = true then (.mk 10 (r.take 91).1.tok.pos [] (Rdr.rowOf n (r.take 91).1).2 (Rdr.rowOf n (r.take 91).1).1.2, (r.take 91).2.under (Rdr.rowOf n (r.take 91).1).1.1) else r.leaf 1
def Nd.zero : Nd := .mk 0 0 [] [] []
def readAt (one : Rdr → Nd × Rdr) (l : List Tree) (at_ fin : Int) : Nd × Int × Option Int :=
  match (one ⟨l, at_, fin, none⟩).2.bad with
  | some b => (.zero, 0, some b)
  | none => ((one ⟨l, at_, fin, none⟩).1, (one ⟨l, at_, fin, none⟩).2.at_, none)
def wordsAt (l : List Tree) (at_ fin : Int) : List Word × Option Int :=
  match ((⟨l, at_, fin, none⟩ : Rdr).words false).2.bad with
  | some b => ([], some b)
  | none => (((⟨l, at_, fin, none⟩ : Rdr).words false).1.1, none)
end Go.Am

namespace Go.Am
structure Got where
  node : Nd
  next : Int
  bad : Bool
  pos : Int
def Got.enc (g : Got) : List V := [.int .i64 g.node.kind, .int .i64 g.node.pos, .str g.node.text, .sl .no 2 (g.node.names.map Word.enc), .sl .no 5 (g.node.kids.map Nd.enc), .int .i64 g.next, .bool g.bad, .int .i64 g.pos]
def spotOf (l : List Tree) (at_ fin : Int) : Int := if 0 ≤ at_ then (match l[at_.toNat]? with | some t => t.tok.pos | none => fin) else fin
def wrongAt (l : List Tree) (at_ fin : Int) : Got := ⟨.zero, 0, true, spotOf l at_ fin⟩
def tokAt (l : List Tree) (at_ : Int) : Tok := match l[at_.toNat]? with | some t => t.tok | none => ⟨0, [], 0⟩
def nameAt (l : List Tree) (at_ fin : Int) : Got :=
  if isK l at_ 97 = true then ⟨.mk 0 (tokAt l at_).pos (tokAt l at_).text [] [], at_ + 1, false, 0⟩ else wrongAt l at_ fin
def someAt (one : Int → Got) (l : List Tree) : Nat → Int → List Nd → List Nd × Got
  | 0, _, _ => ([], ⟨.zero, 0, true, 0⟩)
  | n + 1, at_, out =>
    if (one at_).bad = true then ([], one at_)
    else if isK l (one at_).next 44 = true then someAt one l n ((one at_).next + 1) (out ++ [(one at_).node])
    else (out ++ [(one at_).node], one at_)
def wholeAt (one : List Tree → Int → Int → Got) (t : Tree) (empty : Bool) : List Nd × Got :=
  if empty = true ∧ t.kids.length = 0 then ([], ⟨.zero, 0, false, 0⟩)
  else
    let r := someAt (fun i => one t.kids i t.fin) t.kids (t.kids.length + 1) 0 []
    if r.2.bad = false ∧ r.2.next < t.kids.length then ([], wrongAt t.kids r.2.next t.fin) else r
def wordsOf (l : List Nd) : List Word := l.map fun n => ⟨n.text, n.pos⟩
def treeAt (l : List Tree) (at_ : Int) : Tree := match l[at_.toNat]? with | some t => t | none => .zero
def refWords (l : List Tree) (at_ fin : Int) : List Word × Got :=
  if isK l at_ 123 = true then (wordsOf (wholeAt nameAt (treeAt l at_) false).1, (wholeAt nameAt (treeAt l at_) false).2) else ([], wrongAt l at_ fin)
theorem isK_spec {l : List Tree} {i k : Int} (h : isK l i k = true) : ∃ j t, i = (j : Nat) ∧ l[j]? = some t ∧ t.tok.kind = k ∧ j < l.length := by
  simp only [isK, Bool.and_eq_true, decide_eq_true_eq] at h
  obtain ⟨h0, hk⟩ := h
  obtain ⟨j, rfl⟩ := Int.eq_ofNat_of_zero_le h0
  simp only [Int.toNat_natCast] at hk
  cases hq : l[j]? with
  | none => rw [hq] at hk; simp at hk
  | some t => rw [hq] at hk; exact ⟨j, t, rfl, hq, by simpa using hk, (List.getElem?_eq_some_iff.1 hq).1⟩
theorem nencs_at {l : List Nd} {j : Nat} {t : Nd} (h : l[j]? = some t) : (l.map Nd.enc)[((j : Nat) : Int).toNat]? = some t.enc := by simp [h]
theorem wencs_at {l : List Word} {j : Nat} {t : Word} (h : l[j]? = some t) : (l.map Word.enc)[((j : Nat) : Int).toNat]? = some t.enc := by simp [h]
end Go.Am

namespace Go.Am
theorem Tree.r_len {x : Tree} : x.enc.length = 5 := by rw [enc_eq]; rfl
theorem Tree.r_one {x : Tree} : oneL x.enc = true := by rw [enc_eq]; rfl
theorem Tree.r_nol {x : Tree} : nolL x.enc = true := by rw [enc_eq]; rfl
theorem Tree.r_er {x : Tree} : eraseL x.enc = x.enc := by rw [enc_eq]; rfl
theorem Tree.r_tk {x : Tree} : takeN 5 x.enc = some x.enc := by rw [enc_eq]; rfl
theorem Tree.r_ld {x : Tree} : ldC true 5 x.enc = some (.agg x.enc) := by rw [enc_eq]; rfl
theorem Tree.r_has {x : Tree} : hasN 5 x.enc = true := by rw [enc_eq]; rfl
theorem Tree.r_ov {x : Tree} {z0 z1 z2 z3 z4 : V} : over [z0, z1, z2, z3, z4] x.enc = x.enc := by rw [enc_eq]; rfl
theorem Tree.r_lo {x : Tree} {n : Nat} : loL n x.enc = true := by rw [enc_eq]; rfl
def Tree.rec_ := And.intro @Tree.r_len <| And.intro @Tree.r_one <| And.intro @Tree.r_nol <| And.intro @Tree.r_er <| And.intro @Tree.r_tk <| And.intro @Tree.r_ld <| And.intro @Tree.r_has <| And.intro @Tree.r_ov @Tree.r_lo
theorem Nd.r_len {x : Nd} : x.enc.length = 5 := by rw [Nd.enc_eq]; rfl
theorem Nd.r_one {x : Nd} : oneL x.enc = true := by rw [Nd.enc_eq]; rfl
theorem Nd.r_nol {x : Nd} : nolL x.enc = true := by rw [Nd.enc_eq]; rfl
theorem Nd.r_er {x : Nd} : eraseL x.enc = x.enc := by rw [Nd.enc_eq]; rfl
theorem Nd.r_tk {x : Nd} : takeN 5 x.enc = some x.enc := by rw [Nd.enc_eq]; rfl
theorem Nd.r_ld {x : Nd} : ldC true 5 x.enc = some (.agg x.enc) := by rw [Nd.enc_eq]; rfl
theorem Nd.r_has {x : Nd} : hasN 5 x.enc = true := by rw [Nd.enc_eq]; rfl
theorem Nd.r_ov {x : Nd} {z0 z1 z2 z3 z4 : V} : over [z0, z1, z2, z3, z4] x.enc = x.enc := by rw [Nd.enc_eq]; rfl
theorem Nd.r_lo {x : Nd} {n : Nat} : loL n x.enc = true := by rw [Nd.enc_eq]; rfl
def Nd.rec_ := And.intro @Nd.r_len <| And.intro @Nd.r_one <| And.intro @Nd.r_nol <| And.intro @Nd.r_er <| And.intro @Nd.r_tk <| And.intro @Nd.r_ld <| And.intro @Nd.r_has <| And.intro @Nd.r_ov @Nd.r_lo
theorem Word.r_len {x : Word} : x.enc.length = 2 := by rw [Word.enc]; rfl
theorem Word.r_one {x : Word} : oneL x.enc = true := by rw [Word.enc]; rfl
theorem Word.r_nol {x : Word} : nolL x.enc = true := by rw [Word.enc]; rfl
theorem Word.r_er {x : Word} : eraseL x.enc = x.enc := by rw [Word.enc]; rfl
theorem Word.r_tk {x : Word} : takeN 2 x.enc = some x.enc := by rw [Word.enc]; rfl
theorem Word.r_ld {x : Word} : ldC true 2 x.enc = some (.agg x.enc) := by rw [Word.enc]; rfl
theorem Word.r_has {x : Word} : hasN 2 x.enc = true := by rw [Word.enc]; rfl
theorem Word.r_ov {x : Word} {z0 z1 : V} : over [z0, z1] x.enc = x.enc := by rw [Word.enc]; rfl
theorem Word.r_lo {x : Word} {n : Nat} : loL n x.enc = true := by rw [Word.enc]; rfl
def Word.rec_ := And.intro @Word.r_len <| And.intro @Word.r_one <| And.intro @Word.r_nol <| And.intro @Word.r_er <| And.intro @Word.r_tk <| And.intro @Word.r_ld <| And.intro @Word.r_has <| And.intro @Word.r_ov @Word.r_lo
theorem Got.r_len {x : Got} : x.enc.length = 8 := by rw [Got.enc]; rfl
theorem Got.r_one {x : Got} : oneL x.enc = true := by rw [Got.enc]; rfl
theorem Got.r_nol {x : Got} : nolL x.enc = true := by rw [Got.enc]; rfl
theorem Got.r_er {x : Got} : eraseL x.enc = x.enc := by rw [Got.enc]; rfl
theorem Got.r_tk {x : Got} : takeN 8 x.enc = some x.enc := by rw [Got.enc]; rfl
theorem Got.r_ld {x : Got} : ldC true 8 x.enc = some (.agg x.enc) := by rw [Got.enc]; rfl
theorem Got.r_has {x : Got} : hasN 8 x.enc = true := by rw [Got.enc]; rfl
theorem Got.r_ov {x : Got} {z0 z1 z2 z3 z4 z5 z6 z7 : V} : over [z0, z1, z2, z3, z4, z5, z6, z7] x.enc = x.enc := by rw [Got.enc]; rfl
theorem Got.r_lo {x : Got} {n : Nat} : loL n x.enc = true := by rw [Got.enc]; rfl
def Got.rec_ := And.intro @Got.r_len <| And.intro @Got.r_one <| And.intro @Got.r_nol <| And.intro @Got.r_er <| And.intro @Got.r_tk <| And.intro @Got.r_ld <| And.intro @Got.r_has <| And.intro @Got.r_ov @Got.r_lo
theorem Nd.x1 {r : Nd} : r.enc.drop 1 = [V.int .i64 r.pos, .str r.text, .sl .no 2 (r.names.map Word.enc), .sl .no 5 (r.kids.map Nd.enc)] := by rw [Nd.enc_eq]; rfl
theorem Nd.x2 {r : Nd} : r.enc.drop 2 = [V.str r.text, .sl .no 2 (r.names.map Word.enc), .sl .no 5 (r.kids.map Nd.enc)] := by rw [Nd.enc_eq]; rfl
theorem Nd.x3 {r : Nd} : r.enc.drop 3 = [V.sl .no 2 (r.names.map Word.enc), .sl .no 5 (r.kids.map Nd.enc)] := by rw [Nd.enc_eq]; rfl
theorem Nd.x4 {r : Nd} : r.enc.drop 4 = [V.sl .no 5 (r.kids.map Nd.enc)] := by rw [Nd.enc_eq]; rfl
theorem Nd.x0 {r : Nd} : ldC false 1 r.enc = some (.int .i64 r.kind) := by rw [Nd.enc_eq]; rfl
def Nd.fl := And.intro @Nd.x0 <| And.intro @Nd.x1 <| And.intro @Nd.x2 <| And.intro @Nd.x3 @Nd.x4
theorem Tree.x1 {r : Tree} : r.enc.drop 1 = [V.str r.tok.text, .int .i64 r.tok.pos, .sl .no 5 (encs r.kids), .int .i64 r.fin] := by rw [enc_eq]; rfl
theorem Tree.x2 {r : Tree} : r.enc.drop 2 = [V.int .i64 r.tok.pos, .sl .no 5 (encs r.kids), .int .i64 r.fin] := by rw [enc_eq]; rfl
theorem Tree.x3 {r : Tree} : r.enc.drop 3 = [V.sl .no 5 (encs r.kids), .int .i64 r.fin] := by rw [enc_eq]; rfl
theorem Tree.x4 {r : Tree} : r.enc.drop 4 = [V.int .i64 r.fin] := by rw [enc_eq]; rfl
theorem Tree.x0 {r : Tree} : ldC false 1 r.enc = some (.int .u8 r.tok.kind) := by rw [enc_eq]; rfl
theorem Tree.xt {r : Tree} : ldC true 3 r.enc = some (.agg [.int .u8 r.tok.kind, .str r.tok.text, .int .i64 r.tok.pos]) := by rw [enc_eq]; rfl
def Tree.fl := And.intro @Tree.x0 <| And.intro @Tree.xt <| And.intro @Tree.x1 <| And.intro @Tree.x2 <| And.intro @Tree.x3 @Tree.x4
end Go.Am

namespace Go.Am
def leafG (kind : Int) (l : List Tree) (a fin : Int) : Got :=
  if isK l a 97 = true then ⟨.mk kind (tokAt l a).pos (tokAt l a).text [] [], a + 1, false, 0⟩ else wrongAt l a fin
def ruleG (l : List Tree) (a fin : Int) : Got :=
  if isK l a 97 = false then wrongAt l a fin
  else if isK l (a + 1) 58 = false then wrongAt l (a + 1) fin
  else if isK l (a + 2) 123 = false then wrongAt l (a + 2) fin
  else if (wholeAt nameAt (treeAt l (a + 2)) true).2.bad = true then (wholeAt nameAt (treeAt l (a + 2)) true).2
  else ⟨.mk 6 (tokAt l a).pos (tokAt l a).text (wordsOf (wholeAt nameAt (treeAt l (a + 2)) true).1) [], a + 3, false, 0⟩
def inG (w : List Nd × Got) (mk : List Nd → Nd) (next : Int) : Got := if w.2.bad = true then w.2 else ⟨mk w.1, next, false, 0⟩
def constG : Nat → List Tree → Int → Int → Got
  | 0, l, a, fin => leafG 2 l a fin
  | n + 1, l, a, fin =>
    if isK l a 97 = true then leafG 2 l a fin
    else if isK l a 123 = true then inG (wholeAt nameAt (treeAt l a) true) (fun ks => .mk 3 (tokAt l a).pos [] (wordsOf ks) []) (a + 1)
    else if isK l a 40 = true then inG (wholeAt (constG n) (treeAt l a) false) (fun ks => .mk 4 (tokAt l a).pos [] [] ks) (a + 1)
    else if isK l a 91 = true then inG (wholeAt ruleG (treeAt l a) true) (fun ks => .mk 5 (tokAt l a).pos [] [] ks) (a + 1)
    else wrongAt l a fin
def Got.put (g : Got) (f : Nd → Nd) : Got := if g.bad = true then g else { g with node := f g.node }
def labelG : Nat → List Tree → Int → Int → Got
  | 0, l, a, fin => leafG 1 l a fin
  | n + 1, l, a, fin =>
    if isK l a 97 = true then leafG 1 l a fin
    else if isK l a 35 = true then (constG (n + 1) l (a + 1) fin).put fun m => .mk 7 (tokAt l a).pos [] [] [m]
    else if isK l a 43 = false ∧ isK l a 38 = false then wrongAt l a fin
    else if isK l (a + 1) 40 = false then wrongAt l (a + 1) fin
    else inG (wholeAt (labelG n) (treeAt l (a + 1)) false) (fun ks => .mk (if isK l a 38 = true then 9 else 8) (tokAt l a).pos [] [] ks) (a + 2)
def atomG (n : Nat) (l : List Tree) (a fin : Int) : Got := if isK l a 43 = true ∨ isK l a 38 = true then wrongAt l a fin else labelG n l a fin
def fieldG (n : Nat) (l : List Tree) (a fin : Int) : Got :=
  if isK l a 97 = false then wrongAt l a fin
  else if isK l (a + 1) 61 = false then wrongAt l (a + 1) fin
  else (atomG n l (a + 2) fin).put fun m => .mk 11 (tokAt l a).pos (tokAt l a).text [] [m]
def rowG3 (l : List Tree) (a : Int) (ks : List Nd) (ws : List Word) (next : Int) : Got :=
  if next < (treeAt l a).kids.length then wrongAt (treeAt l a).kids next (treeAt l a).fin else ⟨.mk 10 (tokAt l a).pos [] ws ks, a + 1, false, 0⟩
def rowG2 (l : List Tree) (a : Int) (ks : List Nd) (next : Int) : Got :=
  if isK (treeAt l a).kids next 124 = true then
    if (nameAt (treeAt l a).kids (next + 1) (treeAt l a).fin).bad = true then nameAt (treeAt l a).kids (next + 1) (treeAt l a).fin
    else rowG3 l a ks (wordsOf [(nameAt (treeAt l a).kids (next + 1) (treeAt l a).fin).node]) (nameAt (treeAt l a).kids (next + 1) (treeAt l a).fin).next
  else rowG3 l a ks [] next
def rowS (n : Nat) (l : List Tree) (a : Int) : List Nd × Got := someAt (fun i => fieldG n (treeAt l a).kids i (treeAt l a).fin) (treeAt l a).kids ((treeAt l a).kids.length + 1) 0 []
def rowG (n : Nat) (l : List Tree) (a fin : Int) : Got :=
  if isK l a 97 = true then labelG n l a fin
  else if isK l a 91 = false then wrongAt l a fin
  else if 0 < (treeAt l a).kids.length ∧ isK (treeAt l a).kids 0 124 = false then
    if (rowS n l a).2.bad = true then (rowS n l a).2 else rowG2 l a (rowS n l a).1 (rowS n l a).2.next
  else rowG2 l a [] 0
def Adv (g : List Tree → Int → Int → Got) : Prop := ∀ l a fin, (g l a fin).bad = false → 0 ≤ a ∧ a + 1 ≤ (g l a fin).next ∧ (g l a fin).next ≤ (l.length : Int)
theorem isK_lt {l : List Tree} {i k : Int} (h : isK l i k = true) : 0 ≤ i ∧ i < (l.length : Int) := by
  obtain ⟨j, t, rfl, _, _, hl⟩ := isK_spec h; omega
theorem adv_leaf (k : Int) : Adv (leafG k) := fun l a fin h => by
  unfold leafG at h ⊢
  split
  · rename_i hk; have := isK_lt hk; exact ⟨this.1, by simp, by simp only; omega⟩
  · rename_i hk; rw [if_neg hk] at h; simp [wrongAt] at h
theorem adv_rule : Adv ruleG := fun l a fin h => by
  unfold ruleG at h ⊢
  split
  · rename_i hk; rw [if_pos hk] at h; simp [wrongAt] at h
  rename_i h1; rw [if_neg h1] at h
  split
  · rename_i hk; rw [if_pos hk] at h; simp [wrongAt] at h
  rename_i h2; rw [if_neg h2] at h
  split
  · rename_i hk; rw [if_pos hk] at h; simp [wrongAt] at h
  rename_i h3; rw [if_neg h3] at h
  split
  · rename_i hk; rw [if_pos hk, hk] at h; simp at h
  · have := isK_lt (by simpa using h3 : isK l (a + 2) 123 = true)
    have := isK_lt (by simpa using h1 : isK l a 97 = true)
    exact ⟨this.1, by simp only; omega, by simp only; omega⟩
theorem inG_ok {w : List Nd × Got} {mk : List Nd → Nd} {next : Int} (h : (inG w mk next).bad = false) : (inG w mk next).next = next := by
  unfold inG at h ⊢
  split
  · rename_i hk; rw [if_pos hk, hk] at h; simp at h
  · rfl
theorem adv_const : ∀ n, Adv (constG n)
  | 0 => adv_leaf 2
  | n + 1 => fun l a fin h => by
    simp only [constG] at h ⊢
    split
    · rename_i hk; rw [if_pos hk] at h; exact adv_leaf 2 l a fin h
    rename_i h1; rw [if_neg h1] at h
    split
    · rename_i hk; rw [if_pos hk] at h; have := isK_lt hk; rw [inG_ok h]; omega
    rename_i h2; rw [if_neg h2] at h
    split
    · rename_i hk; rw [if_pos hk] at h; have := isK_lt hk; rw [inG_ok h]; omega
    rename_i h3; rw [if_neg h3] at h
    split
    · rename_i hk; rw [if_pos hk] at h; have := isK_lt hk; rw [inG_ok h]; omega
    · rename_i hk; rw [if_neg hk] at h; simp [wrongAt] at h
theorem put_ok {g : Got} {f : Nd → Nd} (h : (g.put f).bad = false) : g.bad = false ∧ (g.put f).next = g.next := by
  unfold Got.put at h ⊢
  split
  · rename_i hk; rw [if_pos hk, hk] at h; simp at h
  · rename_i hk; exact ⟨by simpa using hk, rfl⟩
theorem adv_label : ∀ n, Adv (labelG n)
  | 0 => adv_leaf 1
  | n + 1 => fun l a fin h => by
    simp only [labelG] at h ⊢
    split
    · rename_i hk; rw [if_pos hk] at h; exact adv_leaf 1 l a fin h
    rename_i h1; rw [if_neg h1] at h
    split
    · rename_i hk; rw [if_pos hk] at h
      have := isK_lt hk
      obtain ⟨g1, g2⟩ := put_ok h
      have := adv_const (n + 1) l (a + 1) fin g1
      rw [g2]; omega
    rename_i h2; rw [if_neg h2] at h
    split
    · rename_i hk; rw [if_pos hk] at h; simp [wrongAt] at h
    rename_i h3; rw [if_neg h3] at h
    split
    · rename_i hk; rw [if_pos hk] at h; simp [wrongAt] at h
    rename_i h4; rw [if_neg h4] at h
    have := isK_lt (by simpa using h4 : isK l (a + 1) 40 = true)
    have h5 : 0 ≤ a := by
      cases h43 : isK l a 43
      · cases h38 : isK l a 38
        · exact absurd ⟨h43, h38⟩ h3
        · exact (isK_lt h38).1
      · exact (isK_lt h43).1
    rw [inG_ok h]; omega
theorem adv_atom (n : Nat) : Adv (atomG n) := fun l a fin h => by
  unfold atomG at h ⊢
  split
  · rename_i hk; rw [if_pos hk] at h; simp [wrongAt] at h
  · rename_i hk; rw [if_neg hk] at h; exact adv_label n l a fin h
theorem adv_field (n : Nat) : Adv (fieldG n) := fun l a fin h => by
  unfold fieldG at h ⊢
  split
  · rename_i hk; rw [if_pos hk] at h; simp [wrongAt] at h
  rename_i h1; rw [if_neg h1] at h
  split
  · rename_i hk; rw [if_pos hk] at h; simp [wrongAt] at h
  rename_i h2; rw [if_neg h2] at h
  obtain ⟨g1, g2⟩ := put_ok h
  have := adv_atom n l (a + 2) fin g1
  have := isK_lt (by simpa using h1 : isK l a 97 = true)
  rw [g2]; omega
end Go.Am

namespace Go.Am
def letZ (c : Int) : Bool := decide (97 ≤ c) && decide (c ≤ 122)
def goesZ (c : Int) : Bool := letZ c || (decide (48 ≤ c) && decide (c ≤ 57)) || decide (c = 95)
def signs : List Int := [35, 43, 38, 40, 41, 123, 125, 91, 93, 44, 58, 61, 124, 60]
def signZ (c : Int) : Bool := signs.any fun s => decide (s = c)
def closing (c : Int) : Int := if c = 40 then 41 else if c = 123 ∨ c = 91 then c + 2 else 0
def closesZ (c : Int) : Bool := decide (c = 41) || decide (c = 125) || decide (c = 93)
def goesB (c : UInt8) : Bool := goesZ c.toNat
def letB (c : UInt8) : Bool := letZ c.toNat
def nameR (s : List UInt8) : Bool := decide (s.length ≤ 16) && (match s with | [] => false | c :: r => letB c && r.all goesB)
end Go.Am

namespace Go.Am
def Tok.enc (t : Tok) : List V := [.int .u8 t.kind, .str t.text, .int .i64 t.pos]
def runR (r : List UInt8) : List UInt8 := r.takeWhile goesB
def lexF : Nat → Nat → List UInt8 → List Tok → List Tok × Option Int
  | 0, _, _, acc => (acc, none)
  | _, _, [], acc => (acc, none)
  | n + 1, p, c :: r, acc =>
    if c.toNat = 45 ∧ (r.head?.map UInt8.toNat) = some 45 then (acc, none)
    else if 0 < (runR (c :: r)).length ∧ nameR (runR (c :: r)) = true then lexF n (p + (runR (c :: r)).length) ((c :: r).drop (runR (c :: r)).length) (acc ++ [⟨97, runR (c :: r), p⟩])
    else if signZ (c.toNat : Nat) = true then lexF n (p + 1) r (acc ++ [⟨(c.toNat : Nat), [c], p⟩])
    else if c.toNat = 32 ∨ c.toNat = 9 then lexF n (p + 1) r acc
    else ([], some p)
def lexR (s : List UInt8) : List Tok × Option Int := lexF s.length 0 s []
def badL (b : Option Int) : V := .agg [.int .i64 (match b with | some _ => 1 | none => 0), .int .i64 (badA b)]
def kindAt (l : List Tok) (i : Nat) : Int := match l[i]? with | some t => t.kind | none => 0
def faultF (l : List Tok) : Nat → Nat → List Nat → Int
  | 0, _, open_ => match open_.getLast? with | some j => (j : Nat) | none => -1
  | n + 1, i, open_ =>
    if closing (kindAt l i) ≠ 0 ∧ 24 ≤ open_.length then (i : Nat)
    else
      let o := if closing (kindAt l i) ≠ 0 then open_ ++ [i] else open_
      if closesZ (kindAt l i) = true then
        match o.getLast? with
        | none => (i : Nat)
        | some j => if closing (kindAt l j) = kindAt l i then faultF l n (i + 1) o.dropLast else (i : Nat)
      else faultF l n (i + 1) o
def partnerF (l : List Tok) (at_ : Nat) : Nat → Nat → Int → Nat
  | 0, _, _ => at_
  | n + 1, i, deep =>
    let d := (deep + (if closing (kindAt l i) ≠ 0 then 1 else 0)) - (if closesZ (kindAt l i) = true then 1 else 0)
    if d = 0 then i else partnerF l at_ n (i + 1) d
def partner (l : List Tok) (at_ : Nat) : Nat := partnerF l at_ (l.length - at_) at_ 0
def posAt (l : List Tok) (i : Nat) : Int := match l[i]? with | some t => t.pos | none => 0
def tokN (l : List Tok) (i : Nat) : Tok := match l[i]? with | some t => t | none => ⟨0, [], 0⟩
def treesF (l : List Tok) : Nat → Nat → Nat → List Tree
  | 0, _, _ => []
  | n + 1, i, to =>
    if i < to then
      if closing (kindAt l i) ≠ 0 then .mk (tokN l i) (treesF l n (i + 1) (partner l i)) (posAt l (partner l i)) :: treesF l n (partner l i + 1) to
      else .mk (tokN l i) [] (posAt l i) :: treesF l n (i + 1) to
    else []
def treeR (l : List Tok) : List Tree × Option Int :=
  if 0 ≤ faultF l l.length 0 [] then ([], some (posAt l (faultF l l.length 0 []).toNat)) else (treesF l l.length 0 l.length, none)
def textF : Option Int → List Tok → List UInt8
  | _, [] => []
  | k, t :: ts => (if k = some 97 ∧ t.kind = 97 then [32] else []) ++ t.text ++ textF (some t.kind) ts
def textR (l : List Tok) : List UInt8 := textF none l
mutual
def Tree.flat : Tree → List Tok
  | .mk t ks e => t :: (if closing t.kind ≠ 0 then flats ks ++ [⟨closing t.kind, [UInt8.ofNat (closing t.kind).toNat], e⟩] else [])
def flats : List Tree → List Tok
  | [] => []
  | t :: ts => t.flat ++ flats ts
end
theorem runR_len (r : List UInt8) : (runR r).length ≤ r.length := by
  unfold runR
  exact List.Sublist.length_le (List.takeWhile_sublist _)
theorem runR_le {s : List UInt8} {a : Nat} : (runR (s.drop a)).length ≤ s.length - a := by
  have := runR_len (s.drop a)
  rwa [List.length_drop] at this
theorem takeWhile_take {α : Type} {f : α → Bool} : ∀ (r : List α), r.take (r.takeWhile f).length = r.takeWhile f
  | [] => rfl
  | c :: r => by
    simp only [List.takeWhile_cons]
    split
    · simp [takeWhile_take r]
    · simp
theorem cut_run {s : List UInt8} {a : Nat} : (s.take (a + (runR (s.drop a)).length)).drop a = runR (s.drop a) := by
  rw [List.drop_take, Nat.add_sub_cancel_left]
  exact takeWhile_take _
theorem cut_one {s : List UInt8} {a : Nat} (h : a < s.length) : (s.take (a + 1)).drop a = [s[a]] := by
  rw [List.drop_take, Nat.add_sub_cancel_left, List.drop_eq_getElem_cons h]; rfl
theorem partnerF_ge {l : List Tok} {at_ : Nat} : ∀ (n i : Nat) (d : Int), at_ ≤ i → i + n ≤ l.length → at_ < l.length → at_ ≤ partnerF l at_ n i d ∧ partnerF l at_ n i d < l.length
  | 0, i, d, _, _, h => ⟨Nat.le_refl _, h⟩
  | n + 1, i, d, h1, h2, h3 => by
    simp only [partnerF]
    generalize (d + (if closing (kindAt l i) ≠ 0 then 1 else 0)) - (if closesZ (kindAt l i) = true then 1 else 0) = e
    split
    · exact ⟨h1, by omega⟩
    · exact partnerF_ge n (i + 1) _ (by omega) (by omega) h3
theorem partner_ge {l : List Tok} {i : Nat} (h : i < l.length) : i ≤ partner l i ∧ partner l i < l.length := partnerF_ge _ _ _ (Nat.le_refl _) (by omega) h
theorem lexF_len : ∀ (n p : Nat) (r : List UInt8) (acc : List Tok), r.length ≤ n → (lexF n p r acc).1.length ≤ acc.length + r.length
  | 0, _, r, acc, _ => by cases r <;> simp [lexF]
  | n + 1, p, [], acc, _ => by simp [lexF]
  | n + 1, p, c :: r, acc, h => by
    simp only [lexF]
    have hr := runR_len (c :: r)
    simp only [List.length_cons] at h hr ⊢
    split
    · simp only; omega
    · split
      · rename_i h1
        have := lexF_len n (p + (runR (c :: r)).length) ((c :: r).drop (runR (c :: r)).length) (acc ++ [⟨97, runR (c :: r), p⟩]) (by simp; omega)
        simp at this; omega
      · split
        · have := lexF_len n (p + 1) r (acc ++ [⟨(c.toNat : Nat), [c], p⟩]) (by omega)
          simp at this; omega
        · split
          · have := lexF_len n (p + 1) r acc (by omega); omega
          · simp
theorem lexR_len (s : List UInt8) : (lexR s).1.length ≤ s.length := by
  have := lexF_len s.length 0 s [] (Nat.le_refl _)
  simpa [lexR] using this
end Go.Am

namespace Go.Am
def joinC : List (List UInt8) → List UInt8
  | [] => []
  | x :: xs => x ++ xs.flatMap fun y => 44 :: y
theorem joinC_snoc (l : List (List UInt8)) (y : List UInt8) : joinC (l ++ [y]) = joinC l ++ (if 0 < l.length then [44] else []) ++ y := by
  cases l with
  | nil => simp [joinC]
  | cons x xs => simp [joinC]
theorem joinC_len : ∀ l : List (List UInt8), (joinC l).length ≤ (l.map fun x => x.length + 1).sum
  | [] => by simp [joinC]
  | x :: xs => by
    simp only [joinC, List.length_append, List.length_flatMap, List.map_cons, List.sum_cons]
    have : (xs.map fun y => (44 :: y).length) = xs.map fun x => x.length + 1 := by simp
    rw [this]; omega
def wtext (ws : List Word) : List UInt8 := joinC (ws.map Word.text)
def headT : List (List UInt8) → List UInt8
  | [] => []
  | x :: _ => x
mutual
def Nd.txt : Nd → List UInt8
  | .mk k _ t ws ks =>
    if k = 1 ∨ k = 2 then t
    else if k = 3 then [123] ++ wtext ws ++ [125]
    else if k = 4 then [40] ++ joinC (txts ks) ++ [41]
    else if k = 5 then [91] ++ joinC (txts ks) ++ [93]
    else if k = 6 then t ++ [58, 123] ++ wtext ws ++ [125]
    else if k = 7 then [35] ++ headT (txts ks)
    else if k = 8 then [43, 40] ++ joinC (txts ks) ++ [41]
    else if k = 9 then [38, 40] ++ joinC (txts ks) ++ [41]
    else if k = 10 then ([91] ++ joinC (txts ks)) ++ (if 0 < ws.length then [124] ++ wtext ws else []) ++ [93]
    else if k = 11 then t ++ [61] ++ headT (txts ks)
    else []
def txts : List Nd → List (List UInt8)
  | [] => []
  | n :: ns => n.txt :: txts ns
end
theorem txts_map : ∀ l, txts l = l.map Nd.txt
  | [] => rfl
  | n :: ns => by simp [txts, txts_map ns]
def wsum (ws : List Word) : Nat := (ws.map fun w => w.text.length + 1).sum
mutual
def Nd.wt : Nd → Nat
  | .mk _ _ t ws ks => t.length + wsum ws + wts ks + 4
def wts : List Nd → Nat
  | [] => 0
  | n :: ns => n.wt + 1 + wts ns
end
theorem wts_map : ∀ l, wts l = (l.map fun n => n.wt + 1).sum
  | [] => rfl
  | n :: ns => by simp [wts, wts_map ns]
theorem wtext_len (ws : List Word) : (wtext ws).length ≤ wsum ws := by
  have := joinC_len (ws.map Word.text)
  simpa [wtext, wsum, List.map_map, Function.comp_def] using this
theorem wt_mem {l : List Nd} {n : Nd} (h : n ∈ l) : n.wt + 1 ≤ wts l := by
  induction l with
  | nil => simp at h
  | cons m ms ih =>
    rcases List.mem_cons.1 h with rfl | h
    · simp only [wts]; omega
    · have := ih h; simp only [wts]; omega
theorem ktext_len : ∀ (l : List Nd), (∀ n ∈ l, n.txt.length ≤ n.wt) → (joinC (txts l)).length ≤ wts l := fun l h => by
  refine Nat.le_trans (joinC_len _) ?_
  rw [txts_map, wts_map, List.map_map]
  induction l with
  | nil => simp
  | cons n ns ih =>
    simp only [List.map_cons, List.sum_cons, Function.comp]
    have h1 := h n (by simp)
    have h2 := ih fun m hm => h m (by simp [hm])
    omega
theorem head_len (l : List Nd) (h : ∀ n ∈ l, n.txt.length ≤ n.wt) : (headT (txts l)).length ≤ wts l := by
  cases l with
  | nil => simp [txts, headT]
  | cons n ns => have := h n (by simp); simp only [txts, headT, wts]; omega
mutual
theorem txt_len : ∀ (n : Nd), n.txt.length ≤ n.wt
  | .mk k p t ws ks => by
    have h1 := wtext_len ws
    have h2 := ktext_len ks (txt_lens ks)
    have h3 := head_len ks (txt_lens ks)
    simp only [Nd.txt, Nd.wt]
    repeat' split
    all_goals (try simp only [List.length_append, List.length_cons, List.length_nil])
    all_goals omega
theorem txt_lens : ∀ (l : List Nd), ∀ n ∈ l, n.txt.length ≤ n.wt
  | [], n, h => by simp at h
  | m :: ms, n, h => by
    rcases List.mem_cons.1 h with h | h
    · rw [h]; exact txt_len m
    · exact txt_lens ms n h
end
end Go.Am

namespace Go.Am
def rightW (ws : List Word) : Bool := ws.all fun w => nameR w.text
def Nd.leafQ (n : Nd) : Bool := nameR n.text && decide ((n.names.length : Int) + n.kids.length = 0)
def Nd.bareQ (n : Nd) : Bool := decide (n.text = []) && decide ((n.names.length : Int) = 0)
def Nd.ruleQ (n : Nd) : Bool := decide (n.kind = 6) && nameR n.text && rightW n.names && decide ((n.kids.length : Int) = 0)
mutual
def Nd.constQ : Nd → Bool
  | .mk k p t ws ks =>
    if k = 2 then (Nd.mk k p t ws ks).leafQ
    else if k = 3 then decide (t = []) && rightW ws && decide ((ks.length : Int) = 0)
    else if k = 4 then (Nd.mk k p t ws ks).bareQ && decide ((0 : Int) < ks.length) && constsQ ks
    else if k = 5 then (Nd.mk k p t ws ks).bareQ && ks.all Nd.ruleQ
    else false
def constsQ : List Nd → Bool
  | [] => true
  | n :: ns => n.constQ && constsQ ns
end
theorem constsQ_all : ∀ l, constsQ l = l.all Nd.constQ
  | [] => rfl
  | n :: ns => by simp [constsQ, constsQ_all ns]
theorem Nd.constQ_eq (n : Nd) : n.constQ = if n.kind = 2 then n.leafQ else if n.kind = 3 then decide (n.text = []) && rightW n.names && decide ((n.kids.length : Int) = 0)
    else if n.kind = 4 then n.bareQ && decide ((0 : Int) < n.kids.length) && n.kids.all Nd.constQ else if n.kind = 5 then n.bareQ && n.kids.all Nd.ruleQ else false := by
  cases n; rw [← constsQ_all]; rw [Nd.constQ]; rfl
def headQ (f : Nd → Bool) : List Nd → Bool
  | [] => false
  | n :: _ => f n
mutual
def Nd.labelQ : Nd → Bool
  | .mk k p t ws ks =>
    if k = 1 then (Nd.mk k p t ws ks).leafQ
    else if k = 7 then (Nd.mk k p t ws ks).bareQ && decide ((ks.length : Int) = 1) && headQ Nd.constQ ks
    else if k = 8 ∨ k = 9 then (Nd.mk k p t ws ks).bareQ && decide ((0 : Int) < ks.length) && labelsQ ks
    else false
def labelsQ : List Nd → Bool
  | [] => true
  | n :: ns => n.labelQ && labelsQ ns
end
theorem labelsQ_all : ∀ l, labelsQ l = l.all Nd.labelQ
  | [] => rfl
  | n :: ns => by simp [labelsQ, labelsQ_all ns]
theorem Nd.labelQ_eq (n : Nd) : n.labelQ = if n.kind = 1 then n.leafQ else if n.kind = 7 then n.bareQ && decide ((n.kids.length : Int) = 1) && headQ Nd.constQ n.kids
    else if n.kind = 8 ∨ n.kind = 9 then n.bareQ && decide ((0 : Int) < n.kids.length) && n.kids.all Nd.labelQ else false := by
  cases n; rw [← labelsQ_all]; rw [Nd.labelQ]; rfl
def Nd.atomQ (n : Nd) : Bool := (decide (n.kind = 1) || decide (n.kind = 7)) && n.labelQ
def Nd.fieldQ (n : Nd) : Bool := decide (n.kind = 11) && nameR n.text && decide ((n.names.length : Int) = 0) && decide ((n.kids.length : Int) = 1) && headQ Nd.atomQ n.kids
def Nd.rowQ (n : Nd) : Bool :=
  if n.kind = 10 then decide (n.text = []) && decide ((n.names.length : Int) ≤ 1) && rightW n.names && n.kids.all Nd.fieldQ else decide (n.kind = 1) && n.labelQ
def sameW : List Word → List Word → Bool
  | [], [] => true
  | w :: ws, u :: us => decide (w.text = u.text) && sameW ws us
  | _, _ => false
mutual
def Nd.sameQ : Nd → Nd → Bool
  | .mk k _ t ws ks, n => decide (k = n.kind) && decide (t = n.text) && sameW ws n.names && samesQ ks n.kids
def samesQ : List Nd → List Nd → Bool
  | [], [] => true
  | n :: ns, m :: ms => n.sameQ m && samesQ ns ms
  | _, _ => false
end
theorem Nd.sameQ_eq (n m : Nd) : n.sameQ m = (decide (n.kind = m.kind) && decide (n.text = m.text) && sameW n.names m.names && samesQ n.kids m.kids) := by cases n; rw [Nd.sameQ]; rfl
theorem sameW_refl : ∀ l, sameW l l = true
  | [] => rfl
  | w :: ws => by simp [sameW, sameW_refl ws]
mutual
theorem Nd.sameQ_refl : ∀ n : Nd, n.sameQ n = true
  | .mk k p t ws ks => by simp [Nd.sameQ, Nd.kind, Nd.text, Nd.names, Nd.kids, sameW_refl, samesQ_refl ks]
theorem samesQ_refl : ∀ l : List Nd, samesQ l l = true
  | [] => by simp [samesQ]
  | n :: ns => by simp [samesQ, Nd.sameQ_refl n, samesQ_refl ns]
end
theorem sameW_len : ∀ {a b : List Word}, sameW a b = true → a.length = b.length
  | [], [], _ => rfl
  | [], _ :: _, h => by simp [sameW] at h
  | _ :: _, [], h => by simp [sameW] at h
  | _ :: ws, _ :: us, h => by simp only [sameW, Bool.and_eq_true] at h; simp [sameW_len h.2]
theorem samesQ_len : ∀ {a b : List Nd}, samesQ a b = true → a.length = b.length
  | [], [], _ => rfl
  | [], _ :: _, h => by simp [samesQ] at h
  | _ :: _, [], h => by simp [samesQ] at h
  | _ :: ws, _ :: us, h => by simp only [samesQ, Bool.and_eq_true] at h; simp [samesQ_len h.2]
theorem sameW_at : ∀ {a b : List Word} {i : Nat} (ha : i < a.length) (hb : i < b.length), a.length = b.length → sameW (a.take i) (b.take i) = true → sameW (a.take (i + 1)) (b.take (i + 1)) = decide (a[i].text = b[i].text) ∧ (decide (a[i].text = b[i].text) = false → sameW a b = false)
  | w :: ws, u :: us, 0, _, _, _, _ => by simp [sameW]; intro h1 h2; exact absurd h2 h1
  | w :: ws, u :: us, i + 1, ha, hb, hl, h => by
    simp only [List.take_succ_cons, sameW, Bool.and_eq_true] at h ⊢
    have := sameW_at (a := ws) (b := us) (i := i) (by simpa using ha) (by simpa using hb) (by simpa using hl) h.2
    simp only [h.1, Bool.true_and, List.getElem_cons_succ]
    exact this
  | [], _, _, ha, _, _, _ => by simp at ha
  | _ :: _, [], _, _, hb, _, _ => by simp at hb
theorem samesQ_at : ∀ {a b : List Nd} {i : Nat} (ha : i < a.length) (hb : i < b.length), a.length = b.length → samesQ (a.take i) (b.take i) = true → samesQ (a.take (i + 1)) (b.take (i + 1)) = a[i].sameQ b[i] ∧ (a[i].sameQ b[i] = false → samesQ a b = false)
  | w :: ws, u :: us, 0, _, _, _, _ => by simp [samesQ]; intro h1 h2; rw [h1] at h2; simp at h2
  | w :: ws, u :: us, i + 1, ha, hb, hl, h => by
    simp only [List.take_succ_cons, samesQ, Bool.and_eq_true] at h ⊢
    have := samesQ_at (a := ws) (b := us) (i := i) (by simpa using ha) (by simpa using hb) (by simpa using hl) h.2
    simp only [h.1, Bool.true_and, List.getElem_cons_succ]
    exact this
  | [], _, _, ha, _, _, _ => by simp at ha
  | _ :: _, [], _, _, hb, _, _ => by simp at hb
end Go.Am

namespace Go.Am
mutual
def Nd.cnt : Nd → Nat
  | .mk _ _ _ ws ks => 1 + ws.length + cnts ks
def cnts : List Nd → Nat
  | [] => 0
  | n :: ns => n.cnt + cnts ns
end
end Go.Am

namespace Go.Am
def delta (l : List Tok) (i : Nat) : Int := (if closing (kindAt l i) ≠ 0 then 1 else 0) - (if closesZ (kindAt l i) = true then 1 else 0)
theorem partnerF_succ {l : List Tok} {x n i : Nat} {d : Int} : partnerF l x (n + 1) i d = if d + delta l i = 0 then i else partnerF l x n (i + 1) (d + delta l i) := by
  simp only [partnerF, delta]
  have e : d + (if closing (kindAt l i) ≠ 0 then 1 else 0) - (if closesZ (kindAt l i) = true then 1 else 0) = d + ((if closing (kindAt l i) ≠ 0 then 1 else 0) - (if closesZ (kindAt l i) = true then 1 else 0)) := by omega
  rw [e]
  rfl
theorem delta_ge (l : List Tok) (i : Nat) : -1 ≤ delta l i := by unfold delta; split <;> split <;> omega
theorem delta_open {l : List Tok} {i : Nat} (h : closing (kindAt l i) ≠ 0) : delta l i = 1 := by
  unfold delta
  have : closesZ (kindAt l i) = false := by
    unfold closing at h
    unfold closesZ
    split at h
    · rename_i hk; rw [hk]; decide
    · split at h
      · rename_i hk; rcases hk with hk | hk <;> rw [hk] <;> decide
      · exact absurd rfl h
  rw [this, if_pos h]; simp
theorem partnerF_rng {l : List Tok} {x : Nat} : ∀ (n i : Nat) (d : Int), partnerF l x n i d = x ∨ i ≤ partnerF l x n i d
  | 0, _, _ => .inl rfl
  | n + 1, i, d => by
    rw [partnerF_succ]
    split
    · exact .inr (Nat.le_refl _)
    · rcases partnerF_rng n (i + 1) (d + delta l i) with h | h
      · exact .inl h
      · exact .inr (by omega)
theorem scan {l : List Tok} {x j : Nat} : ∀ (n i : Nat) (d : Int), i + n = l.length → 1 ≤ d → x < i → i ≤ j → j < partnerF l x n i d → ∃ d', 1 ≤ d' ∧ partnerF l x n i d = partnerF l x (l.length - j) j d'
  | 0, i, d, _, _, hx, hj, h => by simp only [partnerF] at h; omega
  | n + 1, i, d, hl, hd, hx, hj, h => by
    by_cases hij : i = j
    · subst hij
      exact ⟨d, hd, by rw [show l.length - i = n + 1 by omega]⟩
    rw [partnerF_succ] at h ⊢
    split at h
    · omega
    · rename_i he
      rw [if_neg he]
      have := delta_ge l i
      exact scan n (i + 1) _ (by omega) (by omega) (by omega) (by omega) h
theorem less {l : List Tok} {x y : Nat} : ∀ (n p : Nat) (a b : Int), 1 ≤ a → a < b → y < p → x < p → p ≤ partnerF l x n p b → partnerF l y n p a < partnerF l x n p b
  | 0, p, a, b, _, _, _, hx, h => by simp only [partnerF] at h; omega
  | n + 1, p, a, b, ha, hb, hy, hx, h => by
    have hd := delta_ge l p
    simp only [partnerF_succ] at h ⊢
    rw [if_neg (show ¬ b + delta l p = 0 by omega)] at h ⊢
    have h2 : p + 1 ≤ partnerF l x n (p + 1) (b + delta l p) := by rcases partnerF_rng (l := l) (x := x) n (p + 1) (b + delta l p) with e | e <;> omega
    split
    · omega
    · exact less n (p + 1) _ _ (by omega) (by omega) (by omega) (by omega) h2
theorem nest {l : List Tok} {i j : Nat} (hi : closing (kindAt l i) ≠ 0) (hj : closing (kindAt l j) ≠ 0) (h1 : i < j) (h2 : j < partner l i) (hl : i < l.length) : partner l j < partner l i := by
  have hp := partner_ge hl
  have e : partner l i = partnerF l i (l.length - i - 1) (i + 1) 1 := by
    unfold partner
    rw [show l.length - i = (l.length - i - 1) + 1 by omega, partnerF_succ, delta_open hi]
    simp
  rw [e] at h2
  obtain ⟨d, hd, e2⟩ := scan (l.length - i - 1) (i + 1) 1 (by omega) (by omega) (by omega) (by omega) h2
  have e3 : partnerF l i (l.length - j) j d = partnerF l i (l.length - j - 1) (j + 1) (d + 1) := by
    rw [show l.length - j = (l.length - j - 1) + 1 by omega, partnerF_succ, delta_open hj, if_neg (by omega)]
    simp
  have e4 : partner l j = partnerF l j (l.length - j - 1) (j + 1) 1 := by
    unfold partner
    rw [show l.length - j = (l.length - j - 1) + 1 by omega, partnerF_succ, delta_open hj]
    simp
  rw [e, e2, e3, e4]
  rw [e2, e3] at h2
  exact less _ _ _ _ (by omega) (by omega) (by omega) (by omega) (by rcases partnerF_rng (l := l) (x := i) (l.length - j - 1) (j + 1) (d + 1) with e | e <;> omega)
def Within (l : List Tok) (i to : Nat) : Prop := ∀ j, i ≤ j → j < to → closing (kindAt l j) ≠ 0 → partner l j < to
theorem treesF_many {l : List Tok} : ∀ (n i to : Nat), to ≤ l.length → Within l i to → manys (treesF l n i to) ≤ to - i
  | 0, _, _, _, _ => by simp [treesF, manys]
  | n + 1, i, to, hl, hw => by
    rw [treesF]
    split
    · rename_i hi
      split
      · rename_i hc
        have hp := partner_ge (l := l) (i := i) (by omega)
        have hq := hw i (Nat.le_refl _) hi hc
        have h1 := treesF_many n (i + 1) (partner l i) (by omega) fun j a b c => nest hc c (by omega) b (by omega)
        have h2 := treesF_many n (partner l i + 1) to hl fun j a b c => hw j (by omega) b c
        simp only [manys, Tree.many]; omega
      · have h2 := treesF_many n (i + 1) to hl fun j a b c => hw j (by omega) b c
        simp only [manys, Tree.many]; omega
    · simp [manys]
def TokOk (t : Tok) : Prop := (t.kind = 97 ∧ nameR t.text = true) ∨ (t.kind ≠ 97 ∧ t.text = [UInt8.ofNat t.kind.toNat])
theorem lexF_ok : ∀ (n p : Nat) (r : List UInt8) (acc : List Tok), (∀ t ∈ acc, TokOk t) → ∀ t ∈ (lexF n p r acc).1, TokOk t
  | 0, _, r, acc, h => by cases r <;> simpa [lexF] using h
  | n + 1, p, [], acc, h => by simpa [lexF] using h
  | n + 1, p, c :: r, acc, h => by
    simp only [lexF]
    split
    · exact h
    · split
      · rename_i hr
        refine lexF_ok n _ _ _ fun t ht => ?_
        rcases List.mem_append.1 ht with ht | ht
        · exact h t ht
        · rw [List.mem_singleton.1 ht]; exact .inl ⟨rfl, hr.2⟩
      · split
        · rename_i hs
          refine lexF_ok n _ _ _ fun t ht => ?_
          rcases List.mem_append.1 ht with ht | ht
          · exact h t ht
          · rw [List.mem_singleton.1 ht]
            refine .inr ⟨fun e => ?_, ?_⟩
            · simp only at e
              rw [e] at hs
              revert hs; decide
            · simp
        · split
          · exact lexF_ok n _ _ _ h
          · simp
mutual
def Tree.Good : Tree → Prop
  | .mk t ks _ => TokOk t ∧ (closing t.kind = 0 → ks = []) ∧ Goods ks
def Goods : List Tree → Prop
  | [] => True
  | t :: ts => t.Good ∧ Goods ts
end
theorem goods_append : ∀ {a b : List Tree}, Goods (a ++ b) ↔ Goods a ∧ Goods b
  | [], b => by simp [Goods]
  | t :: ts, b => by simp only [List.cons_append, Goods, goods_append (a := ts), and_assoc]
theorem good_eq (t : Tree) : t.Good ↔ TokOk t.tok ∧ (closing t.tok.kind = 0 → t.kids = []) ∧ Goods t.kids := by cases t; simp only [Tree.Good, Tree.tok, Tree.kids]
theorem treesF_good {l : List Tok} (h : ∀ t ∈ l, TokOk t) : ∀ (n i to : Nat), to ≤ l.length → Goods (treesF l n i to)
  | 0, _, _, _ => by simp [treesF, Goods]
  | n + 1, i, to, hl => by
    rw [treesF]
    split
    · rename_i hi
      have ht : TokOk (tokN l i) := by
        have e : tokN l i = l[i] := by simp [tokN, List.getElem?_eq_getElem (show i < l.length by omega)]
        rw [e]; exact h _ (List.getElem_mem _)
      have hk : (tokN l i).kind = kindAt l i := by simp only [tokN, kindAt]; split <;> rfl
      split
      · rename_i hc
        have hp := partner_ge (l := l) (i := i) (by omega)
        simp only [Goods, Tree.Good]
        exact ⟨⟨ht, fun e => absurd (hk ▸ e) hc, treesF_good h n _ _ (by omega)⟩, treesF_good h n _ _ hl⟩
      · simp only [Goods, Tree.Good]
        exact ⟨⟨ht, fun _ => trivial, trivial⟩, treesF_good h n _ _ hl⟩
    · exact trivial
theorem line_good (s : List UInt8) : Goods (treeR (lexR s).1).1 := by
  unfold treeR
  split
  · exact trivial
  · exact treesF_good (lexF_ok _ _ _ _ (by simp)) _ _ _ (Nat.le_refl _)
theorem line_many (s : List UInt8) : manys (treeR (lexR s).1).1 ≤ s.length := by
  have hl := lexR_len s
  unfold treeR
  split
  · simp [manys]
  · have := treesF_many (l := (lexR s).1) (lexR s).1.length 0 (lexR s).1.length (Nat.le_refl _) fun j _ hj _ => (partner_ge hj).2
    simp only; omega
theorem tok_len {t : Tok} (h : TokOk t) : t.text.length ≤ 16 := by
  rcases h with ⟨_, h⟩ | ⟨_, h⟩
  · unfold nameR at h; simp only [Bool.and_eq_true, decide_eq_true_eq] at h; exact h.1
  · rw [h]; simp
end Go.Am

namespace Go.Am
structure Eats (r r' : Rdr) (seg : List Tree) : Prop where
  ex : ∃ pre post, r.l = pre ++ seg ++ post ∧ r.at_ = (pre.length : Nat) ∧ r'.at_ = ((pre ++ seg).length : Nat)
  l : r'.l = r.l
  b : r.bad = none
  b' : r'.bad = none
theorem Eats.trans {r r' r'' : Rdr} {a b : List Tree} (h : Eats r r' a) (k : Eats r' r'' b) : Eats r r'' (a ++ b) := by
  obtain ⟨pre, post, e1, e2, e3⟩ := h.ex
  obtain ⟨pre', post', f1, f2, f3⟩ := k.ex
  refine ⟨⟨pre, post', ?_, e2, ?_⟩, k.l.trans h.l, h.b, k.b'⟩
  · have hl : (pre ++ a).length = pre'.length := by omega
    have : pre ++ a ++ post = pre' ++ (b ++ post') := by rw [← e1, ← h.l, f1, List.append_assoc]
    obtain ⟨g1, g2⟩ := List.append_inj this hl
    rw [e1, g2]; simp
  · rw [f3]
    have hl : (pre ++ a).length = pre'.length := by omega
    simp only [List.length_append] at hl ⊢
    omega
theorem Eats.good {r r' : Rdr} {a : List Tree} (h : Eats r r' a) (hg : Goods r.l) : Goods a := by
  obtain ⟨pre, post, e1, _, _⟩ := h.ex
  rw [e1, goods_append, goods_append] at hg
  exact hg.1.2
theorem take_eats {r : Rdr} {k : Int} (h : (r.take k).2.bad = none) : Eats r (r.take k).2 [(r.take k).1] ∧ (r.take k).1.tok.kind = k := by
  rcases r.take_at k with ⟨hs, h1, h2, h3, h4⟩ | ⟨_, _, h1⟩
  · have hs' := hs
    simp only [Rdr.sees, Rdr.ok, isK, Bool.and_eq_true, decide_eq_true_eq, Option.isNone_iff_eq_none] at hs'
    have hlt : r.at_.toNat < r.l.length := by omega
    have e : (r.take k).1 = r.l[r.at_.toNat] := by simp [Rdr.take, hs, List.getD, List.getElem?_eq_getElem hlt]
    refine ⟨⟨⟨r.l.take r.at_.toNat, r.l.drop (r.at_.toNat + 1), ?_, ?_, ?_⟩, r.take_l k, hs'.1, h2⟩, ?_⟩
    · rw [e, List.append_assoc, List.singleton_append, ← List.drop_eq_getElem_cons hlt, List.take_append_drop]
    · rw [List.length_take]; omega
    · rw [h1, List.length_append, List.length_take, List.length_singleton]; omega
    · rw [e]
      have := hs'.2.2
      rw [List.getElem?_eq_getElem hlt] at this
      simpa using this
  · exact absurd h h1
def szs (l : List Tree) : Nat := 26 * manys l
theorem szs_append (a b : List Tree) : szs (a ++ b) = szs a + szs b := by simp only [szs, manys_append]; omega
theorem szs_one (t : Tree) : szs [t] = 26 + szs t.kids := by simp only [szs, manys, many_eq]; omega
theorem textF_sign {t : Tok} (ht : t.kind ≠ 97) : ∀ (a : List Tok) (k : Option Int) (b : List Tok), textF k (a ++ t :: b) = textF k a ++ t.text ++ textF none b
  | [], k, b => by
    simp only [List.nil_append, textF, ht, and_false, if_false]
    cases b with
    | nil => rfl
    | cons u us => simp only [textF, Option.some.injEq, ht, false_and, if_false, reduceCtorEq]
  | x :: xs, k, b => by simp only [List.cons_append, textF, textF_sign ht xs (some x.kind) b, List.append_assoc]
theorem textR_sign {t : Tok} (ht : t.kind ≠ 97) (a b : List Tok) : textR (a ++ t :: b) = textR a ++ t.text ++ textR b := textF_sign ht a none b
theorem flats_append : ∀ a b : List Tree, flats (a ++ b) = flats a ++ flats b
  | [], b => rfl
  | t :: ts, b => by simp only [List.cons_append, flats, flats_append ts b, List.append_assoc]
theorem flats_one (t : Tree) : flats [t] = t.tok :: (if closing t.tok.kind ≠ 0 then flats t.kids ++ [⟨closing t.tok.kind, [UInt8.ofNat (closing t.tok.kind).toNat], t.fin⟩] else []) := by
  cases t; simp only [flats, Tree.flat, List.append_nil, Tree.tok, Tree.kids, Tree.fin]
  rfl
theorem text_mid {t : Tree} (hk : t.tok.kind ≠ 97) (hc : closing t.tok.kind = 0) (a b : List Tree) : textR (flats (a ++ [t] ++ b)) = textR (flats a) ++ t.tok.text ++ textR (flats b) := by
  rw [flats_append, flats_append, flats_one, hc]
  simp only [ne_eq, not_true_eq_false, if_false, List.append_assoc, List.singleton_append]
  rw [← List.append_assoc (textR (flats a))]
  exact textR_sign hk _ _
theorem text_name {t : Tree} (hk : t.tok.kind = 97) : textR (flats [t]) = t.tok.text := by
  rw [flats_one, hk, show closing 97 = 0 from rfl]
  simp [textR, textF]
theorem text_in {t : Tree} (hc : closing t.tok.kind ≠ 0) : textR (flats [t]) = t.tok.text ++ textR (flats t.kids) ++ [UInt8.ofNat (closing t.tok.kind).toNat] := by
  have hk : t.tok.kind ≠ 97 := fun e => hc (by rw [e]; rfl)
  have hk2 : closing t.tok.kind ≠ 97 := by unfold closing; split; omega; split; omega; omega
  rw [flats_one, if_pos hc]
  have h1 := textR_sign hk [] (flats t.kids ++ [⟨closing t.tok.kind, [UInt8.ofNat (closing t.tok.kind).toNat], t.fin⟩])
  rw [List.nil_append] at h1
  rw [h1, textR_sign hk2]
  simp [textR, textF]
def Sound {β : Type} (one : Rdr → β × Rdr) (T : β → List UInt8) (Q : β → Prop) (S : β → Nat) : Prop :=
  ∀ r, Goods r.l → (one r).2.bad = none → ∃ seg, Eats r (one r).2 seg ∧ textR (flats seg) = T (one r).1 ∧ Q (one r).1 ∧ S (one r).1 ≤ szs seg
theorem goG_bad {β : Type} {step : Rdr × List β → Rdr × List β} : ∀ {n : Nat} {a : Rdr × List β}, (goG step n a).1.bad = none → a.1.bad = none
  | 0, a, h => h
  | n + 1, a, h => by
    rw [goG] at h
    split at h
    · rename_i hs
      simp only [Rdr.sees, Rdr.ok, Bool.and_eq_true, Option.isNone_iff_eq_none] at hs
      exact hs.1
    · exact h
section
variable {β : Type} {one : Rdr → β × Rdr} {T : β → List UInt8} {Q : β → Prop} {S : β → Nat}
structure Has (T : β → List UInt8) (Q : β → Prop) (S : β → Nat) (seg : List Tree) (xs : List β) : Prop where
  t : textR (flats seg) = joinC (xs.map T)
  q : ∀ x ∈ xs, Q x
  s : (xs.map S).sum ≤ szs seg
  n : 0 < xs.length
theorem goG_sound (hs : Sound one T Q S) {r : Rdr} (hg : Goods r.l) : ∀ {n : Nat} {a : Rdr × List β} {seg : List Tree}, Eats r a.1 seg → Has T Q S seg a.2 → (goG (oStep one) n a).1.bad = none →
    ∃ seg', Eats r (goG (oStep one) n a).1 seg' ∧ Has T Q S seg' (goG (oStep one) n a).2
  | 0, a, seg, h, k, _ => ⟨seg, h, k⟩
  | n + 1, a, seg, h, k, hb => by
    rw [goG] at hb ⊢
    split
    · rename_i hsee
      rw [if_pos hsee] at hb
      have hb1 := goG_bad hb
      have hgl : Goods (a.1.take 44).2.l := by rw [Rdr.take_l, h.l]; exact hg
      obtain ⟨sg, e1, e2, e3, e4⟩ := hs (a.1.take 44).2 hgl hb1
      obtain ⟨t1, t2⟩ := take_eats e1.b
      refine goG_sound hs hg (seg := seg ++ [(a.1.take 44).1] ++ sg) ?_ ?_ hb
      · exact (h.trans t1).trans e1
      · have hgood : Goods [(a.1.take 44).1] := t1.good (by rw [h.l]; exact hg)
        have hok := ((good_eq _).1 hgood.1).1
        have htx : (a.1.take 44).1.tok.text = [44] := by
          rcases hok with ⟨h1, _⟩ | ⟨_, h1⟩
          · omega
          · rw [h1, t2]; rfl
        refine ⟨?_, ?_, ?_, ?_⟩
        · rw [text_mid (by rw [t2]; decide) (by rw [t2]; rfl), k.t, e2, htx]
          simp only [oStep, List.map_append, List.map_cons, List.map_nil]
          rw [joinC_snoc, if_pos (by simpa using k.n)]
        · intro x hx
          rcases List.mem_append.1 hx with hx | hx
          · exact k.q x hx
          · rw [List.mem_singleton.1 hx]; exact e3
        · have := k.s
          simp only [oStep, List.map_append, List.map_cons, List.map_nil, List.sum_append, List.sum_cons, List.sum_nil, szs_append]
          omega
        · simp [oStep]
    · exact ⟨seg, h, k⟩
theorem some_sound (hs : Sound one T Q S) {r : Rdr} (hg : Goods r.l) (hb : (someG (oStep one) r).1.bad = none) : ∃ seg, Eats r (someG (oStep one) r).1 seg ∧ Has T Q S seg (someG (oStep one) r).2 := by
  unfold someG at hb ⊢
  have hb1 := goG_bad hb
  obtain ⟨sg, e1, e2, e3, e4⟩ := hs r hg hb1
  refine goG_sound hs hg e1 ?_ hb
  refine ⟨?_, ?_, ?_, ?_⟩
  · simp only [oStep, List.nil_append, List.map_cons, List.map_nil, joinC, List.flatMap_nil, List.append_nil]; exact e2
  · intro x hx
    simp only [oStep, List.nil_append, List.mem_singleton] at hx
    rw [hx]; exact e3
  · simp only [oStep, List.nil_append, List.map_cons, List.map_nil, List.sum_cons, List.sum_nil]; omega
  · simp [oStep]
theorem close_ok {i : Rdr} (h : i.close.bad = none) : i.bad = none ∧ ¬ i.at_ < i.l.length := by
  unfold Rdr.close at h
  split at h
  · exact absurd h i.fail_ok
  · rename_i hc
    refine ⟨h, fun hl => hc ⟨by simp [Rdr.ok, h], hl⟩⟩
theorem all_in {t : Tree} {i : Rdr} {seg : List Tree} (h : Eats t.inner i seg) (hc : i.close.bad = none) : seg = t.kids := by
  obtain ⟨pre, post, e1, e2, e3⟩ := h.ex
  obtain ⟨_, h2⟩ := close_ok hc
  have hp : pre = [] := by
    have : t.inner.at_ = 0 := rfl
    rw [this] at e2
    exact List.length_eq_zero_iff.1 (by omega)
  subst hp
  have hq : post = [] := by
    rw [h.l, e3, e1] at h2
    simp only [List.nil_append, List.length_append] at h2
    exact List.length_eq_zero_iff.1 (by omega)
  subst hq
  simpa [Tree.inner] using e1.symm
theorem bracket_sound (hs : Sound one T Q S) {k : Int} {e : Bool} {r : Rdr} (hg : Goods r.l) (hb : (r.bracket (oStep one) k e).2.bad = none) :
    ∃ t, Eats r (r.bracket (oStep one) k e).2 [t] ∧ t.tok.kind = k ∧ textR (flats t.kids) = joinC ((r.bracket (oStep one) k e).1.1.map T) ∧ (∀ x ∈ (r.bracket (oStep one) k e).1.1, Q x) ∧ ((r.bracket (oStep one) k e).1.1.map S).sum ≤ szs t.kids ∧
      (e = false → 0 < (r.bracket (oStep one) k e).1.1.length) := by
  unfold Rdr.bracket at hb ⊢
  split
  · rename_i hok
    rw [if_pos hok] at hb
    have hb1 : (r.take k).2.bad = none := by simpa [Rdr.ok] using hok
    obtain ⟨t1, t2⟩ := take_eats hb1
    have hgood : (r.take k).1.Good := (t1.good hg).1
    have hgk : Goods (r.take k).1.kids := ((good_eq _).1 hgood).2.2
    have hb2 : (Rdr.inside (oStep one) e (r.take k).1).1.close.bad = none := hb
    refine ⟨(r.take k).1, ⟨t1.ex, t1.l, t1.b, hb⟩, t2, ?_⟩
    simp only
    generalize (r.take k).1 = t at *
    unfold Rdr.inside at hb2 ⊢
    split
    · rename_i he
      have hk : t.kids = [] := List.length_eq_zero_iff.1 he.2
      rw [hk]
      refine ⟨rfl, by simp, by simp, fun h => ?_⟩
      rw [h] at he; simp at he
    · rename_i he
      rw [if_neg he] at hb2
      obtain ⟨seg, e1, e2⟩ := some_sound hs (r := t.inner) hgk (close_ok hb2).1
      have hseg := all_in e1 hb2
      subst hseg
      exact ⟨e2.t, e2.q, e2.s, fun _ => e2.n⟩
  · rename_i hok
    rw [if_neg hok] at hb
    exact absurd hb (by simpa [Rdr.ok] using hok)
end
end Go.Am

namespace Go.Am
theorem q_set {p : Int} {ws : List Word} (h : rightW ws = true) : (Nd.mk 3 p [] ws []).constQ = true := by
  rw [Nd.constQ_eq]; simp [Nd.kind, Nd.text, Nd.names, Nd.kids, h]
theorem q_tuple {p : Int} {ks : List Nd} (h : ∀ x ∈ ks, x.constQ = true) (h0 : 0 < ks.length) : (Nd.mk 4 p [] [] ks).constQ = true := by
  rw [Nd.constQ_eq]; simp [Nd.bareQ, Nd.kind, Nd.text, Nd.names, Nd.kids]
  exact ⟨h0, h⟩
theorem q_grid {p : Int} {ks : List Nd} (h : ∀ x ∈ ks, x.ruleQ = true) : (Nd.mk 5 p [] [] ks).constQ = true := by
  rw [Nd.constQ_eq]; simp [Nd.bareQ, Nd.kind, Nd.text, Nd.names, Nd.kids]
  exact h
theorem q_point {n : Nd} (hk : n.kind = 2) (h : n.leafQ = true) : n.constQ = true := by rw [Nd.constQ_eq, if_pos hk]; exact h
theorem q_var {n : Nd} (hk : n.kind = 1) (h : n.leafQ = true) : n.labelQ = true := by rw [Nd.labelQ_eq, if_pos hk]; exact h
theorem q_const {p : Int} {c : Nd} (h : c.constQ = true) : (Nd.mk 7 p [] [] [c]).labelQ = true := by
  rw [Nd.labelQ_eq]; simp [Nd.bareQ, Nd.kind, Nd.text, Nd.names, Nd.kids, headQ, h]
theorem q_join {k p : Int} {ks : List Nd} (hk : k = 8 ∨ k = 9) (h : ∀ x ∈ ks, x.labelQ = true) (h0 : 0 < ks.length) : (Nd.mk k p [] [] ks).labelQ = true := by
  rw [Nd.labelQ_eq]
  rcases hk with rfl | rfl
  all_goals
    simp [Nd.bareQ, Nd.kind, Nd.text, Nd.names, Nd.kids]
    exact ⟨h0, h⟩
theorem sign_text {t : Tree} {k : Int} (hg : t.Good) (hk : t.tok.kind = k) (h97 : k ≠ 97) : t.tok.text = [UInt8.ofNat k.toNat] := by
  rcases ((good_eq _).1 hg).1 with ⟨h, _⟩ | ⟨_, h⟩
  · omega
  · rw [h, hk]
theorem tree_len {t : Tree} (hg : t.Good) : t.tok.text.length ≤ 16 := tok_len ((good_eq _).1 hg).1
def SW (w : Word) : Nat := w.text.length + 1
def SN (n : Nd) : Nat := n.wt + 1
theorem word_sound : Sound Rdr.word Word.text (fun w => nameR w.text = true) SW := by
  intro r hg hb
  obtain ⟨t1, t2⟩ := take_eats (show (r.take 97).2.bad = none from hb)
  have hgood := (t1.good hg).1
  refine ⟨[(r.take 97).1], t1, text_name t2, ?_, ?_⟩
  · rcases ((good_eq _).1 hgood).1 with ⟨_, h⟩ | ⟨h, _⟩
    · exact h
    · exact absurd t2 h
  · have := tree_len hgood
    rw [szs_one]; simp only [SW, Rdr.word]; omega
theorem leaf_sound {k : Int} (hk : k = 1 ∨ k = 2) : Sound (Rdr.leaf k) Nd.txt (fun n => n.kind = k ∧ n.leafQ = true) SN := by
  intro r hg hb
  obtain ⟨seg, e1, e2, e3, e4⟩ := word_sound r hg hb
  refine ⟨seg, e1, ?_, ⟨rfl, ?_⟩, ?_⟩
  · rw [e2]; simp only [Rdr.leaf]; rw [Nd.txt, if_pos hk]
  · simp only [Rdr.leaf, Nd.leafQ, Nd.text, Nd.names, Nd.kids]; rw [e3]; rfl
  · simp only [SW] at e4
    simp only [Rdr.leaf, SN, Nd.wt, wsum, wts, List.map_nil, List.sum_nil]
    obtain ⟨t1, t2⟩ := take_eats (show (r.take 97).2.bad = none from hb)
    have hl := tree_len (t1.good hg).1
    have h0 : 26 ≤ szs seg := by
      obtain ⟨pre, post, q1, q2, q3⟩ := e1.ex
      rcases seg with _ | ⟨t, ts⟩
      · exfalso
        obtain ⟨p, q, r1, r2, r3⟩ := t1.ex
        have : r.word.2.at_ = (r.take 97).2.at_ := rfl
        simp only [List.length_append, List.length_nil, List.length_singleton] at q3 r3
        omega
      · simp only [szs, manys]; omega
    have : r.word.1.text.length ≤ 16 := hl
    omega
theorem wsum_S (l : List Word) : (l.map SW).sum = wsum l := rfl
theorem wts_S (l : List Nd) : (l.map SN).sum = wts l := by rw [wts_map]; rfl
theorem rightW_of {l : List Word} (h : ∀ w ∈ l, nameR w.text = true) : rightW l = true := List.all_eq_true.2 h
theorem words_sound {e : Bool} {r : Rdr} (hg : Goods r.l) (hb : (r.words e).2.bad = none) :
    ∃ t, Eats r (r.words e).2 [t] ∧ t.Good ∧ textR (flats [t]) = [123] ++ wtext (r.words e).1.1 ++ [125] ∧ rightW (r.words e).1.1 = true ∧ wsum (r.words e).1.1 + 26 ≤ szs [t] := by
  obtain ⟨t, h1, h2, h3, h4, h5, _⟩ := bracket_sound (one := Rdr.word) word_sound (k := 123) (e := e) hg hb
  have hgood := (h1.good hg).1
  refine ⟨t, h1, hgood, ?_, rightW_of h4, ?_⟩
  · rw [text_in (by rw [h2]; decide), h3, sign_text hgood h2 (by decide), h2]; rfl
  · rw [wsum_S] at h5
    rw [szs_one]
    have e : wsum (r.words e).1.1 = wsum (r.bracket (oStep Rdr.word) 123 e).1.1 := rfl
    omega
theorem nodes_sound {one : Rdr → Nd × Rdr} {Q : Nd → Prop} (hs : Sound one Nd.txt Q SN) {k : Int} (hk : k = 40 ∨ k = 91) {e : Bool} {r : Rdr} (hg : Goods r.l) (hb : (r.nodes one k e).2.bad = none) :
    ∃ t, Eats r (r.nodes one k e).2 [t] ∧ t.Good ∧ textR (flats [t]) = [UInt8.ofNat k.toNat] ++ joinC (txts (r.nodes one k e).1.1) ++ [UInt8.ofNat (closing k).toNat] ∧ (∀ x ∈ (r.nodes one k e).1.1, Q x) ∧ wts (r.nodes one k e).1.1 + 26 ≤ szs [t] ∧
      (e = false → 0 < (r.nodes one k e).1.1.length) := by
  obtain ⟨t, h1, h2, h3, h4, h5, h6⟩ := bracket_sound hs (k := k) (e := e) hg hb
  have hgood := (h1.good hg).1
  refine ⟨t, h1, hgood, ?_, h4, ?_, h6⟩
  · rw [text_in (by rw [h2]; rcases hk with rfl | rfl <;> decide), h3, sign_text hgood h2 (by omega), h2, txts_map]; rfl
  · rw [wts_S] at h5
    rw [szs_one]
    have e : wts (r.nodes one k e).1.1 = wts (r.bracket (oStep one) k e).1.1 := rfl
    omega
theorem rule_sound : Sound Rdr.rule Nd.txt (fun n => n.ruleQ = true) SN := by
  intro r hg hb
  have hb' : ((r.word.2.take 58).2.words true).2.bad = none := hb
  have l1 : r.word.2.l = r.l := r.take_l 97
  have l2 : (r.word.2.take 58).2.l = r.l := (Rdr.take_l _ 58).trans l1
  obtain ⟨t, h1, h2, h3, h4, h5⟩ := words_sound (by rw [l2]; exact hg) hb'
  obtain ⟨c1, c2⟩ := take_eats h1.b
  obtain ⟨seg, e1, e2, e3, e4⟩ := word_sound r hg c1.b
  have hgc := (c1.good (by rw [l1]; exact hg)).1
  refine ⟨seg ++ [(r.word.2.take 58).1] ++ [t], (e1.trans c1).trans h1, ?_, ?_, ?_⟩
  · rw [text_mid (by rw [c2]; decide) (by rw [c2]; rfl), e2, h3, sign_text hgc c2 (by decide)]
    simp only [Rdr.rule]
    rw [Nd.txt]; simp
  · simp only [Rdr.rule, Nd.ruleQ, Nd.kind, Nd.text, Nd.names, Nd.kids]
    rw [e3, h4]; rfl
  · simp only [Rdr.rule, SN, Nd.wt, wts, szs_append, szs_one]
    simp only [SW] at e4
    simp only [szs_one] at h5
    omega
theorem constant_sound : ∀ n, Sound (Rdr.constant n) Nd.txt (fun m => m.constQ = true) SN
  | 0 => fun r hg hb => by
    obtain ⟨seg, e1, e2, ⟨e3, e5⟩, e4⟩ := leaf_sound (.inr rfl) r hg hb
    refine ⟨seg, e1, e2, ?_, e4⟩
    exact q_point e3 e5
  | n + 1 => fun r hg hb => by
    simp only [Rdr.constant] at hb ⊢
    split
    · rename_i hs
      rw [if_pos hs] at hb
      obtain ⟨t, h1, h2, h3, h4, h5⟩ := words_sound hg hb
      refine ⟨[t], h1, ?_, ?_, ?_⟩
      · rw [h3, Nd.txt]; simp
      · exact q_set h4
      · simp only [SN, Nd.wt, wts, List.length_nil]; omega
    · rename_i hs
      rw [if_neg hs] at hb
      split
      · rename_i hs
        rw [if_pos hs] at hb
        obtain ⟨t, h1, h2, h3, h4, h5, h6⟩ := nodes_sound (constant_sound n) (.inl rfl) hg hb
        refine ⟨[t], h1, ?_, ?_, ?_⟩
        · rw [h3, Nd.txt]; simp only [show (closing 40).toNat = 41 from rfl]; rfl
        · exact q_tuple h4 (h6 rfl)
        · simp only [SN, Nd.wt, wsum, List.map_nil, List.sum_nil, List.length_nil]; omega
      · rename_i hs
        rw [if_neg hs] at hb
        split
        · rename_i hs
          rw [if_pos hs] at hb
          obtain ⟨t, h1, h2, h3, h4, h5, h6⟩ := nodes_sound rule_sound (.inr rfl) hg hb
          refine ⟨[t], h1, ?_, ?_, ?_⟩
          · rw [h3, Nd.txt]; simp only [show (closing 91).toNat = 93 from rfl]; rfl
          · exact q_grid h4
          · simp only [SN, Nd.wt, wsum, List.map_nil, List.sum_nil, List.length_nil]; omega
        · rename_i hs
          rw [if_neg hs] at hb
          obtain ⟨seg, e1, e2, ⟨e3, e5⟩, e4⟩ := leaf_sound (.inr rfl) r hg hb
          refine ⟨seg, e1, e2, ?_, e4⟩
          exact q_point e3 e5
theorem atom_sound (n : Nat) : Sound (Rdr.atom n) Nd.txt (fun m => m.atomQ = true) SN := by
  intro r hg hb
  simp only [Rdr.atom] at hb ⊢
  split
  · rename_i hs
    rw [if_pos hs] at hb
    have l1 : (r.take 35).2.l = r.l := r.take_l 35
    obtain ⟨seg, e1, e2, e3, e4⟩ := constant_sound n (r.take 35).2 (by rw [l1]; exact hg) hb
    obtain ⟨c1, c2⟩ := take_eats e1.b
    have hgc := (c1.good hg).1
    refine ⟨[(r.take 35).1] ++ seg, c1.trans e1, ?_, ?_, ?_⟩
    · have := text_mid (t := (r.take 35).1) (by rw [c2]; decide) (by rw [c2]; rfl) [] seg
      rw [List.nil_append] at this
      rw [this, sign_text hgc c2 (by decide), e2, Nd.txt]; simp [flats, textR, textF, txts, headT]
    · simp only [Nd.atomQ, q_const e3, Nd.kind]; rfl
    · simp only [SN, Nd.wt, wsum, wts, List.map_nil, List.sum_nil, List.length_nil, szs_append, szs_one] at e4 ⊢; omega
  · rename_i hs
    rw [if_neg hs] at hb
    obtain ⟨seg, e1, e2, ⟨e3, e5⟩, e4⟩ := leaf_sound (.inl rfl) r hg hb
    refine ⟨seg, e1, e2, ?_, e4⟩
    simp only [Nd.atomQ, q_var e3 e5, e3]; rfl
theorem atom_label {n : Nd} (h : n.atomQ = true) : n.labelQ = true := by simp only [Nd.atomQ, Bool.and_eq_true] at h; exact h.2
theorem label_sound : ∀ n, Sound (Rdr.label n) Nd.txt (fun m => m.labelQ = true) SN
  | 0 => fun r hg hb => by
    obtain ⟨seg, e1, e2, ⟨e3, e5⟩, e4⟩ := leaf_sound (.inl rfl) r hg hb
    refine ⟨seg, e1, e2, ?_, e4⟩
    exact q_var e3 e5
  | n + 1 => fun r hg hb => by
    simp only [Rdr.label] at hb ⊢
    split
    · rename_i hs
      rw [if_pos hs] at hb
      have l1 : (r.take 43).2.l = r.l := r.take_l 43
      obtain ⟨t, h1, h2, h3, h4, h5, h6⟩ := nodes_sound (label_sound n) (.inl rfl) (by rw [l1]; exact hg) hb
      obtain ⟨c1, c2⟩ := take_eats h1.b
      have hgc := (c1.good hg).1
      refine ⟨[(r.take 43).1] ++ [t], c1.trans h1, ?_, ?_, ?_⟩
      · have := text_mid (t := (r.take 43).1) (by rw [c2]; decide) (by rw [c2]; rfl) [] [t]
        rw [List.nil_append] at this
        rw [this, sign_text hgc c2 (by decide), h3, Nd.txt]; simp only [show (closing 40).toNat = 41 from rfl]; rfl
      · exact q_join (.inl rfl) h4 (h6 rfl)
      · simp only [SN, Nd.wt, wsum, List.map_nil, List.sum_nil, List.length_nil, szs_append, szs_one] at h5 ⊢; omega
    · rename_i hs
      rw [if_neg hs] at hb
      split
      · rename_i hs
        rw [if_pos hs] at hb
        have l1 : (r.take 38).2.l = r.l := r.take_l 38
        obtain ⟨t, h1, h2, h3, h4, h5, h6⟩ := nodes_sound (label_sound n) (.inl rfl) (by rw [l1]; exact hg) hb
        obtain ⟨c1, c2⟩ := take_eats h1.b
        have hgc := (c1.good hg).1
        refine ⟨[(r.take 38).1] ++ [t], c1.trans h1, ?_, ?_, ?_⟩
        · have := text_mid (t := (r.take 38).1) (by rw [c2]; decide) (by rw [c2]; rfl) [] [t]
          rw [List.nil_append] at this
          rw [this, sign_text hgc c2 (by decide), h3, Nd.txt]; simp only [show (closing 40).toNat = 41 from rfl]; rfl
        · exact q_join (.inr rfl) h4 (h6 rfl)
        · simp only [SN, Nd.wt, wsum, List.map_nil, List.sum_nil, List.length_nil, szs_append, szs_one] at h5 ⊢; omega
      · rename_i hs
        rw [if_neg hs] at hb
        obtain ⟨seg, e1, e2, e3, e4⟩ := atom_sound (n + 1) r hg hb
        exact ⟨seg, e1, e2, atom_label e3, e4⟩
theorem field_sound (n : Nat) : Sound (Rdr.field n) Nd.txt (fun m => m.fieldQ = true) SN := by
  intro r hg hb
  have hb' : ((r.word.2.take 61).2.atom n).2.bad = none := hb
  have l1 : r.word.2.l = r.l := r.take_l 97
  have l2 : (r.word.2.take 61).2.l = r.l := (Rdr.take_l _ 61).trans l1
  obtain ⟨sg, h1, h2, h3, h4⟩ := atom_sound n (r.word.2.take 61).2 (by rw [l2]; exact hg) hb'
  obtain ⟨c1, c2⟩ := take_eats h1.b
  obtain ⟨seg, e1, e2, e3, e4⟩ := word_sound r hg c1.b
  have hgc := (c1.good (by rw [l1]; exact hg)).1
  refine ⟨seg ++ [(r.word.2.take 61).1] ++ sg, (e1.trans c1).trans h1, ?_, ?_, ?_⟩
  · rw [text_mid (by rw [c2]; decide) (by rw [c2]; rfl), e2, h2, sign_text hgc c2 (by decide)]
    simp only [Rdr.field]
    rw [Nd.txt]; simp [txts, headT]
  · simp only [Rdr.field, Nd.fieldQ, Nd.kind, Nd.text, Nd.names, Nd.kids, headQ]
    rw [e3, h3]; rfl
  · simp only [Rdr.field, SN, Nd.wt, wts, wsum, List.map_nil, List.sum_nil, szs_append, szs_one] at h4 ⊢
    simp only [SW] at e4
    omega
end Go.Am

namespace Go.Am
theorem q_row {p : Int} {ws : List Word} {ks : List Nd} (h1 : ws.length ≤ 1) (h2 : rightW ws = true) (h3 : ∀ x ∈ ks, x.fieldQ = true) : (Nd.mk 10 p [] ws ks).rowQ = true := by
  unfold Nd.rowQ
  simp [Nd.kind, Nd.text, Nd.names, Nd.kids, h2]
  exact ⟨decide_eq_true (by omega), h3⟩
theorem inner_none (t : Tree) : Eats t.inner t.inner [] := ⟨⟨[], t.kids, rfl, rfl, rfl⟩, rfl, rfl, rfl⟩
theorem fields_in {n : Nat} {t : Tree} (hg : Goods t.kids) {a : Rdr × List Nd} (ha : a = if t.inner.sees 124 = true then (t.inner, []) else someG (oStep (Rdr.field n)) t.inner) (hb : a.1.bad = none) :
    ∃ seg, Eats t.inner a.1 seg ∧ textR (flats seg) = joinC (txts a.2) ∧ (∀ x ∈ a.2, x.fieldQ = true) ∧ wts a.2 ≤ szs seg := by
  split at ha
  · subst ha
    exact ⟨[], inner_none t, rfl, by simp, by simp [wts]⟩
  · subst ha
    obtain ⟨seg, e1, e2⟩ := some_sound (field_sound n) (r := t.inner) hg hb
    refine ⟨seg, e1, ?_, e2.q, ?_⟩
    · rw [e2.t, txts_map]
    · have := e2.s; rwa [wts_S] at this
theorem rowIn_sound {n : Nat} {t : Tree} (hg : Goods t.kids) (hb : (Rdr.rowOf n t).1.1.bad = none) :
    ∃ seg, Eats t.inner (Rdr.rowOf n t).1.1 seg ∧ textR (flats seg) = joinC (txts (Rdr.rowOf n t).1.2) ++ (if 0 < (Rdr.rowOf n t).2.length then [124] ++ wtext (Rdr.rowOf n t).2 else []) ∧
      (∀ x ∈ (Rdr.rowOf n t).1.2, x.fieldQ = true) ∧ (Rdr.rowOf n t).2.length ≤ 1 ∧ rightW (Rdr.rowOf n t).2 = true ∧ wts (Rdr.rowOf n t).1.2 + wsum (Rdr.rowOf n t).2 ≤ szs seg := by
  unfold Rdr.rowOf at hb ⊢
  split
  · exact ⟨[], inner_none t, rfl, by simp, by simp, rfl, by simp [wts, wsum]⟩
  rename_i hne
  rw [if_neg hne] at hb
  unfold Rdr.rowIn at hb ⊢
  simp only at hb ⊢
  generalize ha : (if t.inner.sees 124 = true then (t.inner, []) else someG (oStep (Rdr.field n)) t.inner) = a at hb ⊢
  split
  · rename_i hs
    rw [if_pos hs] at hb
    have hba : a.1.bad = none := by
      simp only [Rdr.sees, Rdr.ok, Bool.and_eq_true, Option.isNone_iff_eq_none] at hs
      exact hs.1
    obtain ⟨seg, e1, e2, e3, e4⟩ := fields_in hg ha.symm hba
    have l1 : a.1.l = t.inner.l := e1.l
    have l2 : (a.1.take 124).2.l = t.inner.l := (Rdr.take_l _ 124).trans l1
    obtain ⟨sw, w1, w2, w3, w4⟩ := word_sound (a.1.take 124).2 (by rw [l2]; exact hg) hb
    obtain ⟨c1, c2⟩ := take_eats w1.b
    have hgc := (c1.good (by rw [l1]; exact hg)).1
    refine ⟨seg ++ [(a.1.take 124).1] ++ sw, (e1.trans c1).trans w1, ?_, e3, by simp, ?_, ?_⟩
    · rw [text_mid (by rw [c2]; decide) (by rw [c2]; rfl), e2, sign_text hgc c2 (by decide), w2]
      simp [wtext, joinC]
    · simp only [rightW, List.all_cons, List.all_nil, Bool.and_true]; exact w3
    · simp only [szs_append, szs_one, wsum, List.map_cons, List.map_nil, List.sum_cons, List.sum_nil]
      simp only [SW] at w4
      omega
  · rename_i hs
    rw [if_neg hs] at hb
    obtain ⟨seg, e1, e2, e3, e4⟩ := fields_in hg ha.symm hb
    exact ⟨seg, e1, by simpa using e2, e3, by simp, rfl, by simpa [wsum] using e4⟩
theorem row_sound (n : Nat) : Sound (Rdr.row n) Nd.txt (fun m => m.rowQ = true) SN := by
  intro r hg hb
  simp only [Rdr.row] at hb ⊢
  split
  · rename_i hs
    rw [if_pos hs] at hb
    have hb1 : (r.take 91).2.bad = none := by
      rcases r.take_at 91 with ⟨_, _, h, _⟩ | ⟨h, _⟩
      · exact h
      · rw [hs] at h; simp at h
    obtain ⟨c1, c2⟩ := take_eats hb1
    have hgc := (c1.good hg).1
    have hgk : Goods (r.take 91).1.kids := ((good_eq _).1 hgc).2.2
    have hb2 : (Rdr.rowOf n (r.take 91).1).1.1.close.bad = none := hb
    obtain ⟨seg, e1, e2, e3, e4, e5, e6⟩ := rowIn_sound (n := n) hgk (close_ok hb2).1
    have hseg := all_in e1 hb2
    subst hseg
    refine ⟨[(r.take 91).1], ⟨c1.ex, c1.l, c1.b, hb⟩, ?_, q_row e4 e5 e3, ?_⟩
    · rw [text_in (by rw [c2]; decide), sign_text hgc c2 (by decide), c2, e2, Nd.txt]
      simp only [show (closing 91).toNat = 93 from rfl]
      simp
    · simp only [SN, Nd.wt, szs_one, List.length_nil]; omega
  · rename_i hs
    rw [if_neg hs] at hb
    obtain ⟨seg, e1, e2, ⟨e3, e5⟩, e4⟩ := leaf_sound (.inl rfl) r hg hb
    refine ⟨seg, e1, e2, ?_, e4⟩
    have := q_var e3 e5
    show (r.leaf 1).1.rowQ = true
    unfold Nd.rowQ
    rw [e3, this]; rfl
end Go.Am

namespace Go.Am
abbrev Sh := Int × List UInt8
def Tok.sh (t : Tok) : Sh := (t.kind, t.text)
def sgn (c : UInt8) : Sh := ((c.toNat : Nat), [c])
def nmS (t : List UInt8) : Sh := (97, t)
def commaS : List (List Sh) → List Sh
  | [] => []
  | x :: xs => x ++ xs.flatMap fun y => sgn 44 :: y
def headS : List (List Sh) → List Sh
  | [] => []
  | x :: _ => x
def wshp (ws : List Word) : List Sh := commaS (ws.map fun w => [nmS w.text])
mutual
def Nd.shp : Nd → List Sh
  | .mk k _ t ws ks =>
    if k = 1 ∨ k = 2 then [nmS t]
    else if k = 3 then [sgn 123] ++ wshp ws ++ [sgn 125]
    else if k = 4 then [sgn 40] ++ commaS (shps ks) ++ [sgn 41]
    else if k = 5 then [sgn 91] ++ commaS (shps ks) ++ [sgn 93]
    else if k = 6 then [nmS t] ++ [sgn 58] ++ ([sgn 123] ++ wshp ws ++ [sgn 125])
    else if k = 7 then [sgn 35] ++ headS (shps ks)
    else if k = 8 then [sgn 43] ++ ([sgn 40] ++ commaS (shps ks) ++ [sgn 41])
    else if k = 9 then [sgn 38] ++ ([sgn 40] ++ commaS (shps ks) ++ [sgn 41])
    else if k = 10 then [sgn 91] ++ (commaS (shps ks) ++ (if 0 < ws.length then [sgn 124] ++ wshp ws else [])) ++ [sgn 93]
    else if k = 11 then [nmS t] ++ [sgn 61] ++ headS (shps ks)
    else []
def shps : List Nd → List (List Sh)
  | [] => []
  | n :: ns => n.shp :: shps ns
end
theorem shps_map : ∀ l, shps l = l.map Nd.shp
  | [] => rfl
  | n :: ns => by simp [shps, shps_map ns]
def LexTo (s : List UInt8) (ks : List Sh) : Prop := ∀ (n p : Nat) (acc : List Tok), s.length ≤ n → ∃ toks, lexF n p s acc = (acc ++ toks, none) ∧ toks.map Tok.sh = ks
def Stop : List UInt8 → Prop
  | [] => True
  | c :: _ => goesB c = false
theorem lex_nil : LexTo [] [] := fun n p acc _ => ⟨[], by cases n <;> simp [lexF], rfl⟩
theorem runR_no {c : UInt8} {s : List UInt8} (h : goesB c = false) : runR (c :: s) = [] := by simp [runR, List.takeWhile_cons, h]
theorem lex_sign {c : UInt8} (h1 : signZ (c.toNat : Nat) = true) (h2 : goesB c = false) (h3 : c.toNat ≠ 45) {s : List UInt8} {ks : List Sh} (h : LexTo s ks) : LexTo ([c] ++ s) ([sgn c] ++ ks) := by
  intro n p acc hn
  rcases n with _ | n
  · simp at hn
  obtain ⟨toks, e1, e2⟩ := h n (p + 1) (acc ++ [⟨(c.toNat : Nat), [c], p⟩]) (by simpa using hn)
  refine ⟨⟨(c.toNat : Nat), [c], p⟩ :: toks, ?_, by simp [Tok.sh, sgn, e2]⟩
  rw [List.singleton_append, lexF]
  rw [if_neg (fun h => h3 h.1), runR_no h2, if_neg (by simp), if_pos h1, e1]
  simp
theorem takeWhile_all {α : Type} {f : α → Bool} : ∀ {t s : List α}, t.all f = true → (∀ c r, s = c :: r → f c = false) → (t ++ s).takeWhile f = t
  | [], s, _, h => by
    cases s with
    | nil => rfl
    | cons c r => simp [List.takeWhile_cons, h c r rfl]
  | x :: t, s, ht, h => by
    simp only [List.all_cons, Bool.and_eq_true] at ht
    simp [List.takeWhile_cons, ht.1, takeWhile_all ht.2 h]
theorem name_all {t : List UInt8} (h : nameR t = true) : t.all goesB = true ∧ (∃ c r, t = c :: r ∧ letB c = true) := by
  unfold nameR at h
  rcases t with _ | ⟨c, r⟩
  · simp at h
  · simp only [Bool.and_eq_true] at h
    refine ⟨?_, c, r, rfl, h.2.1⟩
    simp only [List.all_cons, Bool.and_eq_true]
    refine ⟨?_, h.2.2⟩
    have := h.2.1
    simp only [letB, goesB, letZ, goesZ] at this ⊢
    simp_all
theorem lex_name {t : List UInt8} (ht : nameR t = true) {s : List UInt8} {ks : List Sh} (hs : Stop s) (h : LexTo s ks) : LexTo (t ++ s) ([nmS t] ++ ks) := by
  intro n p acc hn
  obtain ⟨hall, c, r, rfl, hc⟩ := name_all ht
  rcases n with _ | n
  · simp at hn
  have hrun : runR (c :: r ++ s) = c :: r := takeWhile_all hall fun c' r' e => by subst e; exact hs
  obtain ⟨toks, e1, e2⟩ := h n (p + (c :: r).length) (acc ++ [⟨97, c :: r, p⟩]) (by simp at hn ⊢; omega)
  refine ⟨⟨97, c :: r, p⟩ :: toks, ?_, by simp [Tok.sh, nmS, e2]⟩
  have h45 : c.toNat ≠ 45 := fun e => by
    simp only [letB, letZ, e] at hc
    revert hc; decide
  rw [List.cons_append] at hrun ⊢
  rw [lexF, if_neg (fun h => h45 h.1), hrun, if_pos ⟨by simp, ht⟩]
  rw [show (c :: (r ++ s)).drop (c :: r).length = s by rw [← List.cons_append, List.drop_left], e1]
  simp
def LexN (tx : List UInt8) (sh : List Sh) : Prop := ∀ s ks, Stop s → LexTo s ks → LexTo (tx ++ s) (sh ++ ks)
def LexS (tx : List UInt8) (sh : List Sh) : Prop := ∀ s ks, LexTo s ks → LexTo (tx ++ s) (sh ++ ks)
theorem LexS.n {t : List UInt8} {k : List Sh} (h : LexS t k) : LexN t k := fun s ks _ hl => h s ks hl
theorem lexS (c : UInt8) (h : (signZ (c.toNat : Nat) && !goesB c && decide (c.toNat ≠ 45)) = true) : LexS [c] [sgn c] := fun _ _ hl => by
  simp only [Bool.and_eq_true, Bool.not_eq_true', decide_eq_true_eq] at h
  exact lex_sign h.1.1 h.1.2 h.2 hl
theorem lexN {t : List UInt8} (h : nameR t = true) : LexN t [nmS t] := fun _ _ hs hl => lex_name h hs hl
theorem LexS.app {a b : List UInt8} {x y : List Sh} (h : LexS a x) (k : LexS b y) : LexS (a ++ b) (x ++ y) := fun s ks hl => by
  rw [List.append_assoc, List.append_assoc]; exact h _ _ (k _ _ hl)
theorem LexN.sign {a : List UInt8} {c : UInt8} {x : List Sh} (h : LexN a x) (hc : (signZ (c.toNat : Nat) && !goesB c && decide (c.toNat ≠ 45)) = true) : LexS (a ++ [c]) (x ++ [sgn c]) := fun s ks hl => by
  rw [List.append_assoc, List.append_assoc]
  have := hc
  simp only [Bool.and_eq_true, Bool.not_eq_true', decide_eq_true_eq] at this
  exact h _ _ this.1.2 (lexS c hc _ _ hl)
theorem LexS.nn {a b : List UInt8} {x y : List Sh} (h : LexS a x) (k : LexN b y) : LexN (a ++ b) (x ++ y) := fun s ks hs hl => by
  rw [List.append_assoc, List.append_assoc]; exact h _ _ (k _ _ hs hl)
theorem lex_tail {β : Type} {T : β → List UInt8} {S : β → List Sh} : ∀ {l : List β}, (∀ x ∈ l, LexN (T x) (S x)) → ∀ s ks, Stop s → LexTo s ks → Stop ((l.map T).flatMap (fun y => 44 :: y) ++ s) ∧ LexTo ((l.map T).flatMap (fun y => 44 :: y) ++ s) ((l.map S).flatMap (fun y => sgn 44 :: y) ++ ks)
  | [], _, s, ks, hs, hl => ⟨hs, hl⟩
  | x :: xs, h, s, ks, hs, hl => by
    obtain ⟨h1, h2⟩ := lex_tail (l := xs) (fun y hy => h y (by simp [hy])) s ks hs hl
    simp only [List.map_cons, List.flatMap_cons, List.append_assoc, List.cons_append]
    refine ⟨rfl, ?_⟩
    exact lexS 44 (by decide) _ _ (h x (by simp) _ _ h1 h2)
theorem lex_comma {β : Type} {T : β → List UInt8} {S : β → List Sh} {l : List β} (h : ∀ x ∈ l, LexN (T x) (S x)) : LexN (joinC (l.map T)) (commaS (l.map S)) := by
  intro s ks hs hl
  cases l with
  | nil => exact hl
  | cons x xs =>
    obtain ⟨h1, h2⟩ := lex_tail (l := xs) (fun y hy => h y (by simp [hy])) s ks hs hl
    simp only [List.map_cons, joinC, commaS, List.append_assoc]
    exact h x (by simp) _ _ h1 h2
theorem lex_words {ws : List Word} (h : rightW ws = true) : LexN (wtext ws) (wshp ws) := lex_comma (T := Word.text) (S := fun w => [nmS w.text]) fun w hw => lexN (List.all_eq_true.1 h w hw)
theorem lex_set {ws : List Word} (h : rightW ws = true) : LexS ([123] ++ wtext ws ++ [125]) ([sgn 123] ++ wshp ws ++ [sgn 125]) := LexN.sign ((lexS 123 (by decide)).nn (lex_words h)) (by decide)
theorem lex_in {a b : UInt8} {ks : List Nd} (ha : (signZ (a.toNat : Nat) && !goesB a && decide (a.toNat ≠ 45)) = true) (hb : (signZ (b.toNat : Nat) && !goesB b && decide (b.toNat ≠ 45)) = true) (h : ∀ n ∈ ks, LexN n.txt n.shp) :
    LexS ([a] ++ joinC (txts ks) ++ [b]) ([sgn a] ++ commaS (shps ks) ++ [sgn b]) := by
  rw [txts_map, shps_map]
  exact LexN.sign ((lexS a ha).nn (lex_comma h)) hb
end Go.Am

namespace Go.Am
theorem Nd.txt_eq (n : Nd) : n.txt = if n.kind = 1 ∨ n.kind = 2 then n.text else if n.kind = 3 then [123] ++ wtext n.names ++ [125] else if n.kind = 4 then [40] ++ joinC (txts n.kids) ++ [41] else if n.kind = 5 then [91] ++ joinC (txts n.kids) ++ [93]
    else if n.kind = 6 then n.text ++ [58, 123] ++ wtext n.names ++ [125] else if n.kind = 7 then [35] ++ headT (txts n.kids) else if n.kind = 8 then [43, 40] ++ joinC (txts n.kids) ++ [41] else if n.kind = 9 then [38, 40] ++ joinC (txts n.kids) ++ [41]
    else if n.kind = 10 then ([91] ++ joinC (txts n.kids)) ++ (if 0 < n.names.length then [124] ++ wtext n.names else []) ++ [93] else if n.kind = 11 then n.text ++ [61] ++ headT (txts n.kids) else [] := by cases n; rw [Nd.txt]; rfl
theorem Nd.shp_eq (n : Nd) : n.shp = if n.kind = 1 ∨ n.kind = 2 then [nmS n.text] else if n.kind = 3 then [sgn 123] ++ wshp n.names ++ [sgn 125] else if n.kind = 4 then [sgn 40] ++ commaS (shps n.kids) ++ [sgn 41] else if n.kind = 5 then [sgn 91] ++ commaS (shps n.kids) ++ [sgn 93]
    else if n.kind = 6 then [nmS n.text] ++ [sgn 58] ++ ([sgn 123] ++ wshp n.names ++ [sgn 125]) else if n.kind = 7 then [sgn 35] ++ headS (shps n.kids) else if n.kind = 8 then [sgn 43] ++ ([sgn 40] ++ commaS (shps n.kids) ++ [sgn 41]) else if n.kind = 9 then [sgn 38] ++ ([sgn 40] ++ commaS (shps n.kids) ++ [sgn 41])
    else if n.kind = 10 then [sgn 91] ++ (commaS (shps n.kids) ++ (if 0 < n.names.length then [sgn 124] ++ wshp n.names else [])) ++ [sgn 93] else if n.kind = 11 then [nmS n.text] ++ [sgn 61] ++ headS (shps n.kids) else [] := by cases n; rw [Nd.shp]; rfl
theorem kidw {n m : Nd} (hm : m ∈ n.kids) : m.wt + 5 ≤ n.wt := by
  have h1 := wt_mem hm
  have h2 : wts n.kids + 4 ≤ n.wt := by cases n; simp only [Nd.wt, Nd.kids]; omega
  omega
def Lx (n : Nd) : Prop := LexN n.txt n.shp
theorem lx_leaf {n : Nd} (hk : n.kind = 1 ∨ n.kind = 2) (h : n.leafQ = true) : Lx n := by
  unfold Lx
  rw [Nd.txt_eq, Nd.shp_eq, if_pos hk, if_pos hk]
  simp only [Nd.leafQ, Bool.and_eq_true] at h
  exact lexN h.1
theorem rule_spec {n : Nd} (h : n.ruleQ = true) : n.kind = 6 ∧ nameR n.text = true ∧ rightW n.names = true ∧ n.kids = [] := by
  simp only [Nd.ruleQ, Bool.and_eq_true, decide_eq_true_eq] at h
  exact ⟨h.1.1.1, h.1.1.2, h.1.2, List.length_eq_zero_iff.1 (by omega)⟩
theorem lx_rule {n : Nd} (h : n.ruleQ = true) : Lx n := by
  obtain ⟨k, h1, h2, _⟩ := rule_spec h
  unfold Lx
  rw [Nd.txt_eq, Nd.shp_eq]
  simp only [k, show ¬ ((6 : Int) = 1 ∨ (6 : Int) = 2) by omega, show ¬ (6 : Int) = 3 by omega, show ¬ (6 : Int) = 4 by omega, show ¬ (6 : Int) = 5 by omega, if_false, if_true]
  have e : n.text ++ [58, 123] ++ wtext n.names ++ [125] = (n.text ++ [58]) ++ ([123] ++ wtext n.names ++ [125]) := by simp
  rw [e]
  exact (((lexN h1).sign (by decide)).app (lex_set h2)).n
theorem const_spec {n : Nd} (h : n.constQ = true) : (n.kind = 2 ∧ n.leafQ = true) ∨ (n.kind = 3 ∧ n.text = [] ∧ rightW n.names = true ∧ n.kids = []) ∨ (n.kind = 4 ∧ n.text = [] ∧ n.names = [] ∧ n.kids ≠ [] ∧ ∀ x ∈ n.kids, x.constQ = true) ∨ (n.kind = 5 ∧ n.text = [] ∧ n.names = [] ∧ ∀ x ∈ n.kids, x.ruleQ = true) := by
  rw [Nd.constQ_eq] at h
  split at h
  · rename_i k; exact .inl ⟨k, h⟩
  split at h
  · rename_i k
    simp only [Bool.and_eq_true, decide_eq_true_eq] at h
    exact .inr (.inl ⟨k, h.1.1, h.1.2, List.length_eq_zero_iff.1 (by omega)⟩)
  split at h
  · rename_i k
    simp only [Nd.bareQ, Bool.and_eq_true, decide_eq_true_eq] at h
    exact .inr (.inr (.inl ⟨k, h.1.1.1, List.length_eq_zero_iff.1 (by omega), fun e => by rw [e] at h; simp at h, List.all_eq_true.1 h.2⟩))
  split at h
  · rename_i k
    simp only [Nd.bareQ, Bool.and_eq_true, decide_eq_true_eq] at h
    exact .inr (.inr (.inr ⟨k, h.1.1, List.length_eq_zero_iff.1 (by omega), List.all_eq_true.1 h.2⟩))
  · simp at h
theorem lx_const : ∀ (k : Nat) (n : Nd), n.wt ≤ k → n.constQ = true → Lx n := by
  intro k
  induction k with
  | zero => intro n h _; cases n; simp only [Nd.wt] at h; omega
  | succ k ih =>
    intro n hk h
    rcases const_spec h with ⟨h1, h2⟩ | ⟨h1, _, h2, _⟩ | ⟨h1, _, _, _, h2⟩ | ⟨h1, _, _, h2⟩
    · exact lx_leaf (.inr h1) h2
    · unfold Lx
      rw [Nd.txt_eq, Nd.shp_eq, h1]
      exact (lex_set h2).n
    · unfold Lx
      rw [Nd.txt_eq, Nd.shp_eq, h1]
      exact (lex_in (by decide) (by decide) fun m hm => ih m (by have := kidw hm; omega) (h2 m hm)).n
    · unfold Lx
      rw [Nd.txt_eq, Nd.shp_eq, h1]
      exact (lex_in (by decide) (by decide) fun m hm => lx_rule (h2 m hm)).n
theorem label_spec {n : Nd} (h : n.labelQ = true) : (n.kind = 1 ∧ n.leafQ = true) ∨ (n.kind = 7 ∧ n.text = [] ∧ n.names = [] ∧ ∃ c, n.kids = [c] ∧ c.constQ = true) ∨ ((n.kind = 8 ∨ n.kind = 9) ∧ n.text = [] ∧ n.names = [] ∧ n.kids ≠ [] ∧ ∀ x ∈ n.kids, x.labelQ = true) := by
  rw [Nd.labelQ_eq] at h
  split at h
  · rename_i k; exact .inl ⟨k, h⟩
  split at h
  · rename_i k
    simp only [Nd.bareQ, Bool.and_eq_true, decide_eq_true_eq] at h
    refine .inr (.inl ⟨k, h.1.1.1, List.length_eq_zero_iff.1 (by omega), ?_⟩)
    match hq : n.kids, h.1.2 with
    | [c], _ => exact ⟨c, rfl, by have := h.2; rw [hq] at this; exact this⟩
    | [], e => simp at e
    | _ :: _ :: _, e => simp at e; omega
  split at h
  · rename_i k
    simp only [Nd.bareQ, Bool.and_eq_true, decide_eq_true_eq] at h
    exact .inr (.inr ⟨k, h.1.1.1, List.length_eq_zero_iff.1 (by omega), fun e => by rw [e] at h; simp at h, List.all_eq_true.1 h.2⟩)
  · simp at h
theorem lx_label : ∀ (k : Nat) (n : Nd), n.wt ≤ k → n.labelQ = true → Lx n := by
  intro k
  induction k with
  | zero => intro n h _; cases n; simp only [Nd.wt] at h; omega
  | succ k ih =>
    intro n hk h
    rcases label_spec h with ⟨h1, h2⟩ | ⟨h1, _, _, c, h2, h3⟩ | ⟨h1, _, _, _, h2⟩
    · exact lx_leaf (.inl h1) h2
    · unfold Lx
      rw [Nd.txt_eq, Nd.shp_eq, h1, h2]
      exact (lexS 35 (by decide)).nn (lx_const _ c (Nat.le_refl _) h3)
    · have hin := lex_in (a := 40) (b := 41) (by decide) (by decide) fun m hm => ih m (by have := kidw hm; omega) (h2 m hm)
      unfold Lx
      rw [Nd.txt_eq, Nd.shp_eq]
      rcases h1 with h1 | h1
      · rw [h1]
        exact ((lexS 43 (by decide)).app hin).n
      · rw [h1]
        exact ((lexS 38 (by decide)).app hin).n
theorem field_spec {n : Nd} (h : n.fieldQ = true) : n.kind = 11 ∧ nameR n.text = true ∧ n.names = [] ∧ ∃ c, n.kids = [c] ∧ c.atomQ = true := by
  simp only [Nd.fieldQ, Bool.and_eq_true, decide_eq_true_eq] at h
  refine ⟨h.1.1.1.1, h.1.1.1.2, List.length_eq_zero_iff.1 (by omega), ?_⟩
  match hq : n.kids, h.1.2 with
  | [c], _ => exact ⟨c, rfl, by have := h.2; rw [hq] at this; exact this⟩
  | [], e => simp at e
  | _ :: _ :: _, e => simp at e; omega
theorem lx_field {n : Nd} (h : n.fieldQ = true) : Lx n := by
  obtain ⟨k, h1, _, c, h2, h3⟩ := field_spec h
  unfold Lx
  rw [Nd.txt_eq, Nd.shp_eq, k, h2]
  exact ((lexN h1).sign (by decide)).nn (lx_label _ c (Nat.le_refl _) (atom_label h3))
theorem row_spec {n : Nd} (h : n.rowQ = true) : (n.kind = 10 ∧ n.text = [] ∧ (n.names = [] ∨ ∃ w, n.names = [w] ∧ nameR w.text = true) ∧ ∀ x ∈ n.kids, x.fieldQ = true) ∨ (n.kind = 1 ∧ n.labelQ = true) := by
  unfold Nd.rowQ at h
  split at h
  · rename_i k
    simp only [Bool.and_eq_true, decide_eq_true_eq] at h
    refine .inl ⟨k, h.1.1.1, ?_, List.all_eq_true.1 h.2⟩
    match hq : n.names, h.1.1.2 with
    | [], _ => exact .inl rfl
    | [w], _ => exact .inr ⟨w, rfl, by have := h.1.2; rw [hq] at this; simpa [rightW] using this⟩
    | _ :: _ :: _, e => simp at e; omega
  · simp only [Bool.and_eq_true, decide_eq_true_eq] at h
    exact .inr h
theorem lx_row {n : Nd} (h : n.rowQ = true) : Lx n := by
  rcases row_spec h with ⟨k, _, hn, hf⟩ | ⟨_, h⟩
  · have hk : LexN (joinC (txts n.kids)) (commaS (shps n.kids)) := by rw [txts_map, shps_map]; exact lex_comma fun m hm => lx_field (hf m hm)
    unfold Lx
    rw [Nd.txt_eq, Nd.shp_eq, k]
    rcases hn with hn | ⟨w, hn, hw⟩
    · rw [hn]
      have e1 : ([91] : List UInt8) ++ joinC (txts n.kids) ++ [] = [91] ++ joinC (txts n.kids) := by simp
      have e2 : [sgn 91] ++ (commaS (shps n.kids) ++ []) ++ [sgn 93] = [sgn 91] ++ commaS (shps n.kids) ++ [sgn 93] := by simp
      show LexN (([91] ++ joinC (txts n.kids)) ++ [] ++ [93]) ([sgn 91] ++ (commaS (shps n.kids) ++ []) ++ [sgn 93])
      rw [e1, e2]
      exact (((lexS 91 (by decide)).nn hk).sign (by decide)).n
    · rw [hn]
      have e1 : (([91] : List UInt8) ++ joinC (txts n.kids)) ++ ([124] ++ wtext [w]) ++ [93] = (([91] ++ joinC (txts n.kids)) ++ [124]) ++ (wtext [w] ++ [93]) := by simp
      have e2 : [sgn 91] ++ (commaS (shps n.kids) ++ ([sgn 124] ++ wshp [w])) ++ [sgn 93] = (([sgn 91] ++ commaS (shps n.kids)) ++ [sgn 124]) ++ (wshp [w] ++ [sgn 93]) := by simp
      show LexN (([91] ++ joinC (txts n.kids)) ++ ([124] ++ wtext [w]) ++ [93]) ([sgn 91] ++ (commaS (shps n.kids) ++ ([sgn 124] ++ wshp [w])) ++ [sgn 93])
      rw [e1, e2]
      exact ((((lexS 91 (by decide)).nn hk).sign (by decide)).app ((lex_words (by simp [rightW, hw])).sign (by decide))).n
  · exact lx_label _ n (Nat.le_refl _) h
end Go.Am

namespace Go.Am
mutual
def Tree.WF : Tree → Prop
  | .mk t ks e => closesZ t.kind = false ∧ (closing t.kind = 0 → ks = [] ∧ e = t.pos) ∧ WFs ks
def WFs : List Tree → Prop
  | [] => True
  | t :: ts => t.WF ∧ WFs ts
end
theorem WFs_append : ∀ {a b : List Tree}, WFs (a ++ b) ↔ WFs a ∧ WFs b
  | [], b => by simp [WFs]
  | t :: ts, b => by simp only [List.cons_append, WFs, WFs_append (a := ts), and_assoc]
theorem kindAt_mid {a r : List Tok} {t : Tok} : kindAt (a ++ t :: r) a.length = t.kind := by simp [kindAt]
theorem tokN_mid {a r : List Tok} {t : Tok} : tokN (a ++ t :: r) a.length = t := by simp [tokN]
theorem posAt_mid {a r : List Tok} {t : Tok} : posAt (a ++ t :: r) a.length = t.pos := by simp [posAt]
theorem closing_close {c : Int} (h : closing c ≠ 0) : closesZ (closing c) = true ∧ closing (closing c) = 0 := by
  have : c = 40 ∨ c = 123 ∨ c = 91 := by
    unfold closing at h
    split at h
    · rename_i k; exact .inl k
    · split at h
      · rename_i k; exact .inr k
      · exact absurd rfl h
  rcases this with rfl | rfl | rfl <;> decide
theorem flats_cons (t : Tree) (ts : List Tree) : flats (t :: ts) = t.flat ++ flats ts := rfl
theorem bal {l : List Tok} {x : Nat} : ∀ (k : Nat) (us : List Tree) (a b : List Tok) (n : Nat) (d : Int), manys us ≤ k → WFs us → l = a ++ flats us ++ b → 1 ≤ d → partnerF l x (n + (flats us).length) a.length d = partnerF l x n (a ++ flats us).length d
  | _, [], a, b, n, d, _, _, _, _ => by simp [flats]
  | 0, t :: ts, a, b, n, d, h, _, _, _ => by simp [manys] at h
  | k + 1, .mk t ks e :: ts, a, b, n, d, h, hw, hl, hd => by
    simp only [manys, Tree.many] at h
    obtain ⟨⟨w1, w2, w3⟩, w4⟩ := hw
    rw [flats_cons] at hl ⊢
    by_cases hc : closing t.kind = 0
    · have ef : (Tree.mk t ks e).flat = [t] := by simp [Tree.flat, hc]
      rw [ef] at hl ⊢
      have hk : kindAt l a.length = t.kind := by rw [hl]; simp only [List.append_assoc, List.singleton_append, List.cons_append]; exact kindAt_mid
      have hd0 : delta l a.length = 0 := by unfold delta; rw [hk, hc, w1]; simp
      rw [show n + ([t] ++ flats ts).length = (n + (flats ts).length) + 1 by simp; omega, partnerF_succ, hd0, if_neg (by omega), Int.add_zero]
      have := bal (l := l) (x := x) k ts (a ++ [t]) b n d (by omega) w4 (by rw [hl]; simp) hd
      rw [show (a ++ [t]).length = a.length + 1 by simp] at this
      rw [this]
      simp
    · have ef : (Tree.mk t ks e).flat = t :: (flats ks ++ [⟨closing t.kind, [UInt8.ofNat (closing t.kind).toNat], e⟩]) := by simp [Tree.flat, hc]
      generalize hcl : (⟨closing t.kind, [UInt8.ofNat (closing t.kind).toNat], e⟩ : Tok) = c at ef
      have hck : c.kind = closing t.kind := by rw [← hcl]
      obtain ⟨c1, c2⟩ := closing_close hc
      rw [ef] at hl ⊢
      have hk : kindAt l a.length = t.kind := by rw [hl]; simp only [List.append_assoc, List.cons_append]; exact kindAt_mid
      have hd1 : delta l a.length = 1 := delta_open (by rw [hk]; exact hc)
      have hk2 : kindAt l (a ++ [t] ++ flats ks).length = c.kind := by
        rw [hl]
        have : a ++ (t :: (flats ks ++ [c]) ++ flats ts) ++ b = (a ++ [t] ++ flats ks) ++ c :: (flats ts ++ b) := by simp
        rw [this]; exact kindAt_mid
      have hd2 : delta l (a ++ [t] ++ flats ks).length = -1 := by unfold delta; rw [hk2, hck, c2, c1]; simp
      rw [show n + (t :: (flats ks ++ [c]) ++ flats ts).length = ((n + (flats ts).length + 1) + (flats ks).length) + 1 by simp; omega, partnerF_succ, hd1, if_neg (by omega)]
      have h1 := bal (l := l) (x := x) k ks (a ++ [t]) ([c] ++ flats ts ++ b) (n + (flats ts).length + 1) (d + 1) (by omega) w3 (by rw [hl]; simp) (by omega)
      rw [show (a ++ [t]).length = a.length + 1 by simp] at h1
      rw [h1, partnerF_succ, hd2, if_neg (by omega), show d + 1 + -1 = d by omega]
      have h2 := bal (l := l) (x := x) k ts (a ++ [t] ++ flats ks ++ [c]) b n d (by omega) w4 (by rw [hl]; simp) hd
      rw [show (a ++ [t] ++ flats ks ++ [c]).length = (a ++ [t] ++ flats ks).length + 1 by simp; omega] at h2
      rw [h2]
      simp
theorem partner_at {l : List Tok} {t c : Tok} {ks : List Tree} {a b : List Tok} (hl : l = a ++ [t] ++ flats ks ++ c :: b) (hw : WFs ks) (hc : closing t.kind ≠ 0) (hck : c.kind = closing t.kind) : partner l a.length = (a ++ [t] ++ flats ks).length := by
  obtain ⟨c1, c2⟩ := closing_close hc
  have hk : kindAt l a.length = t.kind := by rw [hl]; simp only [List.append_assoc, List.singleton_append]; exact kindAt_mid
  have hd1 : delta l a.length = 1 := delta_open (by rw [hk]; exact hc)
  have hk2 : kindAt l (a ++ [t] ++ flats ks).length = c.kind := by rw [hl]; exact kindAt_mid
  have hd2 : delta l (a ++ [t] ++ flats ks).length = -1 := by unfold delta; rw [hk2, hck, c2, c1]; simp
  unfold partner
  rw [show l.length - a.length = ((b.length + 1) + (flats ks).length) + 1 by rw [hl]; simp; omega, partnerF_succ, hd1, if_neg (by omega)]
  have h1 := bal (l := l) (x := a.length) _ ks (a ++ [t]) (c :: b) (b.length + 1) (0 + 1) (Nat.le_refl _) hw hl (by omega)
  rw [show (a ++ [t]).length = a.length + 1 by simp] at h1
  rw [h1, partnerF_succ, hd2, if_pos (by omega)]
theorem treesF_flats {l : List Tok} : ∀ (k : Nat) (us : List Tree) (a b : List Tok) (n : Nat), manys us ≤ k → WFs us → l = a ++ flats us ++ b → (flats us).length ≤ n → treesF l n a.length (a.length + (flats us).length) = us
  | _, [], a, b, n, _, _, _, _ => by cases n <;> simp [flats, treesF]
  | 0, t :: ts, a, b, n, h, _, _, _ => by simp [manys] at h
  | k + 1, .mk t ks e :: ts, a, b, n, h, hw, hl, hn => by
    simp only [manys, Tree.many] at h
    obtain ⟨⟨w1, w2, w3⟩, w4⟩ := hw
    rw [flats_cons] at hl hn ⊢
    by_cases hc : closing t.kind = 0
    · have ef : (Tree.mk t ks e).flat = [t] := by simp [Tree.flat, hc]
      obtain ⟨w5, w6⟩ := w2 hc
      rw [ef] at hl hn ⊢
      have hl' : l = a ++ t :: (flats ts ++ b) := by rw [hl]; simp
      have hk : kindAt l a.length = t.kind := by rw [hl']; exact kindAt_mid
      have ht : tokN l a.length = t := by rw [hl']; exact tokN_mid
      have hp : posAt l a.length = t.pos := by rw [hl']; exact posAt_mid
      simp only [List.length_append, List.length_singleton] at hn ⊢
      obtain ⟨m, rfl⟩ : ∃ m, n = m + 1 := ⟨n - 1, by omega⟩
      rw [treesF, if_pos (by omega), if_neg (by rw [hk]; simpa using hc), ht, hp]
      have := treesF_flats (l := l) k ts (a ++ [t]) b m (by omega) w4 (by rw [hl]; simp) (by omega)
      rw [show (a ++ [t]).length = a.length + 1 by simp, show a.length + 1 + (flats ts).length = a.length + (1 + (flats ts).length) by omega] at this
      rw [this, w5, w6]
    · have ef : (Tree.mk t ks e).flat = t :: (flats ks ++ [⟨closing t.kind, [UInt8.ofNat (closing t.kind).toNat], e⟩]) := by simp [Tree.flat, hc]
      generalize hcl : (⟨closing t.kind, [UInt8.ofNat (closing t.kind).toNat], e⟩ : Tok) = c at ef
      have hck : c.kind = closing t.kind := by rw [← hcl]
      have hce : c.pos = e := by rw [← hcl]
      rw [ef] at hl hn ⊢
      have hl1 : l = a ++ t :: (flats ks ++ [c] ++ flats ts ++ b) := by rw [hl]; simp
      have hl2 : l = a ++ [t] ++ flats ks ++ c :: (flats ts ++ b) := by rw [hl]; simp
      have hk : kindAt l a.length = t.kind := by rw [hl1]; exact kindAt_mid
      have ht : tokN l a.length = t := by rw [hl1]; exact tokN_mid
      have hpa := partner_at hl2 w3 hc hck
      have hp : posAt l (a ++ [t] ++ flats ks).length = e := by rw [← hce]; conv => lhs; rw [hl2]
                                                                exact posAt_mid
      simp only [List.length_append, List.length_singleton, List.length_cons, List.length_nil] at hn
      obtain ⟨m, rfl⟩ : ∃ m, n = m + 1 := ⟨n - 1, by omega⟩
      rw [treesF, if_pos (by simp), if_pos (by rw [hk]; exact hc), ht, hpa, hp]
      have h1 := treesF_flats (l := l) k ks (a ++ [t]) (c :: (flats ts ++ b)) m (by omega) w3 hl2 (by omega)
      have h2 := treesF_flats (l := l) k ts (a ++ [t] ++ flats ks ++ [c]) b m (by omega) w4 (by rw [hl]; simp) (by omega)
      have e1 : (a ++ [t] ++ flats ks).length = (a ++ [t]).length + (flats ks).length := List.length_append
      have e2 : a.length + 1 = (a ++ [t]).length := by simp
      have e3 : (a ++ [t]).length + (flats ks).length + 1 = (a ++ [t] ++ flats ks ++ [c]).length := by simp only [List.length_append, List.length_singleton]
      have e4 : a.length + (t :: (flats ks ++ [c]) ++ flats ts).length = (a ++ [t] ++ flats ks ++ [c]).length + (flats ts).length := by simp only [List.length_append, List.length_cons, List.length_nil]; omega
      rw [e1, e2, h1, e3, e4, h2]
theorem tree_back {us : List Tree} (hw : WFs us) (h : (treeR (flats us)).2 = none) : (treeR (flats us)).1 = us := by
  unfold treeR at h ⊢
  split
  · rename_i h0; rw [if_pos h0] at h; simp at h
  · have := treesF_flats (l := flats us) _ us [] [] (flats us).length (Nat.le_refl _) hw (by simp) (Nat.le_refl _)
    simpa using this
end Go.Am

namespace Go.Am
def treeP : List Tok → List (Tok × List Tree) → List Tree → List Tree × Option Int
  | [], op, row => match op.getLast? with | some (t, _) => ([], some t.pos) | none => (row, none)
  | t :: ts, op, row =>
    if closing t.kind ≠ 0 then (if 24 ≤ op.length then ([], some t.pos) else treeP ts (op ++ [(t, row)]) [])
    else if closesZ t.kind = true then
      match op.getLast? with
      | none => ([], some t.pos)
      | some (u, ahead) => if closing u.kind = t.kind then treeP ts op.dropLast (ahead ++ [.mk u row t.pos]) else ([], some t.pos)
    else treeP ts op (row ++ [.mk t [] t.pos])
def Tk.ok (σ0 σ : Store) (n : Nat) : Tk → Prop
  | .full => True
  | .tk τ => σ0.tip τ = none ∧ σ.tip τ = some n
  | .no => False
def Tk.name : Tk → Option Nat
  | .tk τ => some τ
  | _ => none
def Toks (σ0 σ : Store) (L : List (Tk × Nat)) : Prop := σ0.sub σ ∧ (∀ p ∈ L, p.1.ok σ0 σ p.2) ∧ (L.filterMap fun p => p.1.name).Nodup
theorem Toks.init {σ : Store} {L : List (Tk × Nat)} (h : ∀ p ∈ L, p.1 = .full) : Toks σ σ L := by
  refine ⟨Store.sub_refl σ, fun p hp => by rw [h p hp]; trivial, ?_⟩
  have : L.filterMap (fun p => p.1.name) = [] := by
    rw [List.filterMap_eq_nil_iff]; intro p hp; rw [h p hp]; rfl
  rw [this]; exact List.nodup_nil
theorem Toks.perm {σ0 σ : Store} {L L' : List (Tk × Nat)} (h : Toks σ0 σ L) (hp : L.Perm L') : Toks σ0 σ L' :=
  ⟨h.1, fun p hm => h.2.1 p (hp.mem_iff.2 hm), (hp.filterMap _).nodup_iff.1 h.2.2⟩
theorem Toks.tail {σ0 σ : Store} {p : Tk × Nat} {L : List (Tk × Nat)} (h : Toks σ0 σ (p :: L)) : Toks σ0 σ L := by
  refine ⟨h.1, fun q hq => h.2.1 q (by simp [hq]), ?_⟩
  have := h.2.2
  simp only [List.filterMap_cons] at this
  split at this
  · exact this
  · exact (List.nodup_cons.1 this).2
theorem Toks.full {σ0 σ : Store} {n : Nat} {L : List (Tk × Nat)} (h : Toks σ0 σ L) : Toks σ0 σ ((.full, n) :: L) :=
  ⟨h.1, fun q hq => by rcases List.mem_cons.1 hq with rfl | hq; exact trivial; exact h.2.1 q hq, by simpa [List.filterMap_cons, Tk.name] using h.2.2⟩
theorem Toks.put {σ0 σ : Store} {tk : Tk} {n m τ : Nat} {L : List (Tk × Nat)} (h : Toks σ0 σ ((tk, n) :: L)) (h0 : σ0.tip τ = none) (ht : tk = .tk τ ∨ σ.tip τ = none) : Toks σ0 (σ.setTip τ m) ((.tk τ, m) :: L) := by
  have hnm : τ ∉ L.filterMap fun p => p.1.name := fun hm => by
    obtain ⟨⟨t, k⟩, hq, hn⟩ := List.mem_filterMap.1 hm
    cases t with
    | no => simp [Tk.name] at hn
    | full => simp [Tk.name] at hn
    | tk υ =>
      simp only [Tk.name, Option.some.injEq] at hn
      subst hn
      rcases ht with rfl | ht
      · have := h.2.2
        simp only [List.filterMap_cons, Tk.name] at this
        exact (List.nodup_cons.1 this).1 hm
      · have := (h.2.1 (.tk υ, k) (by simp [hq])).2
        rw [ht] at this; simp at this
  refine ⟨⟨h.1.1, fun t k hk => ?_⟩, fun p hp => ?_, ?_⟩
  · have hne : t ≠ τ := by rintro rfl; rw [h0] at hk; simp at hk
    simp only [Store.setTip, if_neg hne]
    exact h.1.2 t k hk
  · rcases List.mem_cons.1 hp with rfl | hp2
    · exact ⟨h0, by simp [Store.setTip]⟩
    · have := h.2.1 p (by simp [hp2])
      obtain ⟨t, k⟩ := p
      cases t with
      | no => exact this
      | full => trivial
      | tk υ =>
        have hne : υ ≠ τ := by rintro rfl; exact hnm (List.mem_filterMap.2 ⟨(.tk υ, k), hp2, rfl⟩)
        exact ⟨this.1, by simp only [Store.setTip, if_neg hne]; exact this.2⟩
  · simp only [List.filterMap_cons, Tk.name]
    exact List.nodup_cons.2 ⟨hnm, h.tail.2.2⟩
theorem Toks.fresh {σ0 σ : Store} {L : List (Tk × Nat)} (h : Toks σ0 σ L) {τ : Nat} (ht : σ.tip τ = none) : σ0.tip τ = none := by
  cases hq : σ0.tip τ with
  | none => rfl
  | some n => rw [h.1.2 τ n hq] at ht; simp at ht
theorem app_any {σ0 σ : Store} {tk u : Tk} {k : Nat} {m n : List (List V)} {K : V → Store → Prop} {L : List (Tk × Nat)} (h : Toks σ0 σ ((tk, m.length) :: L)) (hb : m.length + n.length ≤ big)
    (hk : ∀ τ, Toks σ0 (σ.setTip τ (m.length + n.length)) ((.tk τ, m.length + n.length) :: L) → K (.sl (.tk τ) k (m ++ n)) (σ.setTip τ (m.length + n.length))) : AppOk σ k (.sl tk k m) (.sl u k n) K := by
  have hh := h.2.1 (tk, m.length) (by simp)
  cases tk with
  | no => exact hh.elim
  | full => exact app_full hb fun τ hτ => hk τ (h.put (h.fresh hτ) (.inr hτ))
  | tk τ => exact app_tk hb hh.2 (hk τ (h.put hh.1 (.inl rfl)))
theorem own_keep {σ : Store} {H : V → Store → Prop} {k : Nat} {cs : List V} : OQ.sem σ H (.keep k) [.agg cs] = (cs.length = k ∧ nolL cs = true ∧ oneL cs = true ∧ H (.sl .full k [cs]) σ) := by
  simp only [OQ.sem, keepOk, keepV, V.wd, V.cells, Option.some.injEq]
  by_cases h : cs.length = k ∧ nolL cs = true ∧ oneL cs = true
  · rw [if_pos h]; simp [h]
  · rw [if_neg h]; simp; intro h1 h2 h3; exact absurd ⟨h1, h2, h3⟩ h
theorem slcL_full {k : Nat} {τ : Tk} {m : List (List V)} {j j' : IntKind} {b : Nat} {H : V → Prop} (h2 : b ≤ m.length) (h : H (.sl .full k (m.take b))) : slcL k (.sl τ k m) none (some (.int j b)) (some (.int j' b)) H := ⟨τ, m, 0, b, rfl, Nat.zero_le _, h2, rfl, ⟨j, rfl⟩, ⟨j', rfl⟩, h⟩
end Go.Am

namespace Go.Am
structure Cmd where
  op : Int
  pos : Int
  name : Word
  names : List Word
  pairs : List (Word × Word)
  pairsAt : Int
  left : Nd
  right : Nd
def Cmd.zero : Cmd := ⟨0, 0, ⟨[], 0⟩, [], [], 0, .zero, .zero⟩
def penc (p : Word × Word) : List V := [.str p.1.text, .int .i64 p.1.pos, .str p.2.text, .int .i64 p.2.pos]
def Cmd.encP (c : Cmd) (pc : V) : List V := [.int .i64 c.op, .int .i64 c.pos, .str c.name.text, .int .i64 c.name.pos, .sl .no 2 (c.names.map Word.enc), pc, .int .i64 c.pairsAt,
  .int .i64 c.left.kind, .int .i64 c.left.pos, .str c.left.text, .sl .no 2 (c.left.names.map Word.enc), .sl .no 5 (c.left.kids.map Nd.enc), .int .i64 c.right.kind, .int .i64 c.right.pos, .str c.right.text, .sl .no 2 (c.right.names.map Word.enc), .sl .no 5 (c.right.kids.map Nd.enc)]
def pcell : List (Word × Word) → V
  | [] => .sl .full 4 []
  | p :: ps => .sl .no 4 ((p :: ps).map penc)
def Cmd.enc (c : Cmd) : List V := c.encP (.sl .no 4 (c.pairs.map penc))
def formT : List (List UInt8 × List UInt8) :=
  [([], []), ([99, 104, 97, 105, 110], [110, 119]), ([112, 111, 119, 101, 114], [110, 119]), ([112, 114, 111, 100, 117, 99, 116], [110, 119]), ([103, 114, 105, 100], [110, 119, 112]), ([116, 97, 98, 108, 101], [110, 119, 112]), ([108, 97, 98, 101, 108], [110, 119]), ([114, 111, 119], [110, 119]), ([108, 101, 113], [110, 116, 116]), ([114, 111, 119, 101, 113], [110, 114, 114]), ([108, 97, 99, 107, 115], [110, 102]), ([112, 117, 115, 104], []), ([112, 111, 112], []), ([99, 104, 101, 99, 107], []), ([99, 111, 114, 101], []), ([119, 104, 121], [110])]
def formCells : List V := (formT.map fun p => [V.str p.1, V.str p.2]).flatten
def formOf (op : Int) : List UInt8 × List UInt8 := if 0 ≤ op ∧ op < 16 then formT.getD op.toNat ([], []) else ([], [])
def numF (w : List UInt8) : Nat → Nat → Int
  | 0, _ => 0
  | n + 1, op => if 0 < op ∧ (formOf op).1 = w then op else numF w n (op + 1)
def numberP (w : List UInt8) : Int := numF w 16 0
def Rdr.pairsG : Nat → Rdr → List (Word × Word) → Rdr × List (Word × Word)
  | 0, i, acc => (i, acc)
  | n + 1, i, acc =>
    if i.bad ≠ none then (i, acc)
    else
      if ((i.word.2.take 60).2.word).2.at_ = i.l.length then (((i.word.2.take 60).2.word).2, acc ++ [(i.word.1, ((i.word.2.take 60).2.word).1)])
      else pairsG n (((i.word.2.take 60).2.word).2.take 44).2 (acc ++ [(i.word.1, ((i.word.2.take 60).2.word).1)])
def Rdr.bads (r : Rdr) (b : Option Int) : Rdr := match b with | some a => { r with bad := some a } | none => r
def pairsP (r : Rdr) (c : Cmd) : Rdr × Cmd :=
  let t := (r.take 123).1
  let r1 := (r.take 123).2
  if r1.bad ≠ none ∨ t.kids.length = 0 then (r1, { c with pairsAt := t.tok.pos })
  else (r1.bads (t.inner.pairsG (t.kids.length + 1) []).1.bad, { c with pairsAt := t.tok.pos, pairs := (t.inner.pairsG (t.kids.length + 1) []).2 })
def nodeP (r : Rdr) (c : Cmd) (g : Nd × Int × Option Int) : Rdr × Cmd :=
  match g.2.2 with
  | some a => ({ r with bad := some a }, c)
  | none => ({ r with at_ := g.2.1 }, if c.left.kind = 0 then { c with left := g.1 } else { c with right := g.1 })
def partP (letter : UInt8) (x : Rdr × Cmd) : Rdr × Cmd :=
  if x.1.bad ≠ none then x
  else if letter = 110 then (x.1.word.2, { x.2 with name := x.1.word.1 })
  else if letter = 102 then (x.1.word.2, { x.2 with names := [x.1.word.1] })
  else if letter = 119 then ({ x.1 with bad := (wordsAt x.1.l x.1.at_ x.1.fin).2, at_ := x.1.at_ + 1 }, { x.2 with names := (wordsAt x.1.l x.1.at_ x.1.fin).1 })
  else if letter = 112 then pairsP x.1 x.2
  else if letter = 116 then nodeP x.1 x.2 (readAt (Rdr.label (manys x.1.l)) x.1.l x.1.at_ x.1.fin)
  else if letter = 114 then nodeP x.1 x.2 (readAt (Rdr.row (manys x.1.l)) x.1.l x.1.at_ x.1.fin)
  else x
def partsP : List UInt8 → Rdr × Cmd → Rdr × Cmd
  | [], x => x
  | k :: ks, x => partsP ks (partP k x)
def endP (x : Rdr × Cmd) : Cmd × Int × Int :=
  match (if x.1.bad = none ∧ x.1.at_ < x.1.l.length then x.1.fail else x.1).bad with
  | some a => (.zero, 2, a)
  | none => (x.2, 0, 0)
def cmdP (l : List Tree) (fin : Int) : Cmd × Int × Int :=
  match l with
  | [] => (.zero, 0, 0)
  | t :: _ =>
    let w := (⟨l, 0, fin, none⟩ : Rdr).word
    if numberP w.1.text = 0 then (.zero, 2, t.tok.pos)
    else endP (partsP (formOf (numberP w.1.text)).2 (w.2, { Cmd.zero with op := numberP w.1.text, pos := w.1.pos }))
def readP (s : List UInt8) : Cmd × Int × Int :=
  match (lexR s).2 with
  | some a => (.zero, 1, a)
  | none => match (treeP (lexR s).1 [] []).2 with
    | some a => (.zero, 2, a)
    | none => cmdP (treeP (lexR s).1 [] []).1 s.length
end Go.Am

namespace Go.Am
structure PInv (l : List Tree) (fin : Int) (x : Rdr × Cmd) : Prop where
  hl : x.1.l = l
  hf : x.1.fin = fin
  ge : 0 ≤ x.1.at_
  le : x.1.at_ ≤ (l.length : Int) + 1
  ok : x.1.bad = none → x.1.at_ ≤ (l.length : Int)
theorem fail_fin (r : Rdr) : r.fail.fin = r.fin := by unfold Rdr.fail; split <;> rfl
theorem take_fin (r : Rdr) (k : Int) : (r.take k).2.fin = r.fin := by
  unfold Rdr.take
  split
  · rfl
  · exact fail_fin r
theorem goes_row (n : Nat) (r : Rdr) : Goes r (r.row n).2 := by
  unfold Rdr.row
  split
  · rename_i hs
    have h := goes_take r 91
    have hb : (r.take 91).2.bad = none := by
      rcases r.take_at 91 with ⟨_, _, hb, _, _⟩ | ⟨h', _⟩
      · exact hb
      · rw [hs] at h'; simp at h'
    exact ⟨h.1, fun h1 h2 => by
      obtain ⟨p1, p2, p3⟩ := h.2 h1 h2
      exact ⟨p1, p2, fun _ => p3 hb⟩⟩
  · exact goes_leaf r 1
theorem PInv.goes {l : List Tree} {fin : Int} {x : Rdr × Cmd} {r : Rdr} {c : Cmd} (h : PInv l fin x) (hb : x.1.bad = none) (g : Goes x.1 r) (hf : r.fin = x.1.fin) : PInv l fin (r, c) := by
  obtain ⟨h1, h2, h3, h4, h5⟩ := h
  have h5 := h5 hb
  obtain ⟨g1, g2⟩ := g
  rw [h1] at g2
  have g2 := g2 h3 (by omega)
  exact ⟨g1.trans h1, hf.trans h2, by simp only; omega, by simp only; omega, fun _ => by simp only; omega⟩
theorem PInv.bad {l : List Tree} {fin : Int} {r : Rdr} {c c' : Cmd} {a : Int} (h : PInv l fin (r, c)) : PInv l fin ({ r with bad := some a }, c') := ⟨h.hl, h.hf, h.ge, h.le, fun h => by simp at h⟩
theorem nodeP_inv {l : List Tree} {fin : Int} {r : Rdr} {c : Cmd} {one : Rdr → Nd × Rdr} (h : PInv l fin (r, c)) (hb : r.bad = none) (ho : ∀ r, Goes r (one r).2) : PInv l fin (nodeP r c (readAt one r.l r.at_ r.fin)) := by
  unfold nodeP readAt
  have he : (⟨r.l, r.at_, r.fin, none⟩ : Rdr) = r := by cases r; simp only at hb; subst hb; rfl
  rw [he]
  cases hq : (one r).2.bad with
  | some a => exact h.bad
  | none =>
    obtain ⟨g1, g2⟩ := ho r
    have h5 := h.ok hb
    have h3 := h.ge
    have h1 := h.hl
    simp only at h5 h3 h1
    rw [h1] at g2
    have g2 := g2 h3 h5
    exact ⟨h.hl, h.hf, by simp only; omega, by simp only; omega, fun _ => by simp only; omega⟩
theorem pairsP_inv {l : List Tree} {fin : Int} {r : Rdr} {c : Cmd} (h : PInv l fin (r, c)) (hb : r.bad = none) : PInv l fin (pairsP r c) := by
  have h1 : ∀ c', PInv l fin ((r.take 123).2, c') := fun c' => PInv.goes (x := (r, c)) h hb (goes_take r 123) (take_fin r 123)
  unfold pairsP
  simp only
  split
  · exact h1 _
  · unfold Rdr.bads
    split
    · exact (h1 c).bad
    · exact h1 _
theorem partP_inv {l : List Tree} {fin : Int} {x : Rdr × Cmd} (h : PInv l fin x) (k : UInt8) : PInv l fin (partP k x) := by
  obtain ⟨r, c⟩ := x
  unfold partP
  simp only
  split
  · exact h
  rename_i hb
  have hb : r.bad = none := by simpa using hb
  split
  · exact PInv.goes (x := (r, c)) h hb (goes_word r) (take_fin r 97)
  split
  · exact PInv.goes (x := (r, c)) h hb (goes_word r) (take_fin r 97)
  split
  · have h5 := h.ok hb
    have h3 := h.ge
    simp only at h5 h3
    refine ⟨h.hl, h.hf, by simp only; omega, by simp only; omega, fun hn => ?_⟩
    have he : (⟨r.l, r.at_, r.fin, none⟩ : Rdr) = r := by cases r; simp only at hb; subst hb; rfl
    simp only [wordsAt, he] at hn
    cases hq : (r.words false).2.bad with
    | some a => rw [hq] at hn; simp at hn
    | none =>
      obtain ⟨g1, g2⟩ := goes_words r false
      have h1 := h.hl
      simp only at h1
      rw [h1] at g2
      have := (g2 h3 h5)
      have := this.2.2 hq
      simp only; omega
  split
  · exact pairsP_inv h hb
  split
  · exact nodeP_inv h hb (goes_label _)
  split
  · exact nodeP_inv h hb (goes_row _)
  · exact h
theorem partsP_snoc : ∀ (ks : List UInt8) (k : UInt8) (x : Rdr × Cmd), partsP (ks ++ [k]) x = partP k (partsP ks x)
  | [], _, _ => rfl
  | _ :: ks, k, x => partsP_snoc ks k _
theorem partsP_inv {l : List Tree} {fin : Int} : ∀ (ks : List UInt8) {x : Rdr × Cmd}, PInv l fin x → PInv l fin (partsP ks x)
  | [], _, h => h
  | k :: ks, _, h => partsP_inv ks (partP_inv h k)
theorem partP_pairs {k : UInt8} {x : Rdr × Cmd} (h : k ≠ 112 ∨ x.1.bad ≠ none) : (partP k x).2.pairs = x.2.pairs := by
  unfold partP
  split
  · rfl
  rename_i hb
  have hb : x.1.bad = none := by simpa using hb
  have hk : k ≠ 112 := by rcases h with h | h; exact h; exact absurd hb h
  split
  · rfl
  split
  · rfl
  split
  · rfl
  have hn : ∀ g, (nodeP x.1 x.2 g).2.pairs = x.2.pairs := fun g => by
    unfold nodeP
    split
    · rfl
    · simp only; split <;> rfl
  split
  · exact hn _
  split
  · exact hn _
  · rfl
theorem partsP_pairs : ∀ (ks : List UInt8) {x : Rdr × Cmd}, (∀ k ∈ ks, k ≠ 112) → (partsP ks x).2.pairs = x.2.pairs
  | [], _, _ => rfl
  | k :: ks, x, h => (partsP_pairs ks fun j hj => h j (by simp [hj])).trans (partP_pairs (.inl (h k (by simp))))
theorem form_once (op : Int) (i : Nat) (h : (formOf op).2[i]? = some 112) : ∀ k ∈ (formOf op).2.take i, k ≠ 112 := by
  unfold formOf at h ⊢
  split at h
  · rename_i h1
    rw [if_pos h1]
    have hlt : op.toNat < 16 := by omega
    generalize op.toNat = n at h hlt ⊢
    have key : ∀ n < 16, ∀ i < 3, (formT.getD n ([], [])).2[i]? = some 112 → ∀ k ∈ (formT.getD n ([], [])).2.take i, k ≠ 112 := by decide
    have hl : ∀ n < 16, (formT.getD n ([], [])).2.length ≤ 3 := by decide
    have := (List.getElem?_eq_some_iff.1 h).1
    exact key n hlt i (by have := hl n hlt; omega) h
  · simp at h
theorem form_ascii (op : Int) : ∀ c ∈ (formOf op).2, c.toNat < 128 := by
  unfold formOf
  split
  · rename_i h1
    have hlt : op.toNat < 16 := by omega
    generalize op.toNat = n at hlt ⊢
    have key : ∀ n < 16, ∀ c ∈ (formT.getD n ([], [])).2, c.toNat < 128 := by decide
    exact key n hlt
  · simp
end Go.Am

namespace Go.Am
def wordAt (l : List Tree) (a : Int) : Word := ⟨(tokAt l a).text, (tokAt l a).pos⟩
def pairsF (l : List Tree) (fin : Int) : Nat → Nat → List (Word × Word) → List (Word × Word) × Int
  | 0, _, acc => (acc, -1)
  | n + 1, a, acc =>
    if isK l (a : Nat) 97 = false then ([], spotOf l (a : Nat) fin)
    else if isK l ((a + 1 : Nat) : Int) 60 = false then ([], spotOf l ((a + 1 : Nat) : Int) fin)
    else if isK l ((a + 2 : Nat) : Int) 97 = false then ([], spotOf l ((a + 2 : Nat) : Int) fin)
    else if a + 3 = l.length then (acc ++ [(wordAt l (a : Nat), wordAt l ((a + 2 : Nat) : Int))], -1)
    else if isK l ((a + 3 : Nat) : Int) 44 = false then ([], spotOf l ((a + 3 : Nat) : Int) fin)
    else pairsF l fin n (a + 4) (acc ++ [(wordAt l (a : Nat), wordAt l ((a + 2 : Nat) : Int))])
def pairsR (t : Tree) : List (Word × Word) × Int := if t.kids.length = 0 then ([], -1) else pairsF t.kids t.fin (t.kids.length + 1) 0 []
def partR (k : UInt8) (c : Cmd) (l : List Tree) (a fin : Int) : Cmd × Int × Int :=
  if k = 110 ∨ k = 102 then (if isK l a 97 = true then (if k = 102 then { c with names := [wordAt l a] } else { c with name := wordAt l a }, a + 1, -1) else (c, a, spotOf l a fin))
  else if k = 119 then (if (refWords l a fin).2.bad = true then (c, a, (refWords l a fin).2.pos) else ({ c with names := (refWords l a fin).1 }, a + 1, -1))
  else if k = 112 then (if isK l a 123 = true then ({ c with pairs := (pairsR (treeAt l a)).1, pairsAt := (treeAt l a).tok.pos }, a + 1, (pairsR (treeAt l a)).2) else (c, a, spotOf l a fin))
  else
    let g := if k = 114 then rowG (manys l) l a fin else labelG (manys l) l a fin
    if g.bad = true then (c, a, g.pos) else (if c.left.kind = 0 then { c with left := g.node } else { c with right := g.node }, g.next, -1)
def partsR (l : List Tree) (fin : Int) : List UInt8 → Cmd → Int → Cmd × Int × Int
  | [], c, a => (c, a, -1)
  | k :: ks, c, a => if 0 ≤ (partR k c l a fin).2.2 then partR k c l a fin else partsR l fin ks (partR k c l a fin).1 (partR k c l a fin).2.1
def opF (w : List UInt8) : Nat → Nat → Int → Int
  | 0, _, r => r
  | n + 1, op, r => opF w n (op + 1) (if w = (formOf op).1 then op else r)
def cmdR (l : List Tree) (fin : Int) : Cmd × Int × Int :=
  match l with
  | [] => (.zero, 0, 0)
  | t :: _ =>
    let op := if t.tok.kind = 97 then opF t.tok.text 15 1 0 else 0
    if op = 0 then (.zero, 2, t.tok.pos)
    else
      let x := partsR l fin (formOf op).2 { Cmd.zero with op := op, pos := t.tok.pos } 1
      if 0 ≤ x.2.2 then (.zero, 2, x.2.2)
      else if x.2.1 < l.length then (.zero, 2, spotOf l x.2.1 fin)
      else (x.1, 0, 0)
def readR (s : List UInt8) : Cmd × Int × Int :=
  match (lexR s).2 with
  | some a => (.zero, 1, a)
  | none => match (treeR (lexR s).1).2 with
    | some a => (.zero, 2, a)
    | none => cmdR (treeR (lexR s).1).1 s.length
end Go.Am

namespace Go.Am
theorem Env.ok.weak {E : Env} {σ σ' : Store} (h : E.ok σ) (ho : OLe σ σ') : E.ok σ' := by
  refine ⟨fun b cs hb => ?_, fun t n ht => h.tip t n (ho.tip t n ht), h.fresh, h.nt⟩
  obtain ⟨ds, h1, h2⟩ := ho.box b cs hb
  obtain ⟨k1, k2⟩ := h.box b ds h1
  exact ⟨k1, k2.weak h2⟩
theorem PCalls.le {P : Program} {f : FuncId} {as : List V} {σ : Store} {v : V} {S S' : Store} (h : PCalls P f as σ fun v' σ' => v' = v ∧ σ' = S) (ho : OLe S S') : PCalls P f as σ fun v' σ' => v' = v ∧ σ' = S' :=
  ⟨h.1, fun E vs h1 h2 h3 => (h.2 E vs h1 h2 h3).mono fun _ _ ⟨v', x, E', σ', a, b, c, d, e, f, g⟩ => ⟨v', x, E', S', a, b, c, (g.2 ▸ d).weak ho, e, f, g.1, rfl⟩⟩
theorem OLe.set {σ : Store} {b : Nat} {A B : List V} (h : LLe A B) : OLe (σ.set b A) (σ.set b B) := by
  refine ⟨fun x cs' hx => ?_, fun _ _ h => h⟩
  simp only [Store.set] at hx ⊢
  by_cases e : x = b
  · rw [if_pos e] at hx ⊢
    simp only [Option.some.injEq] at hx; subst hx
    exact ⟨A, Eq.refl _, h⟩
  · rw [if_neg e] at hx ⊢
    exact ⟨cs', hx, LLe.rfl⟩
end Go.Am

namespace Go.Am
def opFlat : List (Tok × List Tree) → List Tok
  | [] => []
  | (t, r) :: op => flats r ++ [t] ++ opFlat op
theorem opFlat_snoc : ∀ (op : List (Tok × List Tree)) (t : Tok) (r : List Tree), opFlat (op ++ [(t, r)]) = opFlat op ++ flats r ++ [t]
  | [], t, r => by simp [opFlat]
  | (u, q) :: op, t, r => by simp [opFlat, opFlat_snoc op t r]
theorem closing_closes {c : Int} (h : closing c ≠ 0) : closesZ c = false := by
  unfold closing at h
  split at h
  · rename_i e; subst e; decide
  · split at h
    · rename_i e; rcases e with e | e <;> subst e <;> decide
    · exact absurd rfl h
theorem snoc_or {α : Type} (l : List α) : l = [] ∨ ∃ ys x, l = ys ++ [x] := by
  rcases List.eq_nil_or_concat l with h | ⟨ys, x, h⟩
  · exact .inl h
  · exact .inr ⟨ys, x, by rw [h]; simp⟩
theorem treeP_ok : ∀ (ts : List Tok) (op : List (Tok × List Tree)) (row : List Tree), (∀ t ∈ ts, TokOk t) → (∀ p ∈ op, closing p.1.kind ≠ 0 ∧ WFs p.2) → WFs row → (treeP ts op row).2 = none →
    WFs (treeP ts op row).1 ∧ flats (treeP ts op row).1 = opFlat op ++ flats row ++ ts
  | [], op, row, _, ho, hr, hn => by
    rcases snoc_or op with rfl | ⟨ys, ⟨u, a⟩, rfl⟩
    · simpa [treeP, opFlat] using hr
    · simp [treeP] at hn
  | t :: ts, op, row, ht, ho, hr, hn => by
    simp only [treeP] at hn ⊢
    have hts : ∀ t ∈ ts, TokOk t := fun x hx => ht x (by simp [hx])
    by_cases hc : closing t.kind = 0
    · rw [if_neg (by simp [hc])] at hn ⊢
      cases hcl : closesZ t.kind
      · rw [hcl] at hn
        simp only [Bool.false_eq_true, if_false] at hn ⊢
        obtain ⟨h1, h2⟩ := treeP_ok ts op (row ++ [.mk t [] t.pos]) hts ho (WFs_append.2 ⟨hr, by simp [WFs, Tree.WF, hc, hcl]⟩) hn
        exact ⟨h1, by rw [h2, flats_append]; simp [flats, Tree.flat, hc]⟩
      · rw [hcl] at hn
        simp only [if_true] at hn ⊢
        rcases snoc_or op with rfl | ⟨ys, ⟨u, a⟩, rfl⟩
        · simp at hn
        · simp only [List.getLast?_concat, List.dropLast_concat] at hn ⊢
          by_cases hk : closing u.kind = t.kind
          · rw [if_pos hk] at hn ⊢
            obtain ⟨hu, ha⟩ := ho (u, a) (by simp)
            have hte : t = ⟨closing u.kind, [UInt8.ofNat (closing u.kind).toNat], t.pos⟩ := by
              rcases ht t (by simp) with ⟨h97, _⟩ | ⟨_, h2⟩
              · rw [h97] at hcl; exact absurd hcl (by decide)
              · rw [hk, ← h2]
            obtain ⟨h1, h2⟩ := treeP_ok ts ys (a ++ [.mk u row t.pos]) hts (fun p hp => ho p (by simp [hp])) (WFs_append.2 ⟨ha, by simp [WFs, Tree.WF, hu, hr, closing_closes hu]⟩) hn
            refine ⟨h1, ?_⟩
            rw [h2, flats_append, opFlat_snoc]
            simp only [flats, Tree.flat, hu, ne_eq, not_false_eq_true, if_true, List.append_nil]
            rw [← hte]
            simp
          · rw [if_neg hk] at hn; simp at hn
    · rw [if_pos hc] at hn ⊢
      by_cases h24 : 24 ≤ op.length
      · rw [if_pos h24] at hn; simp at hn
      · rw [if_neg h24] at hn ⊢
        obtain ⟨h1, h2⟩ := treeP_ok ts (op ++ [(t, row)]) [] hts (fun p hp => by rcases List.mem_append.1 hp with h | h; exact ho p h; simp at h; subst h; exact ⟨hc, hr⟩) (by simp [WFs]) hn
        exact ⟨h1, by rw [h2, opFlat_snoc]; simp [flats]⟩
theorem treeP_bad : ∀ (ts : List Tok) (op : List (Tok × List Tree)) (row : List Tree), (treeP ts op row).2 ≠ none → (treeP ts op row).1 = []
  | [], op, row, h => by
    rcases snoc_or op with rfl | ⟨ys, ⟨u, a⟩, rfl⟩
    · simp [treeP] at h
    · simp [treeP]
  | t :: ts, op, row, h => by
    simp only [treeP] at h ⊢
    split
    · rename_i hc; rw [if_pos hc] at h
      split
      · rfl
      · rename_i h24; rw [if_neg h24] at h; exact treeP_bad _ _ _ h
    · rename_i hc; rw [if_neg hc] at h
      split
      · rename_i hcl; rw [if_pos hcl] at h
        rcases snoc_or op with rfl | ⟨ys, ⟨u, a⟩, rfl⟩
        · rfl
        · simp only [List.getLast?_concat, List.dropLast_concat] at h ⊢
          split
          · rename_i hk; rw [if_pos hk] at h; exact treeP_bad _ _ _ h
          · rfl
      · rename_i hcl; rw [if_neg hcl] at h; exact treeP_bad _ _ _ h
def faultAt (l : List Tok) (f : Int) : Option Int := if 0 ≤ f then some (posAt l f.toNat) else none
theorem treeP_fault (l : List Tok) : ∀ (n i : Nat) (op : List (Tok × List Tree)) (row : List Tree) (o : List Nat), i + n = l.length → op.map (·.1) = o.map (tokN l) → (treeP (l.drop i) op row).2 = faultAt l (faultF l n i o)
  | 0, i, op, row, o, hi, ho => by
    rw [List.drop_eq_nil_of_le (by omega)]
    rcases snoc_or op with rfl | ⟨ys, ⟨u, a⟩, rfl⟩
    · have : o = [] := by simpa using ho.symm
      subst this
      simp [treeP, faultF, faultAt]
    · rcases snoc_or o with rfl | ⟨zs, j, rfl⟩
      · simp at ho
      · simp only [List.map_append, List.map_cons, List.map_nil] at ho
        have hj : u = tokN l j := by have := List.append_inj_right' ho rfl; simpa using this
        simp [treeP, faultF, faultAt, hj, tokN, posAt]
        cases l[j]? <;> rfl
  | n + 1, i, op, row, o, hi, ho => by
    have hlt : i < l.length := by omega
    have hti : tokN l i = l[i] := by simp [tokN, hlt]
    have hki : kindAt l i = l[i].kind := by simp [kindAt, hlt]
    have hpi : posAt l i = l[i].pos := by simp [posAt, hlt]
    have hlo : op.length = o.length := by have := congrArg List.length ho; simpa using this
    rw [List.drop_eq_getElem_cons hlt]
    simp only [treeP, faultF, hki]
    have hself : faultAt l (i : Nat) = some l[i].pos := by simp [faultAt, hpi]
    by_cases hc : closing l[i].kind = 0
    · simp only [ne_eq, hc, not_true_eq_false, false_and, if_false]
      cases hcl : closesZ l[i].kind
      · simp only [Bool.false_eq_true, if_false]
        exact treeP_fault l n (i + 1) op _ o (by omega) ho
      · simp only [if_true]
        rcases snoc_or op with rfl | ⟨ys, ⟨u, a⟩, rfl⟩
        · have : o = [] := by simpa using ho.symm
          subst this
          simp [hself]
        · rcases snoc_or o with rfl | ⟨zs, j, rfl⟩
          · simp at ho
          · simp only [List.map_append, List.map_cons, List.map_nil] at ho
            have hj : u = tokN l j := by have := List.append_inj_right' ho rfl; simpa using this
            have hys : ys.map (·.1) = zs.map (tokN l) := List.append_inj_left' ho rfl
            have hkj : kindAt l j = u.kind := by rw [hj]; simp only [kindAt, tokN]; cases l[j]? <;> rfl
            simp only [List.getLast?_concat, List.dropLast_concat, hkj]
            by_cases hk : closing u.kind = l[i].kind
            · rw [if_pos hk, if_pos hk]
              exact treeP_fault l n (i + 1) ys _ zs (by omega) hys
            · rw [if_neg hk, if_neg hk, hself]
    · rw [if_pos hc]
      by_cases h24 : 24 ≤ op.length
      · rw [if_pos h24, if_pos ⟨hc, by omega⟩, hself]
      · rw [if_neg h24, if_neg (fun h => h24 (by omega))]
        simp only [ne_eq, hc, not_false_eq_true, if_true, closing_closes hc, Bool.false_eq_true, if_false]
        exact treeP_fault l n (i + 1) _ _ _ (by omega) (by simp [ho, hti])
theorem treeP_eq {l : List Tok} (h : ∀ t ∈ l, TokOk t) : treeP l [] [] = treeR l := by
  have hf := treeP_fault l l.length 0 [] [] [] (by omega) rfl
  rw [List.drop_zero] at hf
  have hr : (treeR l).2 = faultAt l (faultF l l.length 0 []) := by
    unfold treeR faultAt; split <;> rfl
  have h2 : (treeP l [] []).2 = (treeR l).2 := by rw [hf, hr]
  cases hq : (treeP l [] []).2 with
  | some a =>
    have h1 := treeP_bad l [] [] (by rw [hq]; simp)
    have h3 : (treeR l).1 = [] := by
      rw [hq] at h2
      unfold treeR at h2 ⊢
      split
      · rfl
      · rename_i hn; rw [if_neg hn] at h2; simp at h2
    exact Prod.ext (h1.trans h3.symm) h2
  | none =>
    obtain ⟨h3, h4⟩ := treeP_ok l [] [] h (by simp) (by simp [WFs]) hq
    simp only [opFlat, flats, List.nil_append] at h4
    have h5 := tree_back h3 (by rw [h4, ← h2, hq])
    rw [h4] at h5
    exact Prod.ext h5.symm h2
theorem treeP_line (s : List UInt8) : treeP (lexR s).1 [] [] = treeR (lexR s).1 := treeP_eq (lexF_ok _ _ _ _ (by simp))
end Go.Am
