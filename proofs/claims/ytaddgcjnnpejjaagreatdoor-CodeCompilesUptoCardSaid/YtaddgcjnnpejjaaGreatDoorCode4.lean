/-
  Part 4 of the proof of CodeCompilesUptoCardSaid: a logic over the model, the forms of the functions that the law reaches, and what they compute.
-/
import Derived.Test.YtaddgcjnnpejjaaGreatDoorCode3
set_option linter.unusedVariables false
set_option linter.unusedSimpArgs false
set_option linter.defProp false
set_option linter.unusedSectionVars false

namespace Go.Am
def elmZ : List V := List.replicate 8 (.int .u64 0)
def insZ : List V := .int .i64 0 :: .int .i64 0 :: elmZ
def sCells (l : List (List UInt8)) : List (List V) := l.map fun s => [.str s]
theorem getD_at {α : Type} {l : List α} {i : Nat} {d : α} (h : i < l.length) : l.getD i d = l[i] := by simp [h]
theorem sCells_len (l : List (List UInt8)) : (sCells l).length = l.length := by simp [sCells]
theorem sCells_at {l : List (List UInt8)} {j : Nat} (h : j < l.length) : (sCells l)[((j : Nat) : Int).toNat]? = some [.str (l.getD j [])] := by simp [sCells, h]
theorem sCells_take {l : List (List UInt8)} {j : Nat} : (sCells l).take j = sCells (l.take j) := by simp [sCells, List.map_take]
def optI : Option Nat → Int
  | some k => k
  | none => -1
def findS (l : List (List UInt8)) (s : List UInt8) : Option Nat := (List.range l.length).find? fun i => decide (l.getD i [] = s)
def twiceS (l : List (List UInt8)) : Option Nat := (List.range l.length).find? fun i => (findS (l.take i) (l.getD i [])).isSome
section
variable {l : List (List UInt8)} {s : List UInt8} {i : Nat}
theorem optI_nn {o : Option Nat} : decide (0 ≤ optI o) = o.isSome := by
  cases o with
  | none => rfl
  | some k => exact decide_eq_true (by simp only [optI]; omega)
theorem optI_neg {o : Option Nat} : decide (optI o < 0) = o.isNone := by
  cases o with
  | none => rfl
  | some k => exact decide_eq_false (by simp only [optI]; omega)
theorem find_lt {p : Nat → Bool} {n k : Nat} (h : (List.range n).find? p = some k) : k < n ∧ p k = true ∧ ∀ j, j < k → p j = false := by
  refine ⟨by simpa using List.mem_of_find?_eq_some h, by simpa using List.find?_some h, fun j hj => ?_⟩
  obtain ⟨_, as, bs, h2, h3⟩ := List.find?_eq_some_iff_append.1 h
  have hl : as.length = k := by
    have := congrArg (fun l : List Nat => l[as.length]?) h2
    simp only [List.getElem?_append_right (Nat.le_refl _), Nat.sub_self, List.getElem?_cons_zero] at this
    rw [List.getElem?_range] at this
    · simpa using this
    · have := congrArg List.length h2; simp at this; omega
  have hj' : j ∈ as := by
    have := congrArg (fun l : List Nat => l[j]?) h2
    rw [List.getElem?_append_left (by omega), List.getElem?_range (by have := congrArg List.length h2; simp at this; omega)] at this
    exact List.mem_of_getElem? this.symm
  have := h3 j hj'
  simpa using this
theorem find_some_iff {p : Nat → Bool} {n : Nat} : ((List.range n).find? p).isSome = true ↔ ∃ k, k < n ∧ p k = true := by
  rw [List.find?_isSome]; simp
theorem findS_take (hi : i < l.length) : (findS (l.take i) (l.getD i [])).isSome = decide (optI (findS l (l.getD i [])) < (i : Nat)) := by
  rw [Bool.eq_iff_iff, findS, find_some_iff, decide_eq_true_iff]
  have hlt : (l.take i).length = i := by rw [List.length_take]; omega
  have hget : ∀ k, k < i → (l.take i).getD k [] = l.getD k [] := fun k hk => by simp [List.getD, List.getElem?_take_of_lt hk]
  rw [hlt]
  have hs : ∃ m, findS l (l.getD i []) = some m := by
    have := (find_some_iff (p := fun k => decide (l.getD k [] = l.getD i [])) (n := l.length)).2 ⟨i, hi, by simp⟩
    exact Option.isSome_iff_exists.1 this
  obtain ⟨m, hm⟩ := hs
  have hm' := find_lt hm
  rw [hm]
  simp only [optI, decide_eq_true_eq] at hm' ⊢
  constructor
  · rintro ⟨k, h1, h2⟩
    rw [hget k h1] at h2
    have : ¬ k < m := fun hc => absurd (hm'.2.2 k hc) (by rw [h2]; simp)
    omega
  · intro h
    exact ⟨m, by omega, by rw [hget m (by omega)]; exact hm'.2.1⟩
end
def namedS (l : List (List UInt8)) : Bool := decide (1 ≤ l.length) && decide (l.length ≤ 64) && (twiceS l).isNone && l.all nameR
structure Fct where
  kind : Int
  names : List (List UInt8)
  rel : Rl
def Fct.enc (f : Fct) : List V := .int .i64 f.kind :: .sl .no 1 (sCells f.names) :: f.rel.enc
def Fct.zero : Fct := ⟨0, [], .zero⟩
section
variable {f g : Fct} {m : Nat}
theorem Fct.r_len : f.enc.length = 67 := by simp [Fct.enc, Rl.r_len]
theorem Fct.r_one : oneL f.enc = true := by simp [Fct.enc, oneL, V.one, Rl.r_one]
theorem Fct.r_nol : nolL f.enc = true := by simp [Fct.enc, nolL, V.nol, Rl.r_nol]
theorem Fct.r_er : eraseL f.enc = f.enc := by simp [Fct.enc, eraseL, V.erase, Rl.r_er]
theorem Fct.r_lo : loL m f.enc = true := by simp [Fct.enc, loL, V.lo, Rl.r_lo]
theorem Fct.r_tk : takeN 67 f.enc = some f.enc := by have := takeN_all (c := f.enc); rwa [Fct.r_len] at this
theorem Fct.r_ld : ldC true 67 f.enc = some (.agg f.enc) := by rw [ldC_agg, Fct.r_tk]; rfl
theorem Fct.r_has : hasN 67 f.enc = true := by have := hasN_all (c := f.enc); rwa [Fct.r_len] at this
theorem Fct.r_ov : over g.enc f.enc = f.enc := over_all (by rw [Fct.r_len, Fct.r_len])
theorem Fct.r_k : ldC false 1 f.enc = some (.int .i64 f.kind) := rfl
theorem Fct.r_s : ldC false 1 (f.enc.drop 1) = some (.sl .no 1 (sCells f.names)) := rfl
theorem Fct.r_n : ldC false 1 (f.enc.drop 2) = some (.int .i64 f.rel.n) := rfl
theorem Fct.r_r : ldC true 65 (f.enc.drop 2) = some (.agg f.rel.enc) := by
  show ldC true 65 f.rel.enc = _; exact Rl.r_ld
theorem Fct.r_rt : takeN 65 (f.enc.drop 2) = some f.rel.enc := by
  show takeN 65 f.rel.enc = _; exact Rl.r_tk
theorem Fct.zov : over facZ f.enc = f.enc := over_all (by rw [Fct.r_len]; rfl)
theorem Fct.zhas : hasN 67 facZ = true := rfl
theorem Fct.zlo : loL m facZ = true := by
  have : facZ = .int .i64 0 :: .sl .full 1 [] :: Rl.zero.enc := by rw [← Rl.r_zero]; rfl
  rw [this]; simp [loL, V.lo, Rl.r_lo]
def Fct.rec_ := And.intro @Fct.r_len <| And.intro @Fct.r_one <| And.intro @Fct.r_nol <| And.intro @Fct.r_er <| And.intro @Fct.r_lo <| And.intro @Fct.r_tk <| And.intro @Fct.r_ld <| And.intro @Fct.r_has <| And.intro @Fct.r_ov <| And.intro @Fct.r_k <| And.intro @Fct.r_s <| And.intro @Fct.r_n <| And.intro @Fct.r_r <| And.intro @Fct.r_rt <| And.intro @Fct.zov <| And.intro @Fct.zhas @Fct.zlo
end
structure Shp where
  tuple : Bool
  facs : List Fct
def Shp.enc (s : Shp) : List V := [.bool s.tuple, .sl .no 67 (s.facs.map Fct.enc)]
section
variable {s : Shp} {g : Bool} {n : Nat} {a b : V}
theorem Shp.r_len : s.enc.length = 2 := rfl
theorem Shp.r_one : oneL s.enc = true := rfl
theorem Shp.r_nol : nolL s.enc = true := rfl
theorem Shp.r_er : eraseL s.enc = s.enc := rfl
theorem Shp.r_lo : loL n s.enc = true := rfl
theorem Shp.r_tk : takeN 2 s.enc = some s.enc := rfl
theorem Shp.r_ld : ldC true 2 s.enc = some (.agg s.enc) := rfl
theorem Shp.r_has : hasN 2 s.enc = true := rfl
theorem Shp.r_ov : over [a, b] s.enc = s.enc := rfl
theorem Shp.r_t : ldC false 1 s.enc = some (.bool s.tuple) := rfl
theorem Shp.r_f : ldC false 1 (s.enc.drop 1) = some (.sl .no 67 (s.facs.map Fct.enc)) := rfl
def Shp.rec_ := And.intro @Shp.r_len <| And.intro @Shp.r_one <| And.intro @Shp.r_nol <| And.intro @Shp.r_er <| And.intro @Shp.r_lo <| And.intro @Shp.r_tk <| And.intro @Shp.r_ld <| And.intro @Shp.r_has <| And.intro @Shp.r_ov <| And.intro @Shp.r_t @Shp.r_f
end
def Shp.ok (s : Shp) : Prop := s.facs.length ≤ 100000 ∧ ∀ f ∈ s.facs, f.names.length ≤ 100000
def facR (f : Fct) : Bool := namedS f.names &&
  (if f.kind = 1 ∨ f.kind = 2 then decide (pts f.rel = 0) else if f.kind = 3 then decide (f.rel.n = f.names.length) && gridR f.rel else if f.kind = 4 then decide (f.rel.n = f.names.length) && latH f.rel else false)
def shpR (s : Shp) : Bool := decide (1 ≤ s.facs.length) && decide (s.facs.length ≤ 8) && (s.tuple || decide (s.facs.length = 1)) && s.facs.all facR
theorem plain_zero {r : Rl} : decide (plainR r = plainR Rl.zero) = decide (pts r = 0) := by
  apply decide_eq_decide.2
  have hz : pts Rl.zero = 0 := by simp [pts, Rl.zero]
  constructor
  · intro h; have := (plain_iff.1 h).1; rw [this, hz]
  · intro h; rw [empty_row h, empty_row hz]
structure Elm where
  w : List B64
  len : w.length = 8
theorem Elm.ext' {a b : Elm} (h : a.w = b.w) : a = b := by cases a; cases b; simp only at h; subst h; rfl
instance : DecidableEq Elm := fun a b => if h : a.w = b.w then isTrue (Elm.ext' h) else isFalse fun e => h (e ▸ rfl)
def Elm.enc (e : Elm) : List V := encW e.w
def Elm.zero : Elm := ⟨List.replicate 8 0#64, by simp⟩
def Elm.get (e : Elm) (i : Nat) : B64 := e.w.getD i 0#64
def Elm.put (e : Elm) (i : Nat) (w : B64) : Elm := ⟨e.w.set i w, by simp [e.len]⟩
def Elm.of (f : Nat → B64) : Elm := ⟨(List.range 8).map f, by simp⟩
section
variable {e d : Elm} {i m : Nat} {w : B64} {f : Nat → B64}
theorem Elm.get_put {j : Nat} : (e.put i w).get j = if i = j ∧ i < 8 then w else e.get j := by
  simp only [Elm.get, Elm.put, List.getD, List.getElem?_set, e.len]
  by_cases h : i = j
  · subst h
    by_cases h2 : i < 8
    · simp [h2]
    · simp [h2, e.len]
  · simp [h]
theorem Elm.get_of (h : i < 8) : (Elm.of f).get i = f i := by simp [Elm.get, Elm.of, List.getD, h]
theorem Elm.ext (k : ∀ i, i < 8 → e.get i = d.get i) : e = d := by
  refine Elm.ext' (List.ext_getElem (by rw [e.len, d.len]) fun i h1 h2 => ?_)
  have := k i (by rw [e.len] at h1; exact h1)
  simpa [Elm.get, List.getD, h1, h2] using this
theorem Elm.r_len : e.enc.length = 8 := by simp [Elm.enc, encW_len, e.len]
theorem Elm.r_one : oneL e.enc = true := encW_one
theorem Elm.r_nol : nolL e.enc = true := encW_nol
theorem Elm.r_er : eraseL e.enc = e.enc := encW_er
theorem Elm.r_lo : loL m e.enc = true := encW_lo
theorem Elm.r_tk : takeN 8 e.enc = some e.enc := by have := takeN_all (c := e.enc); rwa [Elm.r_len] at this
theorem Elm.r_ld : ldC true 8 e.enc = some (.agg e.enc) := by rw [ldC_agg, Elm.r_tk]; rfl
theorem Elm.r_has : hasN 8 e.enc = true := by have := hasN_all (c := e.enc); rwa [Elm.r_len] at this
theorem Elm.r_ov : over d.enc e.enc = e.enc := over_all (by rw [Elm.r_len, Elm.r_len])
theorem Elm.r_zero : elmZ = Elm.zero.enc := by rw [Elm.enc, encW, Elm.zero, List.map_replicate]; rfl
theorem Elm.r_eq : eqC [1, 1, 1, 1, 1, 1, 1, 1] e.enc d.enc = some (decide (e = d)) := by
  show eqC (List.replicate 8 1) (encW e.w) (encW d.w) = _
  rw [encW_eqC e.len d.len]; congr 1
  exact decide_eq_decide.2 ⟨Elm.ext', fun h => h ▸ rfl⟩
theorem Elm.u_ld (h : i < 8) : ldC false 1 (e.enc.drop i) = some (.int .u64 ((e.get i).toNat : Nat)) := encW_ld (by rw [e.len]; exact h)
theorem Elm.u_has (h : i < 8) : hasN 1 (e.enc.drop i) = true := encW_has (by rw [e.len]; exact h)
theorem Elm.u_st (h : i < 8) : setAt e.enc i [.int .u64 (w.toNat : Nat)] = (e.put i w).enc := encW_st (by rw [e.len]; exact h)
theorem Elm.fill : (Elm.of fun j => if j < i then f j else 0#64).put i (f i) = Elm.of fun j => if j < i + 1 then f j else 0#64 := by
  refine Elm.ext fun k hk => ?_
  rw [Elm.get_put, Elm.get_of hk, Elm.get_of hk]
  by_cases h : i = k
  · subst h; simp [hk]
  · rw [if_neg (by omega)]
    by_cases h2 : k < i
    · rw [if_pos h2, if_pos (by omega)]
    · rw [if_neg h2, if_neg (by omega)]
theorem Elm.fill2 {g : Nat → B64} : (Elm.of fun j => if j < i then f j else g j).put i (f i) = Elm.of fun j => if j < i + 1 then f j else g j := by
  refine Elm.ext fun k hk => ?_
  rw [Elm.get_put, Elm.get_of hk, Elm.get_of hk]
  by_cases h : i = k
  · subst h; simp [hk]
  · rw [if_neg (by omega)]
    by_cases h2 : k < i
    · rw [if_pos h2, if_pos (by omega)]
    · rw [if_neg h2, if_neg (by omega)]
theorem Elm.of_get : (Elm.of fun j => e.get j) = e := Elm.ext fun i hi => Elm.get_of hi
theorem Elm.zero_of : Elm.zero = Elm.of fun _ => 0#64 := by
  refine Elm.ext fun i hi => ?_
  rw [Elm.get_of hi]; simp only [Elm.get, Elm.zero, List.getD, List.getElem?_replicate, hi, if_true, Option.getD_some]
theorem Elm.full {g : Nat → B64} : (Elm.of fun j => if j < 8 then f j else g j) = Elm.of f := by
  refine Elm.ext fun i hi => ?_
  rw [Elm.get_of hi, Elm.get_of hi, if_pos hi]
def Elm.rec_ := And.intro @Elm.r_len <| And.intro @Elm.r_one <| And.intro @Elm.r_nol <| And.intro @Elm.r_er <| And.intro @Elm.r_lo <| And.intro @Elm.r_tk <| And.intro @Elm.r_ld <| And.intro @Elm.r_has <| And.intro @Elm.r_ov <| And.intro @Elm.r_zero @Elm.r_eq
end
def joinF (s : Shp) (a b : Elm) (i : Nat) : B64 :=
  match s.facs[i]? with
  | some f => if f.kind = 4 then raiseH f.rel (a.get i) (b.get i) else a.get i ||| b.get i
  | none => a.get i ||| b.get i
def joinE (s : Shp) (a b : Elm) : Elm := Elm.of (joinF s a b)
def meetE (a b : Elm) : Elm := Elm.of fun i => a.get i &&& b.get i
end Go.Am

namespace Go.Am
def rightW (ws : List Word) : Bool := ws.all fun w => nameR w.text
def Nd.leafQ (n : Nd) : Bool := nameR n.text && decide ((n.names.length : Int) + n.kids.length = 0)
def Nd.bareQ (n : Nd) : Bool := decide (n.text = []) && decide ((n.names.length : Int) = 0)
def Nd.ruleQ (n : Nd) : Bool := decide (n.kind = 6) && nameR n.text && rightW n.names && decide ((n.kids.length : Int) = 0)
mutual
def Nd.constQ : Nd → Bool
  | .mk k p t ws ks =>
    if k = 2 then (Nd.mk k p t ws ks).leafQ
    else if k = 3 then decide (t = []) && rightW ws && decide ((ks.length : Int) = 0)
    else if k = 4 then (Nd.mk k p t ws ks).bareQ && decide ((0 : Int) < ks.length) && constsQ ks
    else if k = 5 then (Nd.mk k p t ws ks).bareQ && ks.all Nd.ruleQ
    else false
def constsQ : List Nd → Bool
  | [] => true
  | n :: ns => n.constQ && constsQ ns
end
theorem constsQ_all : ∀ l, constsQ l = l.all Nd.constQ
  | [] => rfl
  | n :: ns => by simp [constsQ, constsQ_all ns]
theorem Nd.constQ_eq (n : Nd) : n.constQ = if n.kind = 2 then n.leafQ else if n.kind = 3 then decide (n.text = []) && rightW n.names && decide ((n.kids.length : Int) = 0)
    else if n.kind = 4 then n.bareQ && decide ((0 : Int) < n.kids.length) && n.kids.all Nd.constQ else if n.kind = 5 then n.bareQ && n.kids.all Nd.ruleQ else false := by
  cases n; rw [← constsQ_all]; rw [Nd.constQ]; rfl
def headQ (f : Nd → Bool) : List Nd → Bool
  | [] => false
  | n :: _ => f n
mutual
def Nd.labelQ : Nd → Bool
  | .mk k p t ws ks =>
    if k = 1 then (Nd.mk k p t ws ks).leafQ
    else if k = 7 then (Nd.mk k p t ws ks).bareQ && decide ((ks.length : Int) = 1) && headQ Nd.constQ ks
    else if k = 8 ∨ k = 9 then (Nd.mk k p t ws ks).bareQ && decide ((0 : Int) < ks.length) && labelsQ ks
    else false
def labelsQ : List Nd → Bool
  | [] => true
  | n :: ns => n.labelQ && labelsQ ns
end
theorem labelsQ_all : ∀ l, labelsQ l = l.all Nd.labelQ
  | [] => rfl
  | n :: ns => by simp [labelsQ, labelsQ_all ns]
theorem Nd.labelQ_eq (n : Nd) : n.labelQ = if n.kind = 1 then n.leafQ else if n.kind = 7 then n.bareQ && decide ((n.kids.length : Int) = 1) && headQ Nd.constQ n.kids
    else if n.kind = 8 ∨ n.kind = 9 then n.bareQ && decide ((0 : Int) < n.kids.length) && n.kids.all Nd.labelQ else false := by
  cases n; rw [← labelsQ_all]; rw [Nd.labelQ]; rfl
end Go.Am

namespace Go.Am
def badV (o : Option Int) : List V := [.bool o.isSome, .int .i64 (o.getD 0)]
def fltV (o : Option Int) : List V := [.int .i64 (if o.isSome then 4 else 0), .int .i64 (o.getD 0)]
def gotV (g : B64 × Option Int) : List V := [.int .u64 (g.1.toNat : Nat), .bool g.2.isSome, .int .i64 (g.2.getD 0)]
def plcF (l : List (List UInt8)) (s : B64) : List Word → B64 × Option Int
  | [] => (s, none)
  | w :: ws => match findS l w.text with | none => (0#64, some w.pos) | some k => plcF l (withB s (k : Nat)) ws
theorem plcF_bad {l : List (List UInt8)} {p : Int} : ∀ {ws : List Word} {s : B64}, (plcF l s ws).2 = some p → plcF l s ws = (0#64, some p)
  | [], s, h => by simp [plcF] at h
  | w :: ws, s, h => by
    simp only [plcF] at h ⊢
    split
    · rename_i hf; rw [hf] at h; simp only at h; rw [h]
    · rename_i k hf; rw [hf] at h; exact plcF_bad h
def rulF (f : Fct) (s : B64) : List Nd → B64 × Option Int
  | [] => (s, none)
  | k :: ks => match findS f.names k.text with
    | none => (0#64, some k.pos)
    | some o => match (plcF f.names 0#64 k.names).2 with
      | some p => (0#64, some p)
      | none => rulF f (s ||| ruleG f.rel o (plcF f.names 0#64 k.names).1) ks
def rulP (f : Fct) (s : B64) (bad : Option Int) : List Nd → B64 × Option Int
  | [] => (s, bad)
  | k :: ks => match findS f.names k.text with
    | none => (0#64, bad.or (some k.pos))
    | some o => rulP f (s ||| ruleG f.rel o (plcF f.names 0#64 k.names).1) (bad.or (plcF f.names 0#64 k.names).2) ks
theorem rulP_bad {f : Fct} {p : Int} : ∀ {ks : List Nd} {s : B64}, (rulP f s (some p) ks).2 = some p
  | [], _ => rfl
  | k :: ks, s => by
    simp only [rulP]
    split
    · rfl
    · exact rulP_bad
theorem rulP_eq {f : Fct} : ∀ {ks : List Nd} {s : B64}, (rulP f s none ks).2 = (rulF f s ks).2 ∧ ((rulF f s ks).2 = none → (rulP f s none ks).1 = (rulF f s ks).1)
  | [], _ => ⟨rfl, fun _ => rfl⟩
  | k :: ks, s => by
    simp only [rulP, rulF]
    split
    · exact ⟨rfl, fun h => by simp at h⟩
    · split
      · rename_i o _ p hp
        rw [hp]
        exact ⟨rulP_bad, fun h => by simp at h⟩
      · rename_i hp
        rw [hp]
        exact rulP_eq
def ptF (f : Fct) (n : Nd) : B64 × Option Int :=
  match findS f.names n.text with
  | none => (0#64, some n.pos)
  | some k => (if f.kind = 4 then belowH f.rel k else (rungW (f.names.length : Nat) (k : Nat)).1, none)
def kindF (f : Fct) : Int := if f.kind = 2 then 3 else if f.kind = 3 then 5 else 2
def wrdF (f : Fct) (n : Nd) : B64 × Option Int :=
  if n.kind = kindF f then (if f.kind = 2 then plcF f.names 0#64 n.names else if f.kind = 3 then rulF f 0#64 n.kids else ptF f n) else (0#64, some n.pos)
def wrdP (f : Fct) (n : Nd) (bad : Option Int) : B64 × Option Int :=
  if n.kind = kindF f then (if f.kind = 2 then ((plcF f.names 0#64 n.names).1, bad.or (plcF f.names 0#64 n.names).2) else if f.kind = 3 then rulP f 0#64 bad n.kids else ((ptF f n).1, bad.or (ptF f n).2)) else (0#64, bad.or (some n.pos))
theorem wrdP_bad {f : Fct} {n : Nd} {p : Int} : (wrdP f n (some p)).2 = some p := by
  unfold wrdP; split
  · split
    · rfl
    · split
      · exact rulP_bad
      · rfl
  · rfl
theorem wrdP_eq {f : Fct} {n : Nd} : (wrdP f n none).2 = (wrdF f n).2 ∧ ((wrdF f n).2 = none → (wrdP f n none).1 = (wrdF f n).1) := by
  unfold wrdP wrdF; split
  · split
    · simp
    · split
      · exact rulP_eq
      · simp
  · simp
def nd0 : Nd := .mk 0 0 [] [] []
def wrdI (s : Shp) (ks : List Nd) (i : Nat) : B64 × Option Int := wrdF (s.facs.getD i .zero) (ks.getD i nd0)
def elmGo (s : Shp) (ks : List Nd) : Elm × Option Int :=
  match (List.range s.facs.length).find? fun i => (wrdI s ks i).2.isSome with
  | some i => (.zero, (wrdI s ks i).2)
  | none => (Elm.of fun j => if j < s.facs.length then (wrdI s ks j).1 else 0#64, none)
def partsF (s : Shp) (n : Nd) : List Nd := if s.tuple then n.kids else [n]
def partsQ (s : Shp) (n : Nd) : Bool := !s.tuple || (decide (n.kind = 4) && decide (n.kids.length = s.facs.length))
def elemF (s : Shp) (n : Nd) : Elm × Option Int := if partsQ s n && shpR s && n.constQ then elmGo s (partsF s n) else (.zero, some n.pos)
def goI (s : Shp) (ks : List Nd) (i : Nat) (x : Elm × Option Int) : Prop :=
  (x.2 = none ∧ (∀ k, k < i → (wrdI s ks k).2 = none) ∧ x.1 = Elm.of fun j => if j < i then (wrdI s ks j).1 else 0#64) ∨
  (x.2.isSome = true ∧ ∃ k, k < i ∧ (wrdI s ks k).2 = x.2 ∧ ∀ j, j < k → (wrdI s ks j).2 = none)
theorem goI_zero {s : Shp} {ks : List Nd} : goI s ks 0 (.zero, none) := .inl ⟨rfl, fun k h => by omega, Elm.zero_of⟩
theorem goI_step {s : Shp} {ks : List Nd} {i : Nat} {e : Elm} {o : Option Int} (h : goI s ks i (e, o)) :
    goI s ks (i + 1) (e.put i (wrdP (s.facs.getD i .zero) (ks.getD i nd0) o).1, (wrdP (s.facs.getD i .zero) (ks.getD i nd0) o).2) := by
  rcases h with ⟨h1, h2, h3⟩ | ⟨h1, k, h2, h3, h4⟩
  · simp only at h1 h3
    subst h1; subst h3
    obtain ⟨e1, e2⟩ := @wrdP_eq (s.facs.getD i .zero) (ks.getD i nd0)
    cases hb : (wrdF (s.facs.getD i .zero) (ks.getD i nd0)).2 with
    | none =>
      left
      refine ⟨by simp only; rw [e1, hb], fun k hk => ?_, ?_⟩
      · rcases Nat.lt_succ_iff_lt_or_eq.1 hk with h | rfl
        · exact h2 k h
        · exact hb
      · simp only; rw [e2 hb]; exact Elm.fill (f := fun j => (wrdI s ks j).1)
    | some p =>
      right
      refine ⟨by simp only; rw [e1, hb]; rfl, i, by omega, by simp only; rw [e1]; rfl, h2⟩
  · simp only at h1 h3
    obtain ⟨p, rfl⟩ := Option.isSome_iff_exists.1 h1
    right
    exact ⟨by simp only; rw [wrdP_bad]; rfl, k, by omega, by simp only; rw [wrdP_bad]; exact h3, h4⟩
theorem goI_end {s : Shp} {ks : List Nd} {x : Elm × Option Int} (h : goI s ks s.facs.length x) : elmGo s ks = if x.2.isSome then (.zero, x.2) else (x.1, none) := by
  rcases h with ⟨h1, h2, h3⟩ | ⟨h1, k, h2, h3, h4⟩
  · have e : (List.range s.facs.length).find? (fun i => (wrdI s ks i).2.isSome) = none := by
      rw [List.find?_eq_none]; intro i hi
      rw [h2 i (by simpa using hi)]; simp
    rw [elmGo, e, h1, h3]; rfl
  · have e : (List.range s.facs.length).find? (fun i => (wrdI s ks i).2.isSome) = some k := by
      rw [List.find?_eq_some_iff_append]
      refine ⟨by rw [h3]; exact h1, List.range k, List.range' (k + 1) (s.facs.length - (k + 1)), ?_, fun a ha => by rw [h4 a (by simpa using ha)]; rfl⟩
      rw [List.range_eq_range', List.range_eq_range', ← List.range'_succ]
      have := List.range'_append (s := 0) (m := k) (n := s.facs.length - k) (step := 1)
      simp only [Nat.one_mul, Nat.zero_add] at this
      rw [show s.facs.length - (k + 1) + 1 = s.facs.length - k by omega, this]; congr 1; omega
    rw [elmGo, e, if_pos h1]
    simp only [h3]
theorem elmGo_bad {s : Shp} {ks : List Nd} {i : Nat} {p : Int} (hi : i < s.facs.length) (h : ∀ k, k < i → (wrdI s ks k).2 = none) (hb : (wrdI s ks i).2 = some p) : elmGo s ks = (.zero, some p) := by
  have := goI_end (s := s) (ks := ks) (x := (.zero, some p)) (.inr ⟨rfl, i, hi, hb, h⟩)
  rw [this]; rfl
theorem elmGo_ok {s : Shp} {ks : List Nd} (h : ∀ k, k < s.facs.length → (wrdI s ks k).2 = none) : elmGo s ks = (Elm.of fun j => if j < s.facs.length then (wrdI s ks j).1 else 0#64, none) := by
  have := goI_end (s := s) (ks := ks) (x := (Elm.of fun j => if j < s.facs.length then (wrdI s ks j).1 else 0#64, none)) (.inl ⟨rfl, h, rfl⟩)
  rw [this]; rfl
theorem elm_fillI {s : Shp} {ks : List Nd} {i : Nat} : (Elm.of fun j => if j < i then (wrdI s ks j).1 else 0#64).put i (wrdI s ks i).1 = Elm.of fun j => if j < i + 1 then (wrdI s ks j).1 else 0#64 := Elm.fill (f := fun j => (wrdI s ks j).1)
end Go.Am

namespace Go.Am
mutual
def Nd.cnt : Nd → Nat
  | .mk _ _ _ ws ks => 1 + ws.length + cnts ks
def cnts : List Nd → Nat
  | [] => 0
  | n :: ns => n.cnt + cnts ns
end
theorem cnts_append : ∀ a b : List Nd, cnts (a ++ b) = cnts a + cnts b
  | [], b => by simp [cnts]
  | x :: xs, b => by simp only [List.cons_append, cnts, cnts_append xs b]; omega
theorem cnts_at {l : List Nd} {i : Nat} (h : i < l.length) : cnts (l.take (i + 1)) = cnts (l.take i) + l[i].cnt := by
  rw [List.take_add_one, List.getElem?_eq_getElem h, cnts_append]; simp [cnts]
theorem cnts_take (l : List Nd) (i : Nat) : cnts (l.take i) ≤ cnts l := by
  have := cnts_append (l.take i) (l.drop i)
  rw [List.take_append_drop] at this
  omega
theorem wlen (l : List Word) : l.length ≤ wsum l := by
  unfold wsum
  induction l with
  | nil => simp
  | cons w ws ih => simp only [List.map_cons, List.sum_cons, List.length_cons]; omega
mutual
theorem cnt_wt : ∀ n : Nd, n.cnt ≤ n.wt
  | .mk k p t ws ks => by
    have := cnts_wt ks
    have := wlen ws
    simp only [Nd.cnt, Nd.wt]; omega
theorem cnts_wt : ∀ l : List Nd, cnts l ≤ wts l
  | [] => by simp [cnts, wts]
  | n :: ns => by
    have := cnt_wt n
    have := cnts_wt ns
    simp only [cnts, wts]; omega
end
end Go.Am

namespace Go.Am
structure Ltc where
  name : List UInt8
  shape : Shp
def Ltc.enc (l : Ltc) : List V := .str l.name :: l.shape.enc
structure Vrb where
  name : List UInt8
  kind : Int
  lat : Int
def Vrb.enc (v : Vrb) : List V := [.str v.name, .int .i64 v.kind, .int .i64 v.lat]
structure Scp where
  lats : List Ltc
  vars : List Vrb
def Scp.enc (s : Scp) : List V := [.sl .no 3 (s.lats.map Ltc.enc), .sl .no 3 (s.vars.map Vrb.enc)]
section
variable {l : Ltc} {v : Vrb} {s : Scp} {n : Nat} {a b c : V}
theorem Scp.r_len : s.enc.length = 2 := rfl
theorem Scp.r_one : oneL s.enc = true := rfl
theorem Scp.r_nol : nolL s.enc = true := rfl
theorem Scp.r_er : eraseL s.enc = s.enc := rfl
theorem Scp.r_lo : loL n s.enc = true := rfl
theorem Scp.r_tk : takeN 2 s.enc = some s.enc := rfl
theorem Scp.r_ld : ldC true 2 s.enc = some (.agg s.enc) := rfl
theorem Scp.r_has : hasN 2 s.enc = true := rfl
theorem Scp.r_ov : over [a, b] s.enc = s.enc := rfl
theorem Scp.r_l : ldC false 1 s.enc = some (.sl .no 3 (s.lats.map Ltc.enc)) := rfl
theorem Scp.r_v : ldC false 1 (s.enc.drop 1) = some (.sl .no 3 (s.vars.map Vrb.enc)) := rfl
theorem Vrb.r_n : ldC false 1 v.enc = some (.str v.name) := rfl
theorem Vrb.r_k : ldC false 1 (v.enc.drop 1) = some (.int .i64 v.kind) := rfl
theorem Vrb.r_l : ldC false 1 (v.enc.drop 2) = some (.int .i64 v.lat) := rfl
theorem Ltc.r_n : ldC false 1 l.enc = some (.str l.name) := rfl
theorem Ltc.r_st : takeN 2 (l.enc.drop 1) = some l.shape.enc := rfl
def Scp.rec_ := And.intro @Scp.r_len <| And.intro @Scp.r_one <| And.intro @Scp.r_nol <| And.intro @Scp.r_er <| And.intro @Scp.r_lo <| And.intro @Scp.r_tk <| And.intro @Scp.r_ld <| And.intro @Scp.r_has <| And.intro @Scp.r_ov <| And.intro @Scp.r_l <| And.intro @Scp.r_v <| And.intro @Vrb.r_n <| And.intro @Vrb.r_k <| And.intro @Vrb.r_l <| And.intro @Ltc.r_n @Ltc.r_st
end
structure Ins where
  op : Int
  n : Int
  c : Elm
def Ins.enc (i : Ins) : List V := .int .i64 i.op :: .int .i64 i.n :: i.c.enc
def Ins.zero : Ins := ⟨0, 0, .zero⟩
theorem Ins.ext' {a b : Ins} (h1 : a.op = b.op) (h2 : a.n = b.n) (h3 : a.c = b.c) : a = b := by cases a; cases b; simp only at h1 h2 h3; subst h1; subst h2; subst h3; rfl
instance : DecidableEq Ins := fun a b => if h : a.op = b.op ∧ a.n = b.n ∧ a.c = b.c then isTrue (Ins.ext' h.1 h.2.1 h.2.2) else isFalse fun e => h (e ▸ ⟨rfl, rfl, rfl⟩)
section
variable {i j : Ins} {n : Nat} {x y : Int} {e : Elm}
theorem Ins.r_len : i.enc.length = 10 := by simp [Ins.enc, Elm.r_len]
theorem Ins.r_one : oneL i.enc = true := by simp [Ins.enc, oneL, V.one, Elm.r_one]
theorem Ins.r_nol : nolL i.enc = true := by simp [Ins.enc, nolL, V.nol, Elm.r_nol]
theorem Ins.r_er : eraseL i.enc = i.enc := by simp [Ins.enc, eraseL, V.erase, Elm.r_er]
theorem Ins.r_lo : loL n i.enc = true := by simp [Ins.enc, loL, V.lo, Elm.r_lo]
theorem Ins.r_tk : takeN 10 i.enc = some i.enc := by have := takeN_all (c := i.enc); rwa [Ins.r_len] at this
theorem Ins.r_ld : ldC true 10 i.enc = some (.agg i.enc) := by rw [ldC_agg, Ins.r_tk]; rfl
theorem Ins.r_has : hasN 10 i.enc = true := by have := hasN_all (c := i.enc); rwa [Ins.r_len] at this
theorem Ins.r_ov : over j.enc i.enc = i.enc := over_all (by rw [Ins.r_len, Ins.r_len])
theorem Ins.r_o : ldC false 1 i.enc = some (.int .i64 i.op) := rfl
theorem Ins.r_n : ldC false 1 (i.enc.drop 1) = some (.int .i64 i.n) := rfl
theorem Ins.r_ct : takeN 8 (i.enc.drop 2) = some i.c.enc := by show takeN 8 i.c.enc = _; exact Elm.r_tk
theorem Ins.r_zero : insZ = Ins.zero.enc := by
  show V.int .i64 0 :: V.int .i64 0 :: elmZ = _
  rw [Elm.r_zero]; rfl
theorem Ins.b_o : over i.enc [.int .i64 x] = (Ins.mk x i.n i.c).enc := by rw [Ins.enc, over_cons, over_nil]; rfl
theorem Ins.b_h : hasN 1 i.enc = true := rfl
theorem Ins.b_h1 : hasN 1 (i.enc.drop 1) = true := rfl
theorem Ins.b_n : setAt i.enc 1 [.int .i64 x] = (Ins.mk i.op x i.c).enc := by rw [Ins.enc, setAt_succ, setAt_zero, over_cons, over_nil]; rfl
theorem Ins.b_h2 : hasN 8 (i.enc.drop 2) = true := by show hasN 8 i.c.enc = true; exact Elm.r_has
theorem Ins.b_c : setAt i.enc 2 e.enc = (Ins.mk i.op i.n e).enc := by rw [Ins.enc, setAt_succ, setAt_succ, setAt_zero, Elm.r_ov]; rfl
theorem Ins.r_eq : eqC [1, 1, 1, 1, 1, 1, 1, 1, 1, 1] i.enc j.enc = some (decide (i = j)) := by
  rw [Ins.enc, Ins.enc, eqC_int, eqC_int, Elm.r_eq, andM_some, andM_some]
  congr 1
  rw [← Bool.decide_and, ← Bool.decide_and]
  exact decide_eq_decide.2 ⟨fun h => Ins.ext' h.1 h.2.1 h.2.2, fun h => h ▸ ⟨rfl, rfl, rfl⟩⟩
def Ins.rec_ := And.intro @Ins.r_len <| And.intro @Ins.r_one <| And.intro @Ins.r_nol <| And.intro @Ins.r_er <| And.intro @Ins.r_lo <| And.intro @Ins.r_tk <| And.intro @Ins.r_ld <| And.intro @Ins.r_has <| And.intro @Ins.r_ov <| And.intro @Ins.r_o <| And.intro @Ins.r_n <| And.intro @Ins.r_ct <| And.intro @Ins.r_zero <| And.intro @Ins.b_o <| And.intro @Ins.b_h <| And.intro @Ins.b_h1 <| And.intro @Ins.b_n <| And.intro @Ins.b_h2 <| And.intro @Ins.b_c @Ins.r_eq
end
def nameL (l : List Ltc) (t : List UInt8) (i : Nat) : Bool := match l[i]? with | some x => decide (x.name = t) | none => false
def nameV (l : List Vrb) (t : List UInt8) (i : Nat) : Bool := match l[i]? with | some x => decide (x.name = t) | none => false
def findL (l : List Ltc) (t : List UInt8) : Option Nat := (List.range l.length).find? (nameL l t)
def findV (l : List Vrb) (t : List UInt8) : Option Nat := (List.range l.length).find? (nameV l t)
def varF (s : Scp) (lat : Nat) (t : List UInt8) : Option Ins :=
  match findV s.vars t with
  | none => none
  | some k => match s.vars[k]? with
    | some v => if v.kind = 1 ∧ v.lat = (lat : Nat) then some ⟨1, k, .zero⟩ else none
    | none => none
def shapeF (s : Scp) (lat : Nat) : Shp := match s.lats[lat]? with | some l => l.shape | none => ⟨false, []⟩
def leafF (s : Scp) (lat : Nat) (n : Nd) : Option Ins :=
  if n.kind = 1 then varF s lat n.text
  else match (elemF (shapeF s lat) (n.kids.getD 0 nd0)).2 with | none => some ⟨2, 0, (elemF (shapeF s lat) (n.kids.getD 0 nd0)).1⟩ | some _ => none
def opF (n : Nd) : Ins := ⟨if n.kind = 9 then 4 else 3, n.kids.length, .zero⟩
mutual
def compF (s : Scp) (lat : Nat) : Nd → Option (List Ins)
  | .mk k p t ws ks => if k = 1 ∨ k = 7 then (leafF s lat (.mk k p t ws ks)).map fun i => [i] else (compL s lat ks).map fun l => l ++ [opF (.mk k p t ws ks)]
def compL (s : Scp) (lat : Nat) : List Nd → Option (List Ins)
  | [] => some []
  | n :: ns => match compF s lat n with | none => none | some l => (compL s lat ns).map fun m => l ++ m
end
theorem compF_eq {s : Scp} {lat : Nat} (n : Nd) : compF s lat n = if n.kind = 1 ∨ n.kind = 7 then (leafF s lat n).map fun i => [i] else (compL s lat n.kids).map fun l => l ++ [opF n] := by
  cases n; rw [compF]; rfl
def compR (s : Scp) (lat : Int) (n : Nd) : Option (List Ins) := if 0 ≤ lat ∧ lat < s.lats.length ∧ n.labelQ = true then compF s lat.toNat n else none
def restF (s : Scp) (lat : Nat) (f : Nd × Nat) : Option (List Ins) :=
  if f.1.kind = 1 ∨ f.1.kind = 7 then (leafF s lat f.1).map fun i => [i] else (compL s lat (f.1.kids.drop f.2)).map fun l => l ++ [opF f.1]
theorem restF_zero {s : Scp} {lat : Nat} {n : Nd} : restF s lat (n, 0) = compF s lat n := by rw [restF, compF_eq]; simp
def finF (s : Scp) (lat : Nat) : List (Nd × Nat) → List Ins → Option (List Ins)
  | [], out => some out
  | f :: fs, out => match restF s lat f with | none => none | some l => finF s lat fs (out ++ l)
theorem restF_kid {s : Scp} {lat : Nat} {n : Nd} {d : Nat} {fs : List (Nd × Nat)} {out : List Ins} (h : ¬ (n.kind = 1 ∨ n.kind = 7)) (hd : d < n.kids.length) :
    finF s lat ((n, d) :: fs) out = finF s lat ((n.kids[d], 0) :: (n, d + 1) :: fs) out := by
  simp only [finF, restF_zero]
  rw [restF, if_neg h, restF, if_neg h, List.drop_eq_getElem_cons hd, compL]
  cases compF s lat n.kids[d] with
  | none => rfl
  | some l =>
    cases compL s lat (n.kids.drop (d + 1)) with
    | none => rfl
    | some m => simp only [Option.map_some, List.append_assoc]
theorem restF_end {s : Scp} {lat : Nat} {n : Nd} {d : Nat} {fs : List (Nd × Nat)} {out : List Ins} (h : ¬ (n.kind = 1 ∨ n.kind = 7)) (hd : n.kids.length ≤ d) :
    finF s lat ((n, d) :: fs) out = finF s lat fs (out ++ [opF n]) := by
  simp only [finF]
  rw [restF, if_neg h, List.drop_of_length_le hd, compL]; rfl
theorem restF_leaf {s : Scp} {lat : Nat} {n : Nd} {d : Nat} {fs : List (Nd × Nat)} {out : List Ins} (h : n.kind = 1 ∨ n.kind = 7) :
    finF s lat ((n, d) :: fs) out = match leafF s lat n with | none => none | some i => finF s lat fs (out ++ [i]) := by
  simp only [finF]
  rw [restF, if_pos h]
  cases leafF s lat n <;> rfl
def mesF : List (Nd × Nat) → Nat
  | [] => 0
  | f :: fs => 2 * cnts (f.1.kids.drop f.2) + 1 + mesF fs
theorem Nd.cnt_pos (n : Nd) : 1 + cnts n.kids ≤ n.cnt := by cases n; simp only [Nd.cnt, Nd.kids]; omega
theorem mes_kid {n : Nd} {d : Nat} {fs : List (Nd × Nat)} (hd : d < n.kids.length) : mesF ((n.kids[d], 0) :: (n, d + 1) :: fs) < mesF ((n, d) :: fs) := by
  simp only [mesF, List.drop_zero]
  have := Nd.cnt_pos n.kids[d]
  rw [List.drop_eq_getElem_cons hd, cnts]
  omega
mutual
theorem compF_len {s : Scp} {lat : Nat} : ∀ (n : Nd) {l : List Ins}, compF s lat n = some l → l.length ≤ n.cnt
  | .mk k p t ws ks, l, h => by
    rw [compF] at h
    split at h
    · simp only [Option.map_eq_some_iff] at h
      obtain ⟨i, _, rfl⟩ := h
      simp only [Nd.cnt, List.length_cons, List.length_nil]; omega
    · simp only [Option.map_eq_some_iff] at h
      obtain ⟨m, hm, rfl⟩ := h
      have := compL_len ks hm
      simp only [Nd.cnt, List.length_append, List.length_cons, List.length_nil]; omega
theorem compL_len {s : Scp} {lat : Nat} : ∀ (ks : List Nd) {l : List Ins}, compL s lat ks = some l → l.length ≤ cnts ks
  | [], l, h => by rw [compL] at h; cases h; simp
  | n :: ns, l, h => by
    rw [compL] at h
    cases hn : compF s lat n with
    | none => rw [hn] at h; simp at h
    | some a =>
      rw [hn] at h
      simp only [Option.map_eq_some_iff] at h
      obtain ⟨b, hb, rfl⟩ := h
      have := compF_len n hn
      have := compL_len ns hb
      simp only [cnts, List.length_append]; omega
end
theorem compL_snoc {s : Scp} {lat : Nat} {n : Nd} : ∀ {l : List Nd} {a b : List Ins}, compL s lat l = some a → compF s lat n = some b → compL s lat (l ++ [n]) = some (a ++ b)
  | [], a, b, h1, h2 => by rw [compL] at h1; cases h1; simp [compL, h2]
  | m :: l, a, b, h1, h2 => by
    rw [compL] at h1
    cases hm : compF s lat m with
    | none => rw [hm] at h1; simp at h1
    | some c =>
      rw [hm] at h1
      simp only [Option.map_eq_some_iff] at h1
      obtain ⟨d, hd, rfl⟩ := h1
      rw [List.cons_append, compL, hm, compL_snoc hd h2]
      simp
theorem compL_none {s : Scp} {lat : Nat} {n : Nd} : ∀ {l : List Nd}, n ∈ l → compF s lat n = none → compL s lat l = none
  | [], h, _ => by simp at h
  | m :: l, h, h2 => by
    rw [compL]
    rcases List.mem_cons.1 h with rfl | h
    · rw [h2]
    · cases compF s lat m with
      | none => rfl
      | some a => simp only; rw [compL_none h h2]; rfl
theorem cnt_names (n : Nd) : n.names.length ≤ n.cnt := by cases n; simp only [Nd.cnt, Nd.names]; omega
theorem cnts_mem {m : Nd} : ∀ {l : List Nd}, m ∈ l → m.cnt ≤ cnts l
  | [], h => by simp at h
  | n :: l, h => by
    simp only [cnts]
    rcases List.mem_cons.1 h with rfl | h
    · omega
    · have := cnts_mem h; omega
theorem cnt_kid {n m : Nd} (h : m ∈ n.kids) : m.cnt < n.cnt := by
  have := cnts_mem h
  have := Nd.cnt_pos n; omega
theorem cnts_len : ∀ (l : List Nd), l.length ≤ cnts l
  | [] => by simp
  | n :: l => by
    have := cnts_len l
    have := Nd.cnt_pos n
    simp only [cnts, List.length_cons]; omega
theorem cnt_kids (n : Nd) : n.kids.length ≤ n.cnt := by
  have := cnts_len n.kids
  have := Nd.cnt_pos n; omega
def Scp.ok (s : Scp) : Prop := s.lats.length ≤ 100000 ∧ s.vars.length ≤ 100000 ∧ ∀ l ∈ s.lats, l.shape.ok
theorem label_kids {n : Nd} (h : n.labelQ = true) (h1 : ¬ (n.kind = 1 ∨ n.kind = 7)) : ∀ m ∈ n.kids, m.labelQ = true := by
  rw [Nd.labelQ_eq, if_neg (fun e => h1 (.inl e)), if_neg (fun e => h1 (.inr e))] at h
  split at h
  · simp only [Bool.and_eq_true, List.all_eq_true] at h; exact h.2
  · simp at h
theorem label_const {n : Nd} (h : n.labelQ = true) (h1 : n.kind = 7) : n.kids.length = 1 := by
  rw [Nd.labelQ_eq, if_neg (by rw [h1]; decide), if_pos h1] at h
  simp only [Bool.and_eq_true, decide_eq_true_eq] at h
  omega
end Go.Am

namespace Go.Am
def deepF : List Ins → Nat → Option Nat
  | [], d => some d
  | i :: l, d => if i.op = 1 ∨ i.op = 2 then deepF l (d + 1) else if i.op = 3 ∨ i.op = 4 then (if i.n < 1 ∨ (d : Nat) < i.n then none else deepF l (d - (i.n.toNat - 1))) else none
def rightC (l : List Ins) : Bool := decide (deepF l 0 = some 1)
def stepE (s : Shp) (op : Int) (a b : Elm) : Elm := if op = 3 then joinE s a b else meetE a b
def foldE (s : Shp) (op : Int) : List Elm → Elm
  | [] => .zero
  | [x] => x
  | x :: y :: l => stepE s op x (foldE s op (y :: l))
theorem foldE_cons {s : Shp} {op : Int} {x : Elm} {l : List Elm} (h : l ≠ []) : foldE s op (x :: l) = stepE s op x (foldE s op l) := by
  cases l with
  | nil => exact absurd rfl h
  | cons y l => rfl
theorem foldE_drop {s : Shp} {op : Int} {l : List Elm} {i : Nat} (h : i + 1 < l.length) : foldE s op (l.drop i) = stepE s op (l[i]'(by omega)) (foldE s op (l.drop (i + 1))) := by
  rw [List.drop_eq_getElem_cons (by omega), foldE_cons]
  intro e
  have := congrArg List.length e
  rw [List.length_drop, List.length_nil] at this; omega
theorem foldE_drop' {s : Shp} {op : Int} {l : List Elm} {i j : Nat} (hj : j = i + 1) (h : j < l.length) (hi : i < l.length) : foldE s op (l.drop i) = stepE s op l[i] (foldE s op (l.drop j)) := by
  subst hj; exact foldE_drop h
def runF (s : Shp) (v : List Elm) : List Ins → List Elm → Option (List Elm)
  | [], st => some st
  | i :: l, st =>
    if i.op = 1 then (if 0 ≤ i.n ∧ i.n < v.length then runF s v l (st ++ [v.getD i.n.toNat .zero]) else none)
    else if i.op = 2 then runF s v l (st ++ [i.c])
    else runF s v l (st.take (st.length - i.n.toNat) ++ [foldE s i.op (st.drop (st.length - i.n.toNat))])
def evalF (s : Shp) (l : List Ins) (v : List Elm) : Option Elm := if rightC l then (runF s v l []).map fun st => st.getD 0 .zero else none
def evalT (o : Option Elm) : V := .tup [.agg (o.getD .zero).enc, .bool o.isSome]
theorem deep_in {i : Ins} {l : List Ins} {d : Nat} (h : deepF (i :: l) d ≠ none) : (i.op = 1 ∨ i.op = 2) ∧ deepF (i :: l) d = deepF l (d + 1) ∨
    ((i.op = 3 ∨ i.op = 4) ∧ ¬ (i.op = 1 ∨ i.op = 2) ∧ 1 ≤ i.n ∧ i.n ≤ (d : Nat) ∧ deepF (i :: l) d = deepF l (d - (i.n.toNat - 1))) := by
  rw [deepF] at h ⊢
  by_cases h1 : i.op = 1 ∨ i.op = 2
  · left; rw [if_pos h1]; exact ⟨h1, rfl⟩
  · rw [if_neg h1] at h ⊢
    by_cases h2 : i.op = 3 ∨ i.op = 4
    · rw [if_pos h2] at h ⊢
      by_cases h3 : i.n < 1 ∨ (d : Nat) < i.n
      · rw [if_pos h3] at h; exact absurd rfl h
      · rw [if_neg h3]; right; exact ⟨h2, h1, by omega, by omega, rfl⟩
    · rw [if_neg h2] at h; exact absurd rfl h
def big7 (s : Shp) : Bool := decide (12 < s.facs.length) || s.facs.any fun f => decide (70 < f.names.length) || f.names.any fun t => decide (40 < t.length)
def big13 (s : Scp) : Bool := decide (20 < s.lats.length) || decide (80 < s.vars.length) || (s.lats.any fun l => big7 l.shape || decide (40 < l.name.length)) || s.vars.any fun v => decide (40 < v.name.length)
theorem big7_ok {s : Shp} (h : big7 s = false) : s.ok := by
  simp only [big7, Bool.or_eq_false_iff, List.any_eq_false, decide_eq_false_iff_not, Bool.not_eq_true] at h
  refine ⟨by omega, fun f hf => ?_⟩
  have := (h.2 f hf).1; omega
theorem big13_ok {s : Scp} (h : big13 s = false) : s.ok := by
  simp only [big13, Bool.or_eq_false_iff, List.any_eq_false, decide_eq_false_iff_not, Bool.not_eq_true] at h
  exact ⟨by omega, by omega, fun l hl => big7_ok (h.1.2 l hl).1⟩
end Go.Am

namespace Go.Am
def loT : List UInt8 := [108, 111]
def hiT : List UInt8 := [104, 105]
def exF : Fct := ⟨1, [loT, hiT], .zero⟩
def exS : Scp := ⟨[⟨[107], ⟨false, [exF]⟩⟩], [⟨[120], 1, 0⟩]⟩
def exN : Nd := .mk 8 0 [] [] [.mk 1 0 [120] [] [], .mk 7 0 [] [] [.mk 2 0 hiT [] []]]
def exC : List Ins := [⟨1, 0, .zero⟩, ⟨2, 0, (elemF ⟨false, [exF]⟩ (.mk 2 0 hiT [] [])).1⟩, ⟨3, 2, .zero⟩]
def exE : Elm := Elm.zero.put 0 1#64
theorem ex_code : compR exS 0 exN = some exC := by decide +kernel
theorem ex_run : evalF ⟨false, [exF]⟩ exC [.zero] = some exE := by decide +kernel
theorem ex_right : rightC exC = true := by decide +kernel
theorem ex_last : ∀ i (hi : i < exC.length), exC[i].op = 3 ∨ exC[i].op = 4 → i + 1 = exC.length := by decide +kernel
theorem ex_ok : exS.ok := big13_ok (by decide +kernel)
theorem ex_wt : exN.wt ≤ 100 ∧ exN.cnt ≤ 100 := by decide +kernel
def fctV (k : Int) (m : List (List V)) : List V := .int .i64 k :: .sl .full 1 m :: Rl.zero.enc
section
variable {k x : Int} {m m' : List (List V)}
theorem facZ_eq : facZ = fctV 0 [] := by
  have : facZ = .int .i64 0 :: .sl .full 1 [] :: Rl.zero.enc := by rw [← Rl.r_zero]; rfl
  exact this
theorem fv_h0 : hasN 1 (fctV k m) = true := rfl
theorem fv_h1 : hasN 1 (List.drop 1 (fctV k m)) = true := rfl
theorem fv_o : over (fctV k m) [.int .i64 x] = fctV x m := rfl
theorem fv_s : setAt (fctV k m) 1 [.sl .full 1 m'] = fctV k m' := rfl
theorem fv_len : (fctV k m).length = 67 := by simp [fctV, Rl.r_len]
theorem fv_one : oneL (fctV k m) = true := by simp [fctV, oneL, V.one, Rl.r_one]
theorem fv_nol : nolL (fctV k m) = true := by simp [fctV, nolL, V.nol, Rl.r_nol]
theorem fv_er : eraseL (fctV k m) = .int .i64 k :: .sl .no 1 m :: Rl.zero.enc := by simp [fctV, eraseL, V.erase, Rl.r_er]
theorem fv_ex : eraseL (fctV 1 [[.str [108, 111]], [.str [104, 105]]]) = exF.enc := by rw [fv_er]; rfl
theorem fv_lo {n : Nat} : loL n (fctV k m) = true := by simp [fctV, loL, V.lo, Rl.r_lo]
end
def fv_ := And.intro @facZ_eq <| And.intro @fv_h0 <| And.intro @fv_h1 <| And.intro @fv_o <| And.intro @fv_s <| And.intro @fv_len <| And.intro @fv_one <| And.intro @fv_nol <| And.intro @fv_ex @fv_lo
end Go.Am
