/-
  Part 3 of the proof of Reply: a logic over the model, the forms of the functions that the law reaches, and what they compute.
-/
import Derived.Scope
import Derived.IntWalk
import Derived.Test.YthapdcoaahmbiaaDoorReply2
set_option linter.unusedVariables false
set_option linter.unusedSimpArgs false
set_option linter.defProp false
set_option linter.unusedSectionVars false

namespace Go.Am
inductive AC where
  | skip
  | reg (l : List AO)
  | upd (x : AC)
  | draw (l : List (AO × List Nat))
  | drawA (nv : List Nat) (l : List (AO × List Nat))
  | hole (l : List (AO × List Nat)) (h : HI)
  | seq (x y : AC)
  | cond (c : X) (x y : AC)
  | block (id : Nat) (x : AC)
  | loop (x : AC)
  | scope (x : AC)
  | rangeS (l : List AO) (x : X) (dI dN dM out nxt : Nat) (y : AC)
  | exit (id : Nat)
  | ret
structure Hint where
  out : List Nat := []
  upd : List Nat := []
def AC.updIf (b : Bool) (x : AC) : AC := if b then .upd x else x
def lowRange (P : Program) (h : Hint) (ops0 ops1 : Array Oper) (dM' out out' nxt : Nat) (y : Option AC) : Option AC :=
  match ops0.toList.getLast?, ops1.toList, y with
  | some oR, [oN, oM], some y =>
    match oR.op, oR.dst, oR.guard, oN.op, oN.dst, oN.guard, oM.op, oM.dst, oM.guard with
    | .range xt ox, some dI, none, .next (.tmp dI') true, some dN, none, .extract (.tmp dN') 0, some dM, none =>
      match P.underlying xt, lowListH P h.out ops0 ops0.toList.dropLast, lowX P xt ox with
      | some .string, some l, some x => if dI' = dI ∧ dN' = dN ∧ dM' = dM ∧ out' = out then some (.rangeS l x dI dN dM out nxt y) else none
      | _, _, _ => none
    | _, _, _, _, _, _, _, _, _ => none
  | _, _, _ => none
def lowC (P : Program) (h : Hint) : Code → Option AC
  | .skip => some .skip
  | .region id ops false => (lowListH P h.out ops ops.toList).map fun l => AC.updIf (h.upd.contains id) (.reg l)
  | .region id ops true =>
    match lowDraw P ops with
    | some l => some (AC.updIf (h.upd.contains id) (.draw l))
    | none =>
      match lowHole P ops with
      | some p => some (AC.updIf (h.upd.contains id) (.hole p.1 p.2))
      | none => (lowDrawA P ops).map fun p => AC.updIf (h.upd.contains id) (.drawA p.1 p.2)
  | .seq (.region i0 ops0 false) (.block out (.loop (.seq (.region i1 ops1 false) (.seq (.cond (.tmp dM') .skip (.exit out')) (.block nxt b))))) =>
    match lowRange P h ops0 ops1 dM' out out' nxt (lowC P h b) with
    | some r => some r
    | none => match lowC P h (.region i0 ops0 false), lowC P h (.block out (.loop (.seq (.region i1 ops1 false) (.seq (.cond (.tmp dM') .skip (.exit out')) (.block nxt b))))) with | some x, some y => some (.seq x y) | _, _ => none
  | .seq a b => match lowC P h a, lowC P h b with | some x, some y => some (.seq x y) | _, _ => none
  | .cond c a b => match lowX P 0 c, lowC P h a, lowC P h b with | some c, some x, some y => some (.cond c x y) | _, _, _ => none
  | .block id a => (lowC P h a).map (.block id)
  | .loop a => (lowC P h a).map .loop
  | .scope a => (lowC P h a).map .scope
  | .exit id => some (.exit id)
  | .ret => some .ret
  | .label _ => some .skip
  | _ => none
def Upd (st : St) (K : St → Prop) : Prop := ∀ E a, SRel E st a → ∃ E' st', E'.w = E.w ∧ Fr E E' ∧ SRel E' st' a ∧ K st'
theorem Upd.id {st : St} {K : St → Prop} (h : K st) : Upd st K := fun E _ hs => ⟨E, st, rfl, Fr.refl E, hs, h⟩
theorem Upd.bind {st : St} {K K' : St → Prop} (h : Upd st K) (k : ∀ st', K st' → Upd st' K') : Upd st K' := fun E a hs =>
  let ⟨E', st', h1, h2, h3, h4⟩ := h E a hs
  let ⟨E'', st'', k1, k2, k3, k4⟩ := k st' h4 E' a h3
  ⟨E'', st'', k1.trans h1, h2.trans k2, k3, k4⟩
theorem Upd.mono {st : St} {K K' : St → Prop} (h : Upd st K) (k : ∀ st', K st' → K' st') : Upd st K' := h.bind fun st' hk => Upd.id (k st' hk)
def anyAt : List Nat → List V → Option (List V)
  | [], t => some t
  | d :: ds, t => if d < t.length then anyAt ds (t.set d .any) else none
theorem anyAt_spec : ∀ {ds : List Nat} {t t' : List V}, anyAt ds t = some t' → t'.length = t.length ∧ (∀ d ∈ ds, d < t'.length ∧ t'.getD d .any = .any) ∧ (∀ d, t.getD d .any = .any → t'.getD d .any = .any) ∧ ∀ (E : Env) vs, RL E t vs → RL E t' vs
  | [], t, t', h => by simp only [anyAt, Option.some.injEq] at h; subst h; exact ⟨rfl, by simp, fun _ h => h, fun _ _ h => h⟩
  | d :: ds, t, t', h => by
    simp only [anyAt] at h
    split at h
    case isFalse => simp at h
    rename_i hd
    obtain ⟨h1, h2, h3, h4⟩ := anyAt_spec h
    have hlen : t'.length = t.length := by rw [h1]; simp
    refine ⟨hlen, fun x hx => ?_, fun x hx => h3 x ?_, fun E vs hr => h4 E vs ?_⟩
    · rcases List.mem_cons.1 hx with rfl | hx
      · exact ⟨by omega, h3 x (by simp [List.getD, hd])⟩
      · exact h2 x hx
    · by_cases e : x = d
      · subst e; simp [List.getD, hd]
      · simpa [List.getD, List.getElem?_set_ne (Ne.symm e)] using hx
    · have hl := RL_length hr
      have hdv : d < vs.length := by omega
      have := RL_set hr d (x := .any) (v := vs[d]) (by simp [R])
      simpa using this
def LPost {ι : Type} (I : ι → St) (μ : ι → Nat) (Q : Exit → St → Prop) (n : Nat) : Exit → St → Prop
  | .normal, st => Upd st fun st' => ∃ j, st' = I j ∧ μ j < n
  | e, st => Q e st
def AThen (K : St → Prop) (Q : Exit → St → Prop) : Exit → St → Prop
  | .normal, st => K st
  | e, st => Q e st
def RPost (out : Nat) (J : St → Prop) (Q : Exit → St → Prop) : Exit → St → Prop
  | .normal, st => Upd st J
  | .exit id, st => if id = out then Q .normal st else Q (.exit id) st
  | e, st => Q e st
def NoGo (Q : Exit → St → Prop) : Exit → St → Prop
  | .goto _, _ => False
  | e, st => Q e st
def vc (P : Program) : AC → (Exit → St → Prop) → St → Prop
  | .skip, Q, st => Q .normal st
  | .reg l, Q, st => vcOps P l (Q .normal) st
  | .draw l, Q, st => vcD P l [(st.loc, st.out)] [] (Q .normal) st
  | .hole l h, Q, st => vcD P l [(st.loc, st.out)] [] (HoleW h (Q .normal)) st
  | .drawA nv l, Q, st => ∃ t, anyAt nv st.t = some t ∧ vcD P l [(st.loc, st.out)] [] (Q .normal) ⟨t, st.loc, st.out⟩
  | .upd x, Q, st => Upd st fun st' => vc P x Q st'
  | .seq x y, Q, st => vc P x (AThen (vc P y Q) Q) st
  | .cond c x y, Q, st => match ev st c with | .bool b => (b = true → vc P x Q st) ∧ (b = false → vc P y Q st) | _ => False
  | .block id x, Q, st => vc P x (Blk id Q) st
  | .loop x, Q, st => ∃ (ι : Type) (I : ι → St) (μ : ι → Nat), (Upd st fun st' => ∃ i, st' = I i) ∧ ∀ i, vc P x (LPost I μ Q (μ i)) (I i)
  | .scope x, Q, st => vc P x (NoGo Q) st
  | .rangeS l x dI dN dM out nxt y, Q, st => vcOps P l (fun st1 => ∃ s : List UInt8, ev st1 x = .str s ∧ (∀ c ∈ s, c.toNat < 128) ∧ ∃ I : Nat → Nat → St → Prop,
      (∀ b, Upd (st1.put (some dI) (.raw (.pointer (some ⟨b, 0, none⟩)))) (I b 0)) ∧
      (∀ b i st', I b i st' → st'.t.getD dI .any = .raw (.pointer (some ⟨b, 0, none⟩)) ∧ dN < st'.t.length ∧ dM < st'.t.length) ∧
      (∀ b i c st', s[i]? = some c → I b i st' → vc P y (Blk nxt (RPost out (I b (i + 1)) Q)) ((st'.put (some dN) (.tup [.bool true, .int .i64 (i : Nat), .int .i32 (c.toNat : Nat)])).put (some dM) (.bool true))) ∧
      (∀ b st', I b s.length st' → Q .normal ((st'.put (some dN) (.tup [.bool false])).put (some dM) (.bool false)))) st
  | .exit id, Q, st => Q (.exit id) st
  | .ret, Q, st => Q .ret st
theorem pwp_upd {P : Program} {c : Code} {Q : Exit → St → Prop} {st : St} (h : Upd st (pwp P c Q)) : pwp P c Q st := by
  intro E a hs
  obtain ⟨E', st', h1, h2, h3, h4⟩ := h E a hs
  rw [← h1]
  exact wp_mono (h4 E' a h3) fun _ _ _ ⟨E'', st'', k1, k2, k3, k4⟩ => ⟨E'', st'', k1, k2, h2.trans k3, k4⟩
theorem least_of {N : Nat → Prop} : ∀ n, N n → ∃ m, N m ∧ ∀ k, N k → m ≤ k := fun n => by
  induction n using Nat.strongRecOn with
  | ind n ih =>
    intro h
    by_cases hq : ∃ k, N k ∧ k < n
    · obtain ⟨k, h1, h2⟩ := hq; exact ih k h2 h1
    · refine ⟨n, h, fun k hk => ?_⟩
      by_cases hlt : k < n
      · exact absurd ⟨k, hk, hlt⟩ hq
      · omega
theorem pwp_loop {P : Program} {c : Code} {Q : Exit → St → Prop} {st : St} {ι : Type} (I : ι → St) (μ : ι → Nat) (h0 : Upd st fun st' => ∃ i, st' = I i) (hr : ∀ i, pwp P c (LPost I μ Q (μ i)) (I i)) : pwp P (.loop c) Q st := by
  intro E a hs
  obtain ⟨E1, st1, h1, h2, h3, i0, rfl⟩ := h0 E a hs
  classical
  let J : Act → World → Prop := fun a w => ∃ i E', E'.w = w ∧ SRel E' (I i) a ∧ Fr E E'
  let N : Act → World → Nat → Prop := fun a w n => ∃ i E', E'.w = w ∧ SRel E' (I i) a ∧ Fr E E' ∧ μ i = n
  have hL : ∀ a w, (∃ n, N a w n) → ∃ m, N a w m ∧ ∀ k, N a w k → m ≤ k := fun a w h => least_of _ h.choose_spec
  let M : Act → World → Nat := fun a w => if h : ∃ n, N a w n then (hL a w h).choose else 0
  refine wp_loop J M ⟨i0, E1, h1, h3, h2⟩ ?_
  intro a w hJ
  have hex : ∃ n, N a w n := by obtain ⟨i, E', k1, k2, k3⟩ := hJ; exact ⟨μ i, i, E', k1, k2, k3, rfl⟩
  obtain ⟨i, E', k1, k2, k3, k4⟩ := (hL a w hex).choose_spec.1
  have hM : M a w = μ i := by show (if h : ∃ n, N a w n then (hL a w h).choose else 0) = _; rw [dif_pos hex]; exact k4.symm
  subst k1
  refine wp_mono (hr i E' a k2) ?_
  rintro e a' w' ⟨E2, st2, rfl, m2, m3, m4⟩
  cases e with
  | normal =>
    obtain ⟨E3, st3, n1, n2, n3, j, rfl, hlt⟩ := m4 E2 a' m2
    have hN : N a' E2.w (μ j) := ⟨j, E3, n1, n3, (k3.trans m3).trans n2, rfl⟩
    refine ⟨⟨j, E3, n1, n3, (k3.trans m3).trans n2⟩, ?_⟩
    have hle' : M a' E2.w ≤ μ j := by
      show (if h : ∃ n, N a' E2.w n then (hL a' E2.w h).choose else 0) ≤ _
      rw [dif_pos ⟨_, hN⟩]
      exact (hL a' E2.w ⟨_, hN⟩).choose_spec.2 _ hN
    rw [hM]
    omega
  | exit id => exact ⟨E2, st2, rfl, m2, k3.trans m3, m4⟩
  | goto l => exact ⟨E2, st2, rfl, m2, k3.trans m3, m4⟩
  | ret => exact ⟨E2, st2, rfl, m2, k3.trans m3, m4⟩
  | panic c => exact ⟨E2, st2, rfl, m2, k3.trans m3, m4⟩
  | outgrown => exact ⟨E2, st2, rfl, m2, k3.trans m3, m4⟩
section
variable {P : Program}
theorem ops_sound {hn : List Nat} {ops : Array Oper} {K : St → Prop} {Q : Exit → Act → World → Prop} {E0 : Env} {rest : List Nat} (hQ : ∀ E st a, SRel E st a → Fr E0 E → K st → wpOps P ops Q rest a E.w) : ∀ (os : List Oper) (l : List AO) (i : Nat), lowListH P hn ops os = some l →
    (∀ j : Nat, j < os.length → os[j]? = ops[i + j]?) → ∀ E st a, SRel E st a → Fr E0 E → vcOps P l K st → wpOps P ops Q (List.range' i os.length ++ rest) a E.w
  | [], l, i, hl, _, E, st, a, hs, hf, h => by
    simp only [lowListH, Option.some.injEq] at hl
    subst hl
    exact hQ E st a hs hf h
  | o :: os, l, i, hl, hget, E, st, a, hs, hf, h => by
    simp only [lowListH, Option.bind_eq_some_iff, Option.map_eq_some_iff] at hl
    obtain ⟨x, hx, l', hl', rfl⟩ := hl
    have ho : ops[i]? = some o := by have := hget 0 (by simp); simpa using this.symm
    have hget' : ∀ j : Nat, j < os.length → os[j]? = ops[i + 1 + j]? := fun j hj => by
      have := hget (j + 1) (by simp; omega)
      rw [show i + (j + 1) = i + 1 + j from by omega] at this
      simpa using this
    have ih := ops_sound hQ os l' (i + 1) hl' hget'
    have key : ∀ {ao : AOp} {d : Option Tmp}, lowOpB P hn o = ao → d = o.dst → ao.sem P st (fun v st' => vcOps P l' K (st'.put d v)) → o.wp P a E.w (wpOps P ops Q (List.range' (i + 1) os.length ++ rest)) Q := fun {ao d} hao hd hsem => by
      subst hd
      subst hao
      refine Oper.wp_mono ?_ (low_soundB (Q := Q) hs hsem)
      rintro a' w' ⟨E', v, u, st', rfl, hf', hs', hv, rfl, hk⟩
      exact ih E' _ _ (SRel.put hs' hv o.dst) (hf.trans hf') hk
    simp only [List.length_cons, List.range'_succ, List.cons_append, wpOps, ho]
    unfold lowAOH at hx
    cases hg : o.guard with
    | none =>
      rw [hg] at hx
      simp only [Option.some.injEq] at hx
      subst hx
      simp only [vcOps] at h
      rw [if_pos (by simp [Region.wanted, hg])]
      exact .inl (key rfl rfl h)
    | some p =>
      obtain ⟨j, want⟩ := p
      rw [hg] at hx
      simp only at hx
      split at hx
      case h_2 => simp at hx
      rename_i g hgd
      simp only [Option.some.injEq] at hx
      subst hx
      simp only [vcOps] at h
      split at h
      · rename_i b hb
        have hR := eval_R hs.slot g
        rw [hb] at hR
        simp only [R, Act.eval] at hR
        have hget : a.tmps[g]? = some (.bool b) := by
          rw [Array.getD_eq_getD_getElem?] at hR
          cases hq : a.tmps[g]? with
          | none => rw [hq] at hR; simp [undef] at hR
          | some u => rw [hq] at hR; simp at hR; rw [hR]
        have hw : Region.wanted o (yielded ops a.tmps) = (b == want) := by
          simp only [Region.wanted, hg, yielded, hgd, Option.bind_some, hget]
          cases b <;> cases want <;> rfl
        split at h
        · rename_i hbw
          rw [hw, if_pos (by simp [hbw])]
          exact .inl (key rfl rfl h)
        · rename_i hbw
          rw [hw, if_neg (by simp [hbw])]
          exact ih E _ _ (SRel.put hs (v := .tup []) (x := undef) R_undef o.dst) hf h
      · rename_i hb
        have hR := eval_R hs.slot g
        rw [hb] at hR
        have hu := R_und hR
        have hw : Region.wanted o (yielded ops a.tmps) = false := by
          simp only [Region.wanted, hg, yielded, hgd, Option.bind_some]
          simp only [Act.eval] at hu
          cases hq : a.tmps[g]? with
          | none => rfl
          | some u =>
            rw [Array.getD_eq_getD_getElem?, hq] at hu
            simp at hu
            rw [hu]; rfl
        rw [hw, if_neg (by simp)]
        exact ih E _ _ (SRel.put hs (v := .tup []) (x := undef) R_undef o.dst) hf h
      · exact h.elim
theorem upd_sound {c : Code} {x : AC} (ih : ∀ (Q : Exit → St → Prop) (st : St), vc P x Q st → pwp P c Q st) (b : Bool) (Q : Exit → St → Prop) (st : St) (h : vc P (AC.updIf b x) Q st) : pwp P c Q st := by
  cases b with
  | false => exact ih Q st h
  | true => exact pwp_upd (h.mono fun st' h' => ih Q st' h')
theorem eval_put {a : Act} {d : Nat} {x : Value} (h : d < a.tmps.size) : (a.put (some d) x).eval (.tmp d) = x := by
  simp [Act.put, Act.eval, h]
theorem rounds {ops1 : Array Oper} {oN oM : Oper} {dI dN dM i1 out nxt b : Nat} {cb : Code} {Q : Exit → St → Prop} {E0 : Env} {s : List UInt8} {I : Nat → St → Prop}
    (h1 : ops1.toList = [oN, oM]) (hN : oN.op = .next (.tmp dI) true) (hNd : oN.dst = some dN) (hNg : oN.guard = none) (hM : oM.op = .extract (.tmp dN) 0) (hMd : oM.dst = some dM) (hMg : oM.guard = none)
    (hb0 : E0.w.heap.size ≤ b) (hasc : ∀ c ∈ s, c.toNat < 128) (hslot : ∀ i st', I i st' → st'.t.getD dI .any = .raw (.pointer (some ⟨b, 0, none⟩)) ∧ dN < st'.t.length ∧ dM < st'.t.length)
    (hbody : ∀ i c st', s[i]? = some c → I i st' → pwp P cb (Blk nxt (RPost out (I (i + 1)) Q)) ((st'.put (some dN) (.tup [.bool true, .int .i64 (i : Nat), .int .i32 (c.toNat : Nat)])).put (some dM) (.bool true)))
    (hend : ∀ st', I s.length st' → Q .normal ((st'.put (some dN) (.tup [.bool false])).put (some dM) (.bool false)))
    {E : Env} {st : St} {a : Act} (hs : SRel E st a) (hf : Fr E0 E) (hr : E.role b = .hid) (hh : E.w.heap[b]? = some (.stringIter ⟨s.toArray⟩ 0)) (hI : I 0 st) :
    (Code.block out (.loop (.seq (.region i1 ops1 false) (.seq (.cond (.tmp dM) .skip (.exit out)) (.block nxt cb))))).wp P (fun e a' w' => ∃ E' st', E'.w = w' ∧ SRel E' st' a' ∧ Fr E0 E' ∧ Q e st') a E.w := by
  refine wp_block ?_
  refine wp_loop (fun a w => ∃ i st' E', E'.w = w ∧ i ≤ s.length ∧ I i st' ∧ SRel E' st' a ∧ Fr E0 E' ∧ E'.role b = .hid ∧ E'.w.heap[b]? = some (.stringIter ⟨s.toArray⟩ i)) (fun a w => match w.heap[b]? with | some (.stringIter z p) => z.size - p | _ => 0) ⟨0, st, E, rfl, by omega, hI, hs, hf, hr, hh⟩ ?_
  rintro a _ ⟨i, st', E', rfl, hi, hI, hs', hf', hr', hh'⟩
  obtain ⟨hsl, hl1, hl2⟩ := hslot i st' hI
  have hlen : st'.t.length = a.tmps.size := by have := RL_length hs'.slot; simpa using this
  have hdI : a.eval (.tmp dI) = .pointer (some ⟨b, 0, none⟩) := by
    have := eval_R hs'.slot dI
    rw [show ev st' (.s dI) = st'.t.getD dI .any from rfl, hsl] at this
    simpa [R] using this
  have hg0 : ops1[0]? = some oN := by rw [← Array.getElem?_toList, h1]; rfl
  have hg1 : ops1[1]? = some oM := by rw [← Array.getElem?_toList, h1]; rfl
  have hsz : ops1.size = 2 := by rw [← Array.length_toList, h1]; rfl
  refine wp_seq (wp_region ?_)
  rw [hsz]
  show wpOps P ops1 _ [0, 1] a E'.w
  have step : ∀ (y : Value) (t : V) (us : Array Value) (bb : Bool) (w1 : World) (E1 : Env), (Instr.next (.pointer (some ⟨b, 0, none⟩)) true oN.type).run P E'.w = .ok y w1 → y = .tuple us → us[0]? = some (.bool bb) → E1.w = w1 → SRel E1 st' a → R E1 t y →
      ∀ (QQ : Exit → Act → World → Prop), (∀ a', SRel E1 ((st'.put (some dN) t).put (some dM) (.bool bb)) a' → a'.eval (.tmp dM) = .bool bb → QQ .normal a' w1) → wpOps P ops1 QQ [0, 1] a E'.w := by
    intro y t us bb w1 E1 hrun hy hus hw hs1 hR QQ hQ
    subst hy
    simp only [wpOps, hg0, hg1]
    rw [if_pos (by simp [Region.wanted, hNg])]
    left
    unfold Oper.wp
    rw [show (execOp a.eval oN).run P E'.w = .ok (.value (.tuple us)) w1 by simp [execOp, hN, hdI, hrun]]
    simp only [Oper.upon]
    rw [if_pos (by simp [Region.wanted, hMg])]
    left
    have he : (a.put (some dN) (.tuple us)).eval (.tmp dN) = .tuple us := eval_put (by omega)
    rw [hNd, show (execOp (a.put (some dN) (.tuple us)).eval oM).run P w1 = .ok (.value (.bool bb)) w1 by simp [execOp, hM, he, Instr.extract, hus]]
    simp only [Oper.upon, hMd]
    refine hQ _ ?_ (eval_put (by simp [Act.put]; omega))
    exact SRel.put (SRel.put hs1 hR (some dN)) (by simp [R]) (some dM)
  by_cases hlt : i < s.length
  · have hget : s[i]? = some s[i] := List.getElem?_eq_getElem hlt
    have hby : (⟨s.toArray⟩ : ByteArray).get! i = s[i] := by simp [ByteArray.get!, hlt]
    have hrun := run_next (P := P) (t := oN.type) hh' (by simpa [ByteArray.size] using hlt) (by rw [hby]; exact hasc _ (List.getElem_mem hlt))
    rw [hby] at hrun
    refine step _ (.tup [.bool true, .int .i64 (i : Nat), .int .i32 (s[i].toNat : Nat)]) _ true _ (E'.setO b (.stringIter ⟨s.toArray⟩ (i + 1))) hrun rfl rfl rfl (SRel.setO hr' hs') (by simp [R, RL]) _ ?_
    intro a' hsa hea
    refine wp_seq (wp_cond_true hea (wp_skip ?_))
    refine wp_block ?_
    have hf2 : Fr E0 (E'.setO b (.stringIter ⟨s.toArray⟩ (i + 1))) := Fr.setO hf' hr' hb0 hh'
    have hh2 : (E'.setO b (.stringIter ⟨s.toArray⟩ (i + 1))).w.heap[b]? = some (.stringIter ⟨s.toArray⟩ (i + 1)) := setO_same hh'
    have hlt2 : b < (E'.setO b (.stringIter ⟨s.toArray⟩ (i + 1))).w.heap.size := (Array.getElem?_eq_some_iff.1 hh2).1
    refine wp_mono (hbody i s[i] st' hget hI _ a' hsa) ?_
    rintro e a2 w2 ⟨E3, st3, rfl, hs3, hf3, hq⟩
    have hk3 := hf3.same b hlt2 (.inr hr')
    have norm : Upd st3 (I (i + 1)) → (∃ i st' E', E'.w = E3.w ∧ i ≤ s.length ∧ I i st' ∧ SRel E' st' a2 ∧ Fr E0 E' ∧ E'.role b = .hid ∧ E'.w.heap[b]? = some (.stringIter ⟨s.toArray⟩ i)) ∧
        (match E3.w.heap[b]? with | some (.stringIter z p) => z.size - p | _ => 0) < (match E'.w.heap[b]? with | some (.stringIter z p) => z.size - p | _ => 0) := by
      intro hU
      obtain ⟨E4, st4, hw4, hf4, hs4, hI4⟩ := hU E3 a2 hs3
      have hb3 : b < E3.w.heap.size := by rw [hh2] at hk3; exact (Array.getElem?_eq_some_iff.1 hk3.1).1
      have hk4 := hf4.same b hb3 (.inr (hk3.2.trans hr'))
      refine ⟨⟨i + 1, st4, E4, hw4, hlt, hI4, hs4, (hf2.trans hf3).trans hf4, hk4.2.trans (hk3.2.trans hr'), hk4.1.trans (hk3.1.trans hh2)⟩, ?_⟩
      rw [hk3.1, hh2, hh']
      simp only [ByteArray.size, List.size_toArray]; omega
    cases e with
    | normal => exact norm hq
    | exit id =>
      simp only [Blk, RPost] at hq
      simp only [Exit.inBlock, Exit.then]
      by_cases e1 : id = nxt
      · rw [if_pos e1] at hq ⊢
        exact norm hq
      · rw [if_neg e1] at hq ⊢
        by_cases e2 : id = out
        · rw [if_pos e2] at hq ⊢
          exact ⟨E3, st3, rfl, hs3, hf2.trans hf3, hq⟩
        · rw [if_neg e2] at hq ⊢
          exact ⟨E3, st3, rfl, hs3, hf2.trans hf3, hq⟩
    | goto l => exact ⟨E3, st3, rfl, hs3, hf2.trans hf3, hq⟩
    | ret => exact ⟨E3, st3, rfl, hs3, hf2.trans hf3, hq⟩
    | panic c => exact ⟨E3, st3, rfl, hs3, hf2.trans hf3, hq⟩
    | outgrown => exact ⟨E3, st3, rfl, hs3, hf2.trans hf3, hq⟩
  · have hie : i = s.length := by omega
    subst hie
    have hrun := run_next_end (P := P) (t := oN.type) hh' (by simp [ByteArray.size])
    refine step _ (.tup [.bool false]) _ false _ E' hrun rfl rfl rfl hs' (by simp [R, RL]) _ ?_
    intro a' hsa hea
    refine wp_seq (wp_cond_false hea (wp_exit ?_))
    simp only [Exit.then, Exit.inBlock, if_true]
    exact ⟨E', _, rfl, hsa, hf', hend st' hI⟩
theorem pwp_rangeS {VB : (Exit → St → Prop) → St → Prop} {hn : List Nat} {ops0 ops1 : Array Oper} {os : List Oper} {oR oN oM : Oper} {l0 : List AO} {xt : TypeId} {ox : Operand} {x : X} {dI dN dM i0 i1 out nxt : Nat} {cb : Code} {Q : Exit → St → Prop} {st : St}
    (h0 : ops0.toList = os ++ [oR]) (hR : oR.op = .range xt ox) (hRd : oR.dst = some dI) (hRg : oR.guard = none) (ht : P.underlying xt = some .string) (hl : lowListH P hn ops0 os = some l0) (hx : lowX P xt ox = some x)
    (h1 : ops1.toList = [oN, oM]) (hN : oN.op = .next (.tmp dI) true) (hNd : oN.dst = some dN) (hNg : oN.guard = none) (hM : oM.op = .extract (.tmp dN) 0) (hMd : oM.dst = some dM) (hMg : oM.guard = none)
    (hVB : ∀ Q st, VB Q st → pwp P cb Q st) (h : vcOps P l0 (fun st1 => ∃ s : List UInt8, ev st1 x = .str s ∧ (∀ c ∈ s, c.toNat < 128) ∧ ∃ I : Nat → Nat → St → Prop,
      (∀ b, Upd (st1.put (some dI) (.raw (.pointer (some ⟨b, 0, none⟩)))) (I b 0)) ∧
      (∀ b i st', I b i st' → st'.t.getD dI .any = .raw (.pointer (some ⟨b, 0, none⟩)) ∧ dN < st'.t.length ∧ dM < st'.t.length) ∧
      (∀ b i c st', s[i]? = some c → I b i st' → VB (Blk nxt (RPost out (I b (i + 1)) Q)) ((st'.put (some dN) (.tup [.bool true, .int .i64 (i : Nat), .int .i32 (c.toNat : Nat)])).put (some dM) (.bool true))) ∧
      (∀ b st', I b s.length st' → Q .normal ((st'.put (some dN) (.tup [.bool false])).put (some dM) (.bool false)))) st) :
    pwp P (.seq (.region i0 ops0 false) (.block out (.loop (.seq (.region i1 ops1 false) (.seq (.cond (.tmp dM) .skip (.exit out)) (.block nxt cb)))))) Q st := by
  intro E a hs
  refine wp_seq (wp_region ?_)
  have hsz : ops0.size = os.length + 1 := by rw [← Array.length_toList, h0]; simp
  have hget : ∀ j : Nat, ops0[j]? = (os ++ [oR])[j]? := fun j => by rw [← h0]; simp
  rw [List.range_eq_range', hsz, List.range'_concat, show 0 + 1 * os.length = os.length by omega]
  refine ops_sound (rest := [os.length]) (K := _) (E0 := E) ?_ os l0 0 hl ?_ E st a hs (Fr.refl E) h
  · rintro E1 st1 a1 hs1 hf1 ⟨s, hev, hasc, I, hU, hslot, hbody, hend⟩
    have ho : ops0[os.length]? = some oR := by rw [hget]; simp
    simp only [wpOps, ho]
    rw [if_pos (by simp [Region.wanted, hRg])]
    left
    have hxv := lowX_R (E := E1) (st := st1) (a := a1) hs1.slot hx
    rw [hev] at hxv
    simp only [R] at hxv
    have hrun : (execOp a1.eval oR).run P E1.w = .ok (.value (.pointer (some ⟨E1.w.heap.size, 0, none⟩))) (E1.w.alloc (.stringIter ⟨s.toArray⟩ 0)) := by simp [execOp, hR, hxv, run_range ht]
    unfold Oper.wp
    rw [hrun]
    simp only [Oper.upon, hRd]
    obtain ⟨f2, s2, r2, b2⟩ := newI_spec (s := ⟨s.toArray⟩) (p := 0) hs1
    have s3 : SRel (E1.newI (.stringIter ⟨s.toArray⟩ 0)) (st1.put (some dI) (.raw (.pointer (some ⟨E1.w.heap.size, 0, none⟩)))) (a1.put (some dI) (.pointer (some ⟨E1.w.heap.size, 0, none⟩))) := SRel.put s2 (by simp [R]) (some dI)
    obtain ⟨E4, st4, hw4, hf4, hs4, hI4⟩ := hU E1.w.heap.size _ _ s3
    have hlt2 : E1.w.heap.size < (E1.newI (.stringIter ⟨s.toArray⟩ 0)).w.heap.size := (Array.getElem?_eq_some_iff.1 b2).1
    have hk4 := hf4.same E1.w.heap.size hlt2 (.inr r2)
    have := rounds (i1 := i1) (out := out) (nxt := nxt) (I := I E1.w.heap.size) h1 hN hNd hNg hM hMd hMg hf1.size hasc (hslot E1.w.heap.size) (fun i c st' hc hI => hVB _ _ (hbody E1.w.heap.size i c st' hc hI)) (hend E1.w.heap.size) hs4 ((hf1.trans f2).trans hf4) (hk4.2.trans r2) (hk4.1.trans b2) hI4
    rw [hw4] at this
    exact this
  · intro j hj
    rw [Nat.zero_add, hget, List.getElem?_append_left hj]
theorem pwp_scope {P : Program} {c : Code} {Q : Exit → St → Prop} {st : St} (h : pwp P c (NoGo Q) st) : pwp P (.scope c) Q st := by
  intro E a hs
  refine wp_scope_straight (wp_mono (h E a hs) ?_)
  rintro e a' w' ⟨E', st', rfl, h2, h3, h4⟩
  cases e with
  | goto l => exact h4.elim
  | _ => exact ⟨E', st', rfl, h2, h3, h4⟩
theorem lowRange_spec {h : Hint} {ops0 ops1 : Array Oper} {dM' out out' nxt i0 i1 : Nat} {cb : Code} {y : Option AC} {z : AC} (hz : lowRange P h ops0 ops1 dM' out out' nxt y = some z) (ih : ∀ y', y = some y' → ∀ (Q : Exit → St → Prop) (st : St), vc P y' Q st → pwp P cb Q st)
    (Q : Exit → St → Prop) (st : St) (hv : vc P z Q st) : pwp P (.seq (.region i0 ops0 false) (.block out (.loop (.seq (.region i1 ops1 false) (.seq (.cond (.tmp dM') .skip (.exit out')) (.block nxt cb)))))) Q st := by
  unfold lowRange at hz
  split at hz
  case h_2 => simp at hz
  rename_i oR oN oM y' hl h1
  split at hz
  case h_2 => simp at hz
  rename_i xt ox dI dI' dN dN' dM g1 g2 g3 g4 g5 g6 g7 g8 g9
  split at hz
  case h_2 => simp at hz
  rename_i l x k1 k2 k3
  split at hz
  case isFalse => simp at hz
  rename_i he
  obtain ⟨rfl, rfl, rfl, rfl⟩ := he
  simp only [Option.some.injEq] at hz
  subst hz
  have h0 : ops0.toList = ops0.toList.dropLast ++ [oR] := by
    obtain ⟨ys, hys⟩ := List.getLast?_eq_some_iff.1 hl
    rw [hys]; simp
  exact pwp_rangeS (VB := vc P y') h0 g1 g2 g3 k1 k2 k3 h1 g4 g5 g6 g7 g8 g9 (ih y' rfl) hv
theorem lowC_seq {h : Hint} {a b : Code} {z : AC} (hz : lowC P h (.seq a b) = some z) : (∃ x y, lowC P h a = some x ∧ lowC P h b = some y ∧ z = .seq x y) ∨
    (∃ i0 ops0 out i1 ops1 dM' out' nxt cb, a = .region i0 ops0 false ∧ b = .block out (.loop (.seq (.region i1 ops1 false) (.seq (.cond (.tmp dM') .skip (.exit out')) (.block nxt cb)))) ∧ lowRange P h ops0 ops1 dM' out out' nxt (lowC P h cb) = some z) := by
  have gen : (match lowC P h a, lowC P h b with | some x, some y => some (AC.seq x y) | _, _ => none) = some z → ∃ x y, lowC P h a = some x ∧ lowC P h b = some y ∧ z = .seq x y := by
    intro e
    split at e
    · rename_i x y hx hy
      simp only [Option.some.injEq] at e
      exact ⟨x, y, hx, hy, e.symm⟩
    · simp at e
  unfold lowC at hz
  split at hz
  all_goals (try (exfalso; simp_all; done))
  · rename_i heq
    simp only [Code.seq.injEq] at heq
    obtain ⟨rfl, rfl⟩ := heq
    split at hz
    · rename_i r hr
      exact .inr ⟨_, _, _, _, _, _, _, _, _, rfl, rfl, by rw [hr]; exact hz⟩
    · exact .inl (gen hz)
  · rename_i heq
    simp only [Code.seq.injEq] at heq
    obtain ⟨rfl, rfl⟩ := heq
    exact .inl (gen hz)
theorem vc_sound {h : Hint} : ∀ (c : Code) (x : AC), lowC P h c = some x → ∀ (Q : Exit → St → Prop) (st : St), vc P x Q st → pwp P c Q st
  | .skip, x, hl, Q, st, h => by simp only [lowC, Option.some.injEq] at hl; subst hl; exact pwp_skip h
  | .region id ops false, x, hl, Q, st, h => by
    simp only [lowC, Option.map_eq_some_iff] at hl
    obtain ⟨l, hl, rfl⟩ := hl
    refine upd_sound (fun Q st h E a hs => ?_) _ Q st h
    refine wp_region ?_
    have := ops_sound (P := P) (ops := ops) (K := Q .normal) (E0 := E) (Q := fun e a' w' => ∃ E' st', E'.w = w' ∧ SRel E' st' a' ∧ Fr E E' ∧ Q e st') (rest := []) (fun E' st' a' h1 h2 h3 => ⟨E', st', rfl, h1, h2, h3⟩) ops.toList l 0 hl (fun j _ => by simp) E st a hs (Fr.refl E) h
    rw [List.range_eq_range']
    simpa using this
  | .region id ops true, x, hl, Q, st, h => by
    simp only [lowC] at hl
    split at hl
    · rename_i l hl'
      simp only [Option.some.injEq] at hl
      subst hl
      refine upd_sound (fun Q st h => ?_) _ Q st h
      exact pwp_mono (draw_sound hl' h) fun e st' ⟨h1, h2⟩ => by subst h1; exact h2
    · split at hl
      · rename_i p hl'
        obtain ⟨l, hi⟩ := p
        simp only [Option.some.injEq] at hl
        subst hl
        refine upd_sound (fun Q st h => ?_) _ Q st h
        exact pwp_mono (hole_sound hl' h) fun e st' ⟨h1, h2⟩ => by subst h1; exact h2
      · simp only [Option.map_eq_some_iff] at hl
        obtain ⟨⟨nv, l⟩, hl, rfl⟩ := hl
        refine upd_sound (fun Q st h => ?_) _ Q st h
        obtain ⟨t, h1, h2⟩ := h
        obtain ⟨_, k2, _, k4⟩ := anyAt_spec h1
        intro E a hs
        have := drawA_sound (st := ⟨t, st.loc, st.out⟩) (id := id) hl k2 h2 E a ⟨hs.ok, hs.okL, hs.defers, k4 E _ hs.slot⟩
        exact wp_mono this fun e a' w' ⟨E', st', m1, m2, m3, m4, m5⟩ => ⟨E', st', m1, m2, m3, by subst m4; exact m5⟩
  | .seq a b, x, hl, Q, st, h => by
    rcases lowC_seq hl with ⟨y, z, hy, hz, rfl⟩ | ⟨i0, ops0, out, i1, ops1, dM', out', nxt, cb, rfl, rfl, hz⟩
    · refine pwp_seq (pwp_mono (vc_sound a y hy _ st h) fun e st' he => ?_)
      cases e with
      | normal => exact vc_sound b z hz Q st' he
      | _ => exact he
    · exact lowRange_spec hz (fun y' hy => vc_sound cb y' hy) Q st h
  | .cond c a b, x, hl, Q, st, h => by
    simp only [lowC] at hl
    split at hl
    case h_2 => simp at hl
    rename_i ax y z hx hy hz
    simp only [Option.some.injEq] at hl
    subst hl
    simp only [vc] at h
    split at h
    case h_2 => exact h.elim
    rename_i b' hb
    intro E ac hs
    have hR := lowX_R (E := E) (st := st) (a := ac) hs.slot hx
    rw [hb] at hR
    simp only [R] at hR
    exact wp_cond_split hR (fun ht => vc_sound a y hy Q st (h.1 ht) E ac hs) (fun ht => vc_sound b z hz Q st (h.2 ht) E ac hs)
  | .block id a, x, hl, Q, st, h => by
    simp only [lowC, Option.map_eq_some_iff] at hl
    obtain ⟨y, hy, rfl⟩ := hl
    exact pwp_block (vc_sound a y hy _ st h)
  | .loop a, x, hl, Q, st, h => by
    simp only [lowC, Option.map_eq_some_iff] at hl
    obtain ⟨y, hy, rfl⟩ := hl
    obtain ⟨ι, I, μ, h0, hr⟩ := h
    exact pwp_loop I μ h0 fun i => vc_sound a y hy _ (I i) (hr i)
  | .exit id, x, hl, Q, st, h => by simp only [lowC, Option.some.injEq] at hl; subst hl; exact pwp_exit h
  | .ret, x, hl, Q, st, h => by simp only [lowC, Option.some.injEq] at hl; subst hl; exact pwp_ret h
  | .label l, x, hl, Q, st, h => by simp only [lowC, Option.some.injEq] at hl; subst hl; exact pwp_label h
  | .goto l, x, hl, Q, st, h => by simp [lowC] at hl
  | .scope a, x, hl, Q, st, h => by
    simp only [lowC, Option.map_eq_some_iff] at hl
    obtain ⟨y, hy, rfl⟩ := hl
    exact pwp_scope (vc_sound a y hy _ st h)
  | .refuse w, x, hl, Q, st, h => by simp [lowC] at hl
  | .rangeFunc f p a b, x, hl, Q, st, h => by simp [lowC] at hl
inductive RV where
  | tmp (t : Nat)
  | cell (t : Nat) (agg : Bool) (n : Nat)
def lowRV (P : Program) : ResultVar → Option RV
  | .tmp t => some (.tmp t)
  | .cell a t => match aggOf P t, sizeV P t with | some g, some n => some (.cell a g n) | _, _ => none
def lowRVs (P : Program) : List ResultVar → Option (List RV)
  | [] => some []
  | r :: rs => (lowRV P r).bind fun x => (lowRVs P rs).map (x :: ·)
def rv (st : St) : RV → Option V
  | .tmp t => some (st.t.getD t .any)
  | .cell t g n => ldV st g n (st.t.getD t .any)
def rvs (st : St) : List RV → Option (List V)
  | [] => some []
  | r :: rs => (rv st r).bind fun x => (rvs st rs).map (x :: ·)
def one1 : List V → V
  | [x] => x
  | xs => .tup xs
def Store.sub (σ' σ : Store) : Prop := (∀ b cs, σ'.box b = some cs → σ.box b = some cs) ∧ ∀ t n, σ'.tip t = some n → σ.tip t = some n
theorem Store.sub_refl (σ : Store) : σ.sub σ := ⟨fun _ _ h => h, fun _ _ h => h⟩
def RetK (R' : V → Store → Prop) (st : St) : V → Prop := fun v => v.nol = true ∧ ∃ σ' : Store, σ'.sub st.out ∧ R' v.erase σ'
def RetQ (rs : List RV) (R' : V → Store → Prop) : Exit → St → Prop
  | .normal, st | .ret, st => opt ((rvs st rs).map one1) (RetK R' st)
  | _, _ => False
theorem rvs_R {E : Env} {st : St} {a : Act} (hs : SRel E st a) : ∀ {rs : List ResultVar} {ys : List RV} {vs : List V}, lowRVs P rs = some ys → rvs st ys = some vs →
    ∃ us : List Value, (rs.mapM fun | .tmp t => pure (a.tmps.getD t undef) | .cell ad t => do loadVar t (← asAddr (a.tmps.getD ad undef)) : Sem (List Value)).run P E.w = .ok us E.w ∧ RL E vs us
  | [], ys, vs, h1, h2 => by
    simp only [lowRVs, Option.some.injEq] at h1
    subst h1
    simp only [rvs, Option.some.injEq] at h2
    subst h2
    exact ⟨[], by simp, by simp [RL]⟩
  | r :: rs, ys, vs, h1, h2 => by
    simp only [lowRVs, Option.bind_eq_some_iff, Option.map_eq_some_iff] at h1
    obtain ⟨y, hy, ys', hys, rfl⟩ := h1
    simp only [rvs, Option.bind_eq_some_iff, Option.map_eq_some_iff] at h2
    obtain ⟨v, hv, vs', hvs, rfl⟩ := h2
    obtain ⟨us, k1, k2⟩ := rvs_R hs hys hvs
    cases r with
    | tmp t =>
      simp only [lowRV, Option.some.injEq] at hy
      subst hy
      simp only [rv, Option.some.injEq] at hv
      subst hv
      have hR := eval_R hs.slot t
      refine ⟨a.tmps.getD t undef :: us, ?_, by simp only [RL]; exact ⟨hR, k2⟩⟩
      rw [List.mapM_cons]
      simp only [Sem.run_bind, Sem.run_pure, Result.andThen_ok, k1]
    | cell ad t =>
      simp only [lowRV] at hy
      split at hy
      case h_2 => simp at hy
      rename_i g n hg hn
      simp only [Option.some.injEq] at hy
      subst hy
      simp only [rv] at hv
      have hR := eval_R hs.slot ad
      have hR' : R E (st.t.getD ad .any) (a.tmps.getD ad undef) := hR
      obtain ⟨b, off, cs, e1, e2, e3⟩ := ldV_Rd hs hv hR'
      obtain ⟨u, e4, e5⟩ := run_load (P := P) hg hn e2 e3
      refine ⟨u :: us, ?_, by simp only [RL]; exact ⟨e5, k2⟩⟩
      rw [List.mapM_cons]
      have e6 : ((do loadVar t (← asAddr (a.tmps.getD ad undef)) : Sem Value)).run P E.w = .ok u E.w := by
        rw [e1]
        simp only [asAddr, Sem.run_bind, Sem.run_pure, Result.andThen_ok, e4]
      rw [Sem.run_bind]
      show ((do loadVar t (← asAddr (a.tmps.getD ad undef)) : Sem Value).run P E.w).andThen _ = _
      rw [e6, Result.andThen_ok, Sem.run_bind, k1, Result.andThen_ok, Sem.run_pure]
theorem enters_of {f : FuncId} {fn : Func} (hf : P.funcs[f]? = some fn) (hn : (fn.name == "runtime.NumGoroutine") = false) (hb : fn.body.isNone = false) : Enters P f := fun args w => by
  have hb' : fn.body.isNone = false := hb
  simp only [callFunc, Sem.run_bind, run_program, Result.andThen_ok, hf]
  split
  · rename_i h; simp [hn] at h
  · split
    · rename_i h; simp at h; rw [h] at hb'; simp at hb'
    · rfl
theorem pcalls {h : Hint} {f : FuncId} {fn : Func} {c : Code} {x : AC} {rs : List RV} (hf : P.funcs[f]? = some fn) (hname : (fn.name == "runtime.NumGoroutine") = false) (hb : fn.body = some c) (hl : lowC P h c = some x) (hr : lowRVs P fn.results.toList = some rs)
    {n : Nat} (hn : fn.ntmps = n) {args : List V} {σ : Store} {R' : V → Store → Prop} (hv : vc P x (RetQ rs R') ⟨args ++ List.replicate (n - args.length) .any, [], σ⟩) : PCalls P f args σ R' := by
  refine ⟨enters_of hf hname (by rw [hb]; rfl), fun E vs hloc hok hargs => ?_⟩
  refine calls_of_wp hf hb ?_
  have hlen := RL_length hargs
  have hs : SRel E ⟨args ++ List.replicate (n - args.length) .any, [], σ⟩ { tmps := vs ++ Array.replicate (fn.ntmps - vs.size) undef, defers := [] } := by
    refine ⟨hok, ⟨fun i cs h => by simp at h, fun i _ => hloc i⟩, rfl, ?_⟩
    simp only [Array.toList_append, Array.toList_replicate]
    refine RL_append hargs ?_
    rw [hn, show args.length = vs.size from by simpa using hlen]
    have := RL_any (E := E) (List.replicate (n - vs.size) undef)
    simpa using this
  refine wp_mono (vc_sound c x hl _ _ hv E _ hs) ?_
  rintro e a' w' ⟨E', st', rfl, hs', hfr, hq⟩
  have fin : opt ((rvs st' rs).map one1) (RetK R' st') → a'.defers = [] ∧ ∃ v, (results fn a'.tmps).run P E'.w = .ok v E'.w ∧
      ∃ v' x E'' σ', Ending.returned v = .returned x ∧ E''.w = E'.w ∧ (∀ i, E''.loc i = none) ∧ E''.ok σ' ∧ R E'' v' x ∧ Fr E E'' ∧ R' v' σ' := fun hq => by
    refine ⟨hs'.defers, ?_⟩
    unfold opt at hq
    split at hq
    case h_2 => exact hq.elim
    rename_i v hv
    simp only [Option.map_eq_some_iff] at hv
    obtain ⟨vs', hvs, rfl⟩ := hv
    obtain ⟨us, k1, k2⟩ := rvs_R (P := P) hs' hr hvs
    obtain ⟨hnol, σ', hsub, hR'⟩ := hq
    have hone : ∃ u, (results fn a'.tmps).run P E'.w = .ok u E'.w ∧ R E' (one1 vs') u := by
      have hres : (results fn a'.tmps).run P E'.w = .ok (if h : us.toArray.size = 1 then us.toArray[0] else .tuple us.toArray) E'.w := by
        unfold results
        rw [← Array.toArray_toList (xs := fn.results), List.mapM_toArray]
        simp only [Sem.run_bind, Sem.run_map]
        erw [k1]
        simp only [Result.andThen_ok, Sem.run_pure]
      refine ⟨_, hres, ?_⟩
      have hl2 := RL_length k2
      match vs', us, k2 with
      | [y], [u], k2 =>
        simp only [RL] at k2
        simp [one1, k2.1]
      | [], [], k2 => simp [one1, R]; exact k2
      | y :: z :: ys, u :: u' :: us', k2 =>
        simp only [one1]
        rw [dif_neg (by simp)]
        simp only [R]
        exact ⟨_, rfl, by simpa using k2⟩
    obtain ⟨u, hu, hRu⟩ := hone
    let E'' : Env := { E' with loc := fun _ => none, role := fun b => match E'.role b with | .lbox _ => .hid | r => r }
    have hrole : ∀ b, E''.role b = match E'.role b with | .lbox _ => .hid | r => r := fun _ => rfl
    have hcom : ∀ b o, (E''.role b).com o ↔ (E'.role b).com o := fun b o => by rw [hrole]; cases E'.role b <;> simp [Role.com]
    have hlin : ∀ b t c, E'.role b = .lin t c → E''.role b = .lin t c := fun b t c h => by rw [hrole, h]
    have hle : E'.nl.le E''.nl := ⟨fun b o _ hc hv => ⟨(hcom b o).2 hc, hv⟩, fun _ _ h => by simp at h, fun t n hn => ⟨n, hn, Nat.le_refl _, fun _ b c hb => ⟨hlin b t c hb, fun cs _ hc => ⟨cs, hc, rfl⟩⟩⟩⟩
    have hfr' : Fr E' E'' := by
      refine ⟨rfl, rfl, rfl, Nat.le_refl _, fun _ => rfl, hle.cell, hle.tok, fun b _ hr => ⟨rfl, ?_⟩, fun b _ h => ?_, fun b t c _ h => ?_, fun b i _ h => ?_, fun _ c _ h => ⟨c, h, rfl⟩⟩
      · rw [hrole]; rcases hr with hr | hr <;> rw [hr]
      · rw [hrole] at h; cases hq : E'.role b <;> rw [hq] at h <;> simp at h
      · rw [hrole] at h; cases hq : E'.role b <;> rw [hq] at h <;> simp at h; exact ⟨_, by rw [h.1]⟩
      · rw [hrole] at h; cases hq : E'.role b <;> rw [hq] at h <;> simp at h
    refine ⟨u, hu, (one1 vs').erase, u, E'', σ', rfl, rfl, fun _ => rfl, ⟨fun b cs hcs => ?_, fun t m ht => hs'.ok.tip t m (hsub.2 t m ht), fun b hb => ?_, hs'.ok.nt⟩, R.erase _ (hRu.nolm _ hle hnol), hfr.trans hfr', hR'⟩
    · obtain ⟨h1, h2⟩ := hs'.ok.box b cs (hsub.1 b cs hcs)
      exact ⟨by rw [hrole, h1], h2.mono hle rfl⟩
    · rw [hrole, hs'.ok.fresh b hb]
  cases e with
  | normal => exact fin hq
  | ret => exact fin hq
  | _ => exact hq.elim
end
structure IsFn (P : Program) (f : FuncId) (x : AC) (rs : List RV) (n : Nat) : Prop where
  is : ∃ fn h, P.funcs[f]? = some fn ∧ (fn.name == "runtime.NumGoroutine") = false ∧ fn.body.bind (lowC P h) = some x ∧ lowRVs P fn.results.toList = some rs ∧ fn.ntmps = n
def slots (n : Nat) (args : List V) : List V := args ++ List.replicate (n - args.length) .any
theorem IsFn.calls {P : Program} {f : FuncId} {x : AC} {rs : List RV} {n : Nat} (h : IsFn P f x rs n) {args : List V} {σ : Store} {R' : V → Store → Prop} (hv : vc P x (RetQ rs R') ⟨slots n args, [], σ⟩) : PCalls P f args σ R' := by
  obtain ⟨fn, hi, h1, h2, h3, h4, h5⟩ := h.is
  simp only [Option.bind_eq_some_iff] at h3
  obtain ⟨c, hb, hl⟩ := h3
  exact pcalls h1 h2 hb hl h4 h5 hv
end Go.Am

namespace Go.Am
section
variable {P : Program} {d : Option Nat} {r : List AO} {K : St → Prop} {t : List V} {l : List (List V)} {σ : Store} {x y z : X} {Q : Exit → St → Prop} {st : St} {a b : AC}
theorem vc_skip : vc P .skip Q st = Q .normal st := rfl
theorem vc_reg {o : List AO} : vc P (.reg o) Q st = vcOps P o (Q .normal) st := rfl
theorem vc_upd : vc P (.upd a) Q st = Upd st (vc P a Q) := rfl
theorem vc_draw {o : List (AO × List Nat)} : vc P (.draw o) Q ⟨t, l, σ⟩ = vcD P o [(l, σ)] [] (Q .normal) ⟨t, l, σ⟩ := rfl
theorem vc_seq : vc P (.seq a b) Q st = vc P a (AThen (vc P b Q) Q) st := rfl
def vcIf (P : Program) (v : V) (a b : AC) (Q : Exit → St → Prop) (st : St) : Prop := match v with | .bool c => (c = true → vc P a Q st) ∧ (c = false → vc P b Q st) | _ => False
theorem vc_cond : vc P (.cond x a b) Q st = vcIf P (ev st x) a b Q st := rfl
theorem vcIf_true : vcIf P (.bool true) a b Q st = vc P a Q st := by simp [vcIf]
theorem vcIf_false : vcIf P (.bool false) a b Q st = vc P b Q st := by simp [vcIf]
theorem vcIf_split {c : Bool} (h1 : c = true → vc P a Q st) (h2 : c = false → vc P b Q st) : vcIf P (.bool c) a b Q st := ⟨h1, h2⟩
theorem vc_rangeS {l : List AO} {x : X} {dI dN dM out nxt : Nat} {y : AC} (h : vcOps P l (fun st1 => ∃ s : List UInt8, ev st1 x = .str s ∧ (∀ c ∈ s, c.toNat < 128) ∧ ∃ I : Nat → Nat → St → Prop,
      (∀ b, Upd (st1.put (some dI) (.raw (.pointer (some ⟨b, 0, none⟩)))) (I b 0)) ∧
      (∀ b i st', I b i st' → st'.t.getD dI .any = .raw (.pointer (some ⟨b, 0, none⟩)) ∧ dN < st'.t.length ∧ dM < st'.t.length) ∧
      (∀ b i c st', s[i]? = some c → I b i st' → vc P y (Blk nxt (RPost out (I b (i + 1)) Q)) ((st'.put (some dN) (.tup [.bool true, .int .i64 (i : Nat), .int .i32 (c.toNat : Nat)])).put (some dM) (.bool true))) ∧
      (∀ b st', I b s.length st' → Q .normal ((st'.put (some dN) (.tup [.bool false])).put (some dM) (.bool false)))) st) : vc P (.rangeS l x dI dN dM out nxt y) Q st := h
theorem rPost_normal {out : Nat} {J : St → Prop} : RPost out J Q .normal st = Upd st J := rfl
theorem rPost_exit {out id : Nat} {J : St → Prop} : RPost out J Q (.exit id) st = if id = out then Q .normal st else Q (.exit id) st := rfl
theorem rPost_ret {out : Nat} {J : St → Prop} : RPost out J Q .ret st = Q .ret st := rfl
theorem vc_scope : vc P (.scope a) Q st = vc P a (NoGo Q) st := rfl
theorem noGo_normal : NoGo Q .normal st = Q .normal st := rfl
theorem noGo_exit {id : Nat} : NoGo Q (.exit id) st = Q (.exit id) st := rfl
theorem noGo_ret : NoGo Q .ret st = Q .ret st := rfl
theorem vc_block {id : Nat} : vc P (.block id a) Q st = vc P a (Blk id Q) st := rfl
theorem vc_exit {id : Nat} : vc P (.exit id) Q st = Q (.exit id) st := rfl
theorem vc_ret : vc P .ret Q st = Q .ret st := rfl
theorem athen_normal : AThen K Q .normal st = K st := rfl
theorem athen_exit {id : Nat} : AThen K Q (.exit id) st = Q (.exit id) st := rfl
theorem athen_ret : AThen K Q .ret st = Q .ret st := rfl
theorem blk_normal {id : Nat} : Blk id Q .normal st = Q .normal st := rfl
theorem blk_ret {id : Nat} : Blk id Q .ret st = Q .ret st := rfl
theorem blk_exit {id id' : Nat} : Blk id Q (.exit id') st = if id' = id then Q .normal st else Q (.exit id') st := rfl
theorem blk_exit_same {id : Nat} : Blk id Q (.exit id) st = Q .normal st := by simp [Blk]
theorem lpost_exit {ι : Type} {I : ι → St} {μ : ι → Nat} {n id : Nat} : LPost I μ Q n (.exit id) st = Q (.exit id) st := rfl
theorem lpost_ret {ι : Type} {I : ι → St} {μ : ι → Nat} {n : Nat} : LPost I μ Q n .ret st = Q .ret st := rfl
theorem lpost_normal {ι : Type} {I : ι → St} {μ : ι → Nat} {n : Nat} : LPost I μ Q n .normal st = Upd st fun st' => ∃ j, st' = I j ∧ μ j < n := rfl
theorem vc_loop {ι : Type} (I : ι → St) (μ : ι → Nat) (h0 : Upd st fun st' => ∃ i, st' = I i) (h : ∀ i, vc P a (LPost I μ Q (μ i)) (I i)) : vc P (.loop a) Q st := ⟨ι, I, μ, h0, h⟩
theorem retQ_ret {rs : List RV} {R' : V → Store → Prop} : RetQ rs R' .ret st = opt ((rvs st rs).map one1) (RetK R' st) := rfl
theorem retQ_normal {rs : List RV} {R' : V → Store → Prop} : RetQ rs R' .normal st = opt ((rvs st rs).map one1) (RetK R' st) := rfl
theorem opt_some {v : V} {K : V → Prop} : opt (some v) K = K v := rfl
theorem rvs_nil : rvs st [] = some [] := rfl
def consO (v : Option V) (l : Option (List V)) : Option (List V) := v.bind fun x => l.map (x :: ·)
theorem consO_some {v : V} {l : List V} : consO (some v) (some l) = some (v :: l) := rfl
theorem rvs_cons {y : RV} {rs : List RV} : rvs st (y :: rs) = consO (rv st y) (rvs st rs) := rfl
theorem rv_tmp {n : Nat} : rv ⟨t, l, σ⟩ (.tmp n) = some (t.getD n .any) := rfl
theorem rv_cell {n m : Nat} {g : Bool} : rv ⟨t, l, σ⟩ (.cell n g m) = ldV ⟨t, l, σ⟩ g m (t.getD n .any) := rfl
theorem one1_one {v : V} : one1 [v] = v := rfl
theorem one1_nil : one1 [] = .tup [] := rfl
theorem one1_more {u v : V} {l : List V} : one1 (u :: v :: l) = .tup (u :: v :: l) := rfl
theorem map_some' {v : List V} {f : List V → V} : Option.map f (some v) = some (f v) := rfl
theorem retK_intro {R' : V → Store → Prop} {v : V} (h1 : v.nol = true) {σ' : Store} (h2 : σ'.sub σ) (h3 : R' v.erase σ') : RetK R' ⟨t, l, σ⟩ v := ⟨h1, σ', h2, h3⟩
theorem ev_s {n : Nat} : ev ⟨t, l, σ⟩ (.s n) = t.getD n .any := rfl
theorem ev_c {v : V} : ev st (.c v) = v := rfl
theorem evs_nil : evs st [] = [] := rfl
theorem evs_cons {xs : List X} : evs st (x :: xs) = ev st x :: evs st xs := rfl
theorem getD_zero {v w : V} : (v :: t).getD 0 w = v := rfl
theorem getD_succ {v w : V} {n : Nat} : (v :: t).getD (n + 1) w = t.getD n w := rfl
theorem set_zero {v w : V} : (v :: t).set 0 w = w :: t := rfl
theorem set_succ {v w : V} {n : Nat} : (v :: t).set (n + 1) w = v :: t.set n w := rfl
theorem put_some {n : Nat} {v : V} : St.put ⟨t, l, σ⟩ (some n) v = ⟨t.set n v, l, σ⟩ := rfl
theorem put_none {v : V} : St.put st none v = st := rfl
theorem o_nil : vcOps P [] K st = K st := rfl
def kL (P : Program) (d : Option Nat) (r : List AO) (K : St → Prop) (st : St) (v : V) : Prop := vcOps P r K (st.put d v)
theorem kL_eq {v : V} : kL P d r K ⟨t, l, σ⟩ v = vcOps P r K (St.put ⟨t, l, σ⟩ d v) := rfl
def optL (o : Option V) (K : V → Prop) : Prop := match o with | some v => K v | none => False
theorem optL_some {v : V} {K : V → Prop} : optL (some v) K = K v := rfl
theorem opt_optL {o : Option V} {K : V → Prop} : opt o K = optL o K := rfl
theorem o_mv : vcOps P (⟨d, .mv x, none⟩ :: r) K st = vcOps P r K (st.put d (ev st x)) := rfl
def pickL (P : Program) (v a b : V) (d : Option Nat) (r : List AO) (K : St → Prop) (st : St) : Prop := match v with | .bool true => vcOps P r K (st.put d a) | .bool false => vcOps P r K (st.put d b) | _ => False
theorem o_pick : vcOps P (⟨d, .pick x y z, none⟩ :: r) K st = pickL P (ev st x) (ev st y) (ev st z) d r K st := by
  simp only [vcOps, AOp.sem, pickL]
  cases ev st x <;> first | rfl | (rename_i b; cases b <;> rfl)
theorem pickL_true {u v : V} : pickL P (.bool true) u v d r K st = vcOps P r K (st.put d u) := rfl
theorem pickL_false {u v : V} : pickL P (.bool false) u v d r K st = vcOps P r K (st.put d v) := rfl
theorem pickL_ff {b c : Bool} : pickL P (.bool b) (.bool c) (.bool false) d r K st = vcOps P r K (st.put d (.bool (b && c))) := by cases b <;> simp [pickL]
theorem pickL_tt {b c : Bool} : pickL P (.bool b) (.bool true) (.bool c) d r K st = vcOps P r K (st.put d (.bool (b || c))) := by cases b <;> simp [pickL]
theorem o_alloc {c : List V} : vcOps P (⟨d, .alloc c, none⟩ :: r) K ⟨t, l, σ⟩ = vcOps P r K (St.put ⟨t, l ++ [c], σ⟩ d (.ptr (.loc l.length) 0)) := rfl
theorem o_box {n : Nat} : vcOps P (⟨d, .box n x, none⟩ :: r) K ⟨t, l, σ⟩ = ((ev ⟨t, l, σ⟩ x).wd = some n ∧ vcOps P r K (St.put ⟨t, l ++ [(ev ⟨t, l, σ⟩ x).cells], σ⟩ d (.ptr (.loc l.length) 0))) := rfl
def kO (P : Program) (d : Option Nat) (r : List AO) (K : St → Prop) (st : St) (cs : List V) : Prop := ∀ b, st.out.box b = none → vcOps P r K (St.put ⟨st.t, st.loc, st.out.set b cs⟩ d (.ptr (.out b) 0))
theorem o_allocO {c : List V} : vcOps P (⟨d, .allocO c, none⟩ :: r) K st = (nolL c = true ∧ kO P d r K st c) := rfl
theorem o_boxO {n : Nat} : vcOps P (⟨d, .boxO n x, none⟩ :: r) K st = ((ev st x).wd = some n ∧ nolL (ev st x).cells = true ∧ kO P d r K st (ev st x).cells) := rfl
theorem kO_intro {c : List V} (h : ∀ b, σ.box b = none → vcOps P r K (St.put ⟨t, l, σ.set b c⟩ d (.ptr (.out b) 0))) : kO P d r K ⟨t, l, σ⟩ c := h
theorem opt_map {o : Option (List V)} {f : List V → V} {K : V → Prop} : opt (o.map f) K = optL (o.map f) K := rfl
theorem o_build {c : List V} {ps : List (Nat × Nat × X)} : vcOps P (⟨d, .build c ps, none⟩ :: r) K st = optL ((buildV st c ps).map V.agg) (kL P d r K st) := rfl
def optR (o : Option (List (List V))) (k : Nat) (K : V → Prop) : Prop := match o with | some v => K (.sl .full k v) | none => False
theorem optR_some {v : List (List V)} {k : Nat} {K : V → Prop} : optR (some v) k K = K (.sl .full k v) := rfl
theorem o_bslice {k : Nat} {xs : List X} : vcOps P (⟨d, .bslice k xs, none⟩ :: r) K st = optR (rowsV st k xs) k (kL P d r K st) := by
  simp only [vcOps, AOp.sem]
  cases rowsV st k xs <;> rfl
theorem o_load {g : Bool} {n : Nat} : vcOps P (⟨d, .load g n x, none⟩ :: r) K st = optL (ldV st g n (ev st x)) (kL P d r K st) := rfl
def optS (P : Program) (o : Option St) (d : Option Nat) (r : List AO) (K : St → Prop) : Prop := match o with | some st => vcOps P r K (st.put d .any) | none => False
theorem optS_some : optS P (some st) d r K = vcOps P r K (st.put d .any) := rfl
theorem o_store {n : Nat} : vcOps P (⟨d, .store n x y, none⟩ :: r) K st = optS P (stV st n (ev st y) (ev st x)) d r K := by
  simp only [vcOps, AOp.sem, optS]
  cases stV st n (ev st y) (ev st x) <;> rfl
def nilckL (v : V) (K : V → Prop) : Prop := match v with | .ptr p o => K (.ptr p o) | .elt c o => K (.elt c o) | .fn (.func f) a b => K (.fn (.func f) a b) | _ => False
theorem o_nilck : vcOps P (⟨d, .nilck x, none⟩ :: r) K st = nilckL (ev st x) (kL P d r K st) := by
  simp only [vcOps, AOp.sem, nilckL]
  cases ev st x <;> first | rfl | (rename_i f _ _; cases f <;> rfl)
theorem nilckL_ptr {p : Pl} {o : Nat} {K : V → Prop} : nilckL (.ptr p o) K = K (.ptr p o) := rfl
theorem nilckL_elt {c : List V} {o : Nat} {K : V → Prop} : nilckL (.elt c o) K = K (.elt c o) := rfl
theorem nilckL_fn {f : FuncId} {c e : List V} {K : V → Prop} : nilckL (.fn (.func f) c e) K = K (.fn (.func f) c e) := rfl
theorem o_binI {op : BinOp} : vcOps P (⟨d, .binI op x y, none⟩ :: r) K st = optL (binIV op (ev st x) (ev st y)) (kL P d r K st) := rfl
theorem o_binS {op : BinOp} : vcOps P (⟨d, .binS op x y, none⟩ :: r) K st = optL (binSV op (ev st x) (ev st y)) (kL P d r K st) := rfl
theorem o_binB {n : Bool} : vcOps P (⟨d, .binB n x y, none⟩ :: r) K st = optL (eqBV n (ev st x) (ev st y)) (kL P d r K st) := rfl
def catL (u v : V) (K : V → Prop) : Prop := ∃ a b, u = .str a ∧ v = .str b ∧ a.length + b.length ≤ big ∧ K (.str (a ++ b))
theorem o_cat : vcOps P (⟨d, .cat x y, none⟩ :: r) K st = catL (ev st x) (ev st y) (kL P d r K st) := rfl
theorem catL_str {a b : List UInt8} {K : V → Prop} : catL (.str a) (.str b) K = (a.length + b.length ≤ big ∧ K (.str (a ++ b))) := by
  simp only [catL, V.str.injEq, eq_iff_iff]
  constructor
  · rintro ⟨a', b', rfl, rfl, h1, h2⟩; exact ⟨h1, h2⟩
  · rintro ⟨h1, h2⟩; exact ⟨a, b, rfl, rfl, h1, h2⟩
theorem o_eqA {n : Bool} {ks : List Nat} : vcOps P (⟨d, .eqA n ks x y, none⟩ :: r) K st = optL (eqAV n ks (ev st x) (ev st y)) (kL P d r K st) := rfl
def notL (v : V) (K : V → Prop) : Prop := match v with | .bool b => K (.bool (!b)) | _ => False
theorem o_not : vcOps P (⟨d, .not x, none⟩ :: r) K st = notL (ev st x) (kL P d r K st) := by
  simp only [vcOps, AOp.sem, notL]
  cases ev st x <;> rfl
theorem notL_bool {b : Bool} {K : V → Prop} : notL (.bool b) K = K (.bool (!b)) := rfl
def lenL (v : V) (K : V → Prop) : Prop := match v with | .sl _ _ l => K (.int .i64 l.length) | .raw (.slice _ n _) => K (.int .i64 n) | _ => False
theorem o_lenS : vcOps P (⟨d, .lenS x, none⟩ :: r) K st = lenL (ev st x) (kL P d r K st) := by
  simp only [vcOps, AOp.sem, lenL]
  cases ev st x <;> rfl
theorem lenL_sl {τ : Tk} {k : Nat} {m : List (List V)} {K : V → Prop} : lenL (.sl τ k m) K = K (.int .i64 m.length) := rfl
def lenTL (v : V) (K : V → Prop) : Prop := match v with | .str s => K (.int .i64 s.length) | _ => False
theorem o_lenT : vcOps P (⟨d, .lenT x, none⟩ :: r) K st = lenTL (ev st x) (kL P d r K st) := by
  simp only [vcOps, AOp.sem, lenTL]
  cases ev st x <;> rfl
theorem lenTL_str {s : List UInt8} {K : V → Prop} : lenTL (.str s) K = K (.int .i64 s.length) := rfl
def fldL (off : Nat) (v : V) (K : V → Prop) : Prop := match v with | .ptr p o => K (.ptr p (o + off)) | .elt c o => K (.elt c (o + off)) | _ => False
theorem o_fld {n : Nat} : vcOps P (⟨d, .fld n x, none⟩ :: r) K st = fldL n (ev st x) (kL P d r K st) := by
  simp only [vcOps, AOp.sem, fldL]
  cases ev st x <;> rfl
theorem fldL_ptr {p : Pl} {o n : Nat} {K : V → Prop} : fldL n (.ptr p o) K = K (.ptr p (o + n)) := rfl
theorem fldL_elt {c : List V} {o n : Nat} {K : V → Prop} : fldL n (.elt c o) K = K (.elt c (o + n)) := rfl
def fldvL (g : Bool) (off n : Nat) (v : V) (K : V → Prop) : Prop := match v with | .agg cs => optL (ldC g n (cs.drop off)) K | _ => False
theorem o_fldv {g : Bool} {n m : Nat} : vcOps P (⟨d, .fldv g m n x, none⟩ :: r) K st = fldvL g m n (ev st x) (kL P d r K st) := by
  simp only [vcOps, AOp.sem, fldvL]
  cases ev st x <;> rfl
theorem fldvL_agg {g : Bool} {n m : Nat} {cs : List V} {K : V → Prop} : fldvL g m n (.agg cs) K = optL (ldC g n (cs.drop m)) K := rfl
def idxL (k : Nat) (v i : V) (K : V → Prop) : Prop := match v with
  | .sl _ k' l => k' = k ∧ IdxOk l i fun c => K (.elt c 0)
  | .raw (.slice (some ⟨b, o, none⟩) n _) => ∃ ik j, i = .int ik j ∧ 0 ≤ j ∧ j < n ∧ K (.ptr (.out b) (o + j.toNat * k))
  | _ => False
theorem o_idxA {k : Nat} : vcOps P (⟨d, .idxA k x y, none⟩ :: r) K st = idxL k (ev st x) (ev st y) (kL P d r K st) := by
  simp only [vcOps, AOp.sem, idxL]
  cases ev st x <;> rfl
theorem idxL_intro {k : Nat} {τ : Tk} {m : List (List V)} {ik : IntKind} {n : Int} {c : List V} {K : V → Prop} (h0 : 0 ≤ n) (h : m[n.toNat]? = some c) (hk : K (.elt c 0)) : idxL k (.sl τ k m) (.int ik n) K := ⟨rfl, ik, n, c, rfl, h0, h, hk⟩
def idxPL (m k : Nat) (v i : V) (K : V → Prop) : Prop := match v with
  | .ptr p o => ∃ kk n, i = .int kk n ∧ 0 ≤ n ∧ n < (m : Nat) ∧ K (.ptr p (o + n.toNat * k))
  | .elt c o => ∃ kk n, i = .int kk n ∧ 0 ≤ n ∧ n < (m : Nat) ∧ K (.elt c (o + n.toNat * k))
  | _ => False
theorem o_idxP {m k : Nat} : vcOps P (⟨d, .idxP m k x y, none⟩ :: r) K st = idxPL m k (ev st x) (ev st y) (kL P d r K st) := by
  simp only [vcOps, AOp.sem, idxPL]
  cases ev st x <;> rfl
theorem idxPL_ptr {m k o : Nat} {p : Pl} {ik : IntKind} {n : Int} {K : V → Prop} (h0 : 0 ≤ n) (h : n < (m : Nat)) (hk : K (.ptr p (o + n.toNat * k))) : idxPL m k (.ptr p o) (.int ik n) K := ⟨ik, n, rfl, h0, h, hk⟩
theorem idxPL_elt {m k o : Nat} {c : List V} {ik : IntKind} {n : Int} {K : V → Prop} (h0 : 0 ≤ n) (h : n < (m : Nat)) (hk : K (.elt c (o + n.toNat * k))) : idxPL m k (.elt c o) (.int ik n) K := ⟨ik, n, rfl, h0, h, hk⟩
def idxSL (v i : V) (K : V → Prop) : Prop := match v with | .str s => ∃ k n c, i = .int k n ∧ 0 ≤ n ∧ s[n.toNat]? = some c ∧ K (.int .u8 c.toNat) | _ => False
theorem o_idxS : vcOps P (⟨d, .idxS x y, none⟩ :: r) K st = idxSL (ev st x) (ev st y) (kL P d r K st) := by
  simp only [vcOps, AOp.sem, idxSL]
  cases ev st x <;> rfl
theorem idxSL_intro {s : List UInt8} {ik : IntKind} {n : Int} {c : UInt8} {K : V → Prop} (h0 : 0 ≤ n) (h : s[n.toNat]? = some c) (hk : K (.int .u8 c.toNat)) : idxSL (.str s) (.int ik n) K := ⟨ik, n, c, rfl, h0, h, hk⟩
def kC (P : Program) (d : Option Nat) (r : List AO) (K : St → Prop) (t : List V) (l : List (List V)) (v : V) (σ : Store) : Prop := vcOps P r K (St.put ⟨t, l, σ⟩ d v)
theorem kC_eq {v : V} : kC P d r K t l v σ = vcOps P r K (St.put ⟨t, l, σ⟩ d v) := rfl
theorem o_call {f : FuncId} {xs : List X} : vcOps P (⟨d, .call f xs, none⟩ :: r) K ⟨t, l, σ⟩ = (nolL (evs ⟨t, l, σ⟩ xs) = true ∧ PCalls P f (evs ⟨t, l, σ⟩ xs) σ (kC P d r K t l)) := rfl
def callL (P : Program) (v : V) (args : List V) (σ : Store) (K : V → Store → Prop) : Prop := match v with | .fn (.func f) a b => nolL (a ++ args ++ b) = true ∧ PCalls P f (a ++ args ++ b) σ K | _ => False
theorem o_callv {xs : List X} : vcOps P (⟨d, .callv x xs, none⟩ :: r) K ⟨t, l, σ⟩ = callL P (ev ⟨t, l, σ⟩ x) (evs ⟨t, l, σ⟩ xs) σ (kC P d r K t l) := by
  simp only [vcOps, AOp.sem, callL]
  cases ev ⟨t, l, σ⟩ x <;> first | rfl | (rename_i f _ _; cases f <;> rfl)
theorem callL_fn {f : FuncId} {u args v : List V} {K : V → Store → Prop} : callL P (.fn (.func f) u v) args σ K = (nolL (u ++ args ++ v) = true ∧ PCalls P f (u ++ args ++ v) σ K) := rfl
theorem o_app {k : Nat} : vcOps P (⟨d, .app k x y, none⟩ :: r) K ⟨t, l, σ⟩ = AppOk σ k (ev ⟨t, l, σ⟩ x) (ev ⟨t, l, σ⟩ y) (kC P d r K t l) := rfl
theorem o_appS : vcOps P (⟨d, .appS x y, none⟩ :: r) K ⟨t, l, σ⟩ = (∃ a, ev ⟨t, l, σ⟩ y = .str a ∧ AppOk σ 1 (ev ⟨t, l, σ⟩ x) (.sl .no 1 (encB a)) (kC P d r K t l)) := rfl
theorem app_tk {k : Nat} {τ : Nat} {u : Tk} {m n : List (List V)} {K : V → Store → Prop} (hb : m.length + n.length ≤ big) (ht : σ.tip τ = some m.length) (hk : K (.sl (.tk τ) k (m ++ n)) (σ.setTip τ (m.length + n.length))) :
    AppOk σ k (.sl (.tk τ) k m) (.sl u k n) K := ⟨_, m, n, rfl, ⟨u, rfl⟩, hb, ht, hk⟩
theorem app_full {k : Nat} {u : Tk} {m n : List (List V)} {K : V → Store → Prop} (hb : m.length + n.length ≤ big) (hk : ∀ τ, σ.tip τ = none → K (.sl (.tk τ) k (m ++ n)) (σ.setTip τ (m.length + n.length))) :
    AppOk σ k (.sl .full k m) (.sl u k n) K := ⟨_, m, n, rfl, ⟨u, rfl⟩, hb, .inl hk⟩
theorem app_full_no {k : Nat} {u : Tk} {m n : List (List V)} {K : V → Store → Prop} (hb : m.length + n.length ≤ big) (hk : K (.sl .no k (m ++ n)) σ) :
    AppOk σ k (.sl .full k m) (.sl u k n) K := ⟨_, m, n, rfl, ⟨u, rfl⟩, hb, .inr hk⟩
def extL (i : Nat) (v : V) (K : V → Prop) : Prop := match v with | .tup vs => optL vs[i]? K | _ => False
theorem o_ext {i : Nat} : vcOps P (⟨d, .ext x i, none⟩ :: r) K st = extL i (ev st x) (kL P d r K st) := by
  simp only [vcOps, AOp.sem, extL]
  cases ev st x <;> rfl
theorem extL_zero {u : V} {us : List V} {K : V → Prop} : extL 0 (.tup (u :: us)) K = K u := rfl
theorem extL_succ {i : Nat} {u : V} {us : List V} {K : V → Prop} : extL (i + 1) (.tup (u :: us)) K = extL i (.tup us) K := rfl
theorem o_mkfn {f : Fn} {as bs : List X} : vcOps P (⟨d, .mkfn f as bs, none⟩ :: r) K st = vcOps P r K (st.put d (.fn f (evs st as) (evs st bs))) := rfl
def cvL' (k : IntKind) (v : V) (K : V → Prop) : Prop := match v with | .int _ n => K (.int k (k.wrap n)) | _ => False
theorem o_cvI {k : IntKind} : vcOps P (⟨d, .cvI k x, none⟩ :: r) K st = cvL' k (ev st x) (kL P d r K st) := by
  simp only [vcOps, AOp.sem, cvL']
  cases ev st x <;> rfl
theorem cvL_int {k j : IntKind} {n : Int} {K : V → Prop} : cvL' k (.int j n) K = K (.int k (k.wrap n)) := rfl
theorem o_cvBS : vcOps P (⟨d, .cvBS x, none⟩ :: r) K st = (∃ t s, ev st x = .sl t 1 (encB s) ∧ kL P d r K st (.str s)) := rfl
theorem o_slc {k : Nat} {lo hi mx : Option X} : vcOps P (⟨d, .slc k x lo hi mx, none⟩ :: r) K st = (AOp.slc k x lo hi mx).sem P st (fun v st' => vcOps P r K (st'.put d v)) := rfl
theorem o_slS {lo hi : Option X} : vcOps P (⟨d, .slS x lo hi, none⟩ :: r) K st = (AOp.slS x lo hi).sem P st (fun v st' => vcOps P r K (st'.put d v)) := rfl
def gL (P : Program) (v : V) (w : Bool) (d : Option Nat) (op : AOp) (r : List AO) (K : St → Prop) (st : St) : Prop :=
  match v with
  | .bool b => if b = w then vcOps P (⟨d, op, none⟩ :: r) K st else vcOps P r K (st.put d (.tup []))
  | .tup [] => vcOps P r K (st.put d (.tup []))
  | _ => False
theorem o_guard {g : Nat} {w : Bool} {op : AOp} : vcOps P (⟨d, op, some (g, w)⟩ :: r) K ⟨t, l, σ⟩ = gL P (t.getD g .any) w d op r K ⟨t, l, σ⟩ := by
  simp only [vcOps, gL, ev]
  generalize t.getD g .any = v
  cases v <;> first | rfl | (rename_i m; cases m <;> rfl)
theorem gL_und {w : Bool} {op : AOp} : gL P (.tup []) w d op r K st = vcOps P r K (st.put d (.tup [])) := rfl
theorem gL_tt {op : AOp} : gL P (.bool true) true d op r K st = vcOps P (⟨d, op, none⟩ :: r) K st := rfl
theorem gL_ff {op : AOp} : gL P (.bool false) false d op r K st = vcOps P (⟨d, op, none⟩ :: r) K st := rfl
theorem gL_tf {op : AOp} : gL P (.bool true) false d op r K st = vcOps P r K (st.put d (.tup [])) := rfl
theorem gL_ft {op : AOp} : gL P (.bool false) true d op r K st = vcOps P r K (st.put d (.tup [])) := rfl
theorem ldV_loc {g : Bool} {n i o : Nat} : ldV ⟨t, l, σ⟩ g n (.ptr (.loc i) o) = (l[i]?).bind fun cs => ldC g n (cs.drop o) := rfl
def ldB (c : Option (List V)) (g : Bool) (n o : Nat) : Option V := c.bind fun cs => ldC g n (cs.drop o)
theorem ldB_some {c : List V} {g : Bool} {n o : Nat} : ldB (some c) g n o = ldC g n (c.drop o) := rfl
theorem ldV_loc' {g : Bool} {n i o : Nat} : ldV ⟨t, l, σ⟩ g n (.ptr (.loc i) o) = ldB l[i]? g n o := rfl
theorem ldV_out {g : Bool} {n i o : Nat} : ldV ⟨t, l, σ⟩ g n (.ptr (.out i) o) = ldB (σ.box i) g n o := rfl
theorem ldV_elt {g : Bool} {n o : Nat} {cs : List V} : ldV st g n (.elt cs o) = ldC g n (cs.drop o) := rfl
theorem ldC_agg {n : Nat} {cs : List V} : ldC true n cs = (takeN n cs).map V.agg := rfl
theorem ldC_one {n : Nat} {c : V} {cs : List V} : ldC false n (c :: cs) = some c := rfl
theorem takeN_zero {cs : List V} : takeN 0 cs = some [] := rfl
theorem takeN_succ {n : Nat} {c : V} {cs : List V} : takeN (n + 1) (c :: cs) = (takeN n cs).map (c :: ·) := rfl
def mapC (c : V) : Option (List V) → Option (List V) | some l => some (c :: l) | none => none
theorem takeN_succ' {n : Nat} {c : V} {cs : List V} : takeN (n + 1) (c :: cs) = mapC c (takeN n cs) := by
  simp only [takeN]; cases takeN n cs <;> rfl
theorem mapC_some {c : V} {cs : List V} : mapC c (some cs) = some (c :: cs) := rfl
theorem drop_zero' {cs : List V} : cs.drop 0 = cs := rfl
theorem drop_succ {n : Nat} {c : V} {cs : List V} : (c :: cs).drop (n + 1) = cs.drop n := rfl
def stL (t : List V) (l : List (List V)) (σ : Store) (i o n : Nat) (x : V) : Option (List V) → Option St
  | some cs => if hasN n (cs.drop o) = true ∧ x.wd = some n ∧ oneL x.cells = true then some ⟨t, l.set i (setAt cs o x.cells), σ⟩ else none
  | none => none
theorem stV_loc {n i o : Nat} {v : V} : stV ⟨t, l, σ⟩ n v (.ptr (.loc i) o) = stL t l σ i o n v l[i]? := by
  simp only [stV]; cases l[i]? <;> rfl
theorem stL_some {n i o : Nat} {v : V} {cs : List V} : stL t l σ i o n v (some cs) = if hasN n (cs.drop o) = true ∧ v.wd = some n ∧ oneL v.cells = true then some ⟨t, l.set i (setAt cs o v.cells), σ⟩ else none := rfl
def stO (t : List V) (l : List (List V)) (σ : Store) (i o n : Nat) (x : V) : Option (List V) → Option St
  | some cs => if hasN n (cs.drop o) = true ∧ x.wd = some n ∧ oneL x.cells = true ∧ nolL x.cells = true then some ⟨t, l, σ.set i (setAt cs o x.cells)⟩ else none
  | none => none
theorem stV_out {n i o : Nat} {v : V} : stV ⟨t, l, σ⟩ n v (.ptr (.out i) o) = stO t l σ i o n v (σ.box i) := by
  simp only [stV]; cases σ.box i <;> rfl
theorem stO_some {n i o : Nat} {v : V} {cs : List V} : stO t l σ i o n v (some cs) = if hasN n (cs.drop o) = true ∧ v.wd = some n ∧ oneL v.cells = true ∧ nolL v.cells = true then some ⟨t, l, σ.set i (setAt cs o v.cells)⟩ else none := rfl
theorem set_box {b : Nat} {cs : List V} : (σ.set b cs).box b = some cs := by simp [Store.set]
theorem set_box_ne {b c : Nat} {cs : List V} (h : c ≠ b) : (σ.set b cs).box c = σ.box c := by simp [Store.set, h]
theorem set_box_if {b c : Nat} {cs : List V} : (σ.set b cs).box c = if c = b then some cs else σ.box c := rfl
theorem setTip_box {b τ n : Nat} : (σ.setTip τ n).box b = σ.box b := rfl
theorem set_tip {b τ : Nat} {cs : List V} : (σ.set b cs).tip τ = σ.tip τ := rfl
theorem setTip_tip {τ n : Nat} : (σ.setTip τ n).tip τ = some n := by simp [Store.setTip]
theorem setTip_tip_ne {τ υ n : Nat} (h : υ ≠ τ) : (σ.setTip τ n).tip υ = σ.tip υ := by simp [Store.setTip, h]
theorem buildV_nil {c : List V} : buildV st c [] = some c := rfl
def bldL (st : St) (c : List V) (off n : Nat) (v : V) (ps : List (Nat × Nat × X)) : Option (List V) := if hasN n (c.drop off) = true ∧ v.wd = some n then buildV st (setAt c off v.cells) ps else none
theorem buildV_cons {c : List V} {off n : Nat} {ps : List (Nat × Nat × X)} : buildV st c ((off, n, x) :: ps) = bldL st c off n (ev st x) ps := rfl
theorem bldL_ok {c : List V} {off n : Nat} {v : V} {ps : List (Nat × Nat × X)} : bldL st c off n v ps = if hasN n (c.drop off) = true ∧ v.wd = some n then buildV st (setAt c off v.cells) ps else none := rfl
theorem rowsV_nil {k : Nat} : rowsV st k [] = some [] := rfl
def rowL (c : List V) : Option (List (List V)) → Option (List (List V)) | some l => some (c :: l) | none => none
theorem rowL_some {c : List V} {m : List (List V)} : rowL c (some m) = some (c :: m) := rfl
def rowC (st : St) (k : Nat) (v : V) (xs : List X) : Option (List (List V)) := if v.wd = some k ∧ nolL v.cells = true ∧ oneL v.cells = true then rowL (eraseL v.cells) (rowsV st k xs) else none
theorem rowsV_cons {k : Nat} {xs : List X} : rowsV st k (x :: xs) = rowC st k (ev st x) xs := by
  simp only [rowsV, rowC]
  cases rowsV st k xs <;> rfl
theorem rowC_ok {k : Nat} {v : V} {xs : List X} : rowC st k v xs = if v.wd = some k ∧ nolL v.cells = true ∧ oneL v.cells = true then rowL (eraseL v.cells) (rowsV st k xs) else none := rfl
def VLe (v v' : V) : Prop := ∀ E u, R E v u → R E v' u
theorem VLe.rfl {v : V} : VLe v v := fun _ _ h => h
theorem VLe.any {v : V} : VLe v .any := fun _ _ _ => by simp only [R]
theorem VLe.erase {v : V} : VLe v v.erase := fun _ _ h => R.erase v h
theorem VLe.of_eq {v v' : V} (h : v = v') : VLe v v' := h ▸ VLe.rfl
theorem VLe.no {τ : Tk} {k : Nat} {m : List (List V)} : VLe (.sl τ k m) (.sl .no k m) := fun _ _ h => R.erase (.sl τ k m) h
theorem VLe.full {k : Nat} : VLe (.sl .full k []) (.sl .no k []) := VLe.no
def LLe : List V → List V → Prop
  | [], [] => True
  | v :: l, v' :: l' => VLe v v' ∧ LLe l l'
  | _, _ => False
theorem LLe.rfl : ∀ {l : List V}, LLe l l
  | [] => trivial
  | _ :: _ => ⟨VLe.rfl, LLe.rfl⟩
theorem LLe.mono : ∀ {l l' : List V} {E : Env} {us : List Value}, LLe l l' → RL E l us → RL E l' us
  | [], [], _, _, _, h => h
  | [], _ :: _, _, _, h, _ => h.elim
  | _ :: _, [], _, _, h, _ => h.elim
  | v :: l, v' :: l', _, [], _, h => by simp [RL] at h
  | v :: l, v' :: l', _, u :: us, h, hr => by
    simp only [RL] at hr ⊢
    exact ⟨h.1 _ _ hr.1, LLe.mono h.2 hr.2⟩
theorem LLe.length : ∀ {l l' : List V}, LLe l l' → l.length = l'.length
  | [], [], _ => Eq.refl _
  | [], _ :: _, h => h.elim
  | _ :: _, [], h => h.elim
  | v :: l, v' :: l', h => by simp [LLe.length h.2]
theorem LLe.get : ∀ {l l' : List V}, LLe l l' → ∀ (j : Nat) v', l'[j]? = some v' → ∃ v, l[j]? = some v ∧ VLe v v'
  | [], [], _, j, v', h => by simp at h
  | [], _ :: _, h, _, _, _ => h.elim
  | _ :: _, [], h, _, _, _ => h.elim
  | v :: l, w :: l', h, j, v', hj => by
    cases j with
    | zero => simp at hj; subst hj; exact ⟨v, by simp, h.1⟩
    | succ j => simp at hj; obtain ⟨u, h1, h2⟩ := LLe.get h.2 j v' hj; exact ⟨u, by simpa using h1, h2⟩
def LLLe : List (List V) → List (List V) → Prop
  | [], [] => True
  | v :: l, v' :: l' => LLe v v' ∧ LLLe l l'
  | _, _ => False
theorem LLLe.rfl : ∀ {l : List (List V)}, LLLe l l
  | [] => trivial
  | _ :: _ => ⟨LLe.rfl, LLLe.rfl⟩
theorem LLLe.length : ∀ {l l' : List (List V)}, LLLe l l' → l.length = l'.length
  | [], [], _ => Eq.refl _
  | [], _ :: _, h => h.elim
  | _ :: _, [], h => h.elim
  | v :: l, v' :: l', h => by simp [LLLe.length h.2]
theorem LLLe.get : ∀ {l l' : List (List V)}, LLLe l l' → ∀ (j : Nat) v', l'[j]? = some v' → ∃ v, l[j]? = some v ∧ LLe v v'
  | [], [], _, j, v', h => by simp at h
  | [], _ :: _, h, _, _, _ => h.elim
  | _ :: _, [], h, _, _, _ => h.elim
  | v :: l, w :: l', h, j, v', hj => by
    cases j with
    | zero => simp at hj; subst hj; exact ⟨v, by simp, h.1⟩
    | succ j => simp at hj; obtain ⟨u, h1, h2⟩ := LLLe.get h.2 j v' hj; exact ⟨u, by simpa using h1, h2⟩
theorem BoxAt.weak {E : Env} {b : Nat} {cs cs' : List V} (h : LLe cs cs') (k : BoxAt E b cs) : BoxAt E b cs' := by
  obtain ⟨c, e, h1, h2, h3⟩ := k
  refine ⟨c, e, h1, by rw [← h.length]; exact h2, fun j x hx => ?_⟩
  obtain ⟨v, hv, hle⟩ := h.get j x hx
  obtain ⟨u, k1, k2⟩ := h3 j v hv
  exact ⟨u, k1, hle _ _ k2⟩
structure OLe (σ σ' : Store) : Prop where
  box : ∀ b cs', σ'.box b = some cs' → ∃ cs, σ.box b = some cs ∧ LLe cs cs'
  tip : ∀ τ n, σ'.tip τ = some n → σ.tip τ = some n
theorem OLe.rfl {σ : Store} : OLe σ σ := ⟨fun _ cs h => ⟨cs, h, LLe.rfl⟩, fun _ _ h => h⟩
theorem OLe.of_sub {σ σ' : Store} (h : σ'.sub σ) : OLe σ σ' := ⟨fun b cs k => ⟨cs, h.1 b cs k, LLe.rfl⟩, h.2⟩
theorem Upd.weak {t t' : List V} {l l' : List (List V)} {σ σ' : Store} (h : LLe t t') (hl : LLLe l l') (ho : OLe σ σ') (hk : K ⟨t', l', σ'⟩) : Upd ⟨t, l, σ⟩ K := by
  intro E a hs
  refine ⟨E, _, rfl, Fr.refl E, ⟨⟨fun b cs hcs => ?_, fun τ n hn => hs.ok.tip τ n (ho.tip τ n hn), hs.ok.fresh, hs.ok.nt⟩, ⟨fun i cs hcs => ?_, fun i hi => hs.okL.none i (by rw [hl.length]; exact hi)⟩, hs.defers, h.mono hs.slot⟩, hk⟩
  · obtain ⟨cs0, h1, h2⟩ := ho.box b cs hcs
    obtain ⟨k1, k2⟩ := hs.ok.box b cs0 h1
    exact ⟨k1, k2.weak h2⟩
  · obtain ⟨cs0, h1, h2⟩ := hl.get i cs hcs
    obtain ⟨b, k1, k2, k3⟩ := hs.okL.box i cs0 h1
    exact ⟨b, k1, k2, k3.weak h2⟩
theorem Upd.slots {t t' : List V} {l : List (List V)} {σ : Store} (h : LLe t t') (hk : K ⟨t', l, σ⟩) : Upd ⟨t, l, σ⟩ K := Upd.weak h LLLe.rfl OLe.rfl hk
theorem PCalls.weak {f : FuncId} {as as' : List V} {σ σ' : Store} {R' : V → Store → Prop} (h : PCalls P f as' σ' R') (ha : LLe as as') (ho : OLe σ σ') : PCalls P f as σ R' := by
  refine ⟨h.1, fun E vs h1 h2 h3 => h.2 E vs h1 ?_ (ha.mono h3)⟩
  refine ⟨fun b cs hcs => ?_, fun τ n hn => h2.tip τ n (ho.tip τ n hn), h2.fresh, h2.nt⟩
  obtain ⟨cs0, k1, k2⟩ := ho.box b cs hcs
  obtain ⟨k3, k4⟩ := h2.box b cs0 k1
  exact ⟨k3, k4.weak k2⟩
end
end Go.Am

namespace Go.Am
section
variable {P : Program} {d : Option Nat} {r : List (AO × List Nat)} {K : St → Prop} {t : List V} {l : List (List V)} {σ : Store} {x y z : X} {st : St} {SN : List Sto} {L : List (V × Bool × Nat × V × List Nat)} {ms : List Nat}
theorem d_nil : vcD P [] SN L K st = (chkL SN L ∧ K st) := rfl
def kD (P : Program) (d : Option Nat) (r : List (AO × List Nat)) (SN : List Sto) (L : List (V × Bool × Nat × V × List Nat)) (K : St → Prop) (st : St) (v : V) : Prop := vcD P r SN L K (st.put d v)
theorem kD_eq {v : V} : kD P d r SN L K ⟨t, l, σ⟩ v = vcD P r SN L K (St.put ⟨t, l, σ⟩ d v) := rfl
theorem d_mv : vcD P ((⟨d, .mv x, none⟩, ms) :: r) SN L K st = vcD P r SN L K (st.put d (ev st x)) := rfl
def pickD (P : Program) (v a b : V) (d : Option Nat) (r : List (AO × List Nat)) (SN : List Sto) (L : List (V × Bool × Nat × V × List Nat)) (K : St → Prop) (st : St) : Prop := match v with | .bool true => vcD P r SN L K (st.put d a) | .bool false => vcD P r SN L K (st.put d b) | _ => False
theorem d_pick : vcD P ((⟨d, .pick x y z, none⟩, ms) :: r) SN L K st = pickD P (ev st x) (ev st y) (ev st z) d r SN L K st := by
  show (match ev st x with | .bool true => _ | .bool false => _ | _ => False) = _
  unfold pickD
  cases ev st x <;> first | rfl | (rename_i b; cases b <;> rfl)
theorem pickD_true {u v : V} : pickD P (.bool true) u v d r SN L K st = vcD P r SN L K (st.put d u) := rfl
theorem pickD_false {u v : V} : pickD P (.bool false) u v d r SN L K st = vcD P r SN L K (st.put d v) := rfl
theorem pickD_ff {b c : Bool} : pickD P (.bool b) (.bool c) (.bool false) d r SN L K st = vcD P r SN L K (st.put d (.bool (b && c))) := by cases b <;> simp [pickD]
theorem pickD_tt {b c : Bool} : pickD P (.bool b) (.bool true) (.bool c) d r SN L K st = vcD P r SN L K (st.put d (.bool (b || c))) := by cases b <;> simp [pickD]
theorem d_alloc {c : List V} : vcD P ((⟨d, .alloc c, none⟩, ms) :: r) SN L K ⟨t, l, σ⟩ = vcD P r (SN ++ [(l ++ [c], σ)]) L K (St.put ⟨t, l ++ [c], σ⟩ d (.ptr (.loc l.length) 0)) := rfl
theorem d_box {n : Nat} : vcD P ((⟨d, .box n x, none⟩, ms) :: r) SN L K ⟨t, l, σ⟩ = ((ev ⟨t, l, σ⟩ x).wd = some n ∧ vcD P r (SN ++ [(l ++ [(ev ⟨t, l, σ⟩ x).cells], σ)]) L K (St.put ⟨t, l ++ [(ev ⟨t, l, σ⟩ x).cells], σ⟩ d (.ptr (.loc l.length) 0))) := rfl
theorem d_boxS {n : Nat} : vcD P ((⟨d, .boxS n x, none⟩, ms) :: r) SN L K ⟨t, l, σ⟩ = ((ev ⟨t, l, σ⟩ x).wd = some n ∧ oneL (ev ⟨t, l, σ⟩ x).cells = true ∧ vcD P r (SN ++ [(l ++ [(ev ⟨t, l, σ⟩ x).cells], σ)]) L K (St.put ⟨t, l ++ [(ev ⟨t, l, σ⟩ x).cells], σ⟩ d (.ptr (.loc l.length) 0))) := rfl
theorem d_build {c : List V} {ps : List (Nat × Nat × X)} : vcD P ((⟨d, .build c ps, none⟩, ms) :: r) SN L K st = optL ((buildV st c ps).map V.agg) (kD P d r SN L K st) := rfl
theorem d_bslice {k : Nat} {xs : List X} : vcD P ((⟨d, .bslice k xs, none⟩, ms) :: r) SN L K st = optR (rowsV st k xs) k (kD P d r SN L K st) := by
  show opt ((rowsV st k xs).map (V.sl .full k)) _ = _
  cases rowsV st k xs <;> rfl
def ldD (P : Program) (a : V) (g : Bool) (n : Nat) (ms : List Nat) (d : Option Nat) (r : List (AO × List Nat)) (SN : List Sto) (L : List (V × Bool × Nat × V × List Nat)) (K : St → Prop) (st : St) : Option V → Prop
  | some v => vcD P r SN ((a, g, n, v, ms) :: L) K (st.put d v)
  | none => False
theorem ldD_some {a v : V} {g : Bool} {n : Nat} : ldD P a g n ms d r SN L K st (some v) = vcD P r SN ((a, g, n, v, ms) :: L) K (st.put d v) := rfl
theorem d_load {g : Bool} {n : Nat} : vcD P ((⟨d, .load g n x, none⟩, ms) :: r) SN L K st = ldD P (ev st x) g n ms d r SN L K st (ldV st g n (ev st x)) := by
  show opt (ldV st g n (ev st x)) _ = _
  cases ldV st g n (ev st x) <;> rfl
def stD (P : Program) (d : Option Nat) (r : List (AO × List Nat)) (SN : List Sto) (L : List (V × Bool × Nat × V × List Nat)) (K : St → Prop) : Option St → Prop
  | some st => vcD P r (SN ++ [(st.loc, st.out)]) L K (st.put d .any)
  | none => False
theorem stD_some : stD P d r SN L K (some ⟨t, l, σ⟩) = vcD P r (SN ++ [(l, σ)]) L K (St.put ⟨t, l, σ⟩ d .any) := rfl
theorem d_store {n : Nat} : vcD P ((⟨d, .store n x y, none⟩, ms) :: r) SN L K st = stD P d r SN L K (stV st n (ev st y) (ev st x)) := by
  show (match stV st n (ev st y) (ev st x) with | some st' => _ | none => False) = _
  cases stV st n (ev st y) (ev st x) <;> rfl
theorem d_nilck : vcD P ((⟨d, .nilck x, none⟩, ms) :: r) SN L K st = nilckL (ev st x) (kD P d r SN L K st) := by
  show (match ev st x with | .ptr p o => _ | .elt c o => _ | .fn (.func f) a b => _ | _ => False) = _
  unfold nilckL
  cases ev st x <;> first | rfl | (rename_i f _ _; cases f <;> rfl)
theorem d_binI {op : BinOp} : vcD P ((⟨d, .binI op x y, none⟩, ms) :: r) SN L K st = optL (binIV op (ev st x) (ev st y)) (kD P d r SN L K st) := rfl
theorem d_binS {op : BinOp} : vcD P ((⟨d, .binS op x y, none⟩, ms) :: r) SN L K st = optL (binSV op (ev st x) (ev st y)) (kD P d r SN L K st) := rfl
theorem d_binB {n : Bool} : vcD P ((⟨d, .binB n x y, none⟩, ms) :: r) SN L K st = optL (eqBV n (ev st x) (ev st y)) (kD P d r SN L K st) := rfl
theorem d_cat : vcD P ((⟨d, .cat x y, none⟩, ms) :: r) SN L K st = catL (ev st x) (ev st y) (kD P d r SN L K st) := rfl
theorem d_eqA {n : Bool} {ks : List Nat} : vcD P ((⟨d, .eqA n ks x y, none⟩, ms) :: r) SN L K st = optL (eqAV n ks (ev st x) (ev st y)) (kD P d r SN L K st) := rfl
theorem d_not : vcD P ((⟨d, .not x, none⟩, ms) :: r) SN L K st = notL (ev st x) (kD P d r SN L K st) := by
  show (match ev st x with | .bool b => _ | _ => False) = _
  unfold notL
  cases ev st x <;> rfl
theorem d_lenS : vcD P ((⟨d, .lenS x, none⟩, ms) :: r) SN L K st = lenL (ev st x) (kD P d r SN L K st) := by
  show (match ev st x with | .sl _ _ l => _ | .raw (.slice _ n _) => _ | _ => False) = _
  unfold lenL
  cases ev st x <;> rfl
theorem d_lenT : vcD P ((⟨d, .lenT x, none⟩, ms) :: r) SN L K st = lenTL (ev st x) (kD P d r SN L K st) := by
  show (match ev st x with | .str s => _ | _ => False) = _
  unfold lenTL
  cases ev st x <;> rfl
theorem d_fld {n : Nat} : vcD P ((⟨d, .fld n x, none⟩, ms) :: r) SN L K st = fldL n (ev st x) (kD P d r SN L K st) := by
  show (match ev st x with | .ptr p o => _ | .elt c o => _ | _ => False) = _
  unfold fldL
  cases ev st x <;> rfl
theorem d_fldv {g : Bool} {n m : Nat} : vcD P ((⟨d, .fldv g m n x, none⟩, ms) :: r) SN L K st = fldvL g m n (ev st x) (kD P d r SN L K st) := by
  show (match ev st x with | .agg cs => _ | _ => False) = _
  unfold fldvL
  cases ev st x <;> rfl
theorem d_idxA {k : Nat} : vcD P ((⟨d, .idxA k x y, none⟩, ms) :: r) SN L K st = idxL k (ev st x) (ev st y) (kD P d r SN L K st) := by
  show (match ev st x with | .sl _ k' l => _ | .raw (.slice (some ⟨b, o, none⟩) n _) => _ | _ => False) = _
  unfold idxL
  cases ev st x <;> rfl
theorem d_idxP {m k : Nat} : vcD P ((⟨d, .idxP m k x y, none⟩, ms) :: r) SN L K st = idxPL m k (ev st x) (ev st y) (kD P d r SN L K st) := by
  show (match ev st x with | .ptr p o => _ | .elt c o => _ | _ => False) = _
  unfold idxPL
  cases ev st x <;> rfl
theorem d_idxS : vcD P ((⟨d, .idxS x y, none⟩, ms) :: r) SN L K st = idxSL (ev st x) (ev st y) (kD P d r SN L K st) := by
  show (match ev st x with | .str s => _ | _ => False) = _
  unfold idxSL
  cases ev st x <;> rfl
def kCD (P : Program) (d : Option Nat) (r : List (AO × List Nat)) (SN : List Sto) (L : List (V × Bool × Nat × V × List Nat)) (K : St → Prop) (t : List V) (l : List (List V)) (v : V) (σ : Store) : Prop := vcD P r (SN ++ [(l, σ)]) L K (St.put ⟨t, l, σ⟩ d v)
theorem kCD_eq {v : V} : kCD P d r SN L K t l v σ = vcD P r (SN ++ [(l, σ)]) L K (St.put ⟨t, l, σ⟩ d v) := rfl
def CallD (P : Program) (f : FuncId) (as : List V) (σ : Store) (K : V → Store → Prop) : Prop := ∃ v σ', PCalls P f as σ (fun v' σ'' => v' = v ∧ σ'' = σ') ∧ K v σ'
theorem CallD.intro {f : FuncId} {as : List V} {K : V → Store → Prop} {v : V} {σ' : Store} (h : PCalls P f as σ fun v' σ'' => v' = v ∧ σ'' = σ') (k : K v σ') : CallD P f as σ K := ⟨v, σ', h, k⟩
theorem d_call {f : FuncId} {xs : List X} : vcD P ((⟨d, .call f xs, none⟩, ms) :: r) SN L K ⟨t, l, σ⟩ = (nolL (evs ⟨t, l, σ⟩ xs) = true ∧ CallD P f (evs ⟨t, l, σ⟩ xs) σ (kCD P d r SN L K t l)) := rfl
def callD (P : Program) (v : V) (args : List V) (σ : Store) (K : V → Store → Prop) : Prop := match v with | .fn (.func f) a b => nolL (a ++ args ++ b) = true ∧ CallD P f (a ++ args ++ b) σ K | _ => False
theorem d_callv {xs : List X} : vcD P ((⟨d, .callv x xs, none⟩, ms) :: r) SN L K ⟨t, l, σ⟩ = callD P (ev ⟨t, l, σ⟩ x) (evs ⟨t, l, σ⟩ xs) σ (kCD P d r SN L K t l) := by
  show (match ev ⟨t, l, σ⟩ x with | .fn (.func f) a b => _ | _ => False) = _
  unfold callD
  cases ev ⟨t, l, σ⟩ x <;> first | rfl | (rename_i f _ _; cases f <;> rfl)
theorem callD_fn {f : FuncId} {u args v : List V} {K : V → Store → Prop} : callD P (.fn (.func f) u v) args σ K = (nolL (u ++ args ++ v) = true ∧ CallD P f (u ++ args ++ v) σ K) := rfl
theorem d_app {k : Nat} : vcD P ((⟨d, .app k x y, none⟩, ms) :: r) SN L K ⟨t, l, σ⟩ = AppD σ k (ev ⟨t, l, σ⟩ x) (ev ⟨t, l, σ⟩ y) (kCD P d r SN L K t l) := rfl
theorem d_appS : vcD P ((⟨d, .appS x y, none⟩, ms) :: r) SN L K ⟨t, l, σ⟩ = (∃ a, ev ⟨t, l, σ⟩ y = .str a ∧ AppD σ 1 (ev ⟨t, l, σ⟩ x) (.sl .no 1 (encB a)) (kCD P d r SN L K t l)) := rfl
theorem appD_tk {k : Nat} {τ : Nat} {u : Tk} {m n : List (List V)} {K : V → Store → Prop} (hb : m.length + n.length ≤ big) (ht : σ.tip τ = some m.length) (hk : K (.sl (.tk τ) k (m ++ n)) (σ.setTip τ (m.length + n.length))) :
    AppD σ k (.sl (.tk τ) k m) (.sl u k n) K := ⟨_, m, n, rfl, ⟨u, rfl⟩, hb, ht, hk⟩
theorem appD_full {k : Nat} {u : Tk} {m n : List (List V)} {K : V → Store → Prop} (hb : m.length + n.length ≤ big) (hk : K (.sl .no k (m ++ n)) σ) :
    AppD σ k (.sl .full k m) (.sl u k n) K := ⟨_, m, n, rfl, ⟨u, rfl⟩, hb, hk⟩
theorem d_ext {i : Nat} : vcD P ((⟨d, .ext x i, none⟩, ms) :: r) SN L K st = extL i (ev st x) (kD P d r SN L K st) := by
  show (match ev st x with | .tup vs => _ | _ => False) = _
  unfold extL
  cases ev st x <;> rfl
theorem d_mkfn {f : Fn} {as bs : List X} : vcD P ((⟨d, .mkfn f as bs, none⟩, ms) :: r) SN L K st = vcD P r SN L K (st.put d (.fn f (evs st as) (evs st bs))) := rfl
theorem d_cvI {k : IntKind} : vcD P ((⟨d, .cvI k x, none⟩, ms) :: r) SN L K st = cvL' k (ev st x) (kD P d r SN L K st) := by
  show (match ev st x with | .int _ n => _ | _ => False) = _
  unfold cvL'
  cases ev st x <;> rfl
theorem d_cvBS : vcD P ((⟨d, .cvBS x, none⟩, ms) :: r) SN L K st = (∃ t s, ev st x = .sl t 1 (encB s) ∧ kD P d r SN L K st (.str s)) := rfl
theorem d_slc {k : Nat} {lo hi mx : Option X} : vcD P ((⟨d, .slc k x lo hi mx, none⟩, ms) :: r) SN L K st = (AOp.slc k x lo hi mx).sem P st (fun v st' => vcD P r SN L K (st'.put d v)) := rfl
theorem d_slS {lo hi : Option X} : vcD P ((⟨d, .slS x lo hi, none⟩, ms) :: r) SN L K st = (AOp.slS x lo hi).sem P st (fun v st' => vcD P r SN L K (st'.put d v)) := rfl
def gD (P : Program) (v : V) (w : Bool) (d : Option Nat) (op : AOp) (ms : List Nat) (r : List (AO × List Nat)) (SN : List Sto) (L : List (V × Bool × Nat × V × List Nat)) (K : St → Prop) (st : St) : Prop :=
  match v with
  | .bool b => if b = w then vcD P ((⟨d, op, none⟩, ms) :: r) SN L K st else vcD P r (if op.eff then SN ++ [(st.loc, st.out)] else SN) L K (st.put d (.tup []))
  | .tup [] => vcD P r (if op.eff then SN ++ [(st.loc, st.out)] else SN) L K (st.put d (.tup []))
  | _ => False
theorem d_guard {g : Nat} {w : Bool} {op : AOp} : vcD P ((⟨d, op, some (g, w)⟩, ms) :: r) SN L K ⟨t, l, σ⟩ = gD P (t.getD g .any) w d op ms r SN L K ⟨t, l, σ⟩ := by
  simp only [vcD, gD, ev]
  generalize t.getD g .any = v
  cases v <;> first | rfl | (rename_i m; cases m <;> rfl)
theorem gD_und {w : Bool} {op : AOp} : gD P (.tup []) w d op ms r SN L K ⟨t, l, σ⟩ = vcD P r (if op.eff = true then SN ++ [(l, σ)] else SN) L K (St.put ⟨t, l, σ⟩ d (.tup [])) := rfl
theorem gD_tt {op : AOp} : gD P (.bool true) true d op ms r SN L K st = vcD P ((⟨d, op, none⟩, ms) :: r) SN L K st := rfl
theorem gD_ff {op : AOp} : gD P (.bool false) false d op ms r SN L K st = vcD P ((⟨d, op, none⟩, ms) :: r) SN L K st := rfl
theorem gD_tf {op : AOp} : gD P (.bool true) false d op ms r SN L K ⟨t, l, σ⟩ = vcD P r (if op.eff = true then SN ++ [(l, σ)] else SN) L K (St.put ⟨t, l, σ⟩ d (.tup [])) := rfl
theorem gD_ft {op : AOp} : gD P (.bool false) true d op ms r SN L K ⟨t, l, σ⟩ = vcD P r (if op.eff = true then SN ++ [(l, σ)] else SN) L K (St.put ⟨t, l, σ⟩ d (.tup [])) := rfl
theorem chkL_nil : chkL SN [] = True := rfl
theorem chkL_cons {g : Bool} {n : Nat} {a v : V} : chkL SN ((a, g, n, v, ms) :: L) = (chk1 SN g n a v ms ∧ chkL SN L) := rfl
theorem chk1_nil {g : Bool} {n : Nat} {a v : V} : chk1 SN g n a v [] = True := rfl
theorem chk1_cons {g : Bool} {n m : Nat} {a v : V} : chk1 SN g n a v (m :: ms) = (ldS (SN.getD m stoD) g n a = some v ∧ chk1 SN g n a v ms) := rfl
theorem sget0 {s u : Sto} : (s :: SN).getD 0 u = s := rfl
theorem sgetS {s u : Sto} {n : Nat} : (s :: SN).getD (n + 1) u = SN.getD n u := rfl
theorem sapp0 {s : Sto} : ([] : List Sto) ++ [s] = [s] := rfl
theorem sappS {s u : Sto} : (s :: SN) ++ [u] = s :: (SN ++ [u]) := rfl
theorem ldS_loc {g : Bool} {n i o : Nat} : ldS (l, σ) g n (.ptr (.loc i) o) = ldB l[i]? g n o := rfl
theorem ldS_out {g : Bool} {n i o : Nat} : ldS (l, σ) g n (.ptr (.out i) o) = ldB (σ.box i) g n o := rfl
theorem ldS_elt {g : Bool} {n o : Nat} {cs : List V} {s : Sto} : ldS s g n (.elt cs o) = ldC g n (cs.drop o) := rfl
def drawT (P : Program) (l : List (List V)) (σ : Store) (o : List (AO × List Nat)) (K : St → Prop) : Option (List V) → Prop
  | some t => vcD P o [(l, σ)] [] K ⟨t, l, σ⟩
  | none => False
theorem vc_drawA {Q : Exit → St → Prop} {o : List (AO × List Nat)} {nv : List Nat} : vc P (.drawA nv o) Q ⟨t, l, σ⟩ = drawT P l σ o (Q .normal) (anyAt nv t) := by
  simp only [vc]
  cases anyAt nv t with
  | none => simp [drawT]
  | some t' => simp [drawT]
theorem drawT_some {K : St → Prop} {o : List (AO × List Nat)} : drawT P l σ o K (some t) = vcD P o [(l, σ)] [] K ⟨t, l, σ⟩ := rfl
theorem anyAt_nil : anyAt [] t = some t := rfl
def anyB (b : Bool) (x : Option (List V)) : Option (List V) := if b then x else none
theorem anyAt_cons {d : Nat} {ds : List Nat} : anyAt (d :: ds) t = anyB (decide (d < t.length)) (anyAt ds (t.set d .any)) := by
  simp only [anyAt, anyB, decide_eq_true_eq]
theorem anyB_t {y : Option (List V)} : anyB true y = y := rfl
theorem vc_hole {Q : Exit → St → Prop} {o : List (AO × List Nat)} {h : HI} : vc P (.hole o h) Q ⟨t, l, σ⟩ = vcD P o [(l, σ)] [] (HoleW h (Q .normal)) ⟨t, l, σ⟩ := rfl
theorem hole_eq {h : HI} : HoleW h K ⟨t, l, σ⟩ = HoleK h K ⟨weakT h t, l, σ⟩ := rfl
theorem weakT_none {k : Nat} {a b c e f : X} {d9 d10 dF : Nat} : weakT ⟨k, a, b, c, e, f, none, d9, d10, dF⟩ t = (t.set d9 .any).set d10 .any := rfl
theorem weakT_some {k off : Nat} {a b c e f : X} {d9 d10 dF : Nat} : weakT ⟨k, a, b, c, e, f, some off, d9, d10, dF⟩ t = ((t.set d9 .any).set d10 .any).set dF .any := rfl
theorem hole_intro {h : HI} {τ : Nat} {m : List (List V)} {c : List V} {t' : Tk} {j : IntKind} {p : V} {st' : St} {cs : List V} (es : ev ⟨t, l, σ⟩ h.s = .sl (.tk τ) h.k m) (ez : ev ⟨t, l, σ⟩ h.z = .sl t' h.k [c])
    (el : ev ⟨t, l, σ⟩ h.len = .int j m.length) (hb : m.length + 1 ≤ big) (ht : σ.tip τ = some m.length) (hx : (ev ⟨t, l, σ⟩ h.x).wd = some h.k ∧ oneL (ev ⟨t, l, σ⟩ h.x).cells = true ∧ nolL (ev ⟨t, l, σ⟩ h.x).cells = true)
    (hcs : eraseL (ev ⟨t, l, σ⟩ h.x).cells = cs) (hd : h.d9 < t.length ∧ h.d10 < t.length ∧ (h.fo.isSome = true → h.dF < t.length)) (hp : fldO h.fo (ev ⟨t, l, σ⟩ h.addr) = some p)
    (hst : stV ⟨t, l, σ⟩ 1 (.sl (.tk τ) h.k (m ++ [cs])) p = some st') (hk : K ⟨st'.t, st'.loc, st'.out.setTip τ (m.length + 1)⟩) : HoleK h K ⟨t, l, σ⟩ :=
  ⟨τ, m, c, t', j, es, ez, el, hb, ht, hx.1, hx.2.1, hx.2.2, hd.1, hd.2.1, hd.2.2, p, hp, st', by rw [hcs]; exact hst, hk⟩
end
section
variable {x y z : X} {n m : Nat} {c : List V} {g : Bool} {bo : BinOp} {ks : List Nat} {xs ys : List X} {ps : List (Nat × Nat × X)} {fn : Fn} {ik : IntKind}
theorem eff_pick : (AOp.pick x y z).eff = false := rfl
theorem eff_alloc : (AOp.alloc c).eff = true := rfl
theorem eff_boxS : (AOp.boxS n x).eff = true := rfl
theorem eff_box : (AOp.box n x).eff = true := rfl
theorem eff_build : (AOp.build c ps).eff = false := rfl
theorem eff_bslice : (AOp.bslice n xs).eff = false := rfl
theorem eff_load : (AOp.load g n x).eff = false := rfl
theorem eff_store : (AOp.store n x y).eff = true := rfl
theorem eff_nilck : (AOp.nilck x).eff = false := rfl
theorem eff_binI : (AOp.binI bo x y).eff = false := rfl
theorem eff_binS : (AOp.binS bo x y).eff = false := rfl
theorem eff_binB : (AOp.binB g x y).eff = false := rfl
theorem eff_cat : (AOp.cat x y).eff = false := rfl
theorem eff_eqA : (AOp.eqA g ks x y).eff = false := rfl
theorem eff_not : (AOp.not x).eff = false := rfl
theorem eff_lenS : (AOp.lenS x).eff = false := rfl
theorem eff_lenT : (AOp.lenT x).eff = false := rfl
theorem eff_fld : (AOp.fld n x).eff = false := rfl
theorem eff_fldv : (AOp.fldv g n m x).eff = false := rfl
theorem eff_idxA : (AOp.idxA n x y).eff = false := rfl
theorem eff_idxP {m k : Nat} : (AOp.idxP m k x y).eff = false := rfl
theorem eff_idxS : (AOp.idxS x y).eff = false := rfl
theorem eff_call : (AOp.call n xs).eff = true := rfl
theorem eff_callv : (AOp.callv x xs).eff = true := rfl
theorem eff_app : (AOp.app n x y).eff = true := rfl
theorem eff_appS : (AOp.appS x y).eff = true := rfl
theorem eff_ext : (AOp.ext x n).eff = false := rfl
theorem eff_mkfn : (AOp.mkfn fn xs ys).eff = false := rfl
theorem eff_cvI : (AOp.cvI ik x).eff = false := rfl
theorem eff_cvBS : (AOp.cvBS x).eff = false := rfl
theorem eff_mv : (AOp.mv x).eff = false := rfl
end
end Go.Am

namespace Go.Am
section
variable {k : IntKind} {a b : Int} {c e : List V} {n m : Nat} {x y : V} {u v : List UInt8} {p q : Bool} {l : List (List V)} {τ : Tk}
theorem ikEq_same : ikEq k k = true := by cases k <;> rfl
theorem binIV_int {op : BinOp} : binIV op (.int k a) (.int k b) = intV k a b op := by simp [binIV, ikEq_same]
theorem binIV_shl {j : IntKind} : binIV .shl (.int k a) (.int j b) = intV k a b .shl := by simp [binIV, isSh]
theorem binIV_shr {j : IntKind} : binIV .shr (.int k a) (.int j b) = intV k a b .shr := by simp [binIV, isSh]
theorem intV_add : intV k a b .add = some (.int k (k.wrap (a + b))) := rfl
theorem intV_sub : intV k a b .sub = some (.int k (k.wrap (a - b))) := rfl
theorem intV_mul : intV k a b .mul = some (.int k (k.wrap (a * b))) := rfl
theorem intV_eql : intV k a b .eql = some (.bool (decide (a = b))) := rfl
theorem intV_neq : intV k a b .neq = some (.bool (!decide (a = b))) := rfl
theorem intV_lss : intV k a b .lss = some (.bool (decide (a < b))) := rfl
theorem intV_leq : intV k a b .leq = some (.bool (decide (a ≤ b))) := rfl
theorem intV_gtr : intV k a b .gtr = some (.bool (decide (b < a))) := rfl
theorem intV_geq : intV k a b .geq = some (.bool (decide (b ≤ a))) := rfl
theorem binSV_str {op : BinOp} : binSV op (.str u) (.str v) = strV u v op := rfl
theorem strV_eql : strV u v .eql = some (.bool (decide (u = v))) := rfl
theorem strV_neq : strV u v .neq = some (.bool (!decide (u = v))) := rfl
theorem strV_lss : strV u v .lss = some (.bool (Op.bytesLess u v)) := rfl
theorem strV_leq : strV u v .leq = some (.bool (Op.bytesLess u v || decide (u = v))) := rfl
theorem strV_gtr : strV u v .gtr = some (.bool (!(Op.bytesLess u v || decide (u = v)))) := rfl
theorem strV_geq : strV u v .geq = some (.bool (!Op.bytesLess u v)) := rfl
theorem eqBV_f : eqBV false (.bool p) (.bool q) = some (.bool (decide (p = q))) := rfl
theorem eqBV_t : eqBV true (.bool p) (.bool q) = some (.bool (!decide (p = q))) := rfl
def eqM (neg : Bool) : Option Bool → Option V | some b => some (.bool (if neg then !b else b)) | none => none
theorem eqM_f : eqM false (some p) = some (.bool p) := rfl
theorem eqM_t : eqM true (some p) = some (.bool (!p)) := rfl
theorem eqAV_agg {neg : Bool} {ks : List Nat} : eqAV neg ks (.agg c) (.agg e) = eqM neg (eqC ks c e) := by
  simp only [eqAV]; cases eqC ks c e <;> rfl
def andM (b : Bool) : Option Bool → Option Bool | some c => some (b && c) | none => none
theorem andM_some : andM p (some q) = some (p && q) := rfl
theorem eqC_nil : eqC [] [] [] = some true := rfl
theorem eqC_int {ks : List Nat} : eqC (1 :: ks) (.int k a :: c) (.int k b :: e) = andM (decide (a = b)) (eqC ks c e) := by
  simp only [eqC, ikEq_same, if_true]; cases eqC ks c e <;> rfl
theorem eqC_str {ks : List Nat} : eqC (2 :: ks) (.str u :: c) (.str v :: e) = andM (decide (u = v)) (eqC ks c e) := by
  simp only [eqC]; cases eqC ks c e <;> rfl
theorem eqC_bool {ks : List Nat} : eqC (0 :: ks) (.bool p :: c) (.bool q :: e) = andM (decide (p = q)) (eqC ks c e) := by
  simp only [eqC]; cases eqC ks c e <;> rfl
theorem wd_agg : (V.agg c).wd = some c.length := rfl
theorem wd_int : (V.int k a).wd = some 1 := rfl
theorem wd_bool : (V.bool p).wd = some 1 := rfl
theorem wd_str : (V.str u).wd = some 1 := rfl
theorem wd_sl : (V.sl τ n l).wd = some 1 := rfl
theorem wd_ptr {o : Pl} : (V.ptr o n).wd = some 1 := rfl
theorem wd_elt : (V.elt c n).wd = some 1 := rfl
theorem wd_fn {f : Fn} : (V.fn f c e).wd = some 1 := rfl
theorem wd_nilp : V.nilp.wd = some 1 := rfl
theorem cells_agg : (V.agg c).cells = c := rfl
theorem cells_int : (V.int k a).cells = [.int k a] := rfl
theorem cells_bool : (V.bool p).cells = [.bool p] := rfl
theorem cells_str : (V.str u).cells = [.str u] := rfl
theorem cells_sl : (V.sl τ n l).cells = [.sl τ n l] := rfl
theorem cells_ptr {o : Pl} : (V.ptr o n).cells = [.ptr o n] := rfl
theorem cells_elt : (V.elt c n).cells = [.elt c n] := rfl
theorem cells_fn {f : Fn} : (V.fn f c e).cells = [.fn f c e] := rfl
theorem cells_nilp : V.nilp.cells = [.nilp] := rfl
theorem oneL_nil : oneL [] = true := rfl
theorem oneL_cons : oneL (x :: c) = (x.one && oneL c) := rfl
theorem one_int : (V.int k a).one = true := rfl
theorem one_bool : (V.bool p).one = true := rfl
theorem one_str : (V.str u).one = true := rfl
theorem one_sl : (V.sl τ n l).one = true := rfl
theorem one_ptr {o : Pl} : (V.ptr o n).one = true := rfl
theorem one_elt : (V.elt c n).one = true := rfl
theorem one_fn {f : Fn} : (V.fn f c e).one = true := rfl
theorem one_nilp : V.nilp.one = true := rfl
theorem nolL_nil : nolL [] = true := rfl
theorem nolL_cons : nolL (x :: c) = (x.nol && nolL c) := rfl
theorem nol_int : (V.int k a).nol = true := rfl
theorem nol_bool : (V.bool p).nol = true := rfl
theorem nol_str : (V.str u).nol = true := rfl
theorem nol_sl : (V.sl τ n l).nol = true := rfl
theorem nol_any : V.any.nol = true := rfl
theorem nol_out : (V.ptr (.out m) n).nol = true := rfl
theorem nol_elt : (V.elt c n).nol = true := rfl
theorem nol_nilp : V.nilp.nol = true := rfl
theorem nol_agg : (V.agg c).nol = nolL c := rfl
theorem nol_tup : (V.tup c).nol = nolL c := rfl
theorem nol_fn {f : Fn} : (V.fn f c e).nol = (nolL c && nolL e) := rfl
theorem nol_raw {w : Value} : (V.raw w).nol = true := rfl
theorem er_int : (V.int k a).erase = .int k a := rfl
theorem er_bool : (V.bool p).erase = .bool p := rfl
theorem er_str : (V.str u).erase = .str u := rfl
theorem er_sl : (V.sl τ n l).erase = .sl .no n l := rfl
theorem er_any : V.any.erase = .any := rfl
theorem er_ptr {o : Pl} : (V.ptr o n).erase = .ptr o n := rfl
theorem er_elt : (V.elt c n).erase = .elt c n := rfl
theorem er_nilp : V.nilp.erase = .nilp := rfl
theorem er_agg : (V.agg c).erase = .agg (eraseL c) := rfl
theorem er_tup : (V.tup c).erase = .tup (eraseL c) := rfl
theorem er_fn {f : Fn} : (V.fn f c e).erase = .fn f c e := rfl
theorem erL_nil : eraseL [] = [] := rfl
theorem erL_cons : eraseL (x :: c) = x.erase :: eraseL c := rfl
theorem hasN_zero : hasN 0 c = true := by cases c <;> rfl
theorem hasN_succ : hasN (n + 1) (x :: c) = hasN n c := rfl
theorem over_nil : over c [] = c := by cases c <;> rfl
theorem over_cons : over (x :: c) (y :: e) = y :: over c e := rfl
theorem setAt_zero : setAt c 0 e = over c e := by cases c <;> rfl
theorem setAt_succ : setAt (x :: c) (n + 1) e = x :: setAt c n e := rfl
theorem len_nil : ([] : List V).length = 0 := rfl
theorem len_cons : (x :: c).length = c.length + 1 := rfl
theorem get0 : (c :: l)[0]? = some c := rfl
theorem getS : (c :: l)[n + 1]? = l[n]? := by simp
theorem lset0 : (c :: l).set 0 e = e :: l := rfl
theorem lsetS : (c :: l).set (n + 1) e = c :: l.set n e := rfl
theorem app_nil' : ([] : List (List V)) ++ l = l := rfl
theorem app_cons' : (c :: l) ++ [e] = c :: (l ++ [e]) := rfl
theorem vapp_nil : ([] : List V) ++ c = c := rfl
theorem vapp_cons : (x :: c) ++ e = x :: (c ++ e) := rfl
theorem llen_nil : ([] : List (List V)).length = 0 := rfl
theorem llen_cons : (c :: l).length = l.length + 1 := rfl
theorem eqN {a : Nat} : (a = a) = True := by simp
theorem eqI {a : Int} : (a = a) = True := by simp
theorem some_eq {α : Type} {x y : α} : (some x = some y) = (x = y) := by simp
theorem one_eq_one : (1 = 1) = True := by simp
theorem true_eq : (true = true) = True := by simp
theorem false_eq' : (false = true) = False := by simp
theorem tt_and : (true && p) = p := rfl
theorem ff_and : (false && p) = false := rfl
theorem and_tt : (p && true) = p := by simp
theorem and_ff : (p && false) = false := by simp
theorem tt_or : (true || p) = true := rfl
theorem ff_or : (false || p) = p := rfl
theorem or_ff : (p || false) = p := by simp
theorem not_tt : (!true) = false := rfl
theorem not_ff : (!false) = true := rfl
theorem ite_t {α : Type} {x y : α} : (if True then x else y) = x := if_pos trivial
theorem ite_f {α : Type} {x y : α} : (if False then x else y) = y := if_neg fun h => h
theorem itp_t {x y : Prop} : (if True then x else y) = x := if_pos trivial
theorem itp_f {x y : Prop} : (if False then x else y) = y := if_neg fun h => h
theorem and_t {p q : Prop} (h : q) : (p ∧ q) = p := by simp [h]
theorem tand {q : Prop} : (True ∧ q) = q := by simp
theorem andt {q : Prop} : (q ∧ True) = q := by simp
theorem rlZ {x : V} : List.replicate 0 x = [] := rfl
theorem rlS {x : V} : List.replicate (n + 1) x = x :: List.replicate n x := rfl
theorem slots_eq : slots n c = c ++ List.replicate (n - c.length) .any := rfl
theorem lle_any {v : V} : LLe (v :: c) (.any :: e) = LLe c e := by simp [LLe, VLe.any]
theorem lle_same {v : V} : LLe (v :: c) (v :: e) = LLe c e := by simp [LLe, VLe.rfl]
def E0 : Env := ⟨default, fun _ => .const, fun _ => none, fun _ => none⟩
theorem vle_int : VLe (.int k a) (.int k b) = (a = b) := by
  refine propext ⟨fun h => ?_, fun h => h ▸ VLe.rfl⟩
  have := h E0 (.int k a) (by simp [R])
  simpa [R] using this
theorem vle_bool : VLe (.bool p) (.bool q) = (p = q) := by
  refine propext ⟨fun h => ?_, fun h => h ▸ VLe.rfl⟩
  have := h E0 (.bool p) (by simp [R])
  simpa [R] using this
theorem vle_str : VLe (.str u) (.str v) = (u = v) := by
  refine propext ⟨fun h => ?_, fun h => h ▸ VLe.rfl⟩
  have := h E0 (.string ⟨u.toArray⟩) (by simp [R])
  simpa [R] using this
theorem lle_int : LLe (.int k a :: c) (.int k b :: e) = (a = b ∧ LLe c e) := by simp [LLe, vle_int]
theorem lle_bool : LLe (.bool p :: c) (.bool q :: e) = (p = q ∧ LLe c e) := by simp [LLe, vle_bool]
theorem lle_str : LLe (.str u :: c) (.str v :: e) = (u = v ∧ LLe c e) := by simp [LLe, vle_str]
theorem lle_no : LLe (.sl τ n l :: c) (.sl .no n l :: e) = LLe c e := by simp [LLe, VLe.no]
theorem llle_nil : LLLe [] [] = True := rfl
theorem llle_cons {c e : List V} {l m : List (List V)} : LLLe (c :: l) (e :: m) = (LLe c e ∧ LLLe l m) := rfl
theorem llle_same {l : List (List V)} : LLLe l l = True := by simp [LLLe.rfl]
theorem ole_same {σ : Store} : OLe σ σ = True := by simp [OLe.rfl]
theorem lle_nil : LLe [] [] = True := rfl
end
theorem Upd.enter {ι : Type} {I : ι → St} {t : List V} {l : List (List V)} {σ : Store} (j : ι) (h : LLe t (I j).t) (hl : LLLe l (I j).loc) (ho : OLe σ (I j).out) : Upd ⟨t, l, σ⟩ fun st' => ∃ i, st' = I i :=
  Upd.weak h hl ho ⟨j, rfl⟩
theorem Upd.again {ι : Type} {I : ι → St} {μ : ι → Nat} {n : Nat} {t : List V} {l : List (List V)} {σ : Store} (j : ι) (hm : μ j < n) (h : LLe t (I j).t) (hl : LLLe l (I j).loc) (ho : OLe σ (I j).out) :
    Upd ⟨t, l, σ⟩ fun st' => ∃ i, st' = I i ∧ μ i < n := Upd.weak h hl ho ⟨j, rfl, hm⟩
theorem wrap_i64 {x : Int} (h1 : -9223372036854775808 ≤ x) (h2 : x ≤ 9223372036854775807) : IntKind.i64.wrap x = x := IntWalk.i64_in x ⟨h1, h2⟩
theorem Store.set_id {σ : Store} {b : Nat} {cs : List V} (h : σ.box b = some cs) : σ.set b cs = σ := by
  cases σ
  simp only [Store.set, Store.mk.injEq, and_true]
  funext x
  split
  · rename_i hx; rw [hx]; exact h.symm
  · rfl
theorem Store.set_set {σ : Store} {b : Nat} {cs ds : List V} : (σ.set b cs).set b ds = σ.set b ds := by
  simp only [Store.set, Store.mk.injEq, and_true]
  funext x
  split <;> rfl
theorem Store.set_comm {σ : Store} {b c : Nat} {cs ds : List V} (h : b ≠ c) : (σ.set b cs).set c ds = (σ.set c ds).set b cs := by
  simp only [Store.set, Store.mk.injEq, and_true]
  funext x
  by_cases h1 : x = c
  · subst h1
    rw [if_pos rfl, if_neg (fun h2 => h h2.symm), if_pos rfl]
  · rw [if_neg h1, if_neg h1]
def VTo (τ n : Nat) (v v' : V) : Prop := ∀ E E', E.le E' → E'.tip τ = some n → ∀ u, R E v u → R E' v' u
theorem VTo.same {τ n : Nat} {v : V} : VTo τ n v v := fun _ _ h _ _ hr => hr.mono _ h
theorem VTo.le {τ n : Nat} {v v' : V} (h : VLe v v') : VTo τ n v v' := fun _ _ hl _ _ hr => (h _ _ hr).mono _ hl
theorem VTo.tok {τ n k : Nat} {m : List (List V)} (h : m.length = n) : VTo τ n (.sl .full k m) (.sl (.tk τ) k m) := fun E E' hl ht u hr => by
  have hr' := hr.mono _ hl
  simp only [R] at hr' ⊢
  obtain ⟨a, cap, h1, h2, h3, h4⟩ := hr'
  exact ⟨a, cap, h1, h2, h3, n, ht, by omega, fun _ => .inl h4⟩
def LTo (τ n : Nat) : List V → List V → Prop
  | [], [] => True
  | v :: l, v' :: l' => VTo τ n v v' ∧ LTo τ n l l'
  | _, _ => False
theorem LTo.rfl {τ n : Nat} : ∀ {l : List V}, LTo τ n l l
  | [] => trivial
  | _ :: _ => ⟨VTo.same, LTo.rfl⟩
theorem LTo.mono {τ n : Nat} {E E' : Env} (hl : E.le E') (ht : E'.tip τ = some n) : ∀ {l l' : List V} {us : List Value}, LTo τ n l l' → RL E l us → RL E' l' us
  | [], [], [], _, _ => by simp [RL]
  | [], [], _ :: _, _, h => by simp [RL] at h
  | [], _ :: _, _, h, _ => h.elim
  | _ :: _, [], _, h, _ => h.elim
  | v :: l, v' :: l', [], _, h => by simp [RL] at h
  | v :: l, v' :: l', u :: us, h, hr => by
    simp only [RL] at hr ⊢
    exact ⟨h.1 _ _ hl ht _ hr.1, LTo.mono hl ht h.2 hr.2⟩
theorem LTo.length {τ n : Nat} : ∀ {l l' : List V}, LTo τ n l l' → l.length = l'.length
  | [], [], _ => Eq.refl _
  | [], _ :: _, h => h.elim
  | _ :: _, [], h => h.elim
  | v :: l, v' :: l', h => by simp [LTo.length h.2]
theorem LTo.get {τ n : Nat} : ∀ {l l' : List V}, LTo τ n l l' → ∀ (j : Nat) v', l'[j]? = some v' → ∃ v, l[j]? = some v ∧ VTo τ n v v'
  | [], [], _, j, v', h => by simp at h
  | [], _ :: _, h, _, _, _ => h.elim
  | _ :: _, [], h, _, _, _ => h.elim
  | v :: l, w :: l', h, j, v', hj => by
    cases j with
    | zero => simp at hj; subst hj; exact ⟨v, by simp, h.1⟩
    | succ j => simp at hj; obtain ⟨u, h1, h2⟩ := LTo.get h.2 j v' hj; exact ⟨u, by simpa using h1, h2⟩
theorem BoxAt.tok {τ n : Nat} {E E' : Env} (hl : E.le E') (ht : E'.tip τ = some n) {b : Nat} {cs cs' : List V} (hw : E'.w = E.w) (h : LTo τ n cs cs') (k : BoxAt E b cs) : BoxAt E' b cs' := by
  obtain ⟨c, e, h1, h2, h3⟩ := k
  refine ⟨c, e, by rw [hw]; exact h1, by rw [← h.length]; exact h2, fun j x hx => ?_⟩
  obtain ⟨v, hv, hle⟩ := h.get j x hx
  obtain ⟨u, k1, k2⟩ := h3 j v hv
  exact ⟨u, k1, hle _ _ hl ht _ k2⟩
structure OTo (τ n : Nat) (σ σ' : Store) : Prop where
  box : ∀ b cs', σ'.box b = some cs' → ∃ cs, σ.box b = some cs ∧ LTo τ n cs cs'
  tip : ∀ υ m, σ'.tip υ = some m → σ.tip υ = some m
theorem OTo.rfl {τ n : Nat} {σ : Store} : OTo τ n σ σ := ⟨fun _ cs h => ⟨cs, h, LTo.rfl⟩, fun _ _ h => h⟩
theorem OTo.set {τ n b : Nat} {σ : Store} {cs cs' : List V} (h : σ.box b = some cs) (k : LTo τ n cs cs') : OTo τ n σ (σ.set b cs') := by
  refine ⟨fun c ds hds => ?_, fun _ _ h => h⟩
  simp only [Store.set] at hds
  split at hds
  · rename_i hc; subst hc; simp only [Option.some.injEq] at hds; subst hds; exact ⟨cs, h, k⟩
  · exact ⟨ds, hds, LTo.rfl⟩
theorem Upd.tok {t : List V} {l : List (List V)} {σ : Store} {K : St → Prop} (n : Nat) (h : ∀ τ, σ.tip τ = none → ∃ t' l' σ', LTo τ n t t' ∧ l.length = l'.length ∧ (∀ (i : Nat) c', l'[i]? = some c' → ∃ c, l[i]? = some c ∧ LTo τ n c c') ∧ OTo τ n σ σ' ∧ K ⟨t', l', σ'.setTip τ n⟩) :
    Upd ⟨t, l, σ⟩ K := by
  intro E a hs
  obtain ⟨N, hN⟩ := hs.ok.nt
  have hfresh : σ.tip N = none := by
    cases hq : σ.tip N with
    | none => rfl
    | some m => have := hs.ok.tip N m hq; rw [hN N (Nat.le_refl _)] at this; simp at this
  obtain ⟨t', l', σ', h1, h2, h3, h4, h5⟩ := h N hfresh
  let E' : Env := { E with tip := fun t => if t = N then some n else E.tip t }
  have ht : E'.tip N = some n := by simp [E']
  have hfr : Fr E E' := fr_ext (E' := E') hs.ok.fresh (Ext.refl _) (fun _ _ => rfl) (fun t m hm => by
    simp only [E']
    split
    · rename_i hq; subst hq; rw [hN t (Nat.le_refl _)] at hm; simp at hm
    · exact hm)
  have hle : E.le E' := hfr.le fun _ _ h => h
  refine ⟨E', _, rfl, hfr, ⟨⟨fun b cs hcs => ?_, fun τ m hm => ?_, hs.ok.fresh, ?_⟩, ⟨fun i cs hcs => ?_, fun i hi => hs.okL.none i (by rw [h2]; exact hi)⟩, hs.defers, h1.mono hle ht hs.slot⟩, h5⟩
  · obtain ⟨cs0, q1, q2⟩ := h4.box b cs hcs
    obtain ⟨k1, k2⟩ := hs.ok.box b cs0 q1
    exact ⟨k1, k2.tok hfr.nl ht rfl q2⟩
  · simp only [Store.setTip] at hm
    simp only [E']
    split at hm
    · rename_i hq; rw [if_pos hq]; exact hm
    · rename_i hq; rw [if_neg hq]; exact hs.ok.tip τ m (h4.tip τ m hm)
  · exact ⟨N + 1, fun t ht' => by simp only [E']; rw [if_neg (by omega)]; exact hN t (by omega)⟩
  · obtain ⟨c, q1, q2⟩ := h3 i cs hcs
    obtain ⟨b, k1, k2, k3⟩ := hs.okL.box i c q1
    exact ⟨b, k1, k2, k3.tok hle ht rfl q2⟩
def am := And.intro @Store.set_set <| And.intro @vc_drawA <| And.intro @drawT_some <| And.intro @anyAt_nil <| And.intro @anyAt_cons <| And.intro @anyB_t <| And.intro @d_boxS <| And.intro @eff_boxS <| And.intro (And.intro (And.intro (And.intro (And.intro (And.intro (And.intro @d_nil @kD_eq) (And.intro @d_mv (And.intro @d_pick @pickD_true))) (And.intro (And.intro @pickD_false @pickD_ff) (And.intro @pickD_tt (And.intro @d_alloc @d_box)))) (And.intro (And.intro (And.intro @d_build @d_bslice) (And.intro @ldD_some (And.intro @d_load @stD_some))) (And.intro (And.intro @d_store (And.intro @d_nilck @d_binI)) (And.intro @d_binS (And.intro @d_binB @d_cat))))) (And.intro (And.intro (And.intro (And.intro @d_eqA @d_not) (And.intro @d_lenS (And.intro @d_lenT @d_fld))) (And.intro (And.intro @d_fldv (And.intro @d_idxA @d_idxS)) (And.intro @kCD_eq (And.intro @d_call @d_callv)))) (And.intro (And.intro (And.intro @callD_fn @d_app) (And.intro @d_ext (And.intro @d_mkfn @d_cvI))) (And.intro (And.intro @d_guard (And.intro (And.intro @gD_und @gD_tt) @gD_ff)) (And.intro @gD_tf (And.intro @gD_ft @chkL_nil)))))) (And.intro (And.intro (And.intro (And.intro (And.intro @chkL_cons @chk1_nil) (And.intro @chk1_cons (And.intro @sget0 @sgetS))) (And.intro (And.intro @sapp0 @sappS) (And.intro @ldS_loc (And.intro @ldS_out @ldS_elt)))) (And.intro (And.intro (And.intro @vc_hole @hole_eq) (And.intro @weakT_none (And.intro @weakT_some @eff_pick))) (And.intro (And.intro @eff_alloc (And.intro @eff_box @eff_build)) (And.intro @eff_bslice (And.intro @eff_load @eff_store))))) (And.intro (And.intro (And.intro (And.intro @eff_nilck @eff_binI) (And.intro @eff_binS (And.intro @eff_binB @eff_cat))) (And.intro (And.intro @eff_eqA (And.intro @eff_not @eff_lenS)) (And.intro @eff_lenT (And.intro @eff_fld @eff_fldv)))) (And.intro (And.intro (And.intro @eff_idxA @eff_idxS) (And.intro @eff_call (And.intro @eff_callv @eff_app))) (And.intro (And.intro @eff_appS (And.intro @eff_ext @eff_mkfn)) (And.intro @eff_cvI (And.intro @eff_cvBS @eff_mv))))))) <| And.intro @lle_int <| And.intro @lle_bool <| And.intro @lle_str <| And.intro @lle_no <| And.intro @llle_nil <| And.intro @llle_cons <| And.intro @llle_same <| And.intro @ole_same <| And.intro @lle_any <| And.intro @lle_same <| And.intro @lle_nil <| And.intro @Nat.zero_add <| And.intro @Nat.add_zero <| And.intro @eqN <| And.intro @eqI <| And.intro @itp_t <| And.intro @itp_f <| (And.intro (And.intro (And.intro (And.intro (And.intro (And.intro (And.intro @vc_skip (And.intro @vc_reg @vc_upd)) (And.intro (And.intro @vc_draw @vc_seq) (And.intro @vc_cond @vcIf_true))) (And.intro (And.intro (And.intro @vcIf_false @vc_block) (And.intro @vc_exit @vc_ret)) (And.intro (And.intro @athen_normal @athen_exit) (And.intro @athen_ret @blk_normal)))) (And.intro (And.intro (And.intro @blk_ret (And.intro @blk_exit @lpost_exit)) (And.intro (And.intro @lpost_ret @lpost_normal) (And.intro @retQ_ret @retQ_normal))) (And.intro (And.intro (And.intro @opt_some @rvs_nil) (And.intro @consO_some @rvs_cons)) (And.intro (And.intro @rv_tmp @rv_cell) (And.intro @one1_one @one1_nil))))) (And.intro (And.intro (And.intro (And.intro @one1_more (And.intro @map_some' @ev_s)) (And.intro (And.intro @ev_c @evs_nil) (And.intro @evs_cons @getD_zero))) (And.intro (And.intro (And.intro @getD_succ @set_zero) (And.intro @set_succ @put_some)) (And.intro (And.intro @put_none @o_nil) (And.intro @kL_eq @optL_some)))) (And.intro (And.intro (And.intro (And.intro @o_mv @o_pick) (And.intro @pickL_true @pickL_false)) (And.intro (And.intro @pickL_ff @pickL_tt) (And.intro @o_alloc @o_box))) (And.intro (And.intro (And.intro @o_allocO @o_boxO) (And.intro @o_build @optR_some)) (And.intro (And.intro @o_bslice @o_load) (And.intro @optS_some @o_store)))))) (And.intro (And.intro (And.intro (And.intro (And.intro @o_nilck (And.intro @nilckL_ptr @nilckL_elt)) (And.intro (And.intro @nilckL_fn @o_binI) (And.intro @o_binS @o_binB))) (And.intro (And.intro (And.intro @o_cat @catL_str) (And.intro @o_eqA @o_not)) (And.intro (And.intro @notL_bool @o_lenS) (And.intro @lenL_sl @o_lenT)))) (And.intro (And.intro (And.intro @lenTL_str (And.intro @o_fld @fldL_ptr)) (And.intro (And.intro @fldL_elt @o_fldv) (And.intro @fldvL_agg @o_idxA))) (And.intro (And.intro (And.intro @o_idxS @o_call) (And.intro @kC_eq @o_callv)) (And.intro (And.intro @callL_fn @o_app) (And.intro @o_ext @extL_zero))))) (And.intro (And.intro (And.intro (And.intro @extL_succ (And.intro @o_mkfn @o_cvI)) (And.intro (And.intro @cvL_int @o_guard) (And.intro (And.intro @gL_und @gL_tt) @gL_ff))) (And.intro (And.intro (And.intro @gL_tf @gL_ft) (And.intro @ldV_loc' @ldV_out)) (And.intro (And.intro @ldV_elt @ldB_some) (And.intro @ldC_agg @ldC_one)))) (And.intro (And.intro (And.intro (And.intro @takeN_zero @takeN_succ') (And.intro @mapC_some @drop_zero')) (And.intro (And.intro @drop_succ @stV_loc) (And.intro @stL_some @stV_out))) (And.intro (And.intro (And.intro @stO_some @set_box) (And.intro @setTip_box @set_tip)) (And.intro (And.intro @setTip_tip @buildV_nil) (And.intro @buildV_cons @bldL_ok))))))) (And.intro (And.intro (And.intro (And.intro (And.intro (And.intro @rowsV_nil (And.intro @rowsV_cons @rowL_some)) (And.intro (And.intro @rowC_ok @binIV_int) (And.intro @intV_add @intV_sub))) (And.intro (And.intro (And.intro @intV_mul @intV_eql) (And.intro @intV_neq @intV_lss)) (And.intro (And.intro @intV_leq @intV_gtr) (And.intro @intV_geq @binSV_str)))) (And.intro (And.intro (And.intro @strV_eql (And.intro @strV_neq @strV_lss)) (And.intro (And.intro @strV_leq @strV_gtr) (And.intro @strV_geq @eqBV_f))) (And.intro (And.intro (And.intro @eqBV_t @eqM_f) (And.intro @eqM_t @eqAV_agg)) (And.intro (And.intro @andM_some @eqC_nil) (And.intro @eqC_int @eqC_str))))) (And.intro (And.intro (And.intro (And.intro @eqC_bool (And.intro @wd_agg @wd_int)) (And.intro (And.intro @wd_bool @wd_str) (And.intro @wd_sl @wd_ptr))) (And.intro (And.intro (And.intro @wd_elt @wd_fn) (And.intro @wd_nilp @cells_agg)) (And.intro (And.intro @cells_int @cells_bool) (And.intro @cells_str @cells_sl)))) (And.intro (And.intro (And.intro (And.intro @cells_ptr @cells_elt) (And.intro @cells_fn @cells_nilp)) (And.intro (And.intro @oneL_nil @oneL_cons) (And.intro @one_int @one_bool))) (And.intro (And.intro (And.intro @one_str @one_sl) (And.intro @one_ptr @one_elt)) (And.intro (And.intro @one_fn @one_nilp) (And.intro @nolL_nil @nolL_cons)))))) (And.intro (And.intro (And.intro (And.intro (And.intro @nol_int (And.intro @nol_bool @nol_str)) (And.intro (And.intro @nol_sl @nol_any) (And.intro @nol_out @nol_elt))) (And.intro (And.intro (And.intro @nol_nilp @nol_agg) (And.intro @nol_tup @nol_fn)) (And.intro (And.intro @nol_raw @er_int) (And.intro @er_bool @er_str)))) (And.intro (And.intro (And.intro (And.intro @er_sl @er_any) (And.intro @er_ptr @er_elt)) (And.intro (And.intro @er_nilp @er_agg) (And.intro @er_tup @er_fn))) (And.intro (And.intro (And.intro @erL_nil @erL_cons) (And.intro @hasN_zero @hasN_succ)) (And.intro (And.intro @over_nil @over_cons) (And.intro @setAt_zero @setAt_succ))))) (And.intro (And.intro (And.intro (And.intro @len_nil (And.intro @len_cons @get0)) (And.intro (And.intro @getS @lset0) (And.intro @lsetS @app_nil'))) (And.intro (And.intro (And.intro @app_cons' @vapp_nil) (And.intro @vapp_cons @llen_nil)) (And.intro (And.intro @llen_cons @some_eq) (And.intro @one_eq_one @true_eq)))) (And.intro (And.intro (And.intro (And.intro @false_eq' @tt_and) (And.intro @ff_and @and_tt)) (And.intro (And.intro @and_ff @tt_or) (And.intro @ff_or @or_ff))) (And.intro (And.intro (And.intro @not_tt @not_ff) (And.intro @ite_t @ite_f)) (And.intro (And.intro @tand @andt) (And.intro @rlZ @rlS))))))))
end Go.Am

namespace Go.Am
section
variable {τ n k : Nat} {v v' : V} {c e t : List V} {l l' : List (List V)} {σ : Store}
theorem vto_any : VTo τ n v .any = True := by simp [VTo.le VLe.any]
theorem vto_same : VTo τ n v v = True := by simp [VTo.same]
theorem vto_tok : VTo τ 0 (.sl .full k []) (.sl (.tk τ) k []) = True := by simp [VTo.tok]
theorem lto_cons : LTo τ n (v :: c) (v' :: e) = (VTo τ n v v' ∧ LTo τ n c e) := rfl
theorem lto_nil : LTo τ n [] [] = True := rfl
theorem lto_same : LTo τ n c c = True := by simp [LTo.rfl]
def lto := And.intro @vto_any <| And.intro @vto_same <| And.intro @vto_tok <| And.intro @lto_cons <| And.intro @lto_nil @lto_same
theorem Upd.tokEnter {ι : Type} {I : ι → St} (n : Nat) (h : ∀ τ, σ.tip τ = none → ∃ i, LTo τ n t (I i).t ∧ l = (I i).loc ∧ (I i).out = σ.setTip τ n) : Upd ⟨t, l, σ⟩ fun st' => ∃ i, st' = I i :=
  Upd.tok n fun τ hτ => by
    obtain ⟨i, h1, h2, h3⟩ := h τ hτ
    refine ⟨(I i).t, (I i).loc, σ, h1, by rw [h2], fun j c' hc => ⟨c', by rw [h2]; exact hc, LTo.rfl⟩, OTo.rfl, i, ?_⟩
    rw [← h3]
theorem setTip_setTip {τ m n : Nat} : (σ.setTip τ m).setTip τ n = σ.setTip τ n := by
  simp only [Store.setTip, Store.mk.injEq, true_and]
  funext x; split <;> rfl
theorem sub_tip {τ n : Nat} (h : σ.tip τ = none) : σ.sub (σ.setTip τ n) := by
  refine ⟨fun _ _ h => h, fun υ m hm => ?_⟩
  have : υ ≠ τ := by rintro rfl; rw [h] at hm; simp at hm
  simp only [Store.setTip]; rw [if_neg this]; exact hm
theorem setTip_tip_same {τ n : Nat} : (σ.setTip τ n).tip τ = some n := by simp [Store.setTip]
end
theorem map_take_succ {α β : Type} {f : α → β} {l : List α} {i : Nat} {x : α} (h : l[i]? = some x) : (l.take (i + 1)).map f = (l.take i).map f ++ [f x] := by rw [List.take_add_one, h]; simp
theorem take_succ_of {α : Type} {l : List α} {i : Nat} {x : α} (h : l[i]? = some x) : l.take (i + 1) = l.take i ++ [x] := by rw [List.take_add_one, h]; simp
mutual
def V.lo (n : Nat) : V → Bool
  | .ptr (.loc i) _ => decide (i < n)
  | .agg cs => loL n cs
  | .tup cs => loL n cs
  | .fn _ a b => loL n a && loL n b
  | _ => true
def loL (n : Nat) : List V → Bool
  | [] => true
  | x :: xs => x.lo n && loL n xs
end
def loLL (n : Nat) : List (List V) → Bool
  | [] => true
  | x :: xs => loL n x && loLL n xs
def Env.cut (E : Env) (n : Nat) : Env := { E with loc := fun i => if i < n then E.loc i else none }
mutual
theorem R.cut {n : Nat} : ∀ (x : V) {E : Env} {v : Value}, x.lo n = true → R E x v → R (E.cut n) x v
  | .any, _, _, _, _ => by simp only [R]
  | .bool _, _, _, _, h => by simp only [R] at h ⊢; exact h
  | .int _ _, _, _, _, h => by simp only [R] at h ⊢; exact h
  | .str _, _, _, _, h => by simp only [R] at h ⊢; exact h
  | .nilp, _, _, _, h => by simp only [R] at h ⊢; exact h
  | .ptr (.loc i) off, E, _, hl, h => by
    simp only [V.lo, decide_eq_true_eq] at hl
    simp only [R] at h ⊢
    obtain ⟨b, h1, h2⟩ := h
    exact ⟨b, by simp [Env.cut, hl, h1], h2⟩
  | .ptr (.out _) _, _, _, _, h => by simp only [R] at h ⊢; exact h
  | .elt _ _, _, _, _, h => by simp only [R] at h ⊢; exact h
  | .sl _ _ _, _, _, _, h => by simp only [R] at h ⊢; exact h
  | .agg cs, _, _, hl, h => by
    simp only [V.lo] at hl
    simp only [R] at h ⊢
    obtain ⟨vs, h1, h2⟩ := h
    exact ⟨vs, h1, RL.cut cs hl h2⟩
  | .tup cs, _, _, hl, h => by
    simp only [V.lo] at hl
    simp only [R] at h ⊢
    obtain ⟨vs, h1, h2⟩ := h
    exact ⟨vs, h1, RL.cut cs hl h2⟩
  | .fn _ a b, _, _, hl, h => by
    simp only [V.lo, Bool.and_eq_true] at hl
    simp only [R] at h ⊢
    obtain ⟨fs, cs, h1, h2, h3⟩ := h
    exact ⟨fs, cs, h1, RL.cut a hl.1 h2, RL.cut b hl.2 h3⟩
  | .raw _, _, _, _, h => by simp only [R] at h ⊢; exact h
theorem RL.cut {n : Nat} : ∀ (l : List V) {E : Env} {vs : List Value}, loL n l = true → RL E l vs → RL (E.cut n) l vs
  | [], _, [], _, _ => by simp only [RL]
  | [], _, _ :: _, _, h => by simp only [RL] at h
  | _ :: _, _, [], _, h => by simp only [RL] at h
  | x :: xs, _, v :: vs, hl, h => by
    simp only [loL, Bool.and_eq_true] at hl
    simp only [RL] at h ⊢
    exact ⟨R.cut x hl.1 h.1, RL.cut xs hl.2 h.2⟩
end
theorem loL_get {n : Nat} : ∀ {l : List V} {j : Nat} {x : V}, loL n l = true → l[j]? = some x → x.lo n = true
  | [], j, x, _, h => by simp at h
  | y :: ys, 0, x, hl, h => by simp only [loL, Bool.and_eq_true] at hl; simp at h; rw [← h]; exact hl.1
  | y :: ys, j + 1, x, hl, h => by simp only [loL, Bool.and_eq_true] at hl; exact loL_get hl.2 (by simpa using h)
theorem loLL_get {n : Nat} : ∀ {l : List (List V)} {j : Nat} {x : List V}, loLL n l = true → l[j]? = some x → loL n x = true
  | [], j, x, _, h => by simp at h
  | y :: ys, 0, x, hl, h => by simp only [loLL, Bool.and_eq_true] at hl; simp at h; rw [← h]; exact hl.1
  | y :: ys, j + 1, x, hl, h => by simp only [loLL, Bool.and_eq_true] at hl; exact loLL_get hl.2 (by simpa using h)
theorem BoxAt.cut {E : Env} {n b : Nat} {cs : List V} (h : loL n cs = true) (k : BoxAt E b cs) : BoxAt (E.cut n) b cs := by
  obtain ⟨c, e, h1, h2, h3⟩ := k
  exact ⟨c, e, h1, h2, fun j x hx => by
    obtain ⟨u, k1, k2⟩ := h3 j x hx
    exact ⟨u, k1, R.cut x (loL_get h hx) k2⟩⟩
theorem Fr.cut (E : Env) (n : Nat) : Fr E (E.cut n) :=
  ⟨rfl, rfl, rfl, Nat.le_refl _, fun _ => rfl, (Env.le.refl E).cell, (Env.le.refl E).tok, fun _ _ _ => ⟨rfl, rfl⟩, fun _ _ h => h, fun _ _ c _ h => ⟨c, h⟩, fun _ i _ h => ⟨i, h⟩, fun _ c _ h => ⟨c, h, rfl⟩⟩
theorem Upd.drop {t : List V} {l l2 : List (List V)} {σ : Store} {K : St → Prop} (ht : loL l.length t = true) (hl : loLL l.length l = true) (hk : K ⟨t, l, σ⟩) : Upd ⟨t, l ++ l2, σ⟩ K := by
  intro E a hs
  refine ⟨E.cut l.length, ⟨t, l, σ⟩, rfl, Fr.cut E _, ⟨⟨hs.ok.box, hs.ok.tip, hs.ok.fresh, hs.ok.nt⟩, ⟨fun i cs hcs => ?_, fun i hi => ?_⟩, hs.defers, RL.cut _ ht hs.slot⟩, hk⟩
  · have hi : i < l.length := (List.getElem?_eq_some_iff.1 hcs).1
    obtain ⟨b, k1, k2, k3⟩ := hs.okL.box i cs (by rw [List.getElem?_append_left hi]; exact hcs)
    exact ⟨b, by simp [Env.cut, hi, k1], k2, k3.cut (loLL_get hl hcs)⟩
  · simp only [Env.cut]; rw [if_neg (by simp only at hi; omega)]
theorem LLLe.app : ∀ {l l' m : List (List V)}, LLLe (l.take l'.length) l' → LLLe l (l' ++ l.drop l'.length)
  | [], [], _, _ => trivial
  | [], _ :: _, _, h => h.elim
  | v :: l, [], m, _ => by simp [LLLe.rfl]
  | v :: l, w :: l', m, h => by
    simp only [List.length_cons, List.take_succ_cons, LLLe] at h
    simp only [List.length_cons, List.cons_append, List.drop_succ_cons, LLLe]
    exact ⟨h.1, LLLe.app (m := m) h.2⟩
theorem Upd.drops {t t' : List V} {l l' : List (List V)} {σ σ' : Store} {K : St → Prop} (h : LLe t t') (hl : LLLe (l.take l'.length) l') (ho : OLe σ σ') (h1 : loL l'.length t' = true) (h2 : loLL l'.length l' = true) (hk : K ⟨t', l', σ'⟩) : Upd ⟨t, l, σ⟩ K :=
  (Upd.weak (K := fun st => st = ⟨t', l' ++ l.drop l'.length, σ'⟩) h (LLLe.app (m := []) hl) ho rfl).bind fun _ e => e ▸ Upd.drop h1 h2 hk
theorem Upd.enterD {ι : Type} {I : ι → St} {t : List V} {l : List (List V)} {σ : Store} (j : ι) (h : LLe t (I j).t) (hl : LLLe (l.take (I j).loc.length) (I j).loc) (ho : OLe σ (I j).out) (h1 : loL (I j).loc.length (I j).t = true) (h2 : loLL (I j).loc.length (I j).loc = true) : Upd ⟨t, l, σ⟩ fun st' => ∃ i, st' = I i :=
  Upd.drops h hl ho h1 h2 ⟨j, rfl⟩
theorem Upd.againD {ι : Type} {I : ι → St} {μ : ι → Nat} {n : Nat} {t : List V} {l : List (List V)} {σ : Store} (j : ι) (hm : μ j < n) (h : LLe t (I j).t) (hl : LLLe (l.take (I j).loc.length) (I j).loc) (ho : OLe σ (I j).out) (h1 : loL (I j).loc.length (I j).t = true) (h2 : loLL (I j).loc.length (I j).loc = true) :
    Upd ⟨t, l, σ⟩ fun st' => ∃ i, st' = I i ∧ μ i < n := Upd.drops h hl ho h1 h2 ⟨j, rfl, hm⟩
section
variable {P : Program} {d : Option Nat} {q : OQ} {xs : List X} {r : List AO} {K : St → Prop} {t : List V} {l : List (List V)} {σ : Store}
theorem o_own : vcOps P (⟨d, .own q xs, none⟩ :: r) K ⟨t, l, σ⟩ = q.sem σ (kC P d r K t l) (evs ⟨t, l, σ⟩ xs) := rfl
theorem own_nil {H : V → Store → Prop} : OQ.sem σ H .nil [] = H (.raw (.slice none 0 0)) σ := rfl
theorem one_raw {u : Value} : (V.raw u).one = u.oneCell' := rfl
theorem lle_raw {u : Value} {c e : List V} : LLe (.raw u :: c) (.raw u :: e) = LLe c e := by simp [LLe, VLe.rfl]
theorem lo_raw {u : Value} {n : Nat} : (V.raw u).lo n = true := rfl
theorem lenL_raw {a : Option Addr} {n c : Nat} {H : V → Prop} : lenL (.raw (.slice a n c)) H = H (.int .i64 n) := rfl
theorem idxL_raw {k b off n c : Nat} {ik : IntKind} {j : Int} {H : V → Prop} (h0 : 0 ≤ j) (h : j < n) (hk : H (.ptr (.out b) (off + j.toNat * k))) : idxL k (.raw (.slice (some ⟨b, off, none⟩) n c)) (.int ik j) H := ⟨ik, j, rfl, h0, h, hk⟩
theorem intV_quo {k : IntKind} {a b : Int} : intV k a b .quo = if b = 0 then none else some (.int k (k.wrap (a.tdiv b))) := rfl
theorem intV_rem {k : IntKind} {a b : Int} : intV k a b .rem = if b = 0 then none else some (.int k (a.tmod b)) := rfl
theorem intV_shl {k : IntKind} {a b : Int} : intV k a b .shl = if b < 0 then none else some (.int k (k.wrap (a * 2 ^ (Nat.min b.toNat k.bits)))) := rfl
theorem intV_shr {k : IntKind} {a b : Int} : intV k a b .shr = if b < 0 then none else some (.int k (a.fdiv (2 ^ (Nat.min b.toNat k.bits)))) := rfl
def ami := And.intro @intV_quo <| And.intro @intV_rem <| And.intro @intV_shl <| And.intro @intV_shr <| And.intro @binIV_shl <| And.intro @binIV_shr @lenL_raw
def amo := And.intro @o_own <| And.intro @own_nil @lle_raw
def Own (σ : Store) (k : Nat) (v : V) (rows : List (List V)) : Prop :=
  ∃ a cap, v = .raw (.slice a rows.length cap) ∧ rows.length ≤ cap ∧ (∀ r ∈ rows, r.length = k) ∧ (cap = 0 ∨ ∃ b cs, a = some ⟨b, 0, none⟩ ∧ σ.box b = some cs ∧ cs.length = cap * k ∧ cs.take (rows.length * k) = rows.flatten)
def ownB : V → Option Nat
  | .raw (.slice (some ⟨b, _, _⟩) _ _) => some b
  | _ => none
theorem Own.none {k : Nat} : Own σ k (.raw (.slice none 0 0)) [] := ⟨_, 0, rfl, by simp, by simp, .inl rfl⟩
theorem Own.len {k : Nat} {v : V} {rows : List (List V)} {H : V → Store → Prop} (h : Own σ k v rows) (hk : H (.int .i64 rows.length) σ) : OQ.sem σ H .len [v] := by
  obtain ⟨a, cap, rfl, _⟩ := h
  exact hk
theorem Own.frame {σ' : Store} {k : Nat} {v : V} {rows : List (List V)} (h : Own σ k v rows) (hb : ∀ b cs, ownB v = some b → σ.box b = some cs → σ'.box b = some cs) : Own σ' k v rows := by
  obtain ⟨a, cap, rfl, h1, h2, h3⟩ := h
  refine ⟨a, cap, rfl, h1, h2, ?_⟩
  rcases h3 with h3 | ⟨b, cs, rfl, h4, h5⟩
  · exact .inl h3
  · exact .inr ⟨b, cs, rfl, hb b cs rfl h4, h5⟩
theorem flatten_take {k : Nat} : ∀ {rows : List (List V)} {m : Nat}, (∀ r ∈ rows, r.length = k) → rows.flatten.take (m * k) = (rows.take m).flatten
  | [], m, _ => by simp
  | r :: rows, 0, _ => by simp
  | r :: rows, m + 1, h => by
    simp only [List.forall_mem_cons] at h
    rw [List.flatten_cons, List.take_succ_cons, List.flatten_cons, Nat.add_mul, Nat.one_mul, List.take_append, h.1, List.take_of_length_le (by omega), show m * k + k - k = m * k by omega, flatten_take h.2]
theorem flatten_drop {k : Nat} : ∀ {rows : List (List V)} {m : Nat}, (∀ r ∈ rows, r.length = k) → rows.flatten.drop (m * k) = (rows.drop m).flatten
  | [], m, _ => by simp
  | r :: rows, 0, _ => by simp
  | r :: rows, m + 1, h => by
    simp only [List.forall_mem_cons] at h
    rw [List.flatten_cons, List.drop_succ_cons, Nat.add_mul, Nat.one_mul, List.drop_append, h.1, List.drop_of_length_le (by omega), show m * k + k - k = m * k by omega, List.nil_append, flatten_drop h.2]
theorem Own.idx {k : Nat} {v : V} {rows : List (List V)} {H : V → Store → Prop} {j : Int} {i : IntKind} {c : List V} (h : Own σ k v rows) (h0 : 0 ≤ j) (hj : rows[j.toNat]? = some c)
    (hk : ∀ b cs rest, ownB v = some b → σ.box b = some cs → cs.drop (j.toNat * k) = c ++ rest → H (.ptr (.out b) (j.toNat * k)) σ) : OQ.sem σ H (.idx k) [v, .int i j] := by
  obtain ⟨a, cap, rfl, h1, h2, h3⟩ := h
  have hlt := (List.getElem?_eq_some_iff.1 hj).1
  rcases h3 with h3 | ⟨b, cs, rfl, h4, h5, h6⟩
  · omega
  · have e1 : cs = rows.flatten ++ cs.drop (rows.length * k) := by rw [← h6]; simp
    have e2 : rows.drop j.toNat = c :: rows.drop (j.toNat + 1) := by
      rw [List.drop_eq_getElem_cons hlt, (List.getElem?_eq_some_iff.1 hj).2]
    have hfl := flat_length h2
    have e3 : cs.drop (j.toNat * k) = c ++ ((rows.drop (j.toNat + 1)).flatten ++ cs.drop (rows.length * k)) := by
      have hle : j.toNat * k ≤ rows.length * k := Nat.mul_le_mul_right _ (by omega)
      rw [e1, List.drop_append_of_le_length (by rw [hfl]; exact hle), flatten_drop h2, e2, List.flatten_cons, List.append_assoc]
      congr 2
      rw [List.drop_append, hfl]
      simp [List.drop_of_length_le, hfl]
    show 0 ≤ j ∧ j < (rows.length : Nat) ∧ H (.ptr (.out b) (0 + j.toNat * k)) σ
    rw [Nat.zero_add]
    exact ⟨h0, by omega, hk b cs _ rfl h4 e3⟩
theorem Own.take {k m : Nat} {v : V} {rows : List (List V)} {H : V → Store → Prop} {i : IntKind} {j : Int} (h : Own σ k v rows) (h0 : 0 ≤ j) (hj : j.toNat = m) (hm : m ≤ rows.length) (hk : ∀ v', Own σ k v' (rows.take m) → ownB v' = ownB v → H v' σ) : OQ.sem σ H (.slc k false true false) [v, .int i j] := by
  obtain ⟨a, cap, rfl, h1, h2, h3⟩ := h
  show bnd false 0 [.int i j] fun m vs => bnd true rows.length vs fun h vs => bnd false cap vs fun M vs => vs = [] ∧ m ≤ h ∧ h ≤ M ∧ M ≤ cap ∧ H (.raw (.slice (if M = m then a else a.map (·.add (m * k))) (h - m) (M - m))) σ
  refine ⟨h0, rfl, by omega, by omega, Nat.le_refl _, ?_⟩
  have ea : (if cap = 0 then a else a.map (·.add (0 * k))) = a := by
    split
    · rfl
    · rcases h3 with h3 | ⟨b, cs, rfl, _⟩
      · omega
      · simp [addr_add]
  rw [ea, hj]
  refine hk _ ⟨a, cap, ?_, ?_, fun r hr => h2 r (List.mem_of_mem_take hr), ?_⟩ (by cases a with
    | none => rfl
    | some ad => cases ad; rfl)
  · rw [List.length_take, Nat.min_eq_left hm]; rfl
  · rw [List.length_take]; omega
  · rcases h3 with h3 | ⟨b, cs, rfl, h4, h5, h6⟩
    · exact .inl h3
    · refine .inr ⟨b, cs, rfl, h4, h5, ?_⟩
      rw [List.length_take, Nat.min_eq_left hm, ← flatten_take h2, ← h6, List.take_take, Nat.min_eq_left (Nat.mul_le_mul_right _ hm)]
structure OwnF (σ : Store) (v : V) (σ' : Store) (v' : V) : Prop where
  keep : ∀ b cs, σ.box b = some cs → ownB v ≠ some b → σ'.box b = some cs
  tip : σ'.tip = σ.tip
  new : ∀ b, ownB v' = some b → ownB v = some b ∨ σ.box b = none
theorem setAt_end {k n : Nat} : ∀ {cs xs ys : List V}, cs.take n = ys → n + xs.length ≤ cs.length → ys.length = n → (setAt cs n xs).take (n + xs.length) = ys ++ xs ∧ (setAt cs n xs).length = cs.length := by
  intro cs xs ys h1 h2 h3
  have ov : ∀ {cs xs : List V}, xs.length ≤ cs.length → (over cs xs).take xs.length = xs ∧ (over cs xs).length = cs.length := by
    intro cs
    induction cs with
    | nil => intro xs h; cases xs with | nil => simp [over] | cons x xs => simp at h
    | cons c cs ih =>
      intro xs h
      cases xs with
      | nil => simp [over]
      | cons x xs =>
        obtain ⟨k1, k2⟩ := ih (xs := xs) (by simpa using h)
        simp [over, k1, k2]
  induction n generalizing cs ys with
  | zero =>
    simp at h3; subst h3
    obtain ⟨k1, k2⟩ := ov (cs := cs) (xs := xs) (by omega)
    have e : setAt cs 0 xs = over cs xs := by cases cs <;> rfl
    rw [e]; simpa using ⟨k1, k2⟩
  | succ n ih =>
    cases cs with
    | nil => simp at h2
    | cons c cs =>
      cases ys with
      | nil => simp at h3
      | cons y ys =>
        simp only [List.take_succ_cons, List.cons.injEq] at h1
        obtain ⟨k1, k2⟩ := ih (cs := cs) (ys := ys) h1.2 (by simp at h2; omega) (by simpa using h3)
        simp only [setAt]
        rw [show n + 1 + xs.length = (n + xs.length) + 1 by omega]
        simp [k1, k2, h1.1]
theorem Own.app {k : Nat} {v : V} {rows m : List (List V)} {tk : Tk} {H : V → Store → Prop} (h : Own σ k v rows) (hm : ∀ r ∈ m, r.length = k) (hn : nolL m.flatten = true) (hb : rows.length + m.length ≤ big)
    (hk : ∀ v' σ', Own σ' k v' (rows ++ m) → OwnF σ v σ' v' → H v' σ') : OQ.sem σ H (.app k) [v, .sl tk k m] := by
  obtain ⟨a, cap, rfl, h1, h2, h3⟩ := h
  have hfm := flat_length hm
  have hfr := flat_length h2
  refine ⟨rfl, h1, hb, hn, fun e => ?_, fun e hle => ?_, fun hlt => ?_⟩
  · subst e
    refine hk _ _ ⟨a, cap, by simp, by simpa using h1, by simpa using h2, by simpa using h3⟩ ⟨fun _ _ h _ => h, rfl, fun b hb => .inl hb⟩
  · rcases h3 with h3 | ⟨b, cs, rfl, h4, h5, h6⟩
    · have : m.length = 0 := by omega
      exact absurd (List.eq_nil_of_length_eq_zero this) e
    · have hfit : rows.length * k + m.length * k ≤ cs.length := by rw [h5, ← Nat.add_mul]; exact Nat.mul_le_mul_right _ hle
      refine ⟨b, cs, rfl, h4, hfit, hk _ _ ⟨some ⟨b, 0, Option.none⟩, cap, by simp, by simpa using hle, fun r hr => ?_, .inr ⟨b, _, rfl, Store.set_same _ _ _, ?_, ?_⟩⟩ ⟨fun b' cs' hb' hne => ?_, rfl, fun b' hb' => .inl hb'⟩⟩
      · rcases List.mem_append.1 hr with hr | hr
        · exact h2 r hr
        · exact hm r hr
      · rw [(setAt_end (k := k) h6 (by rw [hfm]; exact hfit) hfr).2]; exact h5
      · have := (setAt_end (k := k) h6 (by rw [hfm]; exact hfit) hfr).1
        rw [hfm] at this
        rw [List.length_append, Nat.add_mul, this, List.flatten_append]
      · have : b' ≠ b := by rintro rfl; exact hne rfl
        rw [Store.set_other _ _ this]; exact hb'
  · have base : ∀ cs : List V, cs.take (rows.length * k) = rows.flatten → ∀ b' cap', σ.box b' = Option.none → rows.length + m.length ≤ cap' → H (.raw (.slice (some ⟨b', 0, Option.none⟩) (rows.length + m.length) cap')) (σ.set b' (cs.take (rows.length * k) ++ m.flatten ++ List.replicate ((cap' - (rows.length + m.length)) * k) .any)) := by
      intro cs h6 b' cap' hb' hc
      refine hk _ _ ⟨some ⟨b', 0, Option.none⟩, cap', by simp, by simpa using hc, fun r hr => ?_, .inr ⟨b', _, rfl, Store.set_same _ _ _, ?_, ?_⟩⟩ ⟨fun b'' cs' hb'' hne => ?_, rfl, fun b'' hb'' => ?_⟩
      · rcases List.mem_append.1 hr with hr | hr
        · exact h2 r hr
        · exact hm r hr
      · rw [h6]; simp only [List.length_append, hfr, hfm, List.length_replicate]
        rw [← Nat.add_mul, ← Nat.add_mul]; congr 1; omega
      · rw [h6, List.length_append, List.flatten_append, List.take_append_of_le_length (by simp only [List.length_append, hfr, hfm]; rw [Nat.add_mul]; omega), List.take_of_length_le (by simp only [List.length_append, hfr, hfm]; rw [Nat.add_mul]; omega)]
      · have : b'' ≠ b' := by rintro rfl; rw [hb'] at hb''; simp at hb''
        rw [Store.set_other _ _ this]; exact hb''
      · simp only [ownB, Option.some.injEq] at hb''; subst hb''; exact .inr hb'
    rcases h3 with h3 | ⟨b, cs, rfl, h4, h5, h6⟩
    · have h0 : rows = [] := List.eq_nil_of_length_eq_zero (by omega)
      subst h0
      exact ⟨[], .inl ⟨rfl, rfl⟩, base [] (by simp)⟩
    · refine ⟨cs, .inr ⟨b, rfl, h4, ?_⟩, base cs h6⟩
      rw [h5]; exact Nat.mul_le_mul_right _ h1
theorem OwnF.refl {v : V} : OwnF σ v σ v := ⟨fun _ _ h _ => h, rfl, fun _ h => .inl h⟩
structure OwnS (σ0 σ : Store) (v : V) : Prop where
  sub : σ0.sub σ
  new : ∀ b, ownB v = some b → σ0.box b = none
theorem OwnS.start {m n : Nat} : OwnS σ σ (.raw (.slice none m n)) := ⟨Store.sub_refl σ, fun b h => by simp [ownB] at h⟩
theorem OwnS.step {σ0 σ' : Store} {v v' : V} (h : OwnS σ0 σ v) (f : OwnF σ v σ' v') : OwnS σ0 σ' v' := by
  refine ⟨⟨fun b cs hb => ?_, fun t n hn => by rw [f.tip]; exact h.sub.2 t n hn⟩, fun b hb => ?_⟩
  · exact f.keep b cs (h.sub.1 b cs hb) (fun e => by rw [h.new b e] at hb; simp at hb)
  · rcases f.new b hb with e | e
    · exact h.new b e
    · cases hq : σ0.box b with
      | none => rfl
      | some cs => rw [h.sub.1 b cs hq] at e; simp at e
end
section
variable {P : Program} {d : Option Nat} {K : St → Prop} {st : St} {b w : Bool}
theorem gL_split {op : AOp} {r : List AO} (h1 : b = true → gL P (.bool true) w d op r K st) (h2 : b = false → gL P (.bool false) w d op r K st) : gL P (.bool b) w d op r K st := by cases b with
  | true => exact h1 rfl
  | false => exact h2 rfl
theorem pickL_split {x y : V} {r : List AO} (h1 : b = true → pickL P (.bool true) x y d r K st) (h2 : b = false → pickL P (.bool false) x y d r K st) : pickL P (.bool b) x y d r K st := by cases b with
  | true => exact h1 rfl
  | false => exact h2 rfl
theorem gD_split {op : AOp} {ms : List Nat} {r : List (AO × List Nat)} {SN : List Sto} {L : List (V × Bool × Nat × V × List Nat)} (h1 : b = true → gD P (.bool true) w d op ms r SN L K st) (h2 : b = false → gD P (.bool false) w d op ms r SN L K st) : gD P (.bool b) w d op ms r SN L K st := by cases b with
  | true => exact h1 rfl
  | false => exact h2 rfl
theorem pickD_split {x y : V} {r : List (AO × List Nat)} {SN : List Sto} {L : List (V × Bool × Nat × V × List Nat)} (h1 : b = true → pickD P (.bool true) x y d r SN L K st) (h2 : b = false → pickD P (.bool false) x y d r SN L K st) : pickD P (.bool b) x y d r SN L K st := by cases b with
  | true => exact h1 rfl
  | false => exact h2 rfl
end
section
variable {P : Program} {d : Option Nat} {K : St → Prop} {t : List V} {l : List (List V)} {σ : Store} {r : List AO}
def evO (st : St) : Option X → Option V
  | none => none
  | some x => some (ev st x)
def inB (n : Nat) (dflt : Nat) : Option V → Prop
  | none => n = dflt
  | some v => ∃ j, v = .int j n
def slSL (v : V) (lo hi : Option V) (H : V → Prop) : Prop := ∃ s a b, v = .str s ∧ a ≤ b ∧ b ≤ s.length ∧ inB a 0 lo ∧ inB b s.length hi ∧ H (.str ((s.take b).drop a))
def slcL (k : Nat) (v : V) (lo hi mx : Option V) (H : V → Prop) : Prop := ∃ τ l a b, v = .sl τ k l ∧ a ≤ b ∧ b ≤ l.length ∧ inB a 0 lo ∧ inB b l.length hi ∧
  match mx with
  | none => H (.sl .no k ((l.take b).drop a))
  | some y => (∃ j, y = .int j b) ∧ H (.sl .full k ((l.take b).drop a))
theorem o_slS' {x : X} {lo hi : Option X} : vcOps P (⟨d, .slS x lo hi, none⟩ :: r) K ⟨t, l, σ⟩ = slSL (ev ⟨t, l, σ⟩ x) (evO ⟨t, l, σ⟩ lo) (evO ⟨t, l, σ⟩ hi) (kL P d r K ⟨t, l, σ⟩) := by
  cases lo <;> cases hi <;> rfl
theorem o_slc' {k : Nat} {x : X} {lo hi mx : Option X} : vcOps P (⟨d, .slc k x lo hi mx, none⟩ :: r) K ⟨t, l, σ⟩ = slcL k (ev ⟨t, l, σ⟩ x) (evO ⟨t, l, σ⟩ lo) (evO ⟨t, l, σ⟩ hi) (evO ⟨t, l, σ⟩ mx) (kL P d r K ⟨t, l, σ⟩) := by
  cases lo <;> cases hi <;> cases mx <;> rfl
theorem d_slS' {x : X} {lo hi : Option X} {ms : List Nat} {r : List (AO × List Nat)} {SN : List Sto} {L : List (V × Bool × Nat × V × List Nat)} : vcD P ((⟨d, .slS x lo hi, none⟩, ms) :: r) SN L K ⟨t, l, σ⟩ = slSL (ev ⟨t, l, σ⟩ x) (evO ⟨t, l, σ⟩ lo) (evO ⟨t, l, σ⟩ hi) (kD P d r SN L K ⟨t, l, σ⟩) := by
  cases lo <;> cases hi <;> rfl
theorem d_slc' {k : Nat} {x : X} {lo hi mx : Option X} {ms : List Nat} {r : List (AO × List Nat)} {SN : List Sto} {L : List (V × Bool × Nat × V × List Nat)} : vcD P ((⟨d, .slc k x lo hi mx, none⟩, ms) :: r) SN L K ⟨t, l, σ⟩ = slcL k (ev ⟨t, l, σ⟩ x) (evO ⟨t, l, σ⟩ lo) (evO ⟨t, l, σ⟩ hi) (evO ⟨t, l, σ⟩ mx) (kD P d r SN L K ⟨t, l, σ⟩) := by
  cases lo <;> cases hi <;> cases mx <;> rfl
theorem evO_none {st : St} : evO st none = none := rfl
theorem evO_some {st : St} {x : X} : evO st (some x) = some (ev st x) := rfl
theorem slSL_intro {s : List UInt8} {j j' : IntKind} {a b : Nat} {H : V → Prop} (h1 : a ≤ b) (h2 : b ≤ s.length) (h : H (.str ((s.take b).drop a))) : slSL (.str s) (some (.int j a)) (some (.int j' b)) H := ⟨s, a, b, rfl, h1, h2, ⟨j, rfl⟩, ⟨j', rfl⟩, h⟩
theorem slSL_from {s : List UInt8} {j : IntKind} {a : Nat} {H : V → Prop} (h2 : a ≤ s.length) (h : H (.str (s.drop a))) : slSL (.str s) (some (.int j a)) none H := ⟨s, a, s.length, rfl, h2, Nat.le_refl _, ⟨j, rfl⟩, rfl, by rw [List.take_length]; exact h⟩
theorem slSL_to {s : List UInt8} {j : IntKind} {b : Nat} {H : V → Prop} (h2 : b ≤ s.length) (h : H (.str (s.take b))) : slSL (.str s) none (some (.int j b)) H := ⟨s, 0, b, rfl, Nat.zero_le _, h2, rfl, ⟨j, rfl⟩, h⟩
theorem slcL_intro {k : Nat} {τ : Tk} {m : List (List V)} {j j' : IntKind} {a b : Nat} {H : V → Prop} (h1 : a ≤ b) (h2 : b ≤ m.length) (h : H (.sl .no k ((m.take b).drop a))) : slcL k (.sl τ k m) (some (.int j a)) (some (.int j' b)) none H := ⟨τ, m, a, b, rfl, h1, h2, ⟨j, rfl⟩, ⟨j', rfl⟩, h⟩
theorem slcL_from {k : Nat} {τ : Tk} {m : List (List V)} {j : IntKind} {a : Nat} {H : V → Prop} (h2 : a ≤ m.length) (h : H (.sl .no k (m.drop a))) : slcL k (.sl τ k m) (some (.int j a)) none none H := ⟨τ, m, a, m.length, rfl, h2, Nat.le_refl _, ⟨j, rfl⟩, rfl, by rw [List.take_length]; exact h⟩
theorem slcL_to {k : Nat} {τ : Tk} {m : List (List V)} {j : IntKind} {b : Nat} {H : V → Prop} (h2 : b ≤ m.length) (h : H (.sl .no k (m.take b))) : slcL k (.sl τ k m) none (some (.int j b)) none H := ⟨τ, m, 0, b, rfl, Nat.zero_le _, h2, rfl, ⟨j, rfl⟩, h⟩
def amc := And.intro @o_cvBS <| And.intro @o_appS <| And.intro @o_slS' <| And.intro @o_slc' <| And.intro @d_slS' <| And.intro @d_slc' <| And.intro @evO_none <| And.intro @evO_some <| And.intro @o_idxP <| And.intro @d_idxP <| And.intro @d_cvBS <| And.intro @vc_scope <| And.intro @noGo_normal <| And.intro @noGo_exit <| And.intro @noGo_ret <| And.intro @rPost_normal <| And.intro @rPost_exit <| And.intro @rPost_ret @eff_idxP
end
theorem encB_append (a b : List UInt8) : encB (a ++ b) = encB a ++ encB b := by simp [encB]
theorem encB_length (a : List UInt8) : (encB a).length = a.length := by simp [encB]
end Go.Am

namespace Go.Am
structure Tok where
  kind : Int
  text : List UInt8
  pos : Int
inductive Tree where
  | mk (tok : Tok) (kids : List Tree) (fin : Int)
def Tree.tok : Tree → Tok | .mk t _ _ => t
def Tree.kids : Tree → List Tree | .mk _ k _ => k
def Tree.fin : Tree → Int | .mk _ _ e => e
mutual
def Tree.enc : Tree → List V
  | .mk t ks e => [.int .u8 t.kind, .str t.text, .int .i64 t.pos, .sl .no 5 (encs ks), .int .i64 e]
def encs : List Tree → List (List V)
  | [] => []
  | t :: ts => t.enc :: encs ts
end
theorem encs_map : ∀ l, encs l = l.map Tree.enc
  | [] => rfl
  | t :: ts => by simp [encs, encs_map ts]
theorem encs_length (l : List Tree) : (encs l).length = l.length := by simp [encs_map]
theorem enc_eq (t : Tree) : t.enc = [.int .u8 t.tok.kind, .str t.tok.text, .int .i64 t.tok.pos, .sl .no 5 (encs t.kids), .int .i64 t.fin] := by
  cases t; simp only [Tree.enc, Tree.tok, Tree.kids, Tree.fin]
mutual
def Tree.many : Tree → Nat
  | .mk _ ks _ => manys ks
def manys : List Tree → Nat
  | [] => 0
  | t :: ts => 1 + t.many + manys ts
end
theorem many_eq (t : Tree) : t.many = manys t.kids := by cases t; simp [Tree.many, Tree.kids]
theorem manys_append : ∀ a b, manys (a ++ b) = manys a + manys b
  | [], b => by simp [manys]
  | t :: ts, b => by simp [manys, manys_append ts b]; omega
theorem manys_ge : ∀ l, l.length ≤ manys l
  | [] => by simp [manys]
  | t :: ts => by simp [manys]; have := manys_ge ts; omega
theorem manys_get {l : List Tree} {i : Nat} (h : i < l.length) : manys l = manys (l.take i) + (1 + manys l[i].kids) + manys (l.drop (i + 1)) := by
  have : l = l.take i ++ l[i] :: l.drop (i + 1) := by simp
  have e := congrArg manys this
  rw [e, manys_append]
  simp only [manys, many_eq]; omega
theorem take_succ_many {l : List Tree} {i : Nat} (h : i < l.length) : manys (l.take (i + 1)) = manys (l.take i) + (1 + manys l[i].kids) := by
  rw [List.take_add_one, List.getElem?_eq_getElem h, manys_append]; simp [manys, many_eq]
theorem manys_kids {l : List Tree} {i : Nat} (h : i < l.length) : manys l[i].kids + 1 ≤ manys l := by
  have := manys_get h; omega
structure Word where
  text : List UInt8
  pos : Int
def Word.enc (w : Word) : List V := [.str w.text, .int .i64 w.pos]
inductive Nd where
  | mk (kind pos : Int) (text : List UInt8) (names : List Word) (kids : List Nd)
namespace Nd
def kind : Nd → Int | .mk k _ _ _ _ => k
def pos : Nd → Int | .mk _ p _ _ _ => p
def text : Nd → List UInt8 | .mk _ _ t _ _ => t
def names : Nd → List Word | .mk _ _ _ w _ => w
def kids : Nd → List Nd | .mk _ _ _ _ k => k
end Nd
mutual
def Nd.enc : Nd → List V
  | .mk k p t ws ks => [.int .i64 k, .int .i64 p, .str t, .sl .no 2 (ws.map Word.enc), .sl .no 5 (nencs ks)]
def nencs : List Nd → List (List V)
  | [] => []
  | n :: ns => n.enc :: nencs ns
end
theorem nencs_map : ∀ l, nencs l = l.map Nd.enc
  | [] => rfl
  | t :: ts => by simp [nencs, nencs_map ts]
theorem Nd.enc_eq (n : Nd) : n.enc = [.int .i64 n.kind, .int .i64 n.pos, .str n.text, .sl .no 2 (n.names.map Word.enc), .sl .no 5 (n.kids.map Nd.enc)] := by
  cases n; simp only [Nd.enc, Nd.kind, Nd.pos, Nd.text, Nd.names, Nd.kids, nencs_map]
structure Rdr where
  l : List Tree
  at_ : Int
  fin : Int
  bad : Option Int
def badC (b : Option Int) : Int := match b with | some _ => 2 | none => 0
def badA (b : Option Int) : Int := match b with | some a => a | none => 0
def Rdr.enc (r : Rdr) : List V := [.sl .no 5 (encs r.l), .int .i64 r.at_, .int .i64 r.fin, .int .i64 (badC r.bad), .int .i64 (badA r.bad)]
def isK (l : List Tree) (at_ : Int) (k : Int) : Bool := decide (0 ≤ at_) && match l[at_.toNat]? with | some t => decide (t.tok.kind = k) | none => false
def Rdr.ok (r : Rdr) : Bool := r.bad.isNone
def Rdr.spot (r : Rdr) : Int := if 0 ≤ r.at_ then (match r.l[r.at_.toNat]? with | some t => t.tok.pos | none => r.fin) else r.fin
def Rdr.fail (r : Rdr) : Rdr := match r.bad with | some _ => r | none => { r with bad := some r.spot }
def Rdr.sees (r : Rdr) (k : Int) : Bool := r.ok && isK r.l r.at_ k
def Tree.zero : Tree := .mk ⟨0, [], 0⟩ [] 0
def Rdr.take (r : Rdr) (k : Int) : Tree × Rdr := if r.sees k then (r.l.getD r.at_.toNat .zero, { r with at_ := r.at_ + 1 }) else (.zero, r.fail)
def Rdr.word (r : Rdr) : Word × Rdr := (⟨(r.take 97).1.tok.text, (r.take 97).1.tok.pos⟩, (r.take 97).2)
theorem Rdr.ex1 {r : Rdr} {n : Nat} : r.enc.drop n = [V.sl .no 5 (encs r.l), .int .i64 r.at_, .int .i64 r.fin, .int .i64 (badC r.bad), .int .i64 (badA r.bad)].drop n := rfl
theorem Rdr.ex2 {r : Rdr} {n : Nat} {x : List V} : setAt r.enc n x = setAt [V.sl .no 5 (encs r.l), .int .i64 r.at_, .int .i64 r.fin, .int .i64 (badC r.bad), .int .i64 (badA r.bad)] n x := rfl
theorem Rdr.ex3 {r : Rdr} {n : Nat} {g : Bool} : ldC g n r.enc = ldC g n [V.sl .no 5 (encs r.l), .int .i64 r.at_, .int .i64 r.fin, .int .i64 (badC r.bad), .int .i64 (badA r.bad)] := rfl
theorem Rdr.ex4 {r : Rdr} {n : Nat} : hasN n r.enc = hasN n [V.sl .no 5 (encs r.l), .int .i64 r.at_, .int .i64 r.fin, .int .i64 (badC r.bad), .int .i64 (badA r.bad)] := rfl
theorem Rdr.ex : (∀ {r : Rdr} {n : Nat}, r.enc.drop n = [V.sl .no 5 (encs r.l), .int .i64 r.at_, .int .i64 r.fin, .int .i64 (badC r.bad), .int .i64 (badA r.bad)].drop n) ∧
    (∀ {r : Rdr} {n : Nat} {x : List V}, setAt r.enc n x = setAt [V.sl .no 5 (encs r.l), .int .i64 r.at_, .int .i64 r.fin, .int .i64 (badC r.bad), .int .i64 (badA r.bad)] n x) ∧
    (∀ {r : Rdr} {n : Nat} {g : Bool}, ldC g n r.enc = ldC g n [V.sl .no 5 (encs r.l), .int .i64 r.at_, .int .i64 r.fin, .int .i64 (badC r.bad), .int .i64 (badA r.bad)]) ∧
    (∀ {r : Rdr} {n : Nat}, hasN n r.enc = hasN n [V.sl .no 5 (encs r.l), .int .i64 r.at_, .int .i64 r.fin, .int .i64 (badC r.bad), .int .i64 (badA r.bad)]) := ⟨Rdr.ex1, Rdr.ex2, Rdr.ex3, Rdr.ex4⟩
def goG {β : Type} (step : Rdr × List β → Rdr × List β) : Nat → Rdr × List β → Rdr × List β
  | 0, a => a
  | n + 1, a => if a.1.sees 44 then goG step n (step ((a.1.take 44).2, a.2)) else a
def someG {β : Type} (step : Rdr × List β → Rdr × List β) (r : Rdr) : Rdr × List β := goG step r.l.length (step (r, []))
def wStep (a : Rdr × List Word) : Rdr × List Word := (a.1.word.2, a.2 ++ [a.1.word.1])
theorem Rdr.take_l (r : Rdr) (k : Int) : (r.take k).2.l = r.l := by
  unfold Rdr.take; split
  · rfl
  · unfold Rdr.fail; split <;> rfl
theorem Rdr.fail_at (r : Rdr) : r.fail.at_ = r.at_ := by unfold Rdr.fail; split <;> rfl
theorem Rdr.fail_ok (r : Rdr) : r.fail.bad ≠ none := by
  unfold Rdr.fail
  split
  · rename_i h; rw [h]; simp
  · simp
theorem Rdr.take_at (r : Rdr) (k : Int) : (r.sees k = true ∧ (r.take k).2.at_ = r.at_ + 1 ∧ (r.take k).2.bad = none ∧ 0 ≤ r.at_ ∧ r.at_ < r.l.length) ∨ (r.sees k = false ∧ (r.take k).2.at_ = r.at_ ∧ (r.take k).2.bad ≠ none) := by
  cases h : r.sees k
  · right
    simp only [Rdr.take, h, Bool.false_eq_true, if_false, true_and]
    exact ⟨r.fail_at, r.fail_ok⟩
  · left
    have h' := h
    simp only [Rdr.sees, Rdr.ok, isK, Bool.and_eq_true, decide_eq_true_eq, Option.isNone_iff_eq_none] at h'
    obtain ⟨h1, h0, hk⟩ := h'
    simp only [Rdr.take, h, if_true, true_and]
    refine ⟨h1, h0, ?_⟩
    cases hq : r.l[r.at_.toNat]? with
    | none => rw [hq] at hk; simp at hk
    | some t => have := (List.getElem?_eq_some_iff.1 hq).1; omega
theorem Rdr.take_many (r : Rdr) (k : Int) : manys (r.take k).1.kids ≤ manys r.l ∧ ((r.take k).2.bad = none → manys (r.take k).1.kids + 1 ≤ manys r.l) := by
  rcases r.take_at k with ⟨h, _, _, h1, h2⟩ | ⟨h, _, h1⟩
  · have hlt : r.at_.toNat < r.l.length := by omega
    have := manys_kids hlt
    simp only [Rdr.take, h, if_true, List.getD, List.getElem?_eq_getElem hlt, Option.getD_some]
    exact ⟨by omega, fun _ => this⟩
  · refine ⟨?_, fun hb => absurd hb h1⟩
    simp [Rdr.take, h, Tree.zero, Tree.kids, manys]
def Tree.inner (t : Tree) : Rdr := ⟨t.kids, 0, t.fin, none⟩
def Rdr.close (r : Rdr) : Rdr := if r.ok = true ∧ r.at_ < r.l.length then r.fail else r
def Rdr.under (r i : Rdr) : Rdr := { r with bad := i.close.bad }
structure Reads {β : Type} (one : Rdr → β × Rdr) : Prop where
  l : ∀ r, (one r).2.l = r.l
  go : ∀ r, 0 ≤ r.at_ → r.at_ ≤ r.l.length → r.at_ ≤ (one r).2.at_ ∧ (one r).2.at_ ≤ r.l.length ∧ ((one r).2.bad = none → r.at_ + 1 ≤ (one r).2.at_)
def oStep {β : Type} (one : Rdr → β × Rdr) (a : Rdr × List β) : Rdr × List β := ((one a.1).2, a.2 ++ [(one a.1).1])
def Rdr.inside {β : Type} (step : Rdr × List β → Rdr × List β) (empty : Bool) (t : Tree) : Rdr × List β := if empty = true ∧ t.kids.length = 0 then (t.inner, []) else someG step t.inner
def Rdr.bracket {β : Type} (step : Rdr × List β → Rdr × List β) (kind : Int) (empty : Bool) (r : Rdr) : (List β × Int) × Rdr :=
  if (r.take kind).2.ok = true then (((Rdr.inside step empty (r.take kind).1).2, (r.take kind).1.tok.pos), (r.take kind).2.under (Rdr.inside step empty (r.take kind).1).1) else (([], 0), (r.take kind).2)
def Rdr.nodes (one : Rdr → Nd × Rdr) (kind : Int) (empty : Bool) (r : Rdr) : (List Nd × Int) × Rdr := r.bracket (oStep one) kind empty
def Rdr.words (empty : Bool) (r : Rdr) : (List Word × Int) × Rdr := r.bracket wStep 123 empty
end Go.Am

namespace Go.Am
def xm (d a : Nat) : AO := ⟨some d, .mv (.s a), none⟩
def xi (d : Nat) (n : Int) : AO := ⟨some d, .mv (.c (.int .i64 n)), none⟩
def xb (p : BinOp) (d a b : Nat) : AO := ⟨some d, .binI p (.s a) (.s b), none⟩
def xB (p : BinOp) (d a : Nat) (n : Int) : AO := ⟨some d, .binI p (.s a) (.c (.int .i64 n)), none⟩
def xu (p : BinOp) (d a : Nat) (n : Int) : AO := ⟨some d, .binI p (.s a) (.c (.int .u8 n)), none⟩
def xl (n d a : Nat) : AO := ⟨some d, .load true n (.s a), none⟩
def xo (d a : Nat) : AO := ⟨some d, .load false 1 (.s a), none⟩
def xk (d a : Nat) : AO := ⟨some d, .nilck (.s a), none⟩
def xf (o d a : Nat) : AO := ⟨some d, .fld o (.s a), none⟩
def xv (n o d a : Nat) : AO := ⟨some d, .fldv true o n (.s a), none⟩
def xw (o d a : Nat) : AO := ⟨some d, .fldv false o 1 (.s a), none⟩
def xL (d a : Nat) : AO := ⟨some d, .lenS (.s a), none⟩
def xT (d a : Nat) : AO := ⟨some d, .lenT (.s a), none⟩
def xA (k d a b : Nat) : AO := ⟨some d, .idxA k (.s a) (.s b), none⟩
def xS (d a b : Nat) : AO := ⟨some d, .idxS (.s a) (.s b), none⟩
def xs (n a b : Nat) : AO := ⟨none, .store n (.s a) (.s b), none⟩
def xe (d a i : Nat) : AO := ⟨some d, .ext (.s a) i, none⟩
def xc (f : FuncId) (d : Nat) (l : List X) : AO := ⟨some d, .call f l, none⟩
def xp (d a b c : Nat) : AO := ⟨some d, .pick (.s a) (.s b) (.s c), none⟩
def xa (k d a b : Nat) : AO := ⟨some d, .app k (.s a) (.s b), none⟩
def xg (n : Nat) (o : AO) : AO := ⟨o.dst, o.op, some (n, true)⟩
def xh (n : Nat) (o : AO) : AO := ⟨o.dst, o.op, some (n, false)⟩
section
variable {d a b c n k i o : Nat} {z : Int} {p : BinOp} {f : FuncId} {l : List X} {g : Option Nat} {q : AOp}
theorem xm_ : xm d a = ⟨some d, .mv (.s a), none⟩ := rfl
theorem xi_ : xi d z = ⟨some d, .mv (.c (.int .i64 z)), none⟩ := rfl
theorem xb_ : xb p d a b = ⟨some d, .binI p (.s a) (.s b), none⟩ := rfl
theorem xB_ : xB p d a z = ⟨some d, .binI p (.s a) (.c (.int .i64 z)), none⟩ := rfl
theorem xu_ : xu p d a z = ⟨some d, .binI p (.s a) (.c (.int .u8 z)), none⟩ := rfl
theorem xl_ : xl n d a = ⟨some d, .load true n (.s a), none⟩ := rfl
theorem xo_ : xo d a = ⟨some d, .load false 1 (.s a), none⟩ := rfl
theorem xk_ : xk d a = ⟨some d, .nilck (.s a), none⟩ := rfl
theorem xf_ : xf o d a = ⟨some d, .fld o (.s a), none⟩ := rfl
theorem xv_ : xv n o d a = ⟨some d, .fldv true o n (.s a), none⟩ := rfl
theorem xw_ : xw o d a = ⟨some d, .fldv false o 1 (.s a), none⟩ := rfl
theorem xL_ : xL d a = ⟨some d, .lenS (.s a), none⟩ := rfl
theorem xT_ : xT d a = ⟨some d, .lenT (.s a), none⟩ := rfl
theorem xA_ : xA k d a b = ⟨some d, .idxA k (.s a) (.s b), none⟩ := rfl
theorem xS_ : xS d a b = ⟨some d, .idxS (.s a) (.s b), none⟩ := rfl
theorem xs_ : xs n a b = ⟨none, .store n (.s a) (.s b), none⟩ := rfl
theorem xe_ : xe d a i = ⟨some d, .ext (.s a) i, none⟩ := rfl
theorem xc_ : xc f d l = ⟨some d, .call f l, none⟩ := rfl
theorem xp_ : xp d a b c = ⟨some d, .pick (.s a) (.s b) (.s c), none⟩ := rfl
theorem xa_ : xa k d a b = ⟨some d, .app k (.s a) (.s b), none⟩ := rfl
theorem xg_ : xg n ⟨g, q, none⟩ = ⟨g, q, some (n, true)⟩ := rfl
theorem xh_ : xh n ⟨g, q, none⟩ = ⟨g, q, some (n, false)⟩ := rfl
end
def ams := And.intro @xm_ <| And.intro @xi_ <| And.intro @xb_ <| And.intro @xB_ <| And.intro @xu_ <| And.intro @xl_ <| And.intro @xo_ <| And.intro @xk_ <| And.intro @xf_ <| And.intro @xv_ <| And.intro @xw_ <| And.intro @xL_ <| And.intro @xT_ <| And.intro @xA_ <| And.intro @xS_ <| And.intro @xs_ <| And.intro @xe_ <| And.intro @xc_ <| And.intro @xp_ <| And.intro @xa_ <| And.intro @xg_ @xh_
theorem Store.subT {a b c : Store} (h : a.sub b) (k : b.sub c) : a.sub c := ⟨fun x cs hx => k.1 x cs (h.1 x cs hx), fun x n hx => k.2 x n (h.2 x n hx)⟩
end Go.Am

namespace Go.Am
theorem Env.ok.weak {E : Env} {σ σ' : Store} (h : E.ok σ) (ho : OLe σ σ') : E.ok σ' := by
  refine ⟨fun b cs hb => ?_, fun t n ht => h.tip t n (ho.tip t n ht), h.fresh, h.nt⟩
  obtain ⟨ds, h1, h2⟩ := ho.box b cs hb
  obtain ⟨k1, k2⟩ := h.box b ds h1
  exact ⟨k1, k2.weak h2⟩
theorem PCalls.le {P : Program} {f : FuncId} {as : List V} {σ : Store} {v : V} {S S' : Store} (h : PCalls P f as σ fun v' σ' => v' = v ∧ σ' = S) (ho : OLe S S') : PCalls P f as σ fun v' σ' => v' = v ∧ σ' = S' :=
  ⟨h.1, fun E vs h1 h2 h3 => (h.2 E vs h1 h2 h3).mono fun _ _ ⟨v', x, E', σ', a, b, c, d, e, f, g⟩ => ⟨v', x, E', S', a, b, c, (g.2 ▸ d).weak ho, e, f, g.1, rfl⟩⟩
theorem OLe.set {σ : Store} {b : Nat} {A B : List V} (h : LLe A B) : OLe (σ.set b A) (σ.set b B) := by
  refine ⟨fun x cs' hx => ?_, fun _ _ h => h⟩
  simp only [Store.set] at hx ⊢
  by_cases e : x = b
  · rw [if_pos e] at hx ⊢
    simp only [Option.some.injEq] at hx; subst hx
    exact ⟨A, Eq.refl _, h⟩
  · rw [if_neg e] at hx ⊢
    exact ⟨cs', hx, LLe.rfl⟩
end Go.Am

namespace Go.Am
section
variable {σ : Store}
theorem Own.appS {v : V} {rows : List (List V)} {s : List UInt8} {H : V → Store → Prop} (h : Own σ 1 v rows) (hb : rows.length + s.length ≤ big)
    (hk : ∀ v' σ', Own σ' 1 v' (rows ++ encB s) → OwnF σ v σ' v' → H v' σ') : OQ.sem σ H .appS [v, .str s] := by
  have h' := h
  obtain ⟨a, cap, rfl, _⟩ := h
  have hn : nolL (encB s).flatten = true := by
    rw [encB_flat]
    clear hb hk h'
    induction s with
    | nil => rfl
    | cons b s ih => simp only [List.map_cons, nolL, V.nol, Bool.true_and]; exact ih
  exact (Own.app (tk := .no) (m := encB s) h' (by intro r hr; simp only [encB, List.mem_map] at hr; obtain ⟨_, _, rfl⟩ := hr; rfl) hn (by simpa [encB] using hb) hk).2
theorem Own.appR {v : V} {rows : List (List V)} {a' : Option Addr} {n' c' : Nat} {s : List UInt8} {H : V → Store → Prop} (h : Own σ 1 v rows) (hr : rawText σ a' n' s) (hb : rows.length + s.length ≤ big)
    (hk : ∀ v' σ', Own σ' 1 v' (rows ++ encB s) → OwnF σ v σ' v' → H v' σ') : OQ.sem σ H .appR [v, .raw (.slice a' n' c')] := by
  have h' := h
  obtain ⟨a, cap, rfl, _⟩ := h
  exact ⟨s, hr, Own.appS h' hb hk⟩
theorem Own.cvR {v : V} {s : List UInt8} {H : V → Store → Prop} (h : Own σ 1 v (encB s)) (hk : H (.str s) σ) : OQ.sem σ H .cvR [v] := by
  obtain ⟨a, cap, rfl, h1, _, h3⟩ := h
  have hl : (encB s).length = s.length := by simp [encB]
  rw [hl] at h1 h3
  refine ⟨s, ⟨by rw [hl], ?_⟩, hk⟩
  rcases h3 with h3 | ⟨b, cs, rfl, h4, _, h6⟩
  · left; rw [hl]; omega
  · right
    refine ⟨b, 0, cs, rfl, h4, ?_⟩
    rw [hl, List.drop_zero]
    rw [Nat.mul_one, encB_flat] at h6
    exact h6
theorem mk_intro {n : Int} {i : IntKind} {z : List V} {H : V → Store → Prop} (h0 : 0 ≤ n) (hb : n ≤ big) (hz : nolL z = true) (hl : 0 < z.length)
    (hk : ∀ b, σ.box b = none → H (.raw (.slice (some ⟨b, 0, none⟩) n.toNat n.toNat)) (σ.set b (List.replicate n.toNat z).flatten)) : OQ.sem σ H (.mk z) [.int i n] := ⟨h0, hb, hz, hl, hk⟩
theorem frz_intro {b n cap : Nat} {j : Int} {i : IntKind} {cs : List V} {H : V → Store → Prop} (hc : σ.box b = some cs) (h0 : 0 ≤ j) (hj : j.toNat ≤ cap) (hl : j.toNat ≤ cs.length) (h1 : oneL (cs.take j.toNat) = true) (h2 : nolL (cs.take j.toNat) = true)
    (hk : H (.sl .no 1 (cellRows (cs.take j.toNat))) (σ.del b)) : OQ.sem σ H (.frz 1 false true) [.raw (.slice (some ⟨b, 0, none⟩) n cap), .int i j] := by
  show bnd false 0 [.int i j] fun l vs => bnd true n vs fun h vs => vs = [] ∧ l ≤ h ∧ h ≤ cap ∧ 1 = 1 ∧ ∃ cs, σ.box b = some cs ∧ 0 + h ≤ cs.length ∧ oneL (((cs.drop 0).take h).drop l) = true ∧ nolL (((cs.drop 0).take h).drop l) = true ∧ H (.sl .no 1 (cellRows (((cs.drop 0).take h).drop l))) (σ.del b)
  refine ⟨h0, rfl, by omega, hj, rfl, cs, hc, by omega, ?_, ?_, ?_⟩
  · simpa using h1
  · simpa using h2
  · simpa using hk
theorem slcA_hi {b o m k : Nat} {j : Int} {i : IntKind} {H : V → Store → Prop} (h0 : 0 ≤ j) (hj : j.toNat ≤ m) (hm : 0 < m) (hk : H (.raw (.slice (some ⟨b, o, none⟩) j.toNat m)) σ) : OQ.sem σ H (.slcA m k false true) [.ptr (.out b) o, .int i j] := by
  show bnd false 0 [.int i j] fun l vs => bnd true m vs fun h vs => vs = [] ∧ l ≤ h ∧ h ≤ m ∧ H (.raw (.slice (some (if m = l then ⟨b, o, none⟩ else ⟨b, o + l * k, none⟩)) (h - l) (m - l))) σ
  refine ⟨h0, rfl, by omega, hj, ?_⟩
  rw [if_neg (by omega)]
  simpa using hk
theorem slcA_both {b o m k : Nat} {l j : Int} {i i' : IntKind} {H : V → Store → Prop} (hl : 0 ≤ l) (h0 : 0 ≤ j) (hlj : l.toNat ≤ j.toNat) (hj : j.toNat ≤ m) (hm : l.toNat < m) (hk : H (.raw (.slice (some ⟨b, o + l.toNat * k, none⟩) (j.toNat - l.toNat) (m - l.toNat))) σ) : OQ.sem σ H (.slcA m k true true) [.ptr (.out b) o, .int i l, .int i' j] := by
  show bnd true 0 [.int i l, .int i' j] fun l vs => bnd true m vs fun h vs => vs = [] ∧ l ≤ h ∧ h ≤ m ∧ H (.raw (.slice (some (if m = l then ⟨b, o, none⟩ else ⟨b, o + l * k, none⟩)) (h - l) (m - l))) σ
  refine ⟨hl, h0, rfl, hlj, hj, ?_⟩
  rw [if_neg (by omega)]
  exact hk
theorem cvR_intro {a : Option Addr} {n c : Nat} {s : List UInt8} {H : V → Store → Prop} (h : rawText σ a n s) (hk : H (.str s) σ) : OQ.sem σ H .cvR [.raw (.slice a n c)] := ⟨s, h, hk⟩
theorem min_intro {a b : Int} {k : IntKind} {H : V → Store → Prop} (hk : H (.int k (if b < a then b else a)) σ) : OQ.sem σ H .min [.int k a, .int k b] := ⟨ikEq_same, hk⟩
theorem cntS_eq {s : List UInt8} {c : Int} {H : V → Store → Prop} : OQ.sem σ H .cntS [.str s, .int .u8 c] = H (.int .i64 (s.count c.toNat.toUInt8 : Nat)) σ := rfl
theorem idxB_eq {s : List UInt8} {c : Int} {H : V → Store → Prop} : OQ.sem σ H .idxB [.str s, .int .u8 c] = H (.int .i64 (findB s c.toNat.toUInt8)) σ := rfl
theorem findB_spec (s : List UInt8) (c : UInt8) : (findB s c = -1 ∧ c ∉ s) ∨ ∃ w r, s = w ++ c :: r ∧ c ∉ w ∧ findB s c = (w.length : Nat) := by
  induction s with
  | nil => exact .inl ⟨rfl, by simp⟩
  | cons b l ih =>
    by_cases hb : b = c
    · right; exact ⟨[], l, by simp [hb], by simp, by simp [findB, hb]⟩
    · have hbe : (b == c) = false := by simpa using hb
      rcases ih with ⟨h1, h2⟩ | ⟨w, r, h1, h2, h3⟩
      · left; exact ⟨by simp [findB, hbe, h1], by simp [h2, Ne.symm hb]⟩
      · right
        refine ⟨b :: w, r, by rw [h1]; rfl, by simp [h2, Ne.symm hb], ?_⟩
        have hne : (findB l c == -1) = false := by rw [h3]; exact beq_eq_false_iff_ne.2 (by omega)
        simp only [findB, hbe, hne, Bool.false_eq_true, if_false, List.length_cons]
        rw [h3]; omega
theorem set_new {b g : Nat} {cs ds : List V} (h : σ.box b = none) (hg : σ.box g = some ds) : (σ.set b cs).box g = some ds := by
  rw [Store.set_other _ _ (by rintro rfl; rw [h] at hg; simp at hg)]; exact hg
theorem sub_set {b : Nat} {cs : List V} (h : σ.box b = none) : σ.sub (σ.set b cs) :=
  ⟨fun g ds hg => set_new h hg, fun _ _ h => h⟩
theorem setAt_mid {A B : List V} {x y : V} : setAt (A ++ x :: B) A.length [y] = A ++ y :: B := by
  induction A with
  | nil => cases B <;> simp [setAt, over]
  | cons a A ih => simp only [List.cons_append, List.length_cons, setAt, ih]
end
end Go.Am

namespace Go.Am
def digK : Nat → Nat → List UInt8
  | 0, _ => []
  | k + 1, n => digK k (n / 10) ++ [UInt8.ofNat (48 + n % 10)]
def ndF : Nat → Nat → Nat
  | 0, _ => 1
  | f + 1, n => if n < 10 then 1 else ndF f (n / 10) + 1
def nd (n : Nat) : Nat := ndF 40 n
def digN (n : Nat) : List UInt8 := digK (nd n) n
def numT (n : Int) : List UInt8 := if n < 0 then 45 :: digN n.natAbs else digN n.natAbs
def isD (c : UInt8) : Bool := decide (48 ≤ c.toNat) && decide (c.toNat ≤ 57)
def valD (s : List UInt8) : Nat := s.foldl (fun n c => n * 10 + (c.toNat - 48)) 0
theorem digK_len : ∀ k n, (digK k n).length = k
  | 0, _ => rfl
  | k + 1, n => by simp [digK, digK_len k]
theorem dig_byte (n : Nat) : (UInt8.ofNat (48 + n % 10)).toNat = 48 + n % 10 := by
  have : n % 10 < 10 := Nat.mod_lt _ (by omega)
  rw [UInt8.toNat_ofNat']
  omega
theorem digK_isD : ∀ k n, (digK k n).all isD = true
  | 0, _ => rfl
  | k + 1, n => by
    have := dig_byte n
    have h : n % 10 < 10 := Nat.mod_lt _ (by omega)
    simp only [digK, List.all_append, digK_isD k, List.all_cons, List.all_nil, Bool.and_true, Bool.true_and, isD, this, Bool.and_eq_true, decide_eq_true_eq]
    omega
theorem digK_add (j : Nat) : ∀ (k n : Nat), digK (j + k) n = digK j (n / 10 ^ k) ++ digK k n
  | 0, n => by simp [digK]
  | k + 1, n => by
    rw [← Nat.add_assoc, digK, digK_add j k, digK, Nat.div_div_eq_div_mul, ← Nat.pow_succ', List.append_assoc]
theorem digK_mod : ∀ (k n : Nat), digK k (n % 10 ^ k) = digK k n
  | 0, n => rfl
  | k + 1, n => by
    have e1 : n % 10 ^ (k + 1) / 10 = n / 10 % 10 ^ k := by
      rw [Nat.pow_succ', Nat.mod_mul_right_div_self]
    have e2 : n % 10 ^ (k + 1) % 10 = n % 10 := by
      rw [Nat.pow_succ', Nat.mod_mul_right_mod]
    simp only [digK, e1, e2, digK_mod k]
theorem valD_snoc (s : List UInt8) (c : UInt8) : valD (s ++ [c]) = valD s * 10 + (c.toNat - 48) := by simp [valD]
theorem snoc_ind {α : Type} {p : List α → Prop} (h0 : p []) (hs : ∀ l x, p l → p (l ++ [x])) (l : List α) : p l := by
  have : ∀ n (l : List α), l.length = n → p l := by
    intro n
    induction n with
    | zero => intro l h; rw [List.length_eq_zero_iff.1 h]; exact h0
    | succ n ih =>
      intro l h
      have hne : l ≠ [] := fun e => by rw [e] at h; simp at h
      rw [← List.dropLast_concat_getLast hne]
      exact hs _ _ (ih _ (by simp [h]))
  exact this _ l rfl
theorem digK_val (s : List UInt8) : s.all isD = true → digK s.length (valD s) = s := by
  refine snoc_ind (p := fun s => s.all isD = true → digK s.length (valD s) = s) (fun _ => rfl) (fun l x ih h => ?_) s
  simp only [List.all_append, List.all_cons, List.all_nil, Bool.and_true, Bool.and_eq_true, isD, decide_eq_true_eq] at h
  have hx := h.2
  rw [List.length_append, List.length_singleton, digK, valD_snoc]
  have e1 : (valD l * 10 + (x.toNat - 48)) / 10 = valD l := by omega
  have e2 : (valD l * 10 + (x.toNat - 48)) % 10 = x.toNat - 48 := by omega
  rw [e1, e2, ih h.1, show 48 + (x.toNat - 48) = x.toNat by omega, UInt8.ofNat_toNat]
theorem valD_digK : ∀ k n, valD (digK k n) = n % 10 ^ k
  | 0, n => by simp [digK, valD, Nat.mod_one]
  | k + 1, n => by
    rw [digK, valD_snoc, valD_digK k, dig_byte, show 48 + n % 10 - 48 = n % 10 by omega, Nat.pow_succ', Nat.mod_mul]
    omega
theorem valD_lt (s : List UInt8) : s.all isD = true → valD s < 10 ^ s.length := by
  intro h
  have h1 := digK_val s h
  have h2 := valD_digK s.length (valD s)
  rw [h1] at h2
  rw [h2]
  exact Nat.mod_lt _ (Nat.pos_of_ne_zero (by simp))
theorem valD_cons (c : UInt8) (s : List UInt8) : valD (c :: s) = (c.toNat - 48) * 10 ^ s.length + valD s := by
  have key : ∀ (s : List UInt8) (a : Nat), s.foldl (fun n c => n * 10 + (c.toNat - 48)) a = a * 10 ^ s.length + valD s := by
    intro s
    induction s with
    | nil => intro a; simp [valD]
    | cons x xs ih =>
      intro a
      have e : valD (x :: xs) = (x.toNat - 48) * 10 ^ xs.length + valD xs := by
        show List.foldl _ (0 * 10 + (x.toNat - 48)) xs = _
        rw [ih]; simp
      rw [List.foldl_cons, ih, e, List.length_cons, Nat.pow_succ', Nat.add_mul, Nat.mul_assoc, Nat.add_assoc]
  show List.foldl _ (0 * 10 + (c.toNat - 48)) s = _
  rw [key]; simp
theorem ndF_spec : ∀ (f n : Nat), n < 10 ^ (f + 1) → 1 ≤ ndF f n ∧ n < 10 ^ ndF f n ∧ (n ≠ 0 → 10 ^ (ndF f n - 1) ≤ n)
  | 0, n, h => by simp only [ndF]; exact ⟨Nat.le_refl _, by simpa using h, fun h => by simp; omega⟩
  | f + 1, n, h => by
    simp only [ndF]
    split
    · rename_i h10; exact ⟨Nat.le_refl _, by simpa using h10, fun h => by simp; omega⟩
    · rename_i h10
      obtain ⟨h1, h2, h3⟩ := ndF_spec f (n / 10) (by rw [Nat.pow_succ'] at h; omega)
      have h4 := h3 (by omega)
      refine ⟨by omega, ?_, fun _ => ?_⟩
      · rw [Nat.pow_succ']; omega
      · obtain ⟨m, hm⟩ : ∃ m, ndF f (n / 10) = m + 1 := ⟨ndF f (n / 10) - 1, by omega⟩
        rw [hm] at h4 ⊢
        simp only [Nat.add_sub_cancel] at h4 ⊢
        rw [Nat.pow_succ']; omega
theorem nd_spec {n : Nat} (h : n < 10 ^ 40) : 1 ≤ nd n ∧ n < 10 ^ nd n ∧ (n ≠ 0 → 10 ^ (nd n - 1) ≤ n) := ndF_spec 40 n (by rw [Nat.pow_succ]; omega)
theorem nd_unique {n d : Nat} (hn : n < 10 ^ 40) (h1 : 1 ≤ d) (h2 : n < 10 ^ d) (h3 : 2 ≤ d → 10 ^ (d - 1) ≤ n) : nd n = d := by
  obtain ⟨g1, g2, g3⟩ := nd_spec hn
  rcases Nat.lt_trichotomy (nd n) d with h | h | h
  · have := h3 (by omega)
    have := Nat.pow_le_pow_right (show 0 < 10 by omega) (show nd n ≤ d - 1 by omega)
    omega
  · exact h
  · have hz : n ≠ 0 := fun e => by
      have : nd 0 = 1 := by decide
      rw [e] at h; omega
    have := g3 hz
    have := Nat.pow_le_pow_right (show 0 < 10 by omega) (show d ≤ nd n - 1 by omega)
    omega
def numR (s : List UInt8) : Option Nat := if s.length < 1 ∨ 18 < s.length ∨ (s.head? = some 48 ∧ 1 < s.length) then none else if s.all isD = true then some (valD s) else none
theorem numR_some {s : List UInt8} {n : Nat} (h : numR s = some n) : digN n = s ∧ n < 10 ^ 18 := by
  unfold numR at h
  split at h
  · simp at h
  rename_i hc
  split at h
  case isFalse => simp at h
  rename_i ha
  simp only [Option.some.injEq] at h
  subst h
  have hlt := valD_lt s ha
  have h18 : valD s < 10 ^ 18 := Nat.lt_of_lt_of_le hlt (Nat.pow_le_pow_right (by omega) (by omega))
  refine ⟨?_, h18⟩
  have hnd : nd (valD s) = s.length := by
    refine nd_unique (Nat.lt_of_lt_of_le h18 (Nat.pow_le_pow_right (by omega) (by omega))) (by omega) hlt fun h2 => ?_
    cases s with
    | nil => simp at h2
    | cons c r =>
      rw [valD_cons]
      have hc48 : c ≠ 48 := fun e => hc (.inr (.inr ⟨by rw [e]; rfl, by simp only [List.length_cons] at h2 ⊢; omega⟩))
      have hcd : isD c = true := by simp only [List.all_cons, Bool.and_eq_true] at ha; exact ha.1
      simp only [isD, Bool.and_eq_true, decide_eq_true_eq] at hcd
      have : c.toNat ≠ 48 := fun e => hc48 (UInt8.toNat_inj.1 e)
      have h1 : 1 ≤ c.toNat - 48 := by omega
      have := Nat.mul_le_mul_right (10 ^ r.length) h1
      simp only [List.length_cons, Nat.add_sub_cancel]
      omega
  unfold digN
  rw [hnd]
  exact digK_val s ha
theorem digN_head {n : Nat} (hn : n < 10 ^ 40) (h : 1 < nd n) : (digN n).head? ≠ some 48 := by
  obtain ⟨g1, g2, g3⟩ := nd_spec hn
  intro e
  have hv := valD_digK (nd n) n
  rw [Nat.mod_eq_of_lt g2] at hv
  have hd := digK_isD (nd n) n
  have hl := digK_len (nd n) n
  unfold digN at e
  cases hq : digK (nd n) n with
  | nil => rw [hq] at e; simp at e
  | cons c r =>
    rw [hq] at e hv hd hl
    simp only [List.head?_cons, Option.some.injEq] at e
    subst e
    rw [valD_cons] at hv
    simp only [List.all_cons, Bool.and_eq_true] at hd
    have hlt := valD_lt r hd.2
    have hz : n ≠ 0 := fun e => by
      have : nd 0 = 1 := by decide
      rw [e] at h; omega
    have := g3 hz
    simp only [List.length_cons] at hl
    rw [show nd n - 1 = r.length by omega] at this
    have : (48 : UInt8).toNat - 48 = 0 := by decide
    rw [this] at hv
    omega
theorem numR_digN {n : Nat} (h : n < 10 ^ 18) : numR (digN n) = some n := by
  have hn : n < 10 ^ 40 := Nat.lt_of_lt_of_le h (Nat.pow_le_pow_right (by omega) (by omega))
  obtain ⟨g1, g2, g3⟩ := nd_spec hn
  have hl : (digN n).length = nd n := digK_len _ _
  have h18 : nd n ≤ 18 := by
    by_cases hz : n = 0
    · rw [hz]; decide
    · have := g3 hz
      by_cases h19 : 19 ≤ nd n
      · have := Nat.pow_le_pow_right (show 0 < 10 by omega) (show 18 ≤ nd n - 1 by omega)
        omega
      · omega
  unfold numR
  rw [if_neg ?_, if_pos (show (digN n).all isD = true from digK_isD _ _)]
  · unfold digN
    rw [valD_digK, Nat.mod_eq_of_lt g2]
  · rintro (h1 | h1 | ⟨h1, h2⟩)
    · omega
    · omega
    · exact digN_head hn (by omega) h1
theorem digN_inj {n m : Nat} (hn : n < 10 ^ 40) (hm : m < 10 ^ 40) (h : digN n = digN m) : n = m := by
  have h1 := congrArg valD h
  unfold digN at h1
  rw [valD_digK, valD_digK, Nat.mod_eq_of_lt (nd_spec hn).2.1, Nat.mod_eq_of_lt (nd_spec hm).2.1] at h1
  exact h1
theorem digN_isD (n : Nat) : (digN n).all isD = true := digK_isD _ _
theorem digN_ne (n : Nat) (h : n < 10 ^ 40) : digN n ≠ [] := fun e => by
  have := digK_len (nd n) n
  have e : digK (nd n) n = [] := e
  rw [e] at this
  have := (nd_spec h).1
  simp at *; omega
end Go.Am

namespace Go.Am
structure Rep where
  kind : Int
  text : List UInt8
  list : List Int
  line : Int
  cls : Int
  at_ : Int
deriving DecidableEq
def Rep.zero : Rep := ⟨0, [], [], 0, 0, 0⟩
def wordT : List (List UInt8) := [[], [111, 107], [115, 97, 116], [117, 110, 115, 97, 116], [99, 111, 114, 101], [110, 111, 32, 99, 111, 114, 101], [119, 104, 121], [110, 111, 32, 119, 104, 121], [101, 114, 114, 111, 114]]
def classT : List (List UInt8) := [[], [108, 101, 120], [102, 111, 114, 109], [110, 97, 109, 101], [115, 111, 114, 116], [111, 114, 100, 101, 114], [100, 101, 102, 105, 110, 105, 116, 101], [108, 105, 109, 105, 116], [102, 114, 97, 109, 101]]
def tabAt (l : List (List UInt8)) (k : Int) : List UInt8 := if 0 ≤ k ∧ k < 9 then l.getD k.toNat [] else []
def lineW : List UInt8 := [108, 105, 110, 101]
def coreW : List UInt8 := [99, 111, 114, 101]
def whyW : List UInt8 := [119, 104, 121]
def errorW : List UInt8 := [101, 114, 114, 111, 114]
def satW : List UInt8 := [115, 97, 116]
def listT (l : List Int) : List UInt8 := l.flatMap fun n => 32 :: numT n
def faultT (r : Rep) : List UInt8 := [32] ++ (if 0 < r.line then lineW ++ [32] ++ numT r.line ++ [32] else []) ++ tabAt classT r.cls ++ [32] ++ numT r.at_
def textR29 (r : Rep) : List UInt8 :=
  if r.kind < 1 ∨ 8 < r.kind then []
  else tabAt wordT r.kind ++ (if r.kind = 2 then (if r.text = [] then [] else 32 :: r.text) else if r.kind = 4 ∨ r.kind = 6 then listT r.list else if r.kind = 8 then faultT r else [])
def risesF : Int → List Int → Bool
  | _, [] => true
  | p, n :: ns => decide (p < n) && decide (n ≤ 64) && risesF n ns
def Rep.rightP (r : Rep) : Bool :=
  if (r.kind ≠ 8 ∧ (r.line ≠ 0 ∨ r.cls ≠ 0 ∨ r.at_ ≠ 0)) ∨ (r.kind ≠ 2 ∧ r.text ≠ []) then false
  else if r.kind = 4 then decide (0 < r.list.length) && risesF 0 r.list
  else if r.kind = 6 then risesF 0 r.list
  else if r.kind = 8 then decide (r.list.length = 0) && decide (0 ≤ r.line) && decide (0 ≤ r.at_) && !decide (tabAt classT r.cls = [])
  else if r.kind = 2 then decide (r.list.length = 0) && !r.text.contains 10
  else decide (1 ≤ r.kind) && decide (r.kind ≤ 8) && decide (r.list.length = 0)
def splitW : List UInt8 → List (List UInt8)
  | [] => [[]]
  | c :: s => match splitW s with
    | [] => [[c]]
    | w :: ws => if c = 32 then [] :: w :: ws else (c :: w) :: ws
def joinB : List (List UInt8) → List UInt8
  | [] => []
  | w :: ws => w ++ ws.flatMap fun y => 32 :: y
theorem splitW_ne (s : List UInt8) : splitW s ≠ [] := by
  cases s with
  | nil => simp [splitW]
  | cons c s => simp only [splitW]; cases splitW s <;> simp; split <;> simp
theorem splitW_join : ∀ s, joinB (splitW s) = s
  | [] => rfl
  | c :: s => by
    have ih := splitW_join s
    simp only [splitW]
    cases h : splitW s with
    | nil => exact absurd h (splitW_ne s)
    | cons w ws =>
      rw [h] at ih
      simp only
      split
      · rename_i hc; subst hc; simp only [joinB, List.nil_append, List.flatMap_cons] at ih ⊢; rw [← ih]; simp
      · simp only [joinB, List.cons_append] at ih ⊢; rw [ih]
theorem splitW_word : ∀ {w : List UInt8}, 32 ∉ w → splitW w = [w]
  | [], _ => rfl
  | c :: w, h => by
    simp only [List.mem_cons, not_or] at h
    simp only [splitW, splitW_word h.2]
    rw [if_neg (Ne.symm h.1)]
theorem splitW_app : ∀ {w : List UInt8}, 32 ∉ w → ∀ s, splitW (w ++ 32 :: s) = w :: splitW s
  | [], _, s => by
    simp only [List.nil_append, splitW]
    cases h : splitW s with
    | nil => exact absurd h (splitW_ne s)
    | cons w ws => simp
  | c :: w, h, s => by
    simp only [List.mem_cons, not_or] at h
    simp only [List.cons_append, splitW, splitW_app h.2]
    rw [if_neg (Ne.symm h.1)]
theorem isD_no {s : List UInt8} (h : s.all isD = true) : 32 ∉ s := fun hm => by
  have := List.all_eq_true.1 h 32 hm
  revert this; decide
theorem numT_no (n : Int) : 32 ∉ numT n := by
  have := isD_no (digN_isD n.natAbs)
  unfold numT
  split
  · simp [this]
  · exact this
theorem splitW_list : ∀ (l : List Int) {w : List UInt8}, 32 ∉ w → splitW (w ++ listT l) = w :: l.map numT
  | [], w, h => by simp [listT, splitW_word h]
  | n :: l, w, h => by
    have e : w ++ listT (n :: l) = w ++ 32 :: (numT n ++ listT l) := by simp [listT]
    rw [e, splitW_app h, splitW_list l (numT_no n), List.map_cons]
def numsR : List (List UInt8) → Option (List Int)
  | [] => some []
  | s :: ss => match numR s with
    | none => none
    | some n => (numsR ss).map ((n : Int) :: ·)
def clsF (w : List UInt8) : Nat → Nat → Int → Int
  | 0, _, r => r
  | n + 1, c, r => clsF w n (c + 1) (if tabAt classT c = w then (c : Int) else r)
def clsR (w : List UInt8) : Int := clsF w 8 1 0
def failR (l : List (List UInt8)) : Option Rep :=
  if l.length = 4 ∧ l.getD 0 [] = lineW then
    match numR (l.getD 1 []) with
    | none => none
    | some 0 => none
    | some n => match numR (l.getD 3 []) with
      | some a => some ⟨8, [], [], n, clsR (l.getD 2 []), a⟩
      | none => none
  else if l.length = 2 then
    match numR (l.getD 1 []) with
    | some a => some ⟨8, [], [], 0, clsR (l.getD 0 []), a⟩
    | none => none
  else none
def plainR (s : List UInt8) : Rep :=
  if tabAt wordT 1 = s then { Rep.zero with kind := 1 } else if tabAt wordT 2 = s then { Rep.zero with kind := 2 } else if tabAt wordT 3 = s then { Rep.zero with kind := 3 }
  else if tabAt wordT 5 = s then { Rep.zero with kind := 5 } else if tabAt wordT 7 = s then { Rep.zero with kind := 7 } else .zero
def rawR (s : List UInt8) : Option Rep :=
  if (satW ++ [32]).isPrefixOf s = true then (if s.drop 4 = [] then none else some { Rep.zero with kind := 2, text := s.drop 4 })
  else if (splitW s).headD [] = coreW then (numsR (splitW s).tail).map fun l => { Rep.zero with kind := 4, list := l }
  else if (splitW s).headD [] = whyW then (numsR (splitW s).tail).map fun l => { Rep.zero with kind := 6, list := l }
  else if (splitW s).headD [] = errorW then failR (splitW s).tail
  else some (plainR s)
def readP29 (s : List UInt8) : Option Rep := match rawR s with
  | some r => if r.rightP = true then some r else none
  | none => none
def valZ (s : List UInt8) : Int := match numR s with | some n => (n : Int) | none => -1
def guessF (s : List UInt8) (ws : List (List UInt8)) (h : List UInt8) : Rep :=
  if s = tabAt wordT 1 then { Rep.zero with kind := 1 } else if s = tabAt wordT 3 then { Rep.zero with kind := 3 } else if s = tabAt wordT 5 then { Rep.zero with kind := 5 } else if s = tabAt wordT 7 then { Rep.zero with kind := 7 }
  else if 4 ≤ s.length ∧ s.take 4 = satW ++ [32] then { Rep.zero with kind := 2, text := s.drop 4 }
  else if h = satW then { Rep.zero with kind := 2 }
  else if h = coreW ∨ h = whyW then { Rep.zero with kind := if h = whyW then 6 else 4, list := ws.tail.map valZ }
  else if ws.length = 5 then ⟨8, [], [], valZ (ws.getD 2 []), clsR (ws.getD 3 []), valZ (ws.getD 4 [])⟩
  else if ws.length = 3 then ⟨8, [], [], 0, clsR (ws.getD 1 []), valZ (ws.getD 2 [])⟩
  else .zero
def guess (s : List UInt8) : Rep := guessF s (splitW s) ((splitW s).headD [])
def readD29 (s : List UInt8) : Option Rep := if (guess s).rightP = true ∧ textR29 (guess s) = s then some (guess s) else none
def Rep.small (r : Rep) : Prop := r.line < 10 ^ 18 ∧ r.at_ < 10 ^ 18
theorem numT_nat {n : Int} (h : 0 ≤ n) : numT n = digN n.toNat := by unfold numT; rw [if_neg (by omega)]; congr 1; omega
theorem numR_numT {n : Int} (h : 0 ≤ n) (h2 : n < 10 ^ 18) : numR (numT n) = some n.toNat := by rw [numT_nat h]; exact numR_digN (by omega)
theorem numR_T {s : List UInt8} {n : Nat} (h : numR s = some n) : numT (n : Int) = s ∧ (n : Int) < 10 ^ 18 := by
  obtain ⟨h1, h2⟩ := numR_some h
  exact ⟨by rw [numT_nat (by omega)]; exact h1, by omega⟩
theorem rises_in : ∀ (l : List Int) (p : Int), 0 ≤ p → risesF p l = true → ∀ n ∈ l, 1 ≤ n ∧ n ≤ 64
  | [], _, _, _, n, h => by simp at h
  | m :: l, p, hp, h, n, hn => by
    simp only [risesF, Bool.and_eq_true, decide_eq_true_eq] at h
    rcases List.mem_cons.1 hn with rfl | hn
    · exact ⟨by omega, h.1.2⟩
    · exact rises_in l m (by omega) h.2 n hn
theorem numsR_T : ∀ (l : List Int), (∀ n ∈ l, 0 ≤ n ∧ n < 10 ^ 18) → numsR (l.map numT) = some l
  | [], _ => rfl
  | n :: l, h => by
    obtain ⟨h1, h2⟩ := h n (by simp)
    simp only [List.map_cons, numsR, numR_numT h1 h2, numsR_T l (fun m hm => h m (by simp [hm])), Option.map_some]
    rw [show ((n.toNat : Nat) : Int) = n by omega]
theorem numsR_some : ∀ (ss : List (List UInt8)) (l : List Int), numsR ss = some l → ss = l.map numT
  | [], l, h => by simp [numsR] at h; subst h; rfl
  | s :: ss, l, h => by
    simp only [numsR] at h
    cases hq : numR s with
    | none => rw [hq] at h; simp at h
    | some n =>
      rw [hq] at h
      simp only [Option.map_eq_some_iff] at h
      obtain ⟨l', h1, rfl⟩ := h
      rw [List.map_cons, (numR_T hq).1, ← numsR_some ss l' h1]
theorem valZ_T : ∀ (l : List Int), (∀ n ∈ l, 0 ≤ n ∧ n < 10 ^ 18) → (l.map numT).map valZ = l
  | [], _ => rfl
  | n :: l, h => by
    obtain ⟨h1, h2⟩ := h n (by simp)
    rw [List.map_cons, List.map_cons, valZ_T l (fun m hm => h m (by simp [hm]))]
    simp only [valZ, numR_numT h1 h2]
    rw [show ((n.toNat : Nat) : Int) = n by omega]
theorem class_spec {c : Int} (h : tabAt classT c ≠ []) : 1 ≤ c ∧ c ≤ 8 ∧ 32 ∉ tabAt classT c ∧ clsR (tabAt classT c) = c ∧ tabAt classT c ≠ lineW := by
  have hc : 0 ≤ c ∧ c < 9 := by
    unfold tabAt at h
    split at h
    · assumption
    · exact absurd rfl h
  have key : ∀ n : Nat, n < 9 → tabAt classT (n : Nat) ≠ [] → 1 ≤ ((n : Nat) : Int) ∧ ((n : Nat) : Int) ≤ 8 ∧ 32 ∉ tabAt classT (n : Nat) ∧ clsR (tabAt classT (n : Nat)) = (n : Nat) ∧ tabAt classT (n : Nat) ≠ lineW := by decide +kernel
  have := key c.toNat (by omega)
  rw [show ((c.toNat : Nat) : Int) = c by omega] at this
  exact this h
theorem cls_back (w : List UInt8) (h : tabAt classT (clsR w) ≠ []) : tabAt classT (clsR w) = w := by
  have key : ∀ (n c : Nat) (r : Int), (r = 0 ∨ tabAt classT r = w) → clsF w n c r = 0 ∨ tabAt classT (clsF w n c r) = w := by
    intro n
    induction n with
    | zero => intro c r h; exact h
    | succ n ih =>
      intro c r h
      simp only [clsF]
      refine ih _ _ ?_
      split
      · rename_i hc; exact .inr hc
      · exact h
  rcases key 8 1 0 (.inl rfl) with h0 | h1
  · have h0 : clsR w = 0 := h0
    rw [h0] at h; exact absurd rfl h
  · exact h1
theorem contains_no {α : Type} [BEq α] [LawfulBEq α] {l : List α} {x : α} (h : l.contains x = false) : x ∉ l := by simpa using h
theorem right_spec {r : Rep} (h : r.rightP = true) : (r.kind = 4 ∧ r = { Rep.zero with kind := 4, list := r.list } ∧ r.list ≠ [] ∧ risesF 0 r.list = true) ∨ (r.kind = 6 ∧ r = { Rep.zero with kind := 6, list := r.list } ∧ risesF 0 r.list = true) ∨
    (r.kind = 8 ∧ r = ⟨8, [], [], r.line, r.cls, r.at_⟩ ∧ 0 ≤ r.line ∧ 0 ≤ r.at_ ∧ tabAt classT r.cls ≠ []) ∨ (r.kind = 2 ∧ r = { Rep.zero with kind := 2, text := r.text } ∧ 10 ∉ r.text) ∨
    r = { Rep.zero with kind := 1 } ∨ r = { Rep.zero with kind := 3 } ∨ r = { Rep.zero with kind := 5 } ∨ r = { Rep.zero with kind := 7 } := by
  obtain ⟨k, t, l, ln, c, a⟩ := r
  unfold Rep.rightP at h
  simp only at h
  split at h
  · simp at h
  rename_i h0
  simp only [not_or, not_and, Decidable.not_not] at h0
  obtain ⟨h1, h2⟩ := h0
  split at h
  · rename_i hk; subst hk
    simp only [Bool.and_eq_true, decide_eq_true_eq] at h
    obtain ⟨g1, g2, g3⟩ := h1 (by decide)
    exact .inl ⟨rfl, by simp [Rep.zero, h2 (by decide), g1, g2, g3], fun e => by simp only at e; rw [e] at h; simp at h, h.2⟩
  split at h
  · rename_i hk; subst hk
    obtain ⟨g1, g2, g3⟩ := h1 (by decide)
    exact .inr (.inl ⟨rfl, by simp [Rep.zero, h2 (by decide), g1, g2, g3], h⟩)
  split at h
  · rename_i hk; subst hk
    simp only [Bool.and_eq_true, decide_eq_true_eq, Bool.not_eq_true', decide_eq_false_iff_not] at h
    exact .inr (.inr (.inl ⟨rfl, by simp [h2 (by decide), List.length_eq_zero_iff.1 h.1.1.1], h.1.1.2, h.1.2, h.2⟩))
  split at h
  · rename_i hk; subst hk
    simp only [Bool.and_eq_true, decide_eq_true_eq, Bool.not_eq_true'] at h
    obtain ⟨g1, g2, g3⟩ := h1 (by decide)
    exact .inr (.inr (.inr (.inl ⟨rfl, by simp [Rep.zero, List.length_eq_zero_iff.1 h.1, g1, g2, g3], contains_no h.2⟩)))
  · rename_i k4 k6 k8 k2
    simp only [Bool.and_eq_true, decide_eq_true_eq] at h
    obtain ⟨g1, g2, g3⟩ := h1 k8
    have hl := List.length_eq_zero_iff.1 h.2
    have ht := h2 k2
    have : k = 1 ∨ k = 3 ∨ k = 5 ∨ k = 7 := by omega
    rcases this with rfl | rfl | rfl | rfl
    · exact .inr (.inr (.inr (.inr (.inl (by simp [Rep.zero, ht, hl, g1, g2, g3])))))
    · exact .inr (.inr (.inr (.inr (.inr (.inl (by simp [Rep.zero, ht, hl, g1, g2, g3]))))))
    · exact .inr (.inr (.inr (.inr (.inr (.inr (.inl (by simp [Rep.zero, ht, hl, g1, g2, g3])))))))
    · exact .inr (.inr (.inr (.inr (.inr (.inr (.inr (by simp [Rep.zero, ht, hl, g1, g2, g3])))))))
end Go.Am

namespace Go.Am
theorem error_text {l c a : Int} : textR29 ⟨8, [], [], l, c, a⟩ = errorW ++ ([32] ++ (if 0 < l then lineW ++ [32] ++ numT l ++ [32] else []) ++ tabAt classT c ++ [32] ++ numT a) := rfl
theorem core_text {l : List Int} : textR29 { Rep.zero with kind := 4, list := l } = coreW ++ listT l := rfl
theorem why_text {l : List Int} : textR29 { Rep.zero with kind := 6, list := l } = whyW ++ listT l := rfl
theorem sat_text {t : List UInt8} : textR29 { Rep.zero with kind := 2, text := t } = satW ++ (if t = [] then [] else 32 :: t) := rfl
theorem split_error {l c a : Int} (hc : 32 ∉ tabAt classT c) : splitW (textR29 ⟨8, [], [], l, c, a⟩) = if 0 < l then [errorW, lineW, numT l, tabAt classT c, numT a] else [errorW, tabAt classT c, numT a] := by
  rw [error_text]
  split
  · have e : errorW ++ ([32] ++ (lineW ++ [32] ++ numT l ++ [32]) ++ tabAt classT c ++ [32] ++ numT a) = errorW ++ 32 :: (lineW ++ 32 :: (numT l ++ 32 :: (tabAt classT c ++ 32 :: numT a))) := by simp
    rw [e, splitW_app (by decide), splitW_app (by decide), splitW_app (numT_no l), splitW_app hc, splitW_word (numT_no a)]
  · have e : errorW ++ ([32] ++ [] ++ tabAt classT c ++ [32] ++ numT a) = errorW ++ 32 :: (tabAt classT c ++ 32 :: numT a) := by simp
    rw [e, splitW_app (by decide), splitW_app hc, splitW_word (numT_no a)]
theorem split_core {l : List Int} : splitW (coreW ++ listT l) = coreW :: l.map numT := splitW_list l (by decide)
theorem split_why {l : List Int} : splitW (whyW ++ listT l) = whyW :: l.map numT := splitW_list l (by decide)
theorem raw_back {r : Rep} (h : r.rightP = true) (hs : r.small) : rawR (textR29 r) = some r := by
  rcases right_spec h with ⟨_, e, _, hr⟩ | ⟨_, e, hr⟩ | ⟨_, e, h1, h2, h3⟩ | ⟨_, e, h1⟩ | rfl | rfl | rfl | rfl
  · generalize r.list = l at *
    subst e
    have hl := rises_in l 0 (by omega) hr
    unfold rawR
    rw [core_text, if_neg (by simp [coreW, satW]), split_core]
    simp only [List.headD_cons, List.tail_cons, if_true]
    rw [numsR_T l (fun n hn => by have := hl n hn; omega)]
    rfl
  · generalize r.list = l at *
    subst e
    have hl := rises_in l 0 (by omega) hr
    unfold rawR
    rw [why_text, if_neg (by simp [whyW, satW]), split_why]
    simp only [List.headD_cons, List.tail_cons, if_true]
    rw [if_neg (by decide), numsR_T l (fun n hn => by have := hl n hn; omega)]
    rfl
  · obtain ⟨s1, s2⟩ := hs
    generalize r.line = l at *
    generalize r.cls = c at *
    generalize r.at_ = a at *
    subst e
    obtain ⟨c1, c2, c3, c4, c5⟩ := class_spec h3
    unfold rawR
    rw [split_error c3, if_neg (by simp [error_text, errorW, satW])]
    have n1 := numR_numT h2 s2
    by_cases hl : 0 < l
    · rw [if_pos hl]
      simp only [List.headD_cons, List.tail_cons, if_true]
      rw [if_neg (by decide), if_neg (by decide)]
      unfold failR
      have n2 := numR_numT h1 s1
      obtain ⟨m, hm⟩ : ∃ m, l.toNat = m + 1 := ⟨l.toNat - 1, by omega⟩
      simp only [List.length_cons, List.length_nil, List.getD_cons_zero, List.getD_cons_succ, and_self, if_true, n1, n2, hm, c4]
      rw [show ((m + 1 : Nat) : Int) = l by omega, show ((a.toNat : Nat) : Int) = a by omega]
    · have : l = 0 := by omega
      subst this
      rw [if_neg hl]
      simp only [List.headD_cons, List.tail_cons, if_true]
      rw [if_neg (by decide), if_neg (by decide)]
      unfold failR
      simp only [List.length_cons, List.length_nil, List.getD_cons_zero, List.getD_cons_succ, n1, c4]
      rw [if_neg (by simp), if_pos trivial, show ((a.toNat : Nat) : Int) = a by omega]
  · generalize r.text = t at *
    subst e
    by_cases ht : t = []
    · subst ht; decide +kernel
    · rw [sat_text, if_neg ht]
      unfold rawR
      rw [if_pos (by simp [satW])]
      have e : (satW ++ 32 :: t).drop 4 = t := by simp [satW]
      rw [e, if_neg ht]
  · decide +kernel
  · decide +kernel
  · decide +kernel
  · decide +kernel
theorem guess_back {r : Rep} (h : r.rightP = true) (hs : r.small) : guess (textR29 r) = r := by
  rcases right_spec h with ⟨_, e, _, hr⟩ | ⟨_, e, hr⟩ | ⟨_, e, h1, h2, h3⟩ | ⟨_, e, h1⟩ | rfl | rfl | rfl | rfl
  · generalize r.list = l at *
    subst e
    have hl := rises_in l 0 (by omega) hr
    unfold guess
    rw [core_text, split_core]
    show guessF (coreW ++ listT l) (coreW :: l.map numT) coreW = _
    unfold guessF
    rw [if_neg (by simp [coreW, tabAt, wordT]), if_neg (by simp [coreW, tabAt, wordT]), if_neg (by simp [coreW, tabAt, wordT]), if_neg (by simp [coreW, tabAt, wordT]), if_neg (by simp [coreW, satW]), if_neg (by decide), if_pos (.inl rfl), if_neg (by decide), List.tail_cons, valZ_T l (fun n hn => by have := hl n hn; omega)]
  · generalize r.list = l at *
    subst e
    have hl := rises_in l 0 (by omega) hr
    unfold guess
    rw [why_text, split_why]
    show guessF (whyW ++ listT l) (whyW :: l.map numT) whyW = _
    unfold guessF
    rw [if_neg (by simp [whyW, tabAt, wordT]), if_neg (by simp [whyW, tabAt, wordT]), if_neg (by simp [whyW, tabAt, wordT]), if_neg (by simp [whyW, tabAt, wordT]), if_neg (by simp [whyW, satW]), if_neg (by decide), if_pos (.inr rfl), if_pos rfl, List.tail_cons, valZ_T l (fun n hn => by have := hl n hn; omega)]
  · obtain ⟨s1, s2⟩ := hs
    generalize r.line = l at *
    generalize r.cls = c at *
    generalize r.at_ = a at *
    subst e
    obtain ⟨c1, c2, c3, c4, c5⟩ := class_spec h3
    unfold guess
    rw [split_error c3]
    have n1 := numR_numT h2 s2
    by_cases hl : 0 < l
    · rw [if_pos hl]
      show guessF _ [errorW, lineW, numT l, tabAt classT c, numT a] errorW = _
      unfold guessF
      have n2 := numR_numT h1 s1
      rw [if_neg (by simp [error_text, errorW, tabAt, wordT]), if_neg (by simp [error_text, errorW, tabAt, wordT]), if_neg (by simp [error_text, errorW, tabAt, wordT]), if_neg (by simp [error_text, errorW, tabAt, wordT]), if_neg (by simp [error_text, errorW, satW]), if_neg (by decide), if_neg (by decide), if_pos (show [errorW, lineW, numT l, tabAt classT c, numT a].length = 5 from rfl)]
      simp only [List.getD_cons_zero, List.getD_cons_succ, valZ, n1, n2, c4]
      rw [show ((l.toNat : Nat) : Int) = l by omega, show ((a.toNat : Nat) : Int) = a by omega]
    · have : l = 0 := by omega
      subst this
      rw [if_neg hl]
      show guessF _ [errorW, tabAt classT c, numT a] errorW = _
      unfold guessF
      rw [if_neg (by simp [error_text, errorW, tabAt, wordT]), if_neg (by simp [error_text, errorW, tabAt, wordT]), if_neg (by simp [error_text, errorW, tabAt, wordT]), if_neg (by simp [error_text, errorW, tabAt, wordT]), if_neg (by simp [error_text, errorW, satW]), if_neg (by decide), if_neg (by decide), if_neg (by simp), if_pos (show [errorW, tabAt classT c, numT a].length = 3 from rfl)]
      simp only [List.getD_cons_zero, List.getD_cons_succ, valZ, n1, c4]
      rw [show ((a.toNat : Nat) : Int) = a by omega]
  · generalize r.text = t at *
    subst e
    by_cases ht : t = []
    · subst ht; decide +kernel
    · rw [sat_text, if_neg ht]
      unfold guess guessF
      rw [if_neg (by simp [satW, tabAt, wordT]), if_neg (by simp [satW, tabAt, wordT]), if_neg (by simp [satW, tabAt, wordT]), if_neg (by simp [satW, tabAt, wordT]), if_pos (by simp [satW])]
      have e : (satW ++ 32 :: t).drop 4 = t := by simp [satW]
      rw [e]
  · decide +kernel
  · decide +kernel
  · decide +kernel
  · decide +kernel
theorem split_of {s w : List UInt8} (h : (splitW s).headD [] = w) : s = joinB (w :: (splitW s).tail) := by
  have h1 := splitW_join s
  cases hs : splitW s with
  | nil => exact absurd hs (splitW_ne s)
  | cons x xs =>
    rw [hs] at h1 h
    simp only [List.headD_cons] at h
    subst h
    exact h1.symm
theorem list_text (l : List Int) (w : List UInt8) : joinB (w :: l.map numT) = w ++ listT l := by simp [joinB, listT, List.flatMap_map]
theorem raw_text {s : List UInt8} {r : Rep} (h : rawR s = some r) (hr : r.rightP = true) : textR29 r = s ∧ r.small := by
  unfold rawR at h
  split at h
  · rename_i hp
    split at h
    · simp at h
    rename_i hd
    simp only [Option.some.injEq] at h
    subst h
    rw [sat_text, if_neg hd]
    obtain ⟨t, ht⟩ := List.isPrefixOf_iff_prefix.1 hp
    subst ht
    exact ⟨by simp [satW], by simp [Rep.small, Rep.zero]⟩
  split at h
  · rename_i hw
    simp only [Option.map_eq_some_iff] at h
    obtain ⟨l, h1, rfl⟩ := h
    have := split_of hw
    rw [numsR_some _ _ h1, list_text] at this
    exact ⟨by rw [core_text]; exact this.symm, by simp [Rep.small, Rep.zero]⟩
  split at h
  · rename_i hw
    simp only [Option.map_eq_some_iff] at h
    obtain ⟨l, h1, rfl⟩ := h
    have := split_of hw
    rw [numsR_some _ _ h1, list_text] at this
    exact ⟨by rw [why_text]; exact this.symm, by simp [Rep.small, Rep.zero]⟩
  split at h
  · rename_i hw
    have hj := split_of hw
    generalize (splitW s).tail = ws at h hj
    unfold failR at h
    split at h
    · rename_i hc
      match ws, hc with
      | [a, b, c, d], hc =>
        simp only [List.getD_cons_zero, List.getD_cons_succ] at h hc
        cases hb : numR b with
        | none => rw [hb] at h; simp at h
        | some n =>
          rw [hb] at h
          match n, h, hb with
          | n + 1, h, hb =>
            simp only at h
            cases hd : numR d with
            | none => rw [hd] at h; simp at h
            | some m =>
              rw [hd] at h
              simp only [Option.some.injEq] at h
              subst h
              obtain ⟨g1, g2⟩ := numR_T hb
              obtain ⟨g3, g4⟩ := numR_T hd
              have hcl : tabAt classT (clsR c) = c := cls_back c (by
                simp only [Rep.rightP] at hr
                intro e
                simp [e] at hr)
              refine ⟨?_, g2, g4⟩
              rw [error_text, if_pos (by omega), g1, g3, hcl, hj, hc.2]
              simp [joinB]
    · split at h
      · rename_i hc
        match ws, hc with
        | [c, d], hc =>
          simp only [List.getD_cons_zero, List.getD_cons_succ] at h
          cases hd : numR d with
          | none => rw [hd] at h; simp at h
          | some m =>
            rw [hd] at h
            simp only [Option.some.injEq] at h
            subst h
            obtain ⟨g3, g4⟩ := numR_T hd
            have hcl : tabAt classT (clsR c) = c := cls_back c (by
              simp only [Rep.rightP] at hr
              intro e
              simp [e] at hr)
            refine ⟨?_, by simp, g4⟩
            rw [error_text, if_neg (by omega), g3, hcl, hj]
            simp [joinB]
      · simp at h
  · simp only [Option.some.injEq] at h
    unfold plainR at h
    split at h
    · rename_i e; subst h; subst e; exact ⟨by decide +kernel, by simp [Rep.small, Rep.zero]⟩
    split at h
    · rename_i e; subst h; subst e; exact ⟨by decide +kernel, by simp [Rep.small, Rep.zero]⟩
    split at h
    · rename_i e; subst h; subst e; exact ⟨by decide +kernel, by simp [Rep.small, Rep.zero]⟩
    split at h
    · rename_i e; subst h; subst e; exact ⟨by decide +kernel, by simp [Rep.small, Rep.zero]⟩
    split at h
    · rename_i e; subst h; subst e; exact ⟨by decide +kernel, by simp [Rep.small, Rep.zero]⟩
    · subst h; exact absurd hr (by decide +kernel)
theorem valZ_lt (s : List UInt8) : valZ s < 10 ^ 18 := by
  unfold valZ
  split
  · rename_i n h; exact (numR_T h).2
  · decide
theorem guess_small (s : List UInt8) : (guess s).small := by
  unfold guess guessF Rep.small
  have h1 := valZ_lt ((splitW s).getD 2 [])
  have h2 := valZ_lt ((splitW s).getD 4 [])
  repeat' split
  all_goals (try simp [Rep.zero])
  all_goals (try exact ⟨h1, h2⟩)
  all_goals (try exact h1)
theorem read29 (s : List UInt8) : readP29 s = readD29 s := by
  have back : ∀ r, readP29 s = some r → readD29 s = some r := fun r h => by
    unfold readP29 at h
    cases hq : rawR s with
    | none => rw [hq] at h; simp at h
    | some r' =>
      rw [hq] at h
      simp only at h
      split at h
      case isFalse => simp at h
      rename_i hr
      simp only [Option.some.injEq] at h
      subst h
      obtain ⟨h1, h2⟩ := raw_text hq hr
      have h3 := guess_back hr h2
      rw [h1] at h3
      unfold readD29
      rw [h3, if_pos ⟨hr, h1⟩]
  have forth : ∀ r, readD29 s = some r → readP29 s = some r := fun r h => by
    unfold readD29 at h
    split at h
    case isFalse => simp at h
    rename_i hr
    simp only [Option.some.injEq] at h
    subst h
    have h2 := raw_back hr.1 (guess_small s)
    rw [hr.2] at h2
    unfold readP29
    rw [h2]
    simp only [hr.1, if_true]
  cases h : readP29 s with
  | some r => exact (back r h).symm
  | none => cases h2 : readD29 s with
    | none => rfl
    | some r => rw [forth r h2] at h; simp at h
theorem once29 {s : List UInt8} {r : Rep} (h : readP29 s = some r) : r.rightP = true ∧ textR29 r = s := by
  unfold readP29 at h
  cases hq : rawR s with
  | none => rw [hq] at h; simp at h
  | some r' =>
    rw [hq] at h
    simp only at h
    split at h
    case isFalse => simp at h
    rename_i hr
    simp only [Option.some.injEq] at h
    subst h
    exact ⟨hr, (raw_text hq hr).1⟩
theorem back29 {r : Rep} (h : r.rightP = true) (hs : r.small) : readP29 (textR29 r) = some r := by
  unfold readP29; rw [raw_back h hs]; simp [h]
end Go.Am

namespace Go.Am
def Rep.rightD (r : Rep) : Bool :=
  if r.kind < 1 ∨ 8 < r.kind ∨ (r.kind ≠ 2 ∧ r.text ≠ []) ∨ (r.kind ≠ 4 ∧ r.kind ≠ 6 ∧ 0 < r.list.length) ∨ (r.kind = 4 ∧ r.list.length = 0) ∨ risesF 0 r.list = false then false
  else if r.text.contains 10 = true then false
  else if r.kind ≠ 8 then decide (r.line = 0) && decide (r.cls = 0) && decide (r.at_ = 0)
  else decide (0 ≤ r.line) && decide (0 ≤ r.at_) && decide (1 ≤ r.cls) && decide (r.cls ≤ 8)
theorem class_ne {c : Int} (h1 : 1 ≤ c) (h2 : c ≤ 8) : tabAt classT c ≠ [] := by
  have key : ∀ n : Nat, n < 9 → 1 ≤ n → tabAt classT (n : Nat) ≠ [] := by decide +kernel
  have := key c.toNat (by omega) (by omega)
  rwa [show ((c.toNat : Nat) : Int) = c by omega] at this
theorem right29 (r : Rep) : r.rightD = r.rightP := by
  rw [Bool.eq_iff_iff]
  constructor
  · intro h
    obtain ⟨k, t, l, ln, c, a⟩ := r
    unfold Rep.rightD at h
    simp only at h
    split at h
    · simp at h
    rename_i h0
    simp only [not_or, not_and, Decidable.not_not, Int.not_lt, Nat.not_lt, Nat.le_zero, Bool.not_eq_false] at h0
    obtain ⟨h1, h2, h3, h4, h5, h6⟩ := h0
    split at h
    · simp at h
    rename_i h7
    unfold Rep.rightP
    simp only
    by_cases k8 : k = 8
    · subst k8
      simp only [ne_eq, not_true_eq_false, if_false, Bool.and_eq_true, decide_eq_true_eq] at h
      have ht := h3 (by decide)
      have hl := h4 (by decide) (by decide)
      have hc := class_ne h.1.2 h.2
      simp [ht, hl, h.1.1.1, h.1.1.2, hc]
    · rw [if_pos k8] at h
      simp only [Bool.and_eq_true, decide_eq_true_eq] at h
      obtain ⟨⟨g1, g2⟩, g3⟩ := h
      subst g1; subst g2; subst g3
      by_cases k4 : k = 4
      · subst k4
        have ht := h3 (by decide)
        have hl := h5 rfl
        simp [ht, h6, Nat.pos_of_ne_zero hl]
      by_cases k6 : k = 6
      · subst k6
        have ht := h3 (by decide)
        simp [ht, h6]
      have hl := h4 k4 k6
      by_cases k2 : k = 2
      · subst k2
        have h7' : t.contains 10 = false := by simpa using h7
        have hn := contains_no h7'
        simp [hl, hn]
      have ht := h3 k2
      simp [k4, k6, k8, k2, ht, hl, h1, h2]
  · intro h
    rcases right_spec h with ⟨_, e, hne, hr⟩ | ⟨_, e, hr⟩ | ⟨_, e, h1, h2, h3⟩ | ⟨_, e, h1⟩ | rfl | rfl | rfl | rfl
    · generalize r.list = l at *
      subst e
      have : ¬ l.length = 0 := fun e => hne (List.length_eq_zero_iff.1 e)
      simp [Rep.rightD, Rep.zero, hr]
      exact hne
    · generalize r.list = l at *
      subst e
      simp [Rep.rightD, Rep.zero, hr]
    · generalize r.line = l at *
      generalize r.cls = c at *
      generalize r.at_ = a at *
      subst e
      obtain ⟨c1, c2, _⟩ := class_spec h3
      simp [Rep.rightD, risesF, h1, h2, c1, c2]
    · generalize r.text = t at *
      subst e
      simp [Rep.rightD, Rep.zero, risesF, h1]
    · decide +kernel
    · decide +kernel
    · decide +kernel
    · decide +kernel
theorem numT_inj {n m : Int} (hn : 0 ≤ n) (hm : 0 ≤ m) (hn2 : n < 10 ^ 40) (hm2 : m < 10 ^ 40) (h : numT n = numT m) : n = m := by
  rw [numT_nat hn, numT_nat hm] at h
  have := digN_inj (n := n.toNat) (m := m.toNat) (by omega) (by omega) h
  omega
theorem text_inj {a b : Rep} (ha : a.rightP = true) (hs : a.small) (hb : b.rightP = true) (h1 : b.line < 10 ^ 40) (h2 : b.at_ < 10 ^ 40) (h : textR29 a = textR29 b) : a = b := by
  have hra := raw_back ha hs
  have small : b.kind ≠ 8 → a = b := fun hk => by
    have hbs : b.small := by
      rcases right_spec hb with ⟨_, e, _⟩ | ⟨_, e, _⟩ | ⟨e, _⟩ | ⟨_, e, _⟩ | rfl | rfl | rfl | rfl
      · rw [e]; simp [Rep.small, Rep.zero]
      · rw [e]; simp [Rep.small, Rep.zero]
      · exact absurd e hk
      · rw [e]; simp [Rep.small, Rep.zero]
      all_goals simp [Rep.small, Rep.zero]
    have hrb := raw_back hb hbs
    rw [h, hrb] at hra
    exact (Option.some.inj hra).symm
  by_cases hk : b.kind = 8
  case neg => exact small hk
  rcases right_spec hb with ⟨e, _⟩ | ⟨e, _⟩ | ⟨_, e, b1, b2, b3⟩ | ⟨e, _⟩ | e | e | e | e
  case inr.inr.inl =>
    obtain ⟨_, _, c3, c4, _⟩ := class_spec b3
    have hsb := split_error (l := b.line) (c := b.cls) (a := b.at_) c3
    rw [← e, ← h] at hsb
    have hd : (splitW (textR29 a)).headD [] = errorW := by rw [hsb]; split <;> rfl
    rcases right_spec ha with ⟨_, e', _⟩ | ⟨_, e', _⟩ | ⟨_, e', a1, a2, a3⟩ | ⟨_, e', _⟩ | e' | e' | e' | e'
    · rw [e', core_text, split_core] at hd; exact absurd (show coreW = errorW from hd) (by decide)
    · rw [e', why_text, split_why] at hd; exact absurd (show whyW = errorW from hd) (by decide)
    · obtain ⟨_, _, d3, d4, _⟩ := class_spec a3
      have hsa := split_error (l := a.line) (c := a.cls) (a := a.at_) d3
      rw [← e', hsb] at hsa
      obtain ⟨s1, s2⟩ := hs
      rw [e, e']
      by_cases ga : 0 < a.line
      · rw [if_pos ga] at hsa
        by_cases gb : 0 < b.line
        · rw [if_pos gb] at hsa
          simp only [List.cons.injEq, and_true, true_and] at hsa
          obtain ⟨q1, q2, q3⟩ := hsa
          have p1 := numT_inj b1 a1 h1 (by omega) q1
          have p3 := numT_inj b2 a2 h2 (by omega) q3
          have p2 : b.cls = a.cls := by rw [← c4, ← d4, q2]
          rw [p1, p2, p3]
        · rw [if_neg gb] at hsa; simp at hsa
      · rw [if_neg ga] at hsa
        by_cases gb : 0 < b.line
        · rw [if_pos gb] at hsa; simp at hsa
        · rw [if_neg gb] at hsa
          simp only [List.cons.injEq, and_true, true_and] at hsa
          obtain ⟨q2, q3⟩ := hsa
          have p3 := numT_inj b2 a2 h2 (by omega) q3
          have p2 : b.cls = a.cls := by rw [← c4, ← d4, q2]
          have p1 : b.line = a.line := by omega
          rw [p1, p2, p3]
    · rw [e', sat_text] at hd
      split at hd
      · rw [List.append_nil, splitW_word (by decide)] at hd; exact absurd hd (by decide)
      · rw [splitW_app (by decide)] at hd; exact absurd hd (by simp [satW, errorW])
    all_goals (rw [e'] at hd; exact absurd hd (by decide +kernel))
  all_goals (exfalso; first | omega | (rw [e] at hk; simp [Rep.zero] at hk))
end Go.Am

namespace Go.Am
def smallsT : List UInt8 := (List.range 100).flatMap fun n => [UInt8.ofNat (48 + n / 10), UInt8.ofNat (48 + n % 10)]
theorem smalls_len : smallsT.length = 200 := by decide +kernel
theorem smalls_hi {m : Nat} (h : m < 100) : smallsT[m * 2]? = some (UInt8.ofNat (48 + m / 10)) := by
  have key : ∀ m < 100, smallsT[m * 2]? = some (UInt8.ofNat (48 + m / 10)) := by decide +kernel
  exact key m h
theorem smalls_lo {m : Nat} (h : m < 100) : smallsT[m * 2 + 1]? = some (UInt8.ofNat (48 + m % 10)) := by
  have key : ∀ m < 100, smallsT[m * 2 + 1]? = some (UInt8.ofNat (48 + m % 10)) := by decide +kernel
  exact key m h
theorem digK_two (n : Nat) : digK 2 n = [UInt8.ofNat (48 + n % 100 / 10), UInt8.ofNat (48 + n % 100 % 10)] := by
  simp only [digK, List.nil_append, List.singleton_append]
  rw [show n / 10 % 10 = n % 100 / 10 by omega, show n % 100 % 10 = n % 10 by omega]
theorem digK_four (n : Nat) : digK 4 n = digK 2 (n % 10000 / 100) ++ digK 2 (n % 10000 % 100) := by
  have := digK_add 2 2 n
  rw [show (10 : Nat) ^ 2 = 100 by decide] at this
  rw [show (4 : Nat) = 2 + 2 from rfl, this, digK_two, digK_two, digK_two, digK_two]
  rw [show n % 10000 / 100 % 100 = n / 100 % 100 by omega, show n % 10000 % 100 % 100 = n % 100 by omega]
theorem digK_eight (n : Nat) : digK 8 n = digK 4 (n % 100000000 / 10000) ++ digK 4 (n % 100000000 % 10000) := by
  have := digK_add 4 4 n
  rw [show (10 : Nat) ^ 4 = 10000 by decide] at this
  rw [show (8 : Nat) = 4 + 4 from rfl, this, digK_four, digK_four, digK_four, digK_four]
  rw [show n % 100000000 / 10000 % 10000 = n / 10000 % 10000 by omega, show n % 100000000 % 10000 % 10000 = n % 10000 by omega]
theorem digK_one {n : Nat} (h : n < 10) : digK 1 n = [UInt8.ofNat (48 + n)] := by simp [digK, Nat.mod_eq_of_lt h]
theorem small_one {n : Nat} (h : n < 10) : digN n = [UInt8.ofNat (48 + n)] := by
  have key : ∀ n < 10, digN n = [UInt8.ofNat (48 + n)] := by decide +kernel
  exact key n h
theorem small_two {n : Nat} (h1 : 10 ≤ n) (h : n < 100) : digN n = (smallsT.take (n * 2 + 2)).drop (n * 2) := by
  have key : ∀ n < 100, 10 ≤ n → digN n = (smallsT.take (n * 2 + 2)).drop (n * 2) := by decide +kernel
  exact key n h h1
theorem nd_bits {u b : Nat} (hb : b ≤ 64) (h1 : u < 2 ^ b) (h2 : u ≠ 0 → 2 ^ (b - 1) ≤ u) (h0 : u ≠ 0) : nd u = b * 78913 / 2 ^ 18 + (if 10 ^ (b * 78913 / 2 ^ 18) ≤ u then 1 else 0) ∧ b * 78913 / 2 ^ 18 < 20 := by
  have hb1 : 1 ≤ b := by
    rcases Nat.eq_zero_or_pos b with h | h
    · subst h; simp at h1; omega
    · exact h
  have key : ∀ b < 65, 1 ≤ b → 2 ^ b ≤ 10 ^ (b * 78913 / 2 ^ 18 + 1) ∧ (1 ≤ b * 78913 / 2 ^ 18 → 10 ^ (b * 78913 / 2 ^ 18 - 1) ≤ 2 ^ (b - 1)) ∧ b * 78913 / 2 ^ 18 < 20 := by decide +kernel
  obtain ⟨k1, k2, k3⟩ := key b (by omega) hb1
  have h3 := h2 h0
  refine ⟨?_, k3⟩
  generalize b * 78913 / 2 ^ 18 = e at *
  have h64 : u < 10 ^ 40 := Nat.lt_of_lt_of_le h1 (Nat.le_trans k1 (Nat.pow_le_pow_right (by omega) (by omega)))
  split
  · rename_i h
    refine nd_unique h64 (by omega) (Nat.lt_of_lt_of_le h1 k1) fun _ => by simpa using h
  · rename_i h
    have he : 1 ≤ e := by
      rcases Nat.eq_zero_or_pos e with h4 | h4
      · subst h4; simp at h; omega
      · exact h4
    exact nd_unique h64 he (by simpa using h) fun _ => Nat.le_trans (k2 he) h3
end Go.Am

namespace Go.Am
def Rdr.leaf (kind : Int) (r : Rdr) : Nd × Rdr := (.mk kind r.word.1.pos r.word.1.text [] [], r.word.2)
def Rdr.rule (r : Rdr) : Nd × Rdr :=
  (.mk 6 r.word.1.pos r.word.1.text ((r.word.2.take 58).2.words true).1.1 [], ((r.word.2.take 58).2.words true).2)
def Rdr.constant : Nat → Rdr → Nd × Rdr
  | 0, r => r.leaf 2
  | n + 1, r =>
    if r.sees 123 = true then (.mk 3 (r.words true).1.2 [] (r.words true).1.1 [], (r.words true).2)
    else if r.sees 40 = true then (.mk 4 (r.nodes (Rdr.constant n) 40 false).1.2 [] [] (r.nodes (Rdr.constant n) 40 false).1.1, (r.nodes (Rdr.constant n) 40 false).2)
    else if r.sees 91 = true then (.mk 5 (r.nodes Rdr.rule 91 true).1.2 [] [] (r.nodes Rdr.rule 91 true).1.1, (r.nodes Rdr.rule 91 true).2)
    else r.leaf 2
def Rdr.atom (n : Nat) (r : Rdr) : Nd × Rdr :=
  if r.sees 35 = true then (.mk 7 (r.take 35).1.tok.pos [] [] [(Rdr.constant n (r.take 35).2).1], (Rdr.constant n (r.take 35).2).2) else r.leaf 1
def Rdr.label : Nat → Rdr → Nd × Rdr
  | 0, r => r.leaf 1
  | n + 1, r =>
    if r.sees 43 = true then (.mk 8 (r.take 43).1.tok.pos [] [] ((r.take 43).2.nodes (Rdr.label n) 40 false).1.1, ((r.take 43).2.nodes (Rdr.label n) 40 false).2)
    else if r.sees 38 = true then (.mk 9 (r.take 38).1.tok.pos [] [] ((r.take 38).2.nodes (Rdr.label n) 40 false).1.1, ((r.take 38).2.nodes (Rdr.label n) 40 false).2)
    else r.atom (n + 1)
def Rdr.field (n : Nat) (r : Rdr) : Nd × Rdr :=
  (.mk 11 r.word.1.pos r.word.1.text [] [((r.word.2.take 61).2.atom n).1], ((r.word.2.take 61).2.atom n).2)
end Go.Am

namespace Go.Am
def Goes (r r' : Rdr) : Prop := r'.l = r.l ∧ (0 ≤ r.at_ → r.at_ ≤ r.l.length → r.at_ ≤ r'.at_ ∧ r'.at_ ≤ r.l.length ∧ (r'.bad = none → r.at_ + 1 ≤ r'.at_))
theorem Goes.trans {a b c : Rdr} (h : Goes a b) (k : Goes b c) : Goes a c := by
  refine ⟨k.1.trans h.1, fun h1 h2 => ?_⟩
  obtain ⟨p1, p2, p3⟩ := h.2 h1 h2
  obtain ⟨q1, q2, q3⟩ := k.2 (by omega) (by rw [h.1]; exact p2)
  rw [h.1] at q2
  exact ⟨by omega, q2, fun hq => by have := q3 hq; omega⟩
theorem goes_take (r : Rdr) (k : Int) : Goes r (r.take k).2 := by
  refine ⟨r.take_l k, fun h1 h2 => ?_⟩
  rcases r.take_at k with ⟨_, e, _, h3, h4⟩ | ⟨_, e, hb⟩
  · rw [e]; exact ⟨by omega, by omega, fun _ => by omega⟩
  · rw [e]; exact ⟨by omega, h2, fun hq => absurd hq hb⟩
theorem goes_word (r : Rdr) : Goes r r.word.2 := goes_take r 97
theorem goes_leaf (r : Rdr) (k : Int) : Goes r (r.leaf k).2 := goes_word r
theorem goes_bracket {β : Type} (step : Rdr × List β → Rdr × List β) (k : Int) (e : Bool) (r : Rdr) : Goes r (r.bracket step k e).2 := by
  have h := goes_take r k
  unfold Rdr.bracket
  split
  · rename_i hok
    have hb : (r.take k).2.bad = none := by simpa [Rdr.ok] using hok
    exact ⟨h.1, fun h1 h2 => by
      obtain ⟨p1, p2, p3⟩ := h.2 h1 h2
      exact ⟨p1, p2, fun _ => p3 hb⟩⟩
  · exact h
theorem goes_words (r : Rdr) (e : Bool) : Goes r (r.words e).2 := goes_bracket _ _ _ _
theorem goes_nodes (r : Rdr) (one : Rdr → Nd × Rdr) (k : Int) (e : Bool) : Goes r (r.nodes one k e).2 := goes_bracket _ _ _ _
theorem reads_of {one : Rdr → Nd × Rdr} (h : ∀ r, Goes r (one r).2) : Reads one := ⟨fun r => (h r).1, fun r => (h r).2⟩
theorem goes_rule (r : Rdr) : Goes r r.rule.2 := ((goes_word r).trans (goes_take _ _)).trans (goes_words _ _)
theorem goes_constant : ∀ (n : Nat) (r : Rdr), Goes r (Rdr.constant n r).2
  | 0, r => goes_leaf r 2
  | n + 1, r => by
    simp only [Rdr.constant]
    split
    · exact goes_words r true
    · split
      · exact goes_nodes r _ 40 false
      · split
        · exact goes_nodes r _ 91 true
        · exact goes_leaf r 2
theorem goes_atom (n : Nat) (r : Rdr) : Goes r (r.atom n).2 := by
  simp only [Rdr.atom]
  split
  · exact (goes_take r 35).trans (goes_constant n _)
  · exact goes_leaf r 1
theorem goes_label : ∀ (n : Nat) (r : Rdr), Goes r (Rdr.label n r).2
  | 0, r => goes_leaf r 1
  | n + 1, r => by
    simp only [Rdr.label]
    split
    · exact (goes_take r 43).trans (goes_nodes _ _ 40 false)
    · split
      · exact (goes_take r 38).trans (goes_nodes _ _ 40 false)
      · exact goes_atom (n + 1) r
theorem goes_field (n : Nat) (r : Rdr) : Goes r (r.field n).2 := ((goes_word r).trans (goes_take _ _)).trans (goes_atom n _)
end Go.Am

namespace Go.Am
def Rdr.rowIn (n : Nat) (i : Rdr) : (Rdr × List Nd) × List Word :=
  let a := if i.sees 124 = true then (i, []) else someG (oStep (Rdr.field n)) i
  if a.1.sees 124 = true then (((a.1.take 124).2.word.2, a.2), [(a.1.take 124).2.word.1]) else (a, [])
def Rdr.rowOf (n : Nat) (t : Tree) : (Rdr × List Nd) × List Word := if t.kids.length = 0 then ((t.inner, []), []) else t.inner.rowIn n
def Rdr.row (n : Nat) (r : Rdr) : Nd × Rdr :=
  if r.sees 91 = true then (.mk 10 (r.take 91).1.tok.pos [] (Rdr.rowOf n (r.take 91).1).2 (Rdr.rowOf n (r.take 91).1).1.2, (r.take 91).2.under (Rdr.rowOf n (r.take 91).1).1.1) else r.leaf 1
def Nd.zero : Nd := .mk 0 0 [] [] []
def readAt (one : Rdr → Nd × Rdr) (l : List Tree) (at_ fin : Int) : Nd × Int × Option Int :=
  match (one ⟨l, at_, fin, none⟩).2.bad with
  | some b => (.zero, 0, some b)
  | none => ((one ⟨l, at_, fin, none⟩).1, (one ⟨l, at_, fin, none⟩).2.at_, none)
def wordsAt (l : List Tree) (at_ fin : Int) : List Word × Option Int :=
  match ((⟨l, at_, fin, none⟩ : Rdr).words false).2.bad with
  | some b => ([], some b)
  | none => (((⟨l, at_, fin, none⟩ : Rdr).words false).1.1, none)
end Go.Am

namespace Go.Am
structure Got where
  node : Nd
  next : Int
  bad : Bool
  pos : Int
def Got.enc (g : Got) : List V := [.int .i64 g.node.kind, .int .i64 g.node.pos, .str g.node.text, .sl .no 2 (g.node.names.map Word.enc), .sl .no 5 (g.node.kids.map Nd.enc), .int .i64 g.next, .bool g.bad, .int .i64 g.pos]
def spotOf (l : List Tree) (at_ fin : Int) : Int := if 0 ≤ at_ then (match l[at_.toNat]? with | some t => t.tok.pos | none => fin) else fin
def wrongAt (l : List Tree) (at_ fin : Int) : Got := ⟨.zero, 0, true, spotOf l at_ fin⟩
def tokAt (l : List Tree) (at_ : Int) : Tok := match l[at_.toNat]? with | some t => t.tok | none => ⟨0, [], 0⟩
def nameAt (l : List Tree) (at_ fin : Int) : Got :=
  if isK l at_ 97 = true then ⟨.mk 0 (tokAt l at_).pos (tokAt l at_).text [] [], at_ + 1, false, 0⟩ else wrongAt l at_ fin
def someAt (one : Int → Got) (l : List Tree) : Nat → Int → List Nd → List Nd × Got
  | 0, _, _ => ([], ⟨.zero, 0, true, 0⟩)
  | n + 1, at_, out =>
    if (one at_).bad = true then ([], one at_)
    else if isK l (one at_).next 44 = true then someAt one l n ((one at_).next + 1) (out ++ [(one at_).node])
    else (out ++ [(one at_).node], one at_)
def wholeAt (one : List Tree → Int → Int → Got) (t : Tree) (empty : Bool) : List Nd × Got :=
  if empty = true ∧ t.kids.length = 0 then ([], ⟨.zero, 0, false, 0⟩)
  else
    let r := someAt (fun i => one t.kids i t.fin) t.kids (t.kids.length + 1) 0 []
    if r.2.bad = false ∧ r.2.next < t.kids.length then ([], wrongAt t.kids r.2.next t.fin) else r
def wordsOf (l : List Nd) : List Word := l.map fun n => ⟨n.text, n.pos⟩
def treeAt (l : List Tree) (at_ : Int) : Tree := match l[at_.toNat]? with | some t => t | none => .zero
def refWords (l : List Tree) (at_ fin : Int) : List Word × Got :=
  if isK l at_ 123 = true then (wordsOf (wholeAt nameAt (treeAt l at_) false).1, (wholeAt nameAt (treeAt l at_) false).2) else ([], wrongAt l at_ fin)
theorem some_len {one : Int → Got} {l : List Tree} : ∀ (n : Nat) (a : Int) (out : List Nd), (someAt one l n a out).1.length ≤ out.length + n
  | 0, _, _ => by simp [someAt]
  | n + 1, a, out => by
    simp only [someAt]
    split
    · simp
    · split
      · have := some_len (one := one) (l := l) n ((one a).next + 1) (out ++ [(one a).node])
        simp at this; omega
      · simp
theorem whole_len {one : List Tree → Int → Int → Got} (t : Tree) (e : Bool) : (wholeAt one t e).1.length ≤ t.kids.length + 1 := by
  unfold wholeAt
  split
  · simp
  · simp only
    split
    · simp
    · have := some_len (one := fun i => one t.kids i t.fin) (l := t.kids) (t.kids.length + 1) 0 []
      simpa using this
theorem isK_spec {l : List Tree} {i k : Int} (h : isK l i k = true) : ∃ j t, i = (j : Nat) ∧ l[j]? = some t ∧ t.tok.kind = k ∧ j < l.length := by
  simp only [isK, Bool.and_eq_true, decide_eq_true_eq] at h
  obtain ⟨h0, hk⟩ := h
  obtain ⟨j, rfl⟩ := Int.eq_ofNat_of_zero_le h0
  simp only [Int.toNat_natCast] at hk
  cases hq : l[j]? with
  | none => rw [hq] at hk; simp at hk
  | some t => rw [hq] at hk; exact ⟨j, t, rfl, hq, by simpa using hk, (List.getElem?_eq_some_iff.1 hq).1⟩
theorem encs_at {l : List Tree} {j : Nat} {t : Tree} (h : l[j]? = some t) : (encs l)[((j : Nat) : Int).toNat]? = some t.enc := by simp [encs_map, h]
theorem nencs_at {l : List Nd} {j : Nat} {t : Nd} (h : l[j]? = some t) : (l.map Nd.enc)[((j : Nat) : Int).toNat]? = some t.enc := by simp [h]
theorem wencs_at {l : List Word} {j : Nat} {t : Word} (h : l[j]? = some t) : (l.map Word.enc)[((j : Nat) : Int).toNat]? = some t.enc := by simp [h]
end Go.Am

namespace Go.Am
theorem Tree.r_len {x : Tree} : x.enc.length = 5 := by rw [enc_eq]; rfl
theorem Tree.r_one {x : Tree} : oneL x.enc = true := by rw [enc_eq]; rfl
theorem Tree.r_nol {x : Tree} : nolL x.enc = true := by rw [enc_eq]; rfl
theorem Tree.r_er {x : Tree} : eraseL x.enc = x.enc := by rw [enc_eq]; rfl
theorem Tree.r_tk {x : Tree} : takeN 5 x.enc = some x.enc := by rw [enc_eq]; rfl
theorem Tree.r_ld {x : Tree} : ldC true 5 x.enc = some (.agg x.enc) := by rw [enc_eq]; rfl
theorem Tree.r_has {x : Tree} : hasN 5 x.enc = true := by rw [enc_eq]; rfl
theorem Tree.r_ov {x : Tree} {z0 z1 z2 z3 z4 : V} : over [z0, z1, z2, z3, z4] x.enc = x.enc := by rw [enc_eq]; rfl
theorem Tree.r_lo {x : Tree} {n : Nat} : loL n x.enc = true := by rw [enc_eq]; rfl
def Tree.rec_ := And.intro @Tree.r_len <| And.intro @Tree.r_one <| And.intro @Tree.r_nol <| And.intro @Tree.r_er <| And.intro @Tree.r_tk <| And.intro @Tree.r_ld <| And.intro @Tree.r_has <| And.intro @Tree.r_ov @Tree.r_lo
theorem Nd.r_len {x : Nd} : x.enc.length = 5 := by rw [Nd.enc_eq]; rfl
theorem Nd.r_one {x : Nd} : oneL x.enc = true := by rw [Nd.enc_eq]; rfl
theorem Nd.r_nol {x : Nd} : nolL x.enc = true := by rw [Nd.enc_eq]; rfl
theorem Nd.r_er {x : Nd} : eraseL x.enc = x.enc := by rw [Nd.enc_eq]; rfl
theorem Nd.r_tk {x : Nd} : takeN 5 x.enc = some x.enc := by rw [Nd.enc_eq]; rfl
theorem Nd.r_ld {x : Nd} : ldC true 5 x.enc = some (.agg x.enc) := by rw [Nd.enc_eq]; rfl
theorem Nd.r_has {x : Nd} : hasN 5 x.enc = true := by rw [Nd.enc_eq]; rfl
theorem Nd.r_ov {x : Nd} {z0 z1 z2 z3 z4 : V} : over [z0, z1, z2, z3, z4] x.enc = x.enc := by rw [Nd.enc_eq]; rfl
theorem Nd.r_lo {x : Nd} {n : Nat} : loL n x.enc = true := by rw [Nd.enc_eq]; rfl
def Nd.rec_ := And.intro @Nd.r_len <| And.intro @Nd.r_one <| And.intro @Nd.r_nol <| And.intro @Nd.r_er <| And.intro @Nd.r_tk <| And.intro @Nd.r_ld <| And.intro @Nd.r_has <| And.intro @Nd.r_ov @Nd.r_lo
theorem Word.r_len {x : Word} : x.enc.length = 2 := by rw [Word.enc]; rfl
theorem Word.r_one {x : Word} : oneL x.enc = true := by rw [Word.enc]; rfl
theorem Word.r_nol {x : Word} : nolL x.enc = true := by rw [Word.enc]; rfl
theorem Word.r_er {x : Word} : eraseL x.enc = x.enc := by rw [Word.enc]; rfl
theorem Word.r_tk {x : Word} : takeN 2 x.enc = some x.enc := by rw [Word.enc]; rfl
theorem Word.r_ld {x : Word} : ldC true 2 x.enc = some (.agg x.enc) := by rw [Word.enc]; rfl
theorem Word.r_has {x : Word} : hasN 2 x.enc = true := by rw [Word.enc]; rfl
theorem Word.r_ov {x : Word} {z0 z1 : V} : over [z0, z1] x.enc = x.enc := by rw [Word.enc]; rfl
theorem Word.r_lo {x : Word} {n : Nat} : loL n x.enc = true := by rw [Word.enc]; rfl
def Word.rec_ := And.intro @Word.r_len <| And.intro @Word.r_one <| And.intro @Word.r_nol <| And.intro @Word.r_er <| And.intro @Word.r_tk <| And.intro @Word.r_ld <| And.intro @Word.r_has <| And.intro @Word.r_ov @Word.r_lo
theorem Got.r_len {x : Got} : x.enc.length = 8 := by rw [Got.enc]; rfl
theorem Got.r_one {x : Got} : oneL x.enc = true := by rw [Got.enc]; rfl
theorem Got.r_nol {x : Got} : nolL x.enc = true := by rw [Got.enc]; rfl
theorem Got.r_er {x : Got} : eraseL x.enc = x.enc := by rw [Got.enc]; rfl
theorem Got.r_tk {x : Got} : takeN 8 x.enc = some x.enc := by rw [Got.enc]; rfl
theorem Got.r_ld {x : Got} : ldC true 8 x.enc = some (.agg x.enc) := by rw [Got.enc]; rfl
theorem Got.r_has {x : Got} : hasN 8 x.enc = true := by rw [Got.enc]; rfl
theorem Got.r_ov {x : Got} {z0 z1 z2 z3 z4 z5 z6 z7 : V} : over [z0, z1, z2, z3, z4, z5, z6, z7] x.enc = x.enc := by rw [Got.enc]; rfl
theorem Got.r_lo {x : Got} {n : Nat} : loL n x.enc = true := by rw [Got.enc]; rfl
def Got.rec_ := And.intro @Got.r_len <| And.intro @Got.r_one <| And.intro @Got.r_nol <| And.intro @Got.r_er <| And.intro @Got.r_tk <| And.intro @Got.r_ld <| And.intro @Got.r_has <| And.intro @Got.r_ov @Got.r_lo
theorem Nd.x1 {r : Nd} : r.enc.drop 1 = [V.int .i64 r.pos, .str r.text, .sl .no 2 (r.names.map Word.enc), .sl .no 5 (r.kids.map Nd.enc)] := by rw [Nd.enc_eq]; rfl
theorem Nd.x2 {r : Nd} : r.enc.drop 2 = [V.str r.text, .sl .no 2 (r.names.map Word.enc), .sl .no 5 (r.kids.map Nd.enc)] := by rw [Nd.enc_eq]; rfl
theorem Nd.x3 {r : Nd} : r.enc.drop 3 = [V.sl .no 2 (r.names.map Word.enc), .sl .no 5 (r.kids.map Nd.enc)] := by rw [Nd.enc_eq]; rfl
theorem Nd.x4 {r : Nd} : r.enc.drop 4 = [V.sl .no 5 (r.kids.map Nd.enc)] := by rw [Nd.enc_eq]; rfl
theorem Nd.x0 {r : Nd} : ldC false 1 r.enc = some (.int .i64 r.kind) := by rw [Nd.enc_eq]; rfl
def Nd.fl := And.intro @Nd.x0 <| And.intro @Nd.x1 <| And.intro @Nd.x2 <| And.intro @Nd.x3 @Nd.x4
theorem Tree.x1 {r : Tree} : r.enc.drop 1 = [V.str r.tok.text, .int .i64 r.tok.pos, .sl .no 5 (encs r.kids), .int .i64 r.fin] := by rw [enc_eq]; rfl
theorem Tree.x2 {r : Tree} : r.enc.drop 2 = [V.int .i64 r.tok.pos, .sl .no 5 (encs r.kids), .int .i64 r.fin] := by rw [enc_eq]; rfl
theorem Tree.x3 {r : Tree} : r.enc.drop 3 = [V.sl .no 5 (encs r.kids), .int .i64 r.fin] := by rw [enc_eq]; rfl
theorem Tree.x4 {r : Tree} : r.enc.drop 4 = [V.int .i64 r.fin] := by rw [enc_eq]; rfl
theorem Tree.x0 {r : Tree} : ldC false 1 r.enc = some (.int .u8 r.tok.kind) := by rw [enc_eq]; rfl
theorem Tree.xt {r : Tree} : ldC true 3 r.enc = some (.agg [.int .u8 r.tok.kind, .str r.tok.text, .int .i64 r.tok.pos]) := by rw [enc_eq]; rfl
def Tree.fl := And.intro @Tree.x0 <| And.intro @Tree.xt <| And.intro @Tree.x1 <| And.intro @Tree.x2 <| And.intro @Tree.x3 @Tree.x4
end Go.Am

namespace Go.Am
def letZ (c : Int) : Bool := decide (97 ≤ c) && decide (c ≤ 122)
def goesZ (c : Int) : Bool := letZ c || (decide (48 ≤ c) && decide (c ≤ 57)) || decide (c = 95)
def signs : List Int := [35, 43, 38, 40, 41, 123, 125, 91, 93, 44, 58, 61, 124, 60]
def signZ (c : Int) : Bool := signs.any fun s => decide (s = c)
def closing (c : Int) : Int := if c = 40 then 41 else if c = 123 ∨ c = 91 then c + 2 else 0
def closesZ (c : Int) : Bool := decide (c = 41) || decide (c = 125) || decide (c = 93)
def goesB (c : UInt8) : Bool := goesZ c.toNat
def letB (c : UInt8) : Bool := letZ c.toNat
def nameR (s : List UInt8) : Bool := decide (s.length ≤ 16) && (match s with | [] => false | c :: r => letB c && r.all goesB)
end Go.Am

namespace Go.Am
def Tok.enc (t : Tok) : List V := [.int .u8 t.kind, .str t.text, .int .i64 t.pos]
def runR (r : List UInt8) : List UInt8 := r.takeWhile goesB
def lexF : Nat → Nat → List UInt8 → List Tok → List Tok × Option Int
  | 0, _, _, acc => (acc, none)
  | _, _, [], acc => (acc, none)
  | n + 1, p, c :: r, acc =>
    if c.toNat = 45 ∧ (r.head?.map UInt8.toNat) = some 45 then (acc, none)
    else if 0 < (runR (c :: r)).length ∧ nameR (runR (c :: r)) = true then lexF n (p + (runR (c :: r)).length) ((c :: r).drop (runR (c :: r)).length) (acc ++ [⟨97, runR (c :: r), p⟩])
    else if signZ (c.toNat : Nat) = true then lexF n (p + 1) r (acc ++ [⟨(c.toNat : Nat), [c], p⟩])
    else if c.toNat = 32 ∨ c.toNat = 9 then lexF n (p + 1) r acc
    else ([], some p)
def lexR (s : List UInt8) : List Tok × Option Int := lexF s.length 0 s []
def badL (b : Option Int) : V := .agg [.int .i64 (match b with | some _ => 1 | none => 0), .int .i64 (badA b)]
def kindAt (l : List Tok) (i : Nat) : Int := match l[i]? with | some t => t.kind | none => 0
def faultF (l : List Tok) : Nat → Nat → List Nat → Int
  | 0, _, open_ => match open_.getLast? with | some j => (j : Nat) | none => -1
  | n + 1, i, open_ =>
    if closing (kindAt l i) ≠ 0 ∧ 24 ≤ open_.length then (i : Nat)
    else
      let o := if closing (kindAt l i) ≠ 0 then open_ ++ [i] else open_
      if closesZ (kindAt l i) = true then
        match o.getLast? with
        | none => (i : Nat)
        | some j => if closing (kindAt l j) = kindAt l i then faultF l n (i + 1) o.dropLast else (i : Nat)
      else faultF l n (i + 1) o
def partnerF (l : List Tok) (at_ : Nat) : Nat → Nat → Int → Nat
  | 0, _, _ => at_
  | n + 1, i, deep =>
    let d := (deep + (if closing (kindAt l i) ≠ 0 then 1 else 0)) - (if closesZ (kindAt l i) = true then 1 else 0)
    if d = 0 then i else partnerF l at_ n (i + 1) d
def partner (l : List Tok) (at_ : Nat) : Nat := partnerF l at_ (l.length - at_) at_ 0
def posAt (l : List Tok) (i : Nat) : Int := match l[i]? with | some t => t.pos | none => 0
def tokN (l : List Tok) (i : Nat) : Tok := match l[i]? with | some t => t | none => ⟨0, [], 0⟩
def treesF (l : List Tok) : Nat → Nat → Nat → List Tree
  | 0, _, _ => []
  | n + 1, i, to =>
    if i < to then
      if closing (kindAt l i) ≠ 0 then .mk (tokN l i) (treesF l n (i + 1) (partner l i)) (posAt l (partner l i)) :: treesF l n (partner l i + 1) to
      else .mk (tokN l i) [] (posAt l i) :: treesF l n (i + 1) to
    else []
def treeR (l : List Tok) : List Tree × Option Int :=
  if 0 ≤ faultF l l.length 0 [] then ([], some (posAt l (faultF l l.length 0 []).toNat)) else (treesF l l.length 0 l.length, none)
def textF : Option Int → List Tok → List UInt8
  | _, [] => []
  | k, t :: ts => (if k = some 97 ∧ t.kind = 97 then [32] else []) ++ t.text ++ textF (some t.kind) ts
def textR (l : List Tok) : List UInt8 := textF none l
mutual
def Tree.flat : Tree → List Tok
  | .mk t ks e => t :: (if closing t.kind ≠ 0 then flats ks ++ [⟨closing t.kind, [UInt8.ofNat (closing t.kind).toNat], e⟩] else [])
def flats : List Tree → List Tok
  | [] => []
  | t :: ts => t.flat ++ flats ts
end
theorem runR_len (r : List UInt8) : (runR r).length ≤ r.length := by
  unfold runR
  exact List.Sublist.length_le (List.takeWhile_sublist _)
theorem runR_le {s : List UInt8} {a : Nat} : (runR (s.drop a)).length ≤ s.length - a := by
  have := runR_len (s.drop a)
  rwa [List.length_drop] at this
theorem takeWhile_take {α : Type} {f : α → Bool} : ∀ (r : List α), r.take (r.takeWhile f).length = r.takeWhile f
  | [] => rfl
  | c :: r => by
    simp only [List.takeWhile_cons]
    split
    · simp [takeWhile_take r]
    · simp
theorem cut_run {s : List UInt8} {a : Nat} : (s.take (a + (runR (s.drop a)).length)).drop a = runR (s.drop a) := by
  rw [List.drop_take, Nat.add_sub_cancel_left]
  exact takeWhile_take _
theorem cut_one {s : List UInt8} {a : Nat} (h : a < s.length) : (s.take (a + 1)).drop a = [s[a]] := by
  rw [List.drop_take, Nat.add_sub_cancel_left, List.drop_eq_getElem_cons h]; rfl
theorem partnerF_ge {l : List Tok} {at_ : Nat} : ∀ (n i : Nat) (d : Int), at_ ≤ i → i + n ≤ l.length → at_ < l.length → at_ ≤ partnerF l at_ n i d ∧ partnerF l at_ n i d < l.length
  | 0, i, d, _, _, h => ⟨Nat.le_refl _, h⟩
  | n + 1, i, d, h1, h2, h3 => by
    simp only [partnerF]
    generalize (d + (if closing (kindAt l i) ≠ 0 then 1 else 0)) - (if closesZ (kindAt l i) = true then 1 else 0) = e
    split
    · exact ⟨h1, by omega⟩
    · exact partnerF_ge n (i + 1) _ (by omega) (by omega) h3
theorem partner_ge {l : List Tok} {i : Nat} (h : i < l.length) : i ≤ partner l i ∧ partner l i < l.length := partnerF_ge _ _ _ (Nat.le_refl _) (by omega) h
theorem faultF_lt (l : List Tok) : ∀ (n i : Nat) (o : List Nat), i + n ≤ l.length → (∀ j ∈ o, j < l.length) → faultF l n i o < l.length ∨ faultF l n i o = -1
  | 0, i, o, _, ho => by
    simp only [faultF]
    cases h : o.getLast? with
    | none => exact .inr rfl
    | some j => exact .inl (by have := ho j (List.mem_of_getLast? h); simp only; omega)
  | n + 1, i, o, hi, ho => by
    have ho2 : ∀ j ∈ (if closing (kindAt l i) ≠ 0 then o ++ [i] else o), j < l.length := fun j hj => by
      split at hj
      · rcases List.mem_append.1 hj with h | h
        · exact ho j h
        · simp at h; omega
      · exact ho j hj
    simp only [faultF]
    generalize (if closing (kindAt l i) ≠ 0 then o ++ [i] else o) = o2 at ho2 ⊢
    split
    · exact .inl (by omega)
    · split
      · cases h : o2.getLast? with
        | none => exact .inl (by simp only; omega)
        | some j =>
          simp only
          split
          · exact faultF_lt l n (i + 1) _ (by omega) fun k hk => ho2 k (List.dropLast_subset _ hk)
          · exact .inl (by omega)
      · exact faultF_lt l n (i + 1) o2 (by omega) ho2
theorem lexF_len : ∀ (n p : Nat) (r : List UInt8) (acc : List Tok), r.length ≤ n → (lexF n p r acc).1.length ≤ acc.length + r.length
  | 0, _, r, acc, _ => by cases r <;> simp [lexF]
  | n + 1, p, [], acc, _ => by simp [lexF]
  | n + 1, p, c :: r, acc, h => by
    simp only [lexF]
    have hr := runR_len (c :: r)
    simp only [List.length_cons] at h hr ⊢
    split
    · simp only; omega
    · split
      · rename_i h1
        have := lexF_len n (p + (runR (c :: r)).length) ((c :: r).drop (runR (c :: r)).length) (acc ++ [⟨97, runR (c :: r), p⟩]) (by simp; omega)
        simp at this; omega
      · split
        · have := lexF_len n (p + 1) r (acc ++ [⟨(c.toNat : Nat), [c], p⟩]) (by omega)
          simp at this; omega
        · split
          · have := lexF_len n (p + 1) r acc (by omega); omega
          · simp
theorem lexR_len (s : List UInt8) : (lexR s).1.length ≤ s.length := by
  have := lexF_len s.length 0 s [] (Nat.le_refl _)
  simpa [lexR] using this
end Go.Am

namespace Go.Am
def joinC : List (List UInt8) → List UInt8
  | [] => []
  | x :: xs => x ++ xs.flatMap fun y => 44 :: y
theorem joinC_snoc (l : List (List UInt8)) (y : List UInt8) : joinC (l ++ [y]) = joinC l ++ (if 0 < l.length then [44] else []) ++ y := by
  cases l with
  | nil => simp [joinC]
  | cons x xs => simp [joinC]
theorem joinC_len : ∀ l : List (List UInt8), (joinC l).length ≤ (l.map fun x => x.length + 1).sum
  | [] => by simp [joinC]
  | x :: xs => by
    simp only [joinC, List.length_append, List.length_flatMap, List.map_cons, List.sum_cons]
    have : (xs.map fun y => (44 :: y).length) = xs.map fun x => x.length + 1 := by simp
    rw [this]; omega
def wtext (ws : List Word) : List UInt8 := joinC (ws.map Word.text)
def headT : List (List UInt8) → List UInt8
  | [] => []
  | x :: _ => x
mutual
def Nd.txt : Nd → List UInt8
  | .mk k _ t ws ks =>
    if k = 1 ∨ k = 2 then t
    else if k = 3 then [123] ++ wtext ws ++ [125]
    else if k = 4 then [40] ++ joinC (txts ks) ++ [41]
    else if k = 5 then [91] ++ joinC (txts ks) ++ [93]
    else if k = 6 then t ++ [58, 123] ++ wtext ws ++ [125]
    else if k = 7 then [35] ++ headT (txts ks)
    else if k = 8 then [43, 40] ++ joinC (txts ks) ++ [41]
    else if k = 9 then [38, 40] ++ joinC (txts ks) ++ [41]
    else if k = 10 then ([91] ++ joinC (txts ks)) ++ (if 0 < ws.length then [124] ++ wtext ws else []) ++ [93]
    else if k = 11 then t ++ [61] ++ headT (txts ks)
    else []
def txts : List Nd → List (List UInt8)
  | [] => []
  | n :: ns => n.txt :: txts ns
end
theorem txts_map : ∀ l, txts l = l.map Nd.txt
  | [] => rfl
  | n :: ns => by simp [txts, txts_map ns]
def wsum (ws : List Word) : Nat := (ws.map fun w => w.text.length + 1).sum
mutual
def Nd.wt : Nd → Nat
  | .mk _ _ t ws ks => t.length + wsum ws + wts ks + 4
def wts : List Nd → Nat
  | [] => 0
  | n :: ns => n.wt + 1 + wts ns
end
theorem wts_map : ∀ l, wts l = (l.map fun n => n.wt + 1).sum
  | [] => rfl
  | n :: ns => by simp [wts, wts_map ns]
theorem wtext_len (ws : List Word) : (wtext ws).length ≤ wsum ws := by
  have := joinC_len (ws.map Word.text)
  simpa [wtext, wsum, List.map_map, Function.comp_def] using this
theorem wt_mem {l : List Nd} {n : Nd} (h : n ∈ l) : n.wt + 1 ≤ wts l := by
  induction l with
  | nil => simp at h
  | cons m ms ih =>
    rcases List.mem_cons.1 h with rfl | h
    · simp only [wts]; omega
    · have := ih h; simp only [wts]; omega
theorem ktext_len : ∀ (l : List Nd), (∀ n ∈ l, n.txt.length ≤ n.wt) → (joinC (txts l)).length ≤ wts l := fun l h => by
  refine Nat.le_trans (joinC_len _) ?_
  rw [txts_map, wts_map, List.map_map]
  induction l with
  | nil => simp
  | cons n ns ih =>
    simp only [List.map_cons, List.sum_cons, Function.comp]
    have h1 := h n (by simp)
    have h2 := ih fun m hm => h m (by simp [hm])
    omega
theorem head_len (l : List Nd) (h : ∀ n ∈ l, n.txt.length ≤ n.wt) : (headT (txts l)).length ≤ wts l := by
  cases l with
  | nil => simp [txts, headT]
  | cons n ns => have := h n (by simp); simp only [txts, headT, wts]; omega
mutual
theorem txt_len : ∀ (n : Nd), n.txt.length ≤ n.wt
  | .mk k p t ws ks => by
    have h1 := wtext_len ws
    have h2 := ktext_len ks (txt_lens ks)
    have h3 := head_len ks (txt_lens ks)
    simp only [Nd.txt, Nd.wt]
    repeat' split
    all_goals (try simp only [List.length_append, List.length_cons, List.length_nil])
    all_goals omega
theorem txt_lens : ∀ (l : List Nd), ∀ n ∈ l, n.txt.length ≤ n.wt
  | [], n, h => by simp at h
  | m :: ms, n, h => by
    rcases List.mem_cons.1 h with h | h
    · rw [h]; exact txt_len m
    · exact txt_lens ms n h
end
end Go.Am

namespace Go.Am
def rightW (ws : List Word) : Bool := ws.all fun w => nameR w.text
def Nd.leafQ (n : Nd) : Bool := nameR n.text && decide ((n.names.length : Int) + n.kids.length = 0)
def Nd.bareQ (n : Nd) : Bool := decide (n.text = []) && decide ((n.names.length : Int) = 0)
def Nd.ruleQ (n : Nd) : Bool := decide (n.kind = 6) && nameR n.text && rightW n.names && decide ((n.kids.length : Int) = 0)
mutual
def Nd.constQ : Nd → Bool
  | .mk k p t ws ks =>
    if k = 2 then (Nd.mk k p t ws ks).leafQ
    else if k = 3 then decide (t = []) && rightW ws && decide ((ks.length : Int) = 0)
    else if k = 4 then (Nd.mk k p t ws ks).bareQ && decide ((0 : Int) < ks.length) && constsQ ks
    else if k = 5 then (Nd.mk k p t ws ks).bareQ && ks.all Nd.ruleQ
    else false
def constsQ : List Nd → Bool
  | [] => true
  | n :: ns => n.constQ && constsQ ns
end
theorem constsQ_all : ∀ l, constsQ l = l.all Nd.constQ
  | [] => rfl
  | n :: ns => by simp [constsQ, constsQ_all ns]
theorem Nd.constQ_eq (n : Nd) : n.constQ = if n.kind = 2 then n.leafQ else if n.kind = 3 then decide (n.text = []) && rightW n.names && decide ((n.kids.length : Int) = 0)
    else if n.kind = 4 then n.bareQ && decide ((0 : Int) < n.kids.length) && n.kids.all Nd.constQ else if n.kind = 5 then n.bareQ && n.kids.all Nd.ruleQ else false := by
  cases n; rw [← constsQ_all]; rw [Nd.constQ]; rfl
def headQ (f : Nd → Bool) : List Nd → Bool
  | [] => false
  | n :: _ => f n
mutual
def Nd.labelQ : Nd → Bool
  | .mk k p t ws ks =>
    if k = 1 then (Nd.mk k p t ws ks).leafQ
    else if k = 7 then (Nd.mk k p t ws ks).bareQ && decide ((ks.length : Int) = 1) && headQ Nd.constQ ks
    else if k = 8 ∨ k = 9 then (Nd.mk k p t ws ks).bareQ && decide ((0 : Int) < ks.length) && labelsQ ks
    else false
def labelsQ : List Nd → Bool
  | [] => true
  | n :: ns => n.labelQ && labelsQ ns
end
theorem labelsQ_all : ∀ l, labelsQ l = l.all Nd.labelQ
  | [] => rfl
  | n :: ns => by simp [labelsQ, labelsQ_all ns]
theorem Nd.labelQ_eq (n : Nd) : n.labelQ = if n.kind = 1 then n.leafQ else if n.kind = 7 then n.bareQ && decide ((n.kids.length : Int) = 1) && headQ Nd.constQ n.kids
    else if n.kind = 8 ∨ n.kind = 9 then n.bareQ && decide ((0 : Int) < n.kids.length) && n.kids.all Nd.labelQ else false := by
  cases n; rw [← labelsQ_all]; rw [Nd.labelQ]; rfl
def Nd.atomQ (n : Nd) : Bool := (decide (n.kind = 1) || decide (n.kind = 7)) && n.labelQ
def Nd.fieldQ (n : Nd) : Bool := decide (n.kind = 11) && nameR n.text && decide ((n.names.length : Int) = 0) && decide ((n.kids.length : Int) = 1) && headQ Nd.atomQ n.kids
def Nd.rowQ (n : Nd) : Bool :=
  if n.kind = 10 then decide (n.text = []) && decide ((n.names.length : Int) ≤ 1) && rightW n.names && n.kids.all Nd.fieldQ else decide (n.kind = 1) && n.labelQ
def sameW : List Word → List Word → Bool
  | [], [] => true
  | w :: ws, u :: us => decide (w.text = u.text) && sameW ws us
  | _, _ => false
mutual
def Nd.sameQ : Nd → Nd → Bool
  | .mk k _ t ws ks, n => decide (k = n.kind) && decide (t = n.text) && sameW ws n.names && samesQ ks n.kids
def samesQ : List Nd → List Nd → Bool
  | [], [] => true
  | n :: ns, m :: ms => n.sameQ m && samesQ ns ms
  | _, _ => false
end
theorem Nd.sameQ_eq (n m : Nd) : n.sameQ m = (decide (n.kind = m.kind) && decide (n.text = m.text) && sameW n.names m.names && samesQ n.kids m.kids) := by cases n; rw [Nd.sameQ]; rfl
theorem sameW_refl : ∀ l, sameW l l = true
  | [] => rfl
  | w :: ws => by simp [sameW, sameW_refl ws]
mutual
theorem Nd.sameQ_refl : ∀ n : Nd, n.sameQ n = true
  | .mk k p t ws ks => by simp [Nd.sameQ, Nd.kind, Nd.text, Nd.names, Nd.kids, sameW_refl, samesQ_refl ks]
theorem samesQ_refl : ∀ l : List Nd, samesQ l l = true
  | [] => by simp [samesQ]
  | n :: ns => by simp [samesQ, Nd.sameQ_refl n, samesQ_refl ns]
end
theorem sameW_len : ∀ {a b : List Word}, sameW a b = true → a.length = b.length
  | [], [], _ => rfl
  | [], _ :: _, h => by simp [sameW] at h
  | _ :: _, [], h => by simp [sameW] at h
  | _ :: ws, _ :: us, h => by simp only [sameW, Bool.and_eq_true] at h; simp [sameW_len h.2]
theorem samesQ_len : ∀ {a b : List Nd}, samesQ a b = true → a.length = b.length
  | [], [], _ => rfl
  | [], _ :: _, h => by simp [samesQ] at h
  | _ :: _, [], h => by simp [samesQ] at h
  | _ :: ws, _ :: us, h => by simp only [samesQ, Bool.and_eq_true] at h; simp [samesQ_len h.2]
theorem sameW_at : ∀ {a b : List Word} {i : Nat} (ha : i < a.length) (hb : i < b.length), a.length = b.length → sameW (a.take i) (b.take i) = true → sameW (a.take (i + 1)) (b.take (i + 1)) = decide (a[i].text = b[i].text) ∧ (decide (a[i].text = b[i].text) = false → sameW a b = false)
  | w :: ws, u :: us, 0, _, _, _, _ => by simp [sameW]; intro h1 h2; exact absurd h2 h1
  | w :: ws, u :: us, i + 1, ha, hb, hl, h => by
    simp only [List.take_succ_cons, sameW, Bool.and_eq_true] at h ⊢
    have := sameW_at (a := ws) (b := us) (i := i) (by simpa using ha) (by simpa using hb) (by simpa using hl) h.2
    simp only [h.1, Bool.true_and, List.getElem_cons_succ]
    exact this
  | [], _, _, ha, _, _, _ => by simp at ha
  | _ :: _, [], _, _, hb, _, _ => by simp at hb
theorem samesQ_at : ∀ {a b : List Nd} {i : Nat} (ha : i < a.length) (hb : i < b.length), a.length = b.length → samesQ (a.take i) (b.take i) = true → samesQ (a.take (i + 1)) (b.take (i + 1)) = a[i].sameQ b[i] ∧ (a[i].sameQ b[i] = false → samesQ a b = false)
  | w :: ws, u :: us, 0, _, _, _, _ => by simp [samesQ]; intro h1 h2; rw [h1] at h2; simp at h2
  | w :: ws, u :: us, i + 1, ha, hb, hl, h => by
    simp only [List.take_succ_cons, samesQ, Bool.and_eq_true] at h ⊢
    have := samesQ_at (a := ws) (b := us) (i := i) (by simpa using ha) (by simpa using hb) (by simpa using hl) h.2
    simp only [h.1, Bool.true_and, List.getElem_cons_succ]
    exact this
  | [], _, _, ha, _, _, _ => by simp at ha
  | _ :: _, [], _, _, hb, _, _ => by simp at hb
end Go.Am

namespace Go.Am
mutual
def Nd.cnt : Nd → Nat
  | .mk _ _ _ ws ks => 1 + ws.length + cnts ks
def cnts : List Nd → Nat
  | [] => 0
  | n :: ns => n.cnt + cnts ns
end
theorem cnts_append : ∀ a b : List Nd, cnts (a ++ b) = cnts a + cnts b
  | [], b => by simp [cnts]
  | x :: xs, b => by simp only [List.cons_append, cnts, cnts_append xs b]; omega
theorem cnts_at {l : List Nd} {i : Nat} (h : i < l.length) : cnts (l.take (i + 1)) = cnts (l.take i) + l[i].cnt := by
  rw [List.take_add_one, List.getElem?_eq_getElem h, cnts_append]; simp [cnts]
theorem cnts_take (l : List Nd) (i : Nat) : cnts (l.take i) ≤ cnts l := by
  have := cnts_append (l.take i) (l.drop i)
  rw [List.take_append_drop] at this
  omega
theorem wlen (l : List Word) : l.length ≤ wsum l := by
  unfold wsum
  induction l with
  | nil => simp
  | cons w ws ih => simp only [List.map_cons, List.sum_cons, List.length_cons]; omega
mutual
theorem cnt_wt : ∀ n : Nd, n.cnt ≤ n.wt
  | .mk k p t ws ks => by
    have := cnts_wt ks
    have := wlen ws
    simp only [Nd.cnt, Nd.wt]; omega
theorem cnts_wt : ∀ l : List Nd, cnts l ≤ wts l
  | [] => by simp [cnts, wts]
  | n :: ns => by
    have := cnt_wt n
    have := cnts_wt ns
    simp only [cnts, wts]; omega
end
end Go.Am
