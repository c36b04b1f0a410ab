/-
  Part 3 of the proof of TermBackUptoSaid: a logic over the model, the forms of the functions that the law reaches, and what they compute.
-/
import Derived.Test.YtdggjnhfjimneaaProg
import Derived.Test.YtdggjnhfjimneaaBacking2
set_option linter.unusedVariables false
set_option linter.unusedSimpArgs false
set_option linter.defProp false

/-
  More rules: a loop entered with a token for a growing row; cuts; texts built of bytes.
-/
namespace Go.Am
section
variable {τ n k : Nat} {v v' : V} {c e t : List V} {l l' : List (List V)} {σ : Store}
theorem vto_any : VTo τ n v .any = True := by simp [VTo.le VLe.any]
theorem vto_same : VTo τ n v v = True := by simp [VTo.same]
theorem vto_tok : VTo τ 0 (.sl .full k []) (.sl (.tk τ) k []) = True := by simp [VTo.tok]
theorem lto_cons : LTo τ n (v :: c) (v' :: e) = (VTo τ n v v' ∧ LTo τ n c e) := rfl
theorem lto_nil : LTo τ n [] [] = True := rfl
theorem lto_same : LTo τ n c c = True := by simp [LTo.rfl]
/-- The rules for a state that is told anew with a token. -/
def lto := And.intro @vto_any <| And.intro @vto_same <| And.intro @vto_tok <| And.intro @lto_cons <| And.intro @lto_nil @lto_same
theorem Upd.tokEnter {ι : Type} {I : ι → St} (n : Nat) (h : ∀ τ, σ.tip τ = none → ∃ i, LTo τ n t (I i).t ∧ l = (I i).loc ∧ (I i).out = σ.setTip τ n) : Upd ⟨t, l, σ⟩ fun st' => ∃ i, st' = I i :=
  Upd.tok n fun τ hτ => by
    obtain ⟨i, h1, h2, h3⟩ := h τ hτ
    refine ⟨(I i).t, (I i).loc, σ, h1, by rw [h2], fun j c' hc => ⟨c', by rw [h2]; exact hc, LTo.rfl⟩, OTo.rfl, i, ?_⟩
    rw [← h3]
theorem setTip_setTip {τ m n : Nat} : (σ.setTip τ m).setTip τ n = σ.setTip τ n := by
  simp only [Store.setTip, Store.mk.injEq, true_and]
  funext x; split <;> rfl
theorem sub_tip {τ n : Nat} (h : σ.tip τ = none) : σ.sub (σ.setTip τ n) := by
  refine ⟨fun _ _ h => h, fun υ m hm => ?_⟩
  have : υ ≠ τ := by rintro rfl; rw [h] at hm; simp at hm
  simp only [Store.setTip]; rw [if_neg this]; exact hm
theorem setTip_tip_same {τ n : Nat} : (σ.setTip τ n).tip τ = some n := by simp [Store.setTip]
end

theorem map_take_succ {α β : Type} {f : α → β} {l : List α} {i : Nat} {x : α} (h : l[i]? = some x) : (l.take (i + 1)).map f = (l.take i).map f ++ [f x] := by rw [List.take_add_one, h]; simp
theorem take_succ_of {α : Type} {l : List α} {i : Nat} {x : α} (h : l[i]? = some x) : l.take (i + 1) = l.take i ++ [x] := by rw [List.take_add_one, h]; simp
/-! ### Variables that are no longer looked at -/
mutual
def V.lo (n : Nat) : V → Bool
  | .ptr (.loc i) _ => decide (i < n)
  | .agg cs => loL n cs
  | .tup cs => loL n cs
  | .fn _ a b => loL n a && loL n b
  | _ => true
def loL (n : Nat) : List V → Bool
  | [] => true
  | x :: xs => x.lo n && loL n xs
end
def loLL (n : Nat) : List (List V) → Bool
  | [] => true
  | x :: xs => loL n x && loLL n xs
def Env.cut (E : Env) (n : Nat) : Env := { E with loc := fun i => if i < n then E.loc i else none }
mutual
theorem R.cut {n : Nat} : ∀ (x : V) {E : Env} {v : Value}, x.lo n = true → R E x v → R (E.cut n) x v
  | .any, _, _, _, _ => by simp only [R]
  | .bool _, _, _, _, h => by simp only [R] at h ⊢; exact h
  | .int _ _, _, _, _, h => by simp only [R] at h ⊢; exact h
  | .str _, _, _, _, h => by simp only [R] at h ⊢; exact h
  | .nilp, _, _, _, h => by simp only [R] at h ⊢; exact h
  | .ptr (.loc i) off, E, _, hl, h => by
    simp only [V.lo, decide_eq_true_eq] at hl
    simp only [R] at h ⊢
    obtain ⟨b, h1, h2⟩ := h
    exact ⟨b, by simp [Env.cut, hl, h1], h2⟩
  | .ptr (.out _) _, _, _, _, h => by simp only [R] at h ⊢; exact h
  | .elt _ _, _, _, _, h => by simp only [R] at h ⊢; exact h
  | .sl _ _ _, _, _, _, h => by simp only [R] at h ⊢; exact h
  | .agg cs, _, _, hl, h => by
    simp only [V.lo] at hl
    simp only [R] at h ⊢
    obtain ⟨vs, h1, h2⟩ := h
    exact ⟨vs, h1, RL.cut cs hl h2⟩
  | .tup cs, _, _, hl, h => by
    simp only [V.lo] at hl
    simp only [R] at h ⊢
    obtain ⟨vs, h1, h2⟩ := h
    exact ⟨vs, h1, RL.cut cs hl h2⟩
  | .fn _ a b, _, _, hl, h => by
    simp only [V.lo, Bool.and_eq_true] at hl
    simp only [R] at h ⊢
    obtain ⟨fs, cs, h1, h2, h3⟩ := h
    exact ⟨fs, cs, h1, RL.cut a hl.1 h2, RL.cut b hl.2 h3⟩
  | .raw _, _, _, _, h => by simp only [R] at h ⊢; exact h
theorem RL.cut {n : Nat} : ∀ (l : List V) {E : Env} {vs : List Value}, loL n l = true → RL E l vs → RL (E.cut n) l vs
  | [], _, [], _, _ => by simp only [RL]
  | [], _, _ :: _, _, h => by simp only [RL] at h
  | _ :: _, _, [], _, h => by simp only [RL] at h
  | x :: xs, _, v :: vs, hl, h => by
    simp only [loL, Bool.and_eq_true] at hl
    simp only [RL] at h ⊢
    exact ⟨R.cut x hl.1 h.1, RL.cut xs hl.2 h.2⟩
end
theorem loL_get {n : Nat} : ∀ {l : List V} {j : Nat} {x : V}, loL n l = true → l[j]? = some x → x.lo n = true
  | [], j, x, _, h => by simp at h
  | y :: ys, 0, x, hl, h => by simp only [loL, Bool.and_eq_true] at hl; simp at h; rw [← h]; exact hl.1
  | y :: ys, j + 1, x, hl, h => by simp only [loL, Bool.and_eq_true] at hl; exact loL_get hl.2 (by simpa using h)
theorem loLL_get {n : Nat} : ∀ {l : List (List V)} {j : Nat} {x : List V}, loLL n l = true → l[j]? = some x → loL n x = true
  | [], j, x, _, h => by simp at h
  | y :: ys, 0, x, hl, h => by simp only [loLL, Bool.and_eq_true] at hl; simp at h; rw [← h]; exact hl.1
  | y :: ys, j + 1, x, hl, h => by simp only [loLL, Bool.and_eq_true] at hl; exact loLL_get hl.2 (by simpa using h)
theorem BoxAt.cut {E : Env} {n b : Nat} {cs : List V} (h : loL n cs = true) (k : BoxAt E b cs) : BoxAt (E.cut n) b cs := by
  obtain ⟨c, e, h1, h2, h3⟩ := k
  exact ⟨c, e, h1, h2, fun j x hx => by
    obtain ⟨u, k1, k2⟩ := h3 j x hx
    exact ⟨u, k1, R.cut x (loL_get h hx) k2⟩⟩
theorem Fr.cut (E : Env) (n : Nat) : Fr E (E.cut n) :=
  ⟨rfl, rfl, rfl, Nat.le_refl _, fun _ => rfl, (Env.le.refl E).cell, (Env.le.refl E).tok, fun _ _ _ => ⟨rfl, rfl⟩, fun _ _ h => h, fun _ _ c _ h => ⟨c, h⟩, fun _ i _ h => ⟨i, h⟩⟩
/-- The last variables are no longer told of. -/
theorem Upd.drop {t : List V} {l l2 : List (List V)} {σ : Store} {K : St → Prop} (ht : loL l.length t = true) (hl : loLL l.length l = true) (hk : K ⟨t, l, σ⟩) : Upd ⟨t, l ++ l2, σ⟩ K := by
  intro E a hs
  refine ⟨E.cut l.length, ⟨t, l, σ⟩, rfl, Fr.cut E _, ⟨⟨hs.ok.box, hs.ok.tip, hs.ok.fresh, hs.ok.nt⟩, ⟨fun i cs hcs => ?_, fun i hi => ?_⟩, hs.defers, RL.cut _ ht hs.slot⟩, hk⟩
  · have hi : i < l.length := (List.getElem?_eq_some_iff.1 hcs).1
    obtain ⟨b, k1, k2, k3⟩ := hs.okL.box i cs (by rw [List.getElem?_append_left hi]; exact hcs)
    exact ⟨b, by simp [Env.cut, hi, k1], k2, k3.cut (loLL_get hl hcs)⟩
  · simp only [Env.cut]; rw [if_neg (by simp only at hi; omega)]
theorem LLLe.app : ∀ {l l' m : List (List V)}, LLLe (l.take l'.length) l' → LLLe l (l' ++ l.drop l'.length)
  | [], [], _, _ => trivial
  | [], _ :: _, _, h => h.elim
  | v :: l, [], m, _ => by simp [LLLe.rfl]
  | v :: l, w :: l', m, h => by
    simp only [List.length_cons, List.take_succ_cons, LLLe] at h
    simp only [List.length_cons, List.cons_append, List.drop_succ_cons, LLLe]
    exact ⟨h.1, LLLe.app (m := m) h.2⟩
theorem Upd.drops {t t' : List V} {l l' : List (List V)} {σ σ' : Store} {K : St → Prop} (h : LLe t t') (hl : LLLe (l.take l'.length) l') (ho : OLe σ σ') (h1 : loL l'.length t' = true) (h2 : loLL l'.length l' = true) (hk : K ⟨t', l', σ'⟩) : Upd ⟨t, l, σ⟩ K :=
  (Upd.weak (K := fun st => st = ⟨t', l' ++ l.drop l'.length, σ'⟩) h (LLLe.app (m := []) hl) ho rfl).bind fun _ e => e ▸ Upd.drop h1 h2 hk
theorem Upd.enterD {ι : Type} {I : ι → St} {t : List V} {l : List (List V)} {σ : Store} (j : ι) (h : LLe t (I j).t) (hl : LLLe (l.take (I j).loc.length) (I j).loc) (ho : OLe σ (I j).out) (h1 : loL (I j).loc.length (I j).t = true) (h2 : loLL (I j).loc.length (I j).loc = true) : Upd ⟨t, l, σ⟩ fun st' => ∃ i, st' = I i :=
  Upd.drops h hl ho h1 h2 ⟨j, rfl⟩
theorem Upd.againD {ι : Type} {I : ι → St} {μ : ι → Nat} {n : Nat} {t : List V} {l : List (List V)} {σ : Store} (j : ι) (hm : μ j < n) (h : LLe t (I j).t) (hl : LLLe (l.take (I j).loc.length) (I j).loc) (ho : OLe σ (I j).out) (h1 : loL (I j).loc.length (I j).t = true) (h2 : loLL (I j).loc.length (I j).loc = true) :
    Upd ⟨t, l, σ⟩ fun st' => ∃ i, st' = I i ∧ μ i < n := Upd.drops h hl ho h1 h2 ⟨j, rfl, hm⟩

/-! ### Rows that the code owns -/
section
variable {P : Program} {d : Option Nat} {q : OQ} {xs : List X} {r : List AO} {K : St → Prop} {t : List V} {l : List (List V)} {σ : Store}
theorem o_own : vcOps P (⟨d, .own q xs, none⟩ :: r) K ⟨t, l, σ⟩ = q.sem σ (kC P d r K t l) (evs ⟨t, l, σ⟩ xs) := rfl
theorem own_nil {H : V → Store → Prop} : OQ.sem σ H .nil [] = H (.raw (.slice none 0 0)) σ := rfl
theorem one_raw {u : Value} : (V.raw u).one = u.oneCell' := rfl
theorem lle_raw {u : Value} {c e : List V} : LLe (.raw u :: c) (.raw u :: e) = LLe c e := by simp [LLe, VLe.rfl]
theorem lo_raw {u : Value} {n : Nat} : (V.raw u).lo n = true := rfl
def amo := And.intro @o_own <| And.intro @own_nil @lle_raw

/-- v is a row that the code owns, with these elements. -/
def Own (σ : Store) (k : Nat) (v : V) (rows : List (List V)) : Prop :=
  ∃ a cap, v = .raw (.slice a rows.length cap) ∧ rows.length ≤ cap ∧ (∀ r ∈ rows, r.length = k) ∧ (cap = 0 ∨ ∃ b cs, a = some ⟨b, 0, none⟩ ∧ σ.box b = some cs ∧ cs.length = cap * k ∧ cs.take (rows.length * k) = rows.flatten)
def ownB : V → Option Nat
  | .raw (.slice (some ⟨b, _, _⟩) _ _) => some b
  | _ => none
theorem Own.none {k : Nat} : Own σ k (.raw (.slice none 0 0)) [] := ⟨_, 0, rfl, by simp, by simp, .inl rfl⟩
theorem Own.len {k : Nat} {v : V} {rows : List (List V)} {H : V → Store → Prop} (h : Own σ k v rows) (hk : H (.int .i64 rows.length) σ) : OQ.sem σ H .len [v] := by
  obtain ⟨a, cap, rfl, _⟩ := h
  exact hk
theorem Own.frame {σ' : Store} {k : Nat} {v : V} {rows : List (List V)} (h : Own σ k v rows) (hb : ∀ b cs, ownB v = some b → σ.box b = some cs → σ'.box b = some cs) : Own σ' k v rows := by
  obtain ⟨a, cap, rfl, h1, h2, h3⟩ := h
  refine ⟨a, cap, rfl, h1, h2, ?_⟩
  rcases h3 with h3 | ⟨b, cs, rfl, h4, h5⟩
  · exact .inl h3
  · exact .inr ⟨b, cs, rfl, hb b cs rfl h4, h5⟩
theorem flatten_take {k : Nat} : ∀ {rows : List (List V)} {m : Nat}, (∀ r ∈ rows, r.length = k) → rows.flatten.take (m * k) = (rows.take m).flatten
  | [], m, _ => by simp
  | r :: rows, 0, _ => by simp
  | r :: rows, m + 1, h => by
    simp only [List.forall_mem_cons] at h
    rw [List.flatten_cons, List.take_succ_cons, List.flatten_cons, Nat.add_mul, Nat.one_mul, List.take_append, h.1, List.take_of_length_le (by omega), show m * k + k - k = m * k by omega, flatten_take h.2]
theorem flatten_drop {k : Nat} : ∀ {rows : List (List V)} {m : Nat}, (∀ r ∈ rows, r.length = k) → rows.flatten.drop (m * k) = (rows.drop m).flatten
  | [], m, _ => by simp
  | r :: rows, 0, _ => by simp
  | r :: rows, m + 1, h => by
    simp only [List.forall_mem_cons] at h
    rw [List.flatten_cons, List.drop_succ_cons, Nat.add_mul, Nat.one_mul, List.drop_append, h.1, List.drop_of_length_le (by omega), show m * k + k - k = m * k by omega, List.nil_append, flatten_drop h.2]
/-- An element is looked at, or written: where it lies. -/
theorem Own.idx {k : Nat} {v : V} {rows : List (List V)} {H : V → Store → Prop} {j : Int} {i : IntKind} {c : List V} (h : Own σ k v rows) (h0 : 0 ≤ j) (hj : rows[j.toNat]? = some c)
    (hk : ∀ b cs rest, ownB v = some b → σ.box b = some cs → cs.drop (j.toNat * k) = c ++ rest → H (.ptr (.out b) (j.toNat * k)) σ) : OQ.sem σ H (.idx k) [v, .int i j] := by
  obtain ⟨a, cap, rfl, h1, h2, h3⟩ := h
  have hlt := (List.getElem?_eq_some_iff.1 hj).1
  rcases h3 with h3 | ⟨b, cs, rfl, h4, h5, h6⟩
  · omega
  · have e1 : cs = rows.flatten ++ cs.drop (rows.length * k) := by rw [← h6]; simp
    have e2 : rows.drop j.toNat = c :: rows.drop (j.toNat + 1) := by
      rw [List.drop_eq_getElem_cons hlt, (List.getElem?_eq_some_iff.1 hj).2]
    have hfl := flat_length h2
    have e3 : cs.drop (j.toNat * k) = c ++ ((rows.drop (j.toNat + 1)).flatten ++ cs.drop (rows.length * k)) := by
      have hle : j.toNat * k ≤ rows.length * k := Nat.mul_le_mul_right _ (by omega)
      rw [e1, List.drop_append_of_le_length (by rw [hfl]; exact hle), flatten_drop h2, e2, List.flatten_cons, List.append_assoc]
      congr 2
      rw [List.drop_append, hfl]
      simp [List.drop_of_length_le, hfl]
    show 0 ≤ j ∧ j < (rows.length : Nat) ∧ H (.ptr (.out b) (0 + j.toNat * k)) σ
    rw [Nat.zero_add]
    exact ⟨h0, by omega, hk b cs _ rfl h4 e3⟩
theorem Own.take {k m : Nat} {v : V} {rows : List (List V)} {H : V → Store → Prop} {i : IntKind} {j : Int} (h : Own σ k v rows) (h0 : 0 ≤ j) (hj : j.toNat = m) (hm : m ≤ rows.length) (hk : ∀ v', Own σ k v' (rows.take m) → ownB v' = ownB v → H v' σ) : OQ.sem σ H (.slc k false true false) [v, .int i j] := by
  obtain ⟨a, cap, rfl, h1, h2, h3⟩ := h
  show bnd false 0 [.int i j] fun m vs => bnd true rows.length vs fun h vs => bnd false cap vs fun M vs => vs = [] ∧ m ≤ h ∧ h ≤ M ∧ M ≤ cap ∧ H (.raw (.slice (if M = m then a else a.map (·.add (m * k))) (h - m) (M - m))) σ
  refine ⟨h0, rfl, by omega, by omega, Nat.le_refl _, ?_⟩
  have ea : (if cap = 0 then a else a.map (·.add (0 * k))) = a := by
    split
    · rfl
    · rcases h3 with h3 | ⟨b, cs, rfl, _⟩
      · omega
      · simp [addr_add]
  rw [ea, hj]
  refine hk _ ⟨a, cap, ?_, ?_, fun r hr => h2 r (List.mem_of_mem_take hr), ?_⟩ (by cases a with
    | none => rfl
    | some ad => cases ad; rfl)
  · rw [List.length_take, Nat.min_eq_left hm]; rfl
  · rw [List.length_take]; omega
  · rcases h3 with h3 | ⟨b, cs, rfl, h4, h5, h6⟩
    · exact .inl h3
    · refine .inr ⟨b, cs, rfl, h4, h5, ?_⟩
      rw [List.length_take, Nat.min_eq_left hm, ← flatten_take h2, ← h6, List.take_take, Nat.min_eq_left (Nat.mul_le_mul_right _ hm)]
/-- What memory is like behind a change of one row. -/
structure OwnF (σ : Store) (v : V) (σ' : Store) (v' : V) : Prop where
  keep : ∀ b cs, σ.box b = some cs → ownB v ≠ some b → σ'.box b = some cs
  tip : σ'.tip = σ.tip
  new : ∀ b, ownB v' = some b → ownB v = some b ∨ σ.box b = none
theorem setAt_end {k n : Nat} : ∀ {cs xs ys : List V}, cs.take n = ys → n + xs.length ≤ cs.length → ys.length = n → (setAt cs n xs).take (n + xs.length) = ys ++ xs ∧ (setAt cs n xs).length = cs.length := by
  intro cs xs ys h1 h2 h3
  have ov : ∀ {cs xs : List V}, xs.length ≤ cs.length → (over cs xs).take xs.length = xs ∧ (over cs xs).length = cs.length := by
    intro cs
    induction cs with
    | nil => intro xs h; cases xs with | nil => simp [over] | cons x xs => simp at h
    | cons c cs ih =>
      intro xs h
      cases xs with
      | nil => simp [over]
      | cons x xs =>
        obtain ⟨k1, k2⟩ := ih (xs := xs) (by simpa using h)
        simp [over, k1, k2]
  induction n generalizing cs ys with
  | zero =>
    simp at h3; subst h3
    obtain ⟨k1, k2⟩ := ov (cs := cs) (xs := xs) (by omega)
    have e : setAt cs 0 xs = over cs xs := by cases cs <;> rfl
    rw [e]; simpa using ⟨k1, k2⟩
  | succ n ih =>
    cases cs with
    | nil => simp at h2
    | cons c cs =>
      cases ys with
      | nil => simp at h3
      | cons y ys =>
        simp only [List.take_succ_cons, List.cons.injEq] at h1
        obtain ⟨k1, k2⟩ := ih (cs := cs) (ys := ys) h1.2 (by simp at h2; omega) (by simpa using h3)
        simp only [setAt]
        rw [show n + 1 + xs.length = (n + xs.length) + 1 by omega]
        simp [k1, k2, h1.1]
theorem Own.app {k : Nat} {v : V} {rows m : List (List V)} {tk : Tk} {H : V → Store → Prop} (h : Own σ k v rows) (hm : ∀ r ∈ m, r.length = k) (hn : nolL m.flatten = true) (hb : rows.length + m.length ≤ big)
    (hk : ∀ v' σ', Own σ' k v' (rows ++ m) → OwnF σ v σ' v' → H v' σ') : OQ.sem σ H (.app k) [v, .sl tk k m] := by
  obtain ⟨a, cap, rfl, h1, h2, h3⟩ := h
  have hfm := flat_length hm
  have hfr := flat_length h2
  refine ⟨rfl, h1, hb, hn, fun e => ?_, fun e hle => ?_, fun hlt => ?_⟩
  · subst e
    refine hk _ _ ⟨a, cap, by simp, by simpa using h1, by simpa using h2, by simpa using h3⟩ ⟨fun _ _ h _ => h, rfl, fun b hb => .inl hb⟩
  · rcases h3 with h3 | ⟨b, cs, rfl, h4, h5, h6⟩
    · have : m.length = 0 := by omega
      exact absurd (List.eq_nil_of_length_eq_zero this) e
    · have hfit : rows.length * k + m.length * k ≤ cs.length := by rw [h5, ← Nat.add_mul]; exact Nat.mul_le_mul_right _ hle
      refine ⟨b, cs, rfl, h4, hfit, hk _ _ ⟨some ⟨b, 0, Option.none⟩, cap, by simp, by simpa using hle, fun r hr => ?_, .inr ⟨b, _, rfl, Store.set_same _ _ _, ?_, ?_⟩⟩ ⟨fun b' cs' hb' hne => ?_, rfl, fun b' hb' => .inl hb'⟩⟩
      · rcases List.mem_append.1 hr with hr | hr
        · exact h2 r hr
        · exact hm r hr
      · rw [(setAt_end (k := k) h6 (by rw [hfm]; exact hfit) hfr).2]; exact h5
      · have := (setAt_end (k := k) h6 (by rw [hfm]; exact hfit) hfr).1
        rw [hfm] at this
        rw [List.length_append, Nat.add_mul, this, List.flatten_append]
      · have : b' ≠ b := by rintro rfl; exact hne rfl
        rw [Store.set_other _ _ this]; exact hb'
  · have base : ∀ cs : List V, cs.take (rows.length * k) = rows.flatten → ∀ b' cap', σ.box b' = Option.none → rows.length + m.length ≤ cap' → H (.raw (.slice (some ⟨b', 0, Option.none⟩) (rows.length + m.length) cap')) (σ.set b' (cs.take (rows.length * k) ++ m.flatten ++ List.replicate ((cap' - (rows.length + m.length)) * k) .any)) := by
      intro cs h6 b' cap' hb' hc
      refine hk _ _ ⟨some ⟨b', 0, Option.none⟩, cap', by simp, by simpa using hc, fun r hr => ?_, .inr ⟨b', _, rfl, Store.set_same _ _ _, ?_, ?_⟩⟩ ⟨fun b'' cs' hb'' hne => ?_, rfl, fun b'' hb'' => ?_⟩
      · rcases List.mem_append.1 hr with hr | hr
        · exact h2 r hr
        · exact hm r hr
      · rw [h6]; simp only [List.length_append, hfr, hfm, List.length_replicate]
        rw [← Nat.add_mul, ← Nat.add_mul]; congr 1; omega
      · rw [h6, List.length_append, List.flatten_append, List.take_append_of_le_length (by simp only [List.length_append, hfr, hfm]; rw [Nat.add_mul]; omega), List.take_of_length_le (by simp only [List.length_append, hfr, hfm]; rw [Nat.add_mul]; omega)]
      · have : b'' ≠ b' := by rintro rfl; rw [hb'] at hb''; simp at hb''
        rw [Store.set_other _ _ this]; exact hb''
      · simp only [ownB, Option.some.injEq] at hb''; subst hb''; exact .inr hb'
    rcases h3 with h3 | ⟨b, cs, rfl, h4, h5, h6⟩
    · have h0 : rows = [] := List.eq_nil_of_length_eq_zero (by omega)
      subst h0
      exact ⟨[], .inl ⟨rfl, rfl⟩, base [] (by simp)⟩
    · refine ⟨cs, .inr ⟨b, rfl, h4, ?_⟩, base cs h6⟩
      rw [h5]; exact Nat.mul_le_mul_right _ h1
theorem OwnF.refl {v : V} : OwnF σ v σ v := ⟨fun _ _ h _ => h, rfl, fun _ h => .inl h⟩
/-- Of memory ahead of it all, a row of one's own leaves what was. -/
structure OwnS (σ0 σ : Store) (v : V) : Prop where
  sub : σ0.sub σ
  new : ∀ b, ownB v = some b → σ0.box b = none
theorem OwnS.start {m n : Nat} : OwnS σ σ (.raw (.slice none m n)) := ⟨Store.sub_refl σ, fun b h => by simp [ownB] at h⟩
theorem OwnS.step {σ0 σ' : Store} {v v' : V} (h : OwnS σ0 σ v) (f : OwnF σ v σ' v') : OwnS σ0 σ' v' := by
  refine ⟨⟨fun b cs hb => ?_, fun t n hn => by rw [f.tip]; exact h.sub.2 t n hn⟩, fun b hb => ?_⟩
  · exact f.keep b cs (h.sub.1 b cs hb) (fun e => by rw [h.new b e] at hb; simp at hb)
  · rcases f.new b hb with e | e
    · exact h.new b e
    · cases hq : σ0.box b with
      | none => rfl
      | some cs => rw [h.sub.1 b cs hq] at e; simp at e
end

/-! ### Both ways of a truth -/
section
variable {P : Program} {d : Option Nat} {K : St → Prop} {st : St} {b w : Bool}
theorem gL_split {op : AOp} {r : List AO} (h1 : b = true → gL P (.bool true) w d op r K st) (h2 : b = false → gL P (.bool false) w d op r K st) : gL P (.bool b) w d op r K st := by cases b with
  | true => exact h1 rfl
  | false => exact h2 rfl
theorem pickL_split {x y : V} {r : List AO} (h1 : b = true → pickL P (.bool true) x y d r K st) (h2 : b = false → pickL P (.bool false) x y d r K st) : pickL P (.bool b) x y d r K st := by cases b with
  | true => exact h1 rfl
  | false => exact h2 rfl
theorem gD_split {op : AOp} {ms : List Nat} {r : List (AO × List Nat)} {SN : List Sto} {L : List (V × Bool × Nat × V × List Nat)} (h1 : b = true → gD P (.bool true) w d op ms r SN L K st) (h2 : b = false → gD P (.bool false) w d op ms r SN L K st) : gD P (.bool b) w d op ms r SN L K st := by cases b with
  | true => exact h1 rfl
  | false => exact h2 rfl
theorem pickD_split {x y : V} {r : List (AO × List Nat)} {SN : List Sto} {L : List (V × Bool × Nat × V × List Nat)} (h1 : b = true → pickD P (.bool true) x y d r SN L K st) (h2 : b = false → pickD P (.bool false) x y d r SN L K st) : pickD P (.bool b) x y d r SN L K st := by cases b with
  | true => exact h1 rfl
  | false => exact h2 rfl
end

/-! ### Cuts -/
section
variable {P : Program} {d : Option Nat} {K : St → Prop} {t : List V} {l : List (List V)} {σ : Store} {r : List AO}
def evO (st : St) : Option X → Option V
  | none => none
  | some x => some (ev st x)
def inB (n : Nat) (dflt : Nat) : Option V → Prop
  | none => n = dflt
  | some v => ∃ j, v = .int j n
def slSL (v : V) (lo hi : Option V) (H : V → Prop) : Prop := ∃ s a b, v = .str s ∧ a ≤ b ∧ b ≤ s.length ∧ inB a 0 lo ∧ inB b s.length hi ∧ H (.str ((s.take b).drop a))
def slcL (k : Nat) (v : V) (lo hi mx : Option V) (H : V → Prop) : Prop := ∃ τ l a b, v = .sl τ k l ∧ a ≤ b ∧ b ≤ l.length ∧ inB a 0 lo ∧ inB b l.length hi ∧
  match mx with
  | none => H (.sl .no k ((l.take b).drop a))
  | some y => (∃ j, y = .int j b) ∧ H (.sl .full k ((l.take b).drop a))
theorem o_slS' {x : X} {lo hi : Option X} : vcOps P (⟨d, .slS x lo hi, none⟩ :: r) K ⟨t, l, σ⟩ = slSL (ev ⟨t, l, σ⟩ x) (evO ⟨t, l, σ⟩ lo) (evO ⟨t, l, σ⟩ hi) (kL P d r K ⟨t, l, σ⟩) := by
  cases lo <;> cases hi <;> rfl
theorem o_slc' {k : Nat} {x : X} {lo hi mx : Option X} : vcOps P (⟨d, .slc k x lo hi mx, none⟩ :: r) K ⟨t, l, σ⟩ = slcL k (ev ⟨t, l, σ⟩ x) (evO ⟨t, l, σ⟩ lo) (evO ⟨t, l, σ⟩ hi) (evO ⟨t, l, σ⟩ mx) (kL P d r K ⟨t, l, σ⟩) := by
  cases lo <;> cases hi <;> cases mx <;> rfl
theorem d_slS' {x : X} {lo hi : Option X} {ms : List Nat} {r : List (AO × List Nat)} {SN : List Sto} {L : List (V × Bool × Nat × V × List Nat)} : vcD P ((⟨d, .slS x lo hi, none⟩, ms) :: r) SN L K ⟨t, l, σ⟩ = slSL (ev ⟨t, l, σ⟩ x) (evO ⟨t, l, σ⟩ lo) (evO ⟨t, l, σ⟩ hi) (kD P d r SN L K ⟨t, l, σ⟩) := by
  cases lo <;> cases hi <;> rfl
theorem d_slc' {k : Nat} {x : X} {lo hi mx : Option X} {ms : List Nat} {r : List (AO × List Nat)} {SN : List Sto} {L : List (V × Bool × Nat × V × List Nat)} : vcD P ((⟨d, .slc k x lo hi mx, none⟩, ms) :: r) SN L K ⟨t, l, σ⟩ = slcL k (ev ⟨t, l, σ⟩ x) (evO ⟨t, l, σ⟩ lo) (evO ⟨t, l, σ⟩ hi) (evO ⟨t, l, σ⟩ mx) (kD P d r SN L K ⟨t, l, σ⟩) := by
  cases lo <;> cases hi <;> cases mx <;> rfl
theorem evO_none {st : St} : evO st none = none := rfl
theorem evO_some {st : St} {x : X} : evO st (some x) = some (ev st x) := rfl
theorem slSL_intro {s : List UInt8} {j j' : IntKind} {a b : Nat} {H : V → Prop} (h1 : a ≤ b) (h2 : b ≤ s.length) (h : H (.str ((s.take b).drop a))) : slSL (.str s) (some (.int j a)) (some (.int j' b)) H := ⟨s, a, b, rfl, h1, h2, ⟨j, rfl⟩, ⟨j', rfl⟩, h⟩
theorem slSL_from {s : List UInt8} {j : IntKind} {a : Nat} {H : V → Prop} (h2 : a ≤ s.length) (h : H (.str (s.drop a))) : slSL (.str s) (some (.int j a)) none H := ⟨s, a, s.length, rfl, h2, Nat.le_refl _, ⟨j, rfl⟩, rfl, by rw [List.take_length]; exact h⟩
theorem slSL_to {s : List UInt8} {j : IntKind} {b : Nat} {H : V → Prop} (h2 : b ≤ s.length) (h : H (.str (s.take b))) : slSL (.str s) none (some (.int j b)) H := ⟨s, 0, b, rfl, Nat.zero_le _, h2, rfl, ⟨j, rfl⟩, h⟩
theorem slcL_intro {k : Nat} {τ : Tk} {m : List (List V)} {j j' : IntKind} {a b : Nat} {H : V → Prop} (h1 : a ≤ b) (h2 : b ≤ m.length) (h : H (.sl .no k ((m.take b).drop a))) : slcL k (.sl τ k m) (some (.int j a)) (some (.int j' b)) none H := ⟨τ, m, a, b, rfl, h1, h2, ⟨j, rfl⟩, ⟨j', rfl⟩, h⟩
theorem slcL_from {k : Nat} {τ : Tk} {m : List (List V)} {j : IntKind} {a : Nat} {H : V → Prop} (h2 : a ≤ m.length) (h : H (.sl .no k (m.drop a))) : slcL k (.sl τ k m) (some (.int j a)) none none H := ⟨τ, m, a, m.length, rfl, h2, Nat.le_refl _, ⟨j, rfl⟩, rfl, by rw [List.take_length]; exact h⟩
theorem slcL_to {k : Nat} {τ : Tk} {m : List (List V)} {j : IntKind} {b : Nat} {H : V → Prop} (h2 : b ≤ m.length) (h : H (.sl .no k (m.take b))) : slcL k (.sl τ k m) none (some (.int j b)) none H := ⟨τ, m, 0, b, rfl, Nat.zero_le _, h2, rfl, ⟨j, rfl⟩, h⟩
def amc := And.intro @o_cvBS <| And.intro @o_appS <| And.intro @o_slS' <| And.intro @o_slc' <| And.intro @d_slS' <| And.intro @d_slc' <| And.intro @evO_none @evO_some
end

theorem encB_append (a b : List UInt8) : encB (a ++ b) = encB a ++ encB b := by simp [encB]
theorem encB_length (a : List UInt8) : (encB a).length = a.length := by simp [encB]
end Go.Am

/-
  The data of the terms, and how they lie in memory.
-/
namespace Go.Am
structure Tok where
  kind : Int
  text : List UInt8
  pos : Int
inductive Tree where
  | mk (tok : Tok) (kids : List Tree) (fin : Int)
def Tree.tok : Tree → Tok | .mk t _ _ => t
def Tree.kids : Tree → List Tree | .mk _ k _ => k
def Tree.fin : Tree → Int | .mk _ _ e => e
mutual
def Tree.enc : Tree → List V
  | .mk t ks e => [.int .u8 t.kind, .str t.text, .int .i64 t.pos, .sl .no 5 (encs ks), .int .i64 e]
def encs : List Tree → List (List V)
  | [] => []
  | t :: ts => t.enc :: encs ts
end
theorem encs_map : ∀ l, encs l = l.map Tree.enc
  | [] => rfl
  | t :: ts => by simp [encs, encs_map ts]
theorem encs_length (l : List Tree) : (encs l).length = l.length := by simp [encs_map]
theorem enc_eq (t : Tree) : t.enc = [.int .u8 t.tok.kind, .str t.tok.text, .int .i64 t.tok.pos, .sl .no 5 (encs t.kids), .int .i64 t.fin] := by
  cases t; simp only [Tree.enc, Tree.tok, Tree.kids, Tree.fin]


mutual
def Tree.many : Tree → Nat
  | .mk _ ks _ => manys ks
def manys : List Tree → Nat
  | [] => 0
  | t :: ts => 1 + t.many + manys ts
end
theorem many_eq (t : Tree) : t.many = manys t.kids := by cases t; simp [Tree.many, Tree.kids]
theorem manys_append : ∀ a b, manys (a ++ b) = manys a + manys b
  | [], b => by simp [manys]
  | t :: ts, b => by simp [manys, manys_append ts b]; omega
theorem manys_ge : ∀ l, l.length ≤ manys l
  | [] => by simp [manys]
  | t :: ts => by simp [manys]; have := manys_ge ts; omega
theorem manys_get {l : List Tree} {i : Nat} (h : i < l.length) : manys l = manys (l.take i) + (1 + manys l[i].kids) + manys (l.drop (i + 1)) := by
  have : l = l.take i ++ l[i] :: l.drop (i + 1) := by simp
  have e := congrArg manys this
  rw [e, manys_append]
  simp only [manys, many_eq]; omega
theorem take_succ_many {l : List Tree} {i : Nat} (h : i < l.length) : manys (l.take (i + 1)) = manys (l.take i) + (1 + manys l[i].kids) := by
  rw [List.take_add_one, List.getElem?_eq_getElem h, manys_append]; simp [manys, many_eq]

theorem manys_kids {l : List Tree} {i : Nat} (h : i < l.length) : manys l[i].kids + 1 ≤ manys l := by
  have := manys_get h; omega
structure Word where
  text : List UInt8
  pos : Int
def Word.enc (w : Word) : List V := [.str w.text, .int .i64 w.pos]
inductive Nd where
  | mk (kind pos : Int) (text : List UInt8) (names : List Word) (kids : List Nd)
namespace Nd
def kind : Nd → Int | .mk k _ _ _ _ => k
def pos : Nd → Int | .mk _ p _ _ _ => p
def text : Nd → List UInt8 | .mk _ _ t _ _ => t
def names : Nd → List Word | .mk _ _ _ w _ => w
def kids : Nd → List Nd | .mk _ _ _ _ k => k
end Nd
mutual
def Nd.enc : Nd → List V
  | .mk k p t ws ks => [.int .i64 k, .int .i64 p, .str t, .sl .no 2 (ws.map Word.enc), .sl .no 5 (nencs ks)]
def nencs : List Nd → List (List V)
  | [] => []
  | n :: ns => n.enc :: nencs ns
end
theorem nencs_map : ∀ l, nencs l = l.map Nd.enc
  | [] => rfl
  | t :: ts => by simp [nencs, nencs_map ts]
theorem Nd.enc_eq (n : Nd) : n.enc = [.int .i64 n.kind, .int .i64 n.pos, .str n.text, .sl .no 2 (n.names.map Word.enc), .sl .no 5 (n.kids.map Nd.enc)] := by
  cases n; simp only [Nd.enc, Nd.kind, Nd.pos, Nd.text, Nd.names, Nd.kids, nencs_map]

/-- Where a reader stands. -/
structure Rdr where
  l : List Tree
  at_ : Int
  fin : Int
  bad : Option Int
def badC (b : Option Int) : Int := match b with | some _ => 2 | none => 0
def badA (b : Option Int) : Int := match b with | some a => a | none => 0
def Rdr.enc (r : Rdr) : List V := [.sl .no 5 (encs r.l), .int .i64 r.at_, .int .i64 r.fin, .int .i64 (badC r.bad), .int .i64 (badA r.bad)]
def isK (l : List Tree) (at_ : Int) (k : Int) : Bool := decide (0 ≤ at_) && match l[at_.toNat]? with | some t => decide (t.tok.kind = k) | none => false
def Rdr.ok (r : Rdr) : Bool := r.bad.isNone
def Rdr.spot (r : Rdr) : Int := if 0 ≤ r.at_ then (match r.l[r.at_.toNat]? with | some t => t.tok.pos | none => r.fin) else r.fin
def Rdr.fail (r : Rdr) : Rdr := match r.bad with | some _ => r | none => { r with bad := some r.spot }
def Rdr.sees (r : Rdr) (k : Int) : Bool := r.ok && isK r.l r.at_ k
def Tree.zero : Tree := .mk ⟨0, [], 0⟩ [] 0
def Rdr.take (r : Rdr) (k : Int) : Tree × Rdr := if r.sees k then (r.l.getD r.at_.toNat .zero, { r with at_ := r.at_ + 1 }) else (.zero, r.fail)
def Rdr.word (r : Rdr) : Word × Rdr := (⟨(r.take 97).1.tok.text, (r.take 97).1.tok.pos⟩, (r.take 97).2)
theorem Rdr.ex1 {r : Rdr} {n : Nat} : r.enc.drop n = [V.sl .no 5 (encs r.l), .int .i64 r.at_, .int .i64 r.fin, .int .i64 (badC r.bad), .int .i64 (badA r.bad)].drop n := rfl
theorem Rdr.ex2 {r : Rdr} {n : Nat} {x : List V} : setAt r.enc n x = setAt [V.sl .no 5 (encs r.l), .int .i64 r.at_, .int .i64 r.fin, .int .i64 (badC r.bad), .int .i64 (badA r.bad)] n x := rfl
theorem Rdr.ex3 {r : Rdr} {n : Nat} {g : Bool} : ldC g n r.enc = ldC g n [V.sl .no 5 (encs r.l), .int .i64 r.at_, .int .i64 r.fin, .int .i64 (badC r.bad), .int .i64 (badA r.bad)] := rfl
theorem Rdr.ex4 {r : Rdr} {n : Nat} : hasN n r.enc = hasN n [V.sl .no 5 (encs r.l), .int .i64 r.at_, .int .i64 r.fin, .int .i64 (badC r.bad), .int .i64 (badA r.bad)] := rfl
/-- A reader's cells, where they are looked at. -/
theorem Rdr.ex : (∀ {r : Rdr} {n : Nat}, r.enc.drop n = [V.sl .no 5 (encs r.l), .int .i64 r.at_, .int .i64 r.fin, .int .i64 (badC r.bad), .int .i64 (badA r.bad)].drop n) ∧
    (∀ {r : Rdr} {n : Nat} {x : List V}, setAt r.enc n x = setAt [V.sl .no 5 (encs r.l), .int .i64 r.at_, .int .i64 r.fin, .int .i64 (badC r.bad), .int .i64 (badA r.bad)] n x) ∧
    (∀ {r : Rdr} {n : Nat} {g : Bool}, ldC g n r.enc = ldC g n [V.sl .no 5 (encs r.l), .int .i64 r.at_, .int .i64 r.fin, .int .i64 (badC r.bad), .int .i64 (badA r.bad)]) ∧
    (∀ {r : Rdr} {n : Nat}, hasN n r.enc = hasN n [V.sl .no 5 (encs r.l), .int .i64 r.at_, .int .i64 r.fin, .int .i64 (badC r.bad), .int .i64 (badA r.bad)]) := ⟨Rdr.ex1, Rdr.ex2, Rdr.ex3, Rdr.ex4⟩
/-- One after the other, with commas between. -/
def goG {β : Type} (step : Rdr × List β → Rdr × List β) : Nat → Rdr × List β → Rdr × List β
  | 0, a => a
  | n + 1, a => if a.1.sees 44 then goG step n (step ((a.1.take 44).2, a.2)) else a
def someG {β : Type} (step : Rdr × List β → Rdr × List β) (r : Rdr) : Rdr × List β := goG step r.l.length (step (r, []))
def wStep (a : Rdr × List Word) : Rdr × List Word := (a.1.word.2, a.2 ++ [a.1.word.1])
theorem Rdr.take_l (r : Rdr) (k : Int) : (r.take k).2.l = r.l := by
  unfold Rdr.take; split
  · rfl
  · unfold Rdr.fail; split <;> rfl
theorem Rdr.fail_at (r : Rdr) : r.fail.at_ = r.at_ := by unfold Rdr.fail; split <;> rfl
theorem Rdr.fail_ok (r : Rdr) : r.fail.bad ≠ none := by
  unfold Rdr.fail
  split
  · rename_i h; rw [h]; simp
  · simp
/-- A take moves on by one, or fails where it stands. -/
theorem Rdr.take_at (r : Rdr) (k : Int) : (r.sees k = true ∧ (r.take k).2.at_ = r.at_ + 1 ∧ (r.take k).2.bad = none ∧ 0 ≤ r.at_ ∧ r.at_ < r.l.length) ∨ (r.sees k = false ∧ (r.take k).2.at_ = r.at_ ∧ (r.take k).2.bad ≠ none) := by
  cases h : r.sees k
  · right
    simp only [Rdr.take, h, Bool.false_eq_true, if_false, true_and]
    exact ⟨r.fail_at, r.fail_ok⟩
  · left
    have h' := h
    simp only [Rdr.sees, Rdr.ok, isK, Bool.and_eq_true, decide_eq_true_eq, Option.isNone_iff_eq_none] at h'
    obtain ⟨h1, h0, hk⟩ := h'
    simp only [Rdr.take, h, if_true, true_and]
    refine ⟨h1, h0, ?_⟩
    cases hq : r.l[r.at_.toNat]? with
    | none => rw [hq] at hk; simp at hk
    | some t => have := (List.getElem?_eq_some_iff.1 hq).1; omega
theorem Rdr.take_many (r : Rdr) (k : Int) : manys (r.take k).1.kids ≤ manys r.l ∧ ((r.take k).2.bad = none → manys (r.take k).1.kids + 1 ≤ manys r.l) := by
  rcases r.take_at k with ⟨h, _, _, h1, h2⟩ | ⟨h, _, h1⟩
  · have hlt : r.at_.toNat < r.l.length := by omega
    have := manys_kids hlt
    simp only [Rdr.take, h, if_true, List.getD, List.getElem?_eq_getElem hlt, Option.getD_some]
    exact ⟨by omega, fun _ => this⟩
  · refine ⟨?_, fun hb => absurd hb h1⟩
    simp [Rdr.take, h, Tree.zero, Tree.kids, manys]
/-- The reader of a bracket's trees. -/
def Tree.inner (t : Tree) : Rdr := ⟨t.kids, 0, t.fin, none⟩
def Rdr.close (r : Rdr) : Rdr := if r.ok = true ∧ r.at_ < r.l.length then r.fail else r
def Rdr.under (r i : Rdr) : Rdr := { r with bad := i.close.bad }
/-- What reading one thing does: it goes on, or fails. -/
structure Reads {β : Type} (one : Rdr → β × Rdr) : Prop where
  l : ∀ r, (one r).2.l = r.l
  go : ∀ r, 0 ≤ r.at_ → r.at_ ≤ r.l.length → r.at_ ≤ (one r).2.at_ ∧ (one r).2.at_ ≤ r.l.length ∧ ((one r).2.bad = none → r.at_ + 1 ≤ (one r).2.at_)
def oStep {β : Type} (one : Rdr → β × Rdr) (a : Rdr × List β) : Rdr × List β := ((one a.1).2, a.2 ++ [(one a.1).1])
/-- What stands in a bracket, one after the other. -/
def Rdr.inside {β : Type} (step : Rdr × List β → Rdr × List β) (empty : Bool) (t : Tree) : Rdr × List β := if empty = true ∧ t.kids.length = 0 then (t.inner, []) else someG step t.inner
def Rdr.bracket {β : Type} (step : Rdr × List β → Rdr × List β) (kind : Int) (empty : Bool) (r : Rdr) : (List β × Int) × Rdr :=
  if (r.take kind).2.ok = true then (((Rdr.inside step empty (r.take kind).1).2, (r.take kind).1.tok.pos), (r.take kind).2.under (Rdr.inside step empty (r.take kind).1).1) else (([], 0), (r.take kind).2)
def Rdr.nodes (one : Rdr → Nd × Rdr) (kind : Int) (empty : Bool) (r : Rdr) : (List Nd × Int) × Rdr := r.bracket (oStep one) kind empty
def Rdr.words (empty : Bool) (r : Rdr) : (List Word × Int) × Rdr := r.bracket wStep 123 empty
end Go.Am

namespace Go.Proofs.Try
open Go.Am

/-- clearance/clearanceref09.Many -/
def ac7 : AC :=
  .seq (.reg [⟨(some 2), .mv (.c (.int .i64 0)), none⟩])
  (.seq (.reg [⟨(some 5), .mv (.s 0), none⟩,
      ⟨(some 6), .lenS (.s 5), none⟩,
      ⟨(some 3), .mv (.s 6), none⟩])
   (.seq (.seq (.reg [⟨(some 4), .mv (.c (.int .i64 0)), none⟩])
     (.block 0 (.loop (.seq (.seq (.reg [⟨(some 7), .mv (.s 4), none⟩,
            ⟨(some 8), .mv (.s 0), none⟩,
            ⟨(some 9), .lenS (.s 8), none⟩,
            ⟨(some 10), .binI .lss (.s 7) (.s 9), none⟩])
         (.cond (.s 10) (.skip)
          (.exit 0)))
        (.seq (.block 1 (.reg [⟨(some 13), .mv (.s 3), none⟩,
             ⟨(some 14), .mv (.s 0), none⟩,
             ⟨(some 15), .mv (.s 4), none⟩,
             ⟨(some 16), .idxA 5 (.s 14) (.s 15), none⟩,
             ⟨(some 17), .fld 3 (.s 16), none⟩,
             ⟨(some 18), .load false 1 (.s 17), none⟩,
             ⟨(some 19), .call 7 [(.s 18)], none⟩,
             ⟨(some 20), .binI .add (.s 13) (.s 19), none⟩,
             ⟨(some 3), .mv (.s 20), none⟩]))
         (.reg [⟨(some 11), .mv (.s 4), none⟩,
            ⟨(some 12), .binI .add (.s 11) (.c (.int .i64 1)), none⟩,
            ⟨(some 4), .mv (.s 12), none⟩]))))))
    (.seq (.reg [⟨(some 21), .mv (.s 3), none⟩,
        ⟨(some 2), .mv (.s 21), none⟩])
     (.ret))))
theorem fn7 : IsFn prog 7 ac7 [.tmp 2] 22 := ⟨f7, ⟨[], []⟩, func7, by kernel_rfl, by kernel_rfl, by kernel_rfl, by kernel_rfl⟩

/-- (*clearance/term.reader).ok -/
def ac32 : AC :=
  .seq (.reg [⟨(some 2), .mv (.c (.bool false)), none⟩])
  (.seq (.reg [⟨(some 3), .mv (.s 0), none⟩,
      ⟨(some 4), .nilck (.s 3), none⟩,
      ⟨(some 5), .fld 3 (.s 4), none⟩,
      ⟨(some 6), .load true 2 (.s 5), none⟩,
      ⟨(some 7), .build [(.int .i64 0), (.int .i64 0)] [], none⟩,
      ⟨(some 8), .eqA false [1, 1] (.s 6) (.s 7), none⟩,
      ⟨(some 2), .mv (.s 8), none⟩])
   (.ret))
theorem fn32 : IsFn prog 32 ac32 [.tmp 2] 9 := ⟨f32, ⟨[], []⟩, func32, by kernel_rfl, by kernel_rfl, by kernel_rfl, by kernel_rfl⟩

/-- clearance/clearanceref10.is -/
def ac33 : AC :=
  .seq (.reg [⟨(some 6), .mv (.c (.bool false)), none⟩])
  (.seq (.reg [⟨(some 7), .mv (.s 1), none⟩,
      ⟨(some 8), .binI .geq (.s 7) (.c (.int .i64 0)), none⟩,
      ⟨(some 9), .mv (.s 8), none⟩,
      ⟨(some 10), .mv (.s 1), (some (9, true))⟩,
      ⟨(some 11), .mv (.s 0), (some (9, true))⟩,
      ⟨(some 12), .lenS (.s 11), (some (9, true))⟩,
      ⟨(some 13), .binI .lss (.s 10) (.s 12), (some (9, true))⟩,
      ⟨(some 14), .pick (.s 9) (.s 13) (.c (.bool false)), none⟩,
      ⟨(some 15), .mv (.s 14), none⟩,
      ⟨(some 16), .mv (.s 0), (some (15, true))⟩,
      ⟨(some 17), .mv (.s 1), (some (15, true))⟩,
      ⟨(some 18), .idxA 5 (.s 16) (.s 17), (some (15, true))⟩,
      ⟨(some 19), .fld 0 (.s 18), (some (15, true))⟩,
      ⟨(some 20), .fld 0 (.s 19), (some (15, true))⟩,
      ⟨(some 21), .load false 1 (.s 20), (some (15, true))⟩,
      ⟨(some 22), .mv (.s 2), (some (15, true))⟩,
      ⟨(some 23), .binI .eql (.s 21) (.s 22), (some (15, true))⟩,
      ⟨(some 24), .pick (.s 15) (.s 23) (.c (.bool false)), none⟩,
      ⟨(some 6), .mv (.s 24), none⟩])
   (.ret))
theorem fn33 : IsFn prog 33 ac33 [.tmp 6] 25 := ⟨f33, ⟨[], []⟩, func33, by kernel_rfl, by kernel_rfl, by kernel_rfl, by kernel_rfl⟩

/-- clearance/clearanceref10.wrong -/
def ac34 : AC :=
  .seq (.reg [⟨(some 6), .alloc [(.int .i64 0), (.int .i64 0), (.str []), (.sl .full 2 []), (.sl .full 5 []), (.int .i64 0), (.bool false), (.int .i64 0)], none⟩])
  (.seq (.seq (.reg [⟨(some 7), .mv (.s 1), none⟩,
       ⟨(some 8), .binI .geq (.s 7) (.c (.int .i64 0)), none⟩,
       ⟨(some 9), .mv (.s 8), none⟩,
       ⟨(some 10), .mv (.s 1), (some (9, true))⟩,
       ⟨(some 11), .mv (.s 0), (some (9, true))⟩,
       ⟨(some 12), .lenS (.s 11), (some (9, true))⟩,
       ⟨(some 13), .binI .lss (.s 10) (.s 12), (some (9, true))⟩,
       ⟨(some 14), .pick (.s 9) (.s 13) (.c (.bool false)), none⟩])
    (.cond (.s 14) (.seq (.reg [⟨(some 15), .mv (.s 0), none⟩,
         ⟨(some 16), .mv (.s 1), none⟩,
         ⟨(some 17), .idxA 5 (.s 15) (.s 16), none⟩,
         ⟨(some 18), .fld 0 (.s 17), none⟩,
         ⟨(some 19), .fld 2 (.s 18), none⟩,
         ⟨(some 20), .load false 1 (.s 19), none⟩,
         ⟨(some 21), .build [(.int .i64 0), (.int .i64 0), (.str []), (.sl .full 2 []), (.sl .full 5 []), (.int .i64 0), (.bool false), (.int .i64 0)] [(6, 1, (.c (.bool true))), (7, 1, (.s 20))], none⟩,
         ⟨none, .store 8 (.s 6) (.s 21), none⟩])
      (.ret))
     (.skip)))
   (.seq (.reg [⟨(some 22), .mv (.s 2), none⟩,
       ⟨(some 23), .build [(.int .i64 0), (.int .i64 0), (.str []), (.sl .full 2 []), (.sl .full 5 []), (.int .i64 0), (.bool false), (.int .i64 0)] [(6, 1, (.c (.bool true))), (7, 1, (.s 22))], none⟩,
       ⟨none, .store 8 (.s 6) (.s 23), none⟩])
    (.ret)))
theorem fn34 : IsFn prog 34 ac34 [.cell 6 true 8] 24 := ⟨f34, ⟨[], []⟩, func34, by kernel_rfl, by kernel_rfl, by kernel_rfl, by kernel_rfl⟩

/-- clearance/clearanceref10.names -/
def ac36 : AC :=
  .seq (.reg [⟨(some 2), .mv (.c (.sl .full 2 [])), none⟩])
  (.seq (.reg [⟨(some 3), .mv (.c (.sl .full 2 [])), none⟩])
   (.seq (.seq (.reg [⟨(some 4), .mv (.c (.int .i64 0)), none⟩])
     (.block 0 (.loop (.seq (.seq (.reg [⟨(some 5), .mv (.s 4), none⟩,
            ⟨(some 6), .mv (.s 0), none⟩,
            ⟨(some 7), .lenS (.s 6), none⟩,
            ⟨(some 8), .binI .lss (.s 5) (.s 7), none⟩])
         (.cond (.s 8) (.skip)
          (.exit 0)))
        (.seq (.block 1 (.draw [(⟨(some 11), .mv (.s 3), none⟩, []),
             (⟨(some 12), .mv (.s 0), none⟩, []),
             (⟨(some 13), .mv (.s 4), none⟩, []),
             (⟨(some 14), .idxA 5 (.s 12) (.s 13), none⟩, []),
             (⟨(some 15), .fld 2 (.s 14), none⟩, []),
             (⟨(some 16), .load false 1 (.s 15), none⟩, []),
             (⟨(some 17), .mv (.s 0), none⟩, []),
             (⟨(some 18), .mv (.s 4), none⟩, []),
             (⟨(some 19), .idxA 5 (.s 17) (.s 18), none⟩, []),
             (⟨(some 20), .fld 1 (.s 19), none⟩, []),
             (⟨(some 21), .load false 1 (.s 20), none⟩, []),
             (⟨(some 22), .build [(.str []), (.int .i64 0)] [(0, 1, (.s 16)), (1, 1, (.s 21))], none⟩, []),
             (⟨(some 23), .bslice 2 [(.s 22)], none⟩, []),
             (⟨(some 24), .app 2 (.s 11) (.s 23), none⟩, []),
             (⟨(some 3), .mv (.s 24), none⟩, [])]))
         (.reg [⟨(some 9), .mv (.s 4), none⟩,
            ⟨(some 10), .binI .add (.s 9) (.c (.int .i64 1)), none⟩,
            ⟨(some 4), .mv (.s 10), none⟩]))))))
    (.seq (.reg [⟨(some 25), .mv (.s 3), none⟩,
        ⟨(some 2), .mv (.s 25), none⟩])
     (.ret))))
theorem fn36 : IsFn prog 36 ac36 [.tmp 2] 26 := ⟨f36, ⟨[], []⟩, func36, by kernel_rfl, by kernel_rfl, by kernel_rfl, by kernel_rfl⟩

/-- (*clearance/term.reader).words -/
def ac31 : AC :=
  .seq (.reg [⟨(some 4), .mv (.c (.sl .full 2 [])), none⟩,
     ⟨(some 5), .mv (.c (.int .i64 0)), none⟩])
  (.seq (.reg [⟨(some 6), .allocO [(.sl .full 2 [])], none⟩])
   (.seq (.upd (.reg [⟨(some 8), .mv (.s 0), none⟩,
       ⟨(some 9), .mv (.s 1), none⟩,
       ⟨(some 10), .mkfn (.func 62) [] [(.s 6)], none⟩,
       ⟨(some 11), .call 61 [(.s 8), (.c (.int .u8 123)), (.s 9), (.s 10)], none⟩,
       ⟨(some 7), .mv (.s 11), none⟩]))
    (.seq (.reg [⟨(some 12), .load false 1 (.s 6), none⟩,
        ⟨(some 13), .mv (.s 7), none⟩,
        ⟨(some 4), .mv (.s 12), none⟩,
        ⟨(some 5), .mv (.s 13), none⟩])
     (.ret))))
theorem fn31 : IsFn prog 31 ac31 [.tmp 4, .tmp 5] 14 := ⟨f31, ⟨[6], [2]⟩, func31, by kernel_rfl, by kernel_rfl, by kernel_rfl, by kernel_rfl⟩

/-- (*clearance/term.reader).within -/
def ac61 : AC :=
  .seq (.reg [⟨(some 8), .mv (.c (.int .i64 0)), none⟩])
  (.seq (.reg [⟨(some 11), .mv (.s 0), none⟩,
      ⟨(some 12), .mv (.s 1), none⟩,
      ⟨(some 13), .call 71 [(.s 11), (.s 12)], none⟩,
      ⟨(some 9), .alloc [(.int .u8 0), (.str []), (.int .i64 0), (.sl .full 5 []), (.int .i64 0)], none⟩,
      ⟨none, .store 5 (.s 9) (.s 13), none⟩])
   (.seq (.seq (.reg [⟨(some 14), .mv (.s 0), none⟩,
        ⟨(some 15), .call 32 [(.s 14)], none⟩,
        ⟨(some 16), .not (.s 15), none⟩])
     (.cond (.s 16) (.seq (.reg [⟨(some 8), .mv (.c (.int .i64 0)), none⟩])
       (.ret))
      (.skip)))
    (.seq (.reg [⟨(some 17), .fld 3 (.s 9), none⟩,
        ⟨(some 18), .load false 1 (.s 17), none⟩,
        ⟨(some 19), .fld 4 (.s 9), none⟩,
        ⟨(some 20), .load false 1 (.s 19), none⟩,
        ⟨(some 21), .build [(.sl .full 5 []), (.int .i64 0), (.int .i64 0), (.int .i64 0), (.int .i64 0)] [(0, 1, (.s 18)), (2, 1, (.s 20))], none⟩,
        ⟨(some 22), .boxO 5 (.s 21), none⟩,
        ⟨(some 10), .mv (.s 22), none⟩])
     (.seq (.seq (.reg [⟨(some 23), .mv (.s 2), none⟩,
          ⟨(some 24), .not (.s 23), none⟩,
          ⟨(some 25), .mv (.s 24), none⟩,
          ⟨(some 26), .fld 3 (.s 9), (some (25, false))⟩,
          ⟨(some 27), .load false 1 (.s 26), (some (25, false))⟩,
          ⟨(some 28), .lenS (.s 27), (some (25, false))⟩,
          ⟨(some 29), .binI .gtr (.s 28) (.c (.int .i64 0)), (some (25, false))⟩,
          ⟨(some 30), .pick (.s 25) (.c (.bool true)) (.s 29), none⟩])
       (.cond (.s 30) (.reg [⟨(some 31), .mv (.s 3), none⟩,
           ⟨(some 32), .mv (.s 10), none⟩,
           ⟨(some 33), .callv (.s 31) [(.s 32)], none⟩])
        (.skip)))
      (.seq (.seq (.draw [(⟨(some 34), .mv (.s 10), none⟩, []),
           (⟨(some 35), .call 32 [(.s 34)], none⟩, []),
           (⟨(some 36), .mv (.s 35), none⟩, []),
           (⟨(some 37), .mv (.s 10), (some (36, true))⟩, []),
           (⟨(some 38), .nilck (.s 37), (some (36, true))⟩, []),
           (⟨(some 39), .fld 1 (.s 38), (some (36, true))⟩, []),
           (⟨(some 40), .load false 1 (.s 39), (some (36, true))⟩, []),
           (⟨(some 41), .mv (.s 10), (some (36, true))⟩, []),
           (⟨(some 42), .nilck (.s 41), (some (36, true))⟩, []),
           (⟨(some 43), .fld 0 (.s 42), (some (36, true))⟩, []),
           (⟨(some 44), .load false 1 (.s 43), (some (36, true))⟩, []),
           (⟨(some 45), .lenS (.s 44), (some (36, true))⟩, []),
           (⟨(some 46), .binI .lss (.s 40) (.s 45), (some (36, true))⟩, []),
           (⟨(some 47), .pick (.s 36) (.s 46) (.c (.bool false)), none⟩, [])])
        (.cond (.s 47) (.reg [⟨(some 48), .mv (.s 10), none⟩,
            ⟨(some 49), .call 84 [(.s 48)], none⟩])
         (.skip)))
       (.seq (.seq (.reg [⟨(some 50), .mv (.s 10), none⟩,
            ⟨(some 51), .call 32 [(.s 50)], none⟩,
            ⟨(some 52), .not (.s 51), none⟩])
         (.cond (.s 52) (.reg [⟨(some 53), .mv (.s 0), none⟩,
             ⟨(some 54), .mv (.s 10), none⟩,
             ⟨(some 55), .nilck (.s 54), none⟩,
             ⟨(some 56), .fld 3 (.s 55), none⟩,
             ⟨(some 57), .load true 2 (.s 56), none⟩,
             ⟨(some 58), .nilck (.s 53), none⟩,
             ⟨(some 59), .fld 3 (.s 58), none⟩,
             ⟨none, .store 2 (.s 59) (.s 57), none⟩])
          (.skip)))
        (.seq (.reg [⟨(some 60), .fld 0 (.s 9), none⟩,
            ⟨(some 61), .fld 2 (.s 60), none⟩,
            ⟨(some 62), .load false 1 (.s 61), none⟩,
            ⟨(some 8), .mv (.s 62), none⟩])
         (.ret))))))))
theorem fn61 : IsFn prog 61 ac61 [.tmp 8] 63 := ⟨f61, ⟨[22], []⟩, func61, by kernel_rfl, by kernel_rfl, by kernel_rfl, by kernel_rfl⟩

/-- (*clearance/term.reader).words$1 -/
def ac62 : AC :=
  .seq (.reg [⟨(some 2), .boxO 1 (.s 0), none⟩])
  (.reg [⟨(some 3), .load false 1 (.s 2), none⟩,
     ⟨(some 4), .mkfn (.func 64) [] [(.s 1), (.s 2)], none⟩,
     ⟨(some 5), .call 63 [(.s 3), (.s 4)], none⟩])
theorem fn62 : IsFn prog 62 ac62 [] 6 := ⟨f62, ⟨[2], []⟩, func62, by kernel_rfl, by kernel_rfl, by kernel_rfl, by kernel_rfl⟩

/-- (*clearance/term.reader).some -/
def ac63 : AC :=
  .seq (.reg [⟨(some 4), .mv (.s 1), none⟩,
     ⟨(some 5), .callv (.s 4) [], none⟩])
  (.block 0 (.loop (.seq (.seq (.reg [⟨(some 6), .mv (.s 0), none⟩,
         ⟨(some 7), .call 67 [(.s 6), (.c (.int .u8 44))], none⟩])
      (.cond (.s 7) (.skip)
       (.exit 0)))
     (.block 1 (.seq (.reg [⟨(some 8), .mv (.s 0), none⟩,
          ⟨(some 9), .call 71 [(.s 8), (.c (.int .u8 44))], none⟩])
       (.reg [⟨(some 10), .mv (.s 1), none⟩,
          ⟨(some 11), .callv (.s 10) [], none⟩]))))))
theorem fn63 : IsFn prog 63 ac63 [] 12 := ⟨f63, ⟨[], []⟩, func63, by kernel_rfl, by kernel_rfl, by kernel_rfl, by kernel_rfl⟩

/-- (*clearance/term.reader).words$1$1 -/
def ac64 : AC :=
  .draw [(⟨(some 2), .load false 1 (.s 0), none⟩, [1]),
    (⟨(some 3), .load false 1 (.s 1), none⟩, []),
    (⟨(some 4), .call 65 [(.s 3)], none⟩, []),
    (⟨(some 5), .bslice 2 [(.s 4)], none⟩, []),
    (⟨(some 6), .app 2 (.s 2) (.s 5), none⟩, []),
    (⟨none, .store 1 (.s 0) (.s 6), none⟩, [])]
theorem fn64 : IsFn prog 64 ac64 [] 7 := ⟨f64, ⟨[], []⟩, func64, by kernel_rfl, by kernel_rfl, by kernel_rfl, by kernel_rfl⟩

/-- (*clearance/term.reader).word -/
def ac65 : AC :=
  .seq (.reg [⟨(some 2), .alloc [(.str []), (.int .i64 0)], none⟩])
  (.seq (.reg [⟨(some 4), .mv (.s 0), none⟩,
      ⟨(some 5), .call 71 [(.s 4), (.c (.int .u8 97))], none⟩,
      ⟨(some 3), .alloc [(.int .u8 0), (.str []), (.int .i64 0), (.sl .full 5 []), (.int .i64 0)], none⟩,
      ⟨none, .store 5 (.s 3) (.s 5), none⟩])
   (.seq (.reg [⟨(some 6), .fld 0 (.s 3), none⟩,
       ⟨(some 7), .fld 1 (.s 6), none⟩,
       ⟨(some 8), .load false 1 (.s 7), none⟩,
       ⟨(some 9), .fld 0 (.s 3), none⟩,
       ⟨(some 10), .fld 2 (.s 9), none⟩,
       ⟨(some 11), .load false 1 (.s 10), none⟩,
       ⟨(some 12), .build [(.str []), (.int .i64 0)] [(0, 1, (.s 8)), (1, 1, (.s 11))], none⟩,
       ⟨none, .store 2 (.s 2) (.s 12), none⟩])
    (.ret)))
theorem fn65 : IsFn prog 65 ac65 [.cell 2 true 2] 13 := ⟨f65, ⟨[], []⟩, func65, by kernel_rfl, by kernel_rfl, by kernel_rfl, by kernel_rfl⟩

/-- (*clearance/term.reader).sees -/
def ac67 : AC :=
  .seq (.reg [⟨(some 4), .mv (.c (.bool false)), none⟩])
  (.seq (.draw [(⟨(some 5), .mv (.s 0), none⟩, []),
      (⟨(some 6), .call 32 [(.s 5)], none⟩, []),
      (⟨(some 7), .mv (.s 6), none⟩, []),
      (⟨(some 8), .mv (.s 0), (some (7, true))⟩, []),
      (⟨(some 9), .nilck (.s 8), (some (7, true))⟩, []),
      (⟨(some 10), .fld 1 (.s 9), (some (7, true))⟩, []),
      (⟨(some 11), .load false 1 (.s 10), (some (7, true))⟩, []),
      (⟨(some 12), .binI .geq (.s 11) (.c (.int .i64 0)), (some (7, true))⟩, []),
      (⟨(some 13), .pick (.s 7) (.s 12) (.c (.bool false)), none⟩, []),
      (⟨(some 14), .mv (.s 13), none⟩, []),
      (⟨(some 15), .mv (.s 0), (some (14, true))⟩, []),
      (⟨(some 16), .nilck (.s 15), (some (14, true))⟩, []),
      (⟨(some 17), .fld 1 (.s 16), (some (14, true))⟩, []),
      (⟨(some 18), .load false 1 (.s 17), (some (14, true))⟩, []),
      (⟨(some 19), .mv (.s 0), (some (14, true))⟩, []),
      (⟨(some 20), .nilck (.s 19), (some (14, true))⟩, []),
      (⟨(some 21), .fld 0 (.s 20), (some (14, true))⟩, []),
      (⟨(some 22), .load false 1 (.s 21), (some (14, true))⟩, []),
      (⟨(some 23), .lenS (.s 22), (some (14, true))⟩, []),
      (⟨(some 24), .binI .lss (.s 18) (.s 23), (some (14, true))⟩, []),
      (⟨(some 25), .pick (.s 14) (.s 24) (.c (.bool false)), none⟩, []),
      (⟨(some 26), .mv (.s 25), none⟩, []),
      (⟨(some 27), .mv (.s 0), (some (26, true))⟩, []),
      (⟨(some 28), .nilck (.s 27), (some (26, true))⟩, []),
      (⟨(some 29), .fld 0 (.s 28), (some (26, true))⟩, []),
      (⟨(some 30), .load false 1 (.s 29), (some (26, true))⟩, []),
      (⟨(some 31), .mv (.s 0), (some (26, true))⟩, []),
      (⟨(some 32), .nilck (.s 31), (some (26, true))⟩, []),
      (⟨(some 33), .fld 1 (.s 32), (some (26, true))⟩, []),
      (⟨(some 34), .load false 1 (.s 33), (some (26, true))⟩, []),
      (⟨(some 35), .idxA 5 (.s 30) (.s 34), (some (26, true))⟩, []),
      (⟨(some 36), .fld 0 (.s 35), (some (26, true))⟩, []),
      (⟨(some 37), .fld 0 (.s 36), (some (26, true))⟩, []),
      (⟨(some 38), .load false 1 (.s 37), (some (26, true))⟩, []),
      (⟨(some 39), .mv (.s 1), (some (26, true))⟩, []),
      (⟨(some 40), .binI .eql (.s 38) (.s 39), (some (26, true))⟩, []),
      (⟨(some 41), .pick (.s 26) (.s 40) (.c (.bool false)), none⟩, []),
      (⟨(some 4), .mv (.s 41), none⟩, [])])
   (.ret))
theorem fn67 : IsFn prog 67 ac67 [.tmp 4] 42 := ⟨f67, ⟨[], []⟩, func67, by kernel_rfl, by kernel_rfl, by kernel_rfl, by kernel_rfl⟩

/-- clearance/name.Right -/
def ac70 : AC :=
  .seq (.reg [⟨(some 2), .mv (.c (.bool false)), none⟩])
  (.seq (.seq (.reg [⟨(some 4), .mv (.s 0), none⟩,
       ⟨(some 5), .binS .eql (.s 4) (.c (.str [])), none⟩,
       ⟨(some 6), .mv (.s 5), none⟩,
       ⟨(some 7), .mv (.s 0), (some (6, false))⟩,
       ⟨(some 8), .lenT (.s 7), (some (6, false))⟩,
       ⟨(some 9), .binI .gtr (.s 8) (.c (.int .i64 16)), (some (6, false))⟩,
       ⟨(some 10), .pick (.s 6) (.c (.bool true)) (.s 9), none⟩,
       ⟨(some 11), .mv (.s 10), none⟩,
       ⟨(some 12), .mv (.s 0), (some (11, false))⟩,
       ⟨(some 13), .idxS (.s 12) (.c (.int .i64 0)), (some (11, false))⟩,
       ⟨(some 14), .call 88 [(.s 13)], (some (11, false))⟩,
       ⟨(some 15), .not (.s 14), (some (11, false))⟩,
       ⟨(some 16), .pick (.s 11) (.c (.bool true)) (.s 15), none⟩])
    (.cond (.s 16) (.seq (.reg [⟨(some 2), .mv (.c (.bool false)), none⟩])
      (.ret))
     (.skip)))
   (.seq (.seq (.reg [⟨(some 17), .mv (.s 0), none⟩,
        ⟨(some 18), .lenT (.s 17), none⟩,
        ⟨(some 19), .mv (.c (.int .i64 0)), none⟩])
     (.block 0 (.loop (.seq (.reg [⟨(some 20), .binI .lss (.s 19) (.s 18), none⟩])
        (.seq (.cond (.s 20) (.skip)
          (.exit 0))
         (.seq (.block 1 (.seq (.reg [⟨(some 21), .mv (.s 19), none⟩,
               ⟨(some 3), .mv (.s 21), none⟩])
            (.seq (.reg [⟨(some 22), .mv (.s 0), none⟩,
                ⟨(some 23), .mv (.s 3), none⟩,
                ⟨(some 24), .idxS (.s 22) (.s 23), none⟩,
                ⟨(some 25), .call 89 [(.s 24)], none⟩,
                ⟨(some 26), .not (.s 25), none⟩])
             (.cond (.s 26) (.seq (.reg [⟨(some 2), .mv (.c (.bool false)), none⟩])
               (.ret))
              (.skip)))))
          (.reg [⟨(some 27), .binI .add (.s 19) (.c (.int .i64 1)), none⟩,
             ⟨(some 19), .mv (.s 27), none⟩])))))))
    (.seq (.reg [⟨(some 2), .mv (.c (.bool true)), none⟩])
     (.ret))))
theorem fn70 : IsFn prog 70 ac70 [.tmp 2] 28 := ⟨f70, ⟨[], []⟩, func70, by kernel_rfl, by kernel_rfl, by kernel_rfl, by kernel_rfl⟩

/-- (*clearance/term.reader).take -/
def ac71 : AC :=
  .seq (.reg [⟨(some 4), .alloc [(.int .u8 0), (.str []), (.int .i64 0), (.sl .full 5 []), (.int .i64 0)], none⟩])
  (.seq (.seq (.reg [⟨(some 5), .mv (.s 0), none⟩,
       ⟨(some 6), .mv (.s 1), none⟩,
       ⟨(some 7), .call 67 [(.s 5), (.s 6)], none⟩,
       ⟨(some 8), .not (.s 7), none⟩])
    (.cond (.s 8) (.seq (.reg [⟨(some 9), .mv (.s 0), none⟩,
         ⟨(some 10), .call 84 [(.s 9)], none⟩])
      (.seq (.reg [⟨(some 11), .build [(.int .u8 0), (.str []), (.int .i64 0), (.sl .full 5 []), (.int .i64 0)] [], none⟩,
          ⟨none, .store 5 (.s 4) (.s 11), none⟩])
       (.ret)))
     (.skip)))
   (.seq (.reg [⟨(some 12), .mv (.s 0), none⟩,
       ⟨(some 13), .nilck (.s 12), none⟩,
       ⟨(some 14), .fld 1 (.s 13), none⟩,
       ⟨(some 15), .load false 1 (.s 14), none⟩,
       ⟨(some 16), .binI .add (.s 15) (.c (.int .i64 1)), none⟩,
       ⟨(some 17), .nilck (.s 12), none⟩,
       ⟨(some 18), .fld 1 (.s 17), none⟩,
       ⟨none, .store 1 (.s 18) (.s 16), none⟩])
    (.seq (.draw [(⟨(some 19), .mv (.s 0), none⟩, []),
        (⟨(some 20), .nilck (.s 19), none⟩, []),
        (⟨(some 21), .fld 0 (.s 20), none⟩, []),
        (⟨(some 22), .load false 1 (.s 21), none⟩, []),
        (⟨(some 23), .mv (.s 0), none⟩, []),
        (⟨(some 24), .nilck (.s 23), none⟩, []),
        (⟨(some 25), .fld 1 (.s 24), none⟩, []),
        (⟨(some 26), .load false 1 (.s 25), none⟩, []),
        (⟨(some 27), .binI .sub (.s 26) (.c (.int .i64 1)), none⟩, []),
        (⟨(some 28), .idxA 5 (.s 22) (.s 27), none⟩, []),
        (⟨(some 29), .load true 5 (.s 28), none⟩, []),
        (⟨none, .store 5 (.s 4) (.s 29), none⟩, [])])
     (.ret))))
theorem fn71 : IsFn prog 71 ac71 [.cell 4 true 5] 30 := ⟨f71, ⟨[], []⟩, func71, by kernel_rfl, by kernel_rfl, by kernel_rfl, by kernel_rfl⟩

/-- (*clearance/term.reader).fail -/
def ac84 : AC :=
  .seq (.seq (.reg [⟨(some 2), .mv (.s 0), none⟩,
      ⟨(some 3), .call 32 [(.s 2)], none⟩,
      ⟨(some 4), .not (.s 3), none⟩])
   (.cond (.s 4) (.ret)
    (.skip)))
  (.seq (.reg [⟨(some 5), .mv (.s 0), none⟩,
      ⟨(some 6), .mv (.s 0), none⟩,
      ⟨(some 7), .nilck (.s 6), none⟩,
      ⟨(some 8), .fld 2 (.s 7), none⟩,
      ⟨(some 9), .load false 1 (.s 8), none⟩,
      ⟨(some 10), .build [(.int .i64 0), (.int .i64 0)] [(0, 1, (.c (.int .i64 2))), (1, 1, (.s 9))], none⟩,
      ⟨(some 11), .nilck (.s 5), none⟩,
      ⟨(some 12), .fld 3 (.s 11), none⟩,
      ⟨none, .store 2 (.s 12) (.s 10), none⟩])
   (.seq (.draw [(⟨(some 13), .mv (.s 0), none⟩, []),
       (⟨(some 14), .nilck (.s 13), none⟩, []),
       (⟨(some 15), .fld 1 (.s 14), none⟩, []),
       (⟨(some 16), .load false 1 (.s 15), none⟩, []),
       (⟨(some 17), .binI .geq (.s 16) (.c (.int .i64 0)), none⟩, []),
       (⟨(some 18), .mv (.s 17), none⟩, []),
       (⟨(some 19), .mv (.s 0), (some (18, true))⟩, []),
       (⟨(some 20), .nilck (.s 19), (some (18, true))⟩, []),
       (⟨(some 21), .fld 1 (.s 20), (some (18, true))⟩, []),
       (⟨(some 22), .load false 1 (.s 21), (some (18, true))⟩, []),
       (⟨(some 23), .mv (.s 0), (some (18, true))⟩, []),
       (⟨(some 24), .nilck (.s 23), (some (18, true))⟩, []),
       (⟨(some 25), .fld 0 (.s 24), (some (18, true))⟩, []),
       (⟨(some 26), .load false 1 (.s 25), (some (18, true))⟩, []),
       (⟨(some 27), .lenS (.s 26), (some (18, true))⟩, []),
       (⟨(some 28), .binI .lss (.s 22) (.s 27), (some (18, true))⟩, []),
       (⟨(some 29), .pick (.s 18) (.s 28) (.c (.bool false)), none⟩, [])])
    (.cond (.s 29) (.draw [(⟨(some 30), .mv (.s 0), none⟩, []),
        (⟨(some 31), .mv (.s 0), none⟩, []),
        (⟨(some 32), .nilck (.s 31), none⟩, []),
        (⟨(some 33), .fld 0 (.s 32), none⟩, []),
        (⟨(some 34), .load false 1 (.s 33), none⟩, []),
        (⟨(some 35), .mv (.s 0), none⟩, []),
        (⟨(some 36), .nilck (.s 35), none⟩, []),
        (⟨(some 37), .fld 1 (.s 36), none⟩, []),
        (⟨(some 38), .load false 1 (.s 37), none⟩, []),
        (⟨(some 39), .idxA 5 (.s 34) (.s 38), none⟩, []),
        (⟨(some 40), .fld 0 (.s 39), none⟩, []),
        (⟨(some 41), .fld 2 (.s 40), none⟩, []),
        (⟨(some 42), .load false 1 (.s 41), none⟩, []),
        (⟨(some 43), .nilck (.s 30), none⟩, []),
        (⟨(some 44), .fld 3 (.s 43), none⟩, []),
        (⟨(some 45), .fld 1 (.s 44), none⟩, []),
        (⟨none, .store 1 (.s 45) (.s 42), none⟩, [])])
     (.skip))))
theorem fn84 : IsFn prog 84 ac84 [] 46 := ⟨f84, ⟨[], []⟩, func84, by kernel_rfl, by kernel_rfl, by kernel_rfl, by kernel_rfl⟩

/-- clearance/name.letter -/
def ac88 : AC :=
  .seq (.reg [⟨(some 2), .mv (.c (.bool false)), none⟩])
  (.seq (.reg [⟨(some 3), .mv (.s 0), none⟩,
      ⟨(some 4), .binI .geq (.s 3) (.c (.int .u8 97)), none⟩,
      ⟨(some 5), .mv (.s 4), none⟩,
      ⟨(some 6), .mv (.s 0), (some (5, true))⟩,
      ⟨(some 7), .binI .leq (.s 6) (.c (.int .u8 122)), (some (5, true))⟩,
      ⟨(some 8), .pick (.s 5) (.s 7) (.c (.bool false)), none⟩,
      ⟨(some 2), .mv (.s 8), none⟩])
   (.ret))
theorem fn88 : IsFn prog 88 ac88 [.tmp 2] 9 := ⟨f88, ⟨[], []⟩, func88, by kernel_rfl, by kernel_rfl, by kernel_rfl, by kernel_rfl⟩

/-- clearance/name.goes -/
def ac89 : AC :=
  .seq (.reg [⟨(some 2), .mv (.c (.bool false)), none⟩])
  (.seq (.reg [⟨(some 3), .mv (.s 0), none⟩,
      ⟨(some 4), .call 88 [(.s 3)], none⟩,
      ⟨(some 5), .mv (.s 4), none⟩,
      ⟨(some 6), .mv (.s 0), (some (5, false))⟩,
      ⟨(some 7), .binI .geq (.s 6) (.c (.int .u8 48)), (some (5, false))⟩,
      ⟨(some 8), .mv (.s 7), (some (5, false))⟩,
      ⟨(some 9), .mv (.s 0), (some (8, true))⟩,
      ⟨(some 10), .binI .leq (.s 9) (.c (.int .u8 57)), (some (8, true))⟩,
      ⟨(some 11), .pick (.s 8) (.s 10) (.c (.bool false)), (some (5, false))⟩,
      ⟨(some 12), .pick (.s 5) (.c (.bool true)) (.s 11), none⟩,
      ⟨(some 13), .mv (.s 12), none⟩,
      ⟨(some 14), .mv (.s 0), (some (13, false))⟩,
      ⟨(some 15), .binI .eql (.s 14) (.c (.int .u8 95)), (some (13, false))⟩,
      ⟨(some 16), .pick (.s 13) (.c (.bool true)) (.s 15), none⟩,
      ⟨(some 2), .mv (.s 16), none⟩])
   (.ret))
theorem fn89 : IsFn prog 89 ac89 [.tmp 2] 17 := ⟨f89, ⟨[], []⟩, func89, by kernel_rfl, by kernel_rfl, by kernel_rfl, by kernel_rfl⟩

/-- clearance/term.Words -/
def ac9 : AC :=
  .seq (.reg [⟨(some 6), .mv (.c (.sl .full 2 [])), none⟩,
     ⟨(some 7), .alloc [(.int .i64 0), (.int .i64 0)], none⟩])
  (.seq (.reg [⟨(some 11), .mv (.s 0), none⟩,
      ⟨(some 12), .mv (.s 1), none⟩,
      ⟨(some 13), .mv (.s 2), none⟩,
      ⟨(some 14), .build [(.sl .full 5 []), (.int .i64 0), (.int .i64 0), (.int .i64 0), (.int .i64 0)] [(0, 1, (.s 11)), (1, 1, (.s 12)), (2, 1, (.s 13))], none⟩,
      ⟨(some 15), .boxO 5 (.s 14), none⟩,
      ⟨(some 8), .mv (.s 15), none⟩])
   (.seq (.reg [⟨(some 17), .mv (.s 8), none⟩,
       ⟨(some 18), .call 31 [(.s 17), (.c (.bool false))], none⟩,
       ⟨(some 16), .mv (.s 18), none⟩,
       ⟨(some 19), .ext (.s 16) 0, none⟩,
       ⟨(some 20), .ext (.s 16) 1, none⟩,
       ⟨(some 9), .mv (.s 19), none⟩,
       ⟨(some 10), .mv (.s 20), none⟩])
    (.seq (.seq (.reg [⟨(some 21), .mv (.s 8), none⟩,
         ⟨(some 22), .call 32 [(.s 21)], none⟩,
         ⟨(some 23), .not (.s 22), none⟩])
      (.cond (.s 23) (.seq (.draw [(⟨(some 24), .mv (.s 8), none⟩, []),
           (⟨(some 25), .nilck (.s 24), none⟩, []),
           (⟨(some 26), .fld 3 (.s 25), none⟩, []),
           (⟨(some 27), .load true 2 (.s 26), none⟩, []),
           (⟨(some 6), .mv (.c (.sl .full 2 [])), none⟩, []),
           (⟨none, .store 2 (.s 7) (.s 27), none⟩, [])])
        (.ret))
       (.skip)))
     (.seq (.reg [⟨(some 28), .mv (.s 9), none⟩,
         ⟨(some 29), .build [(.int .i64 0), (.int .i64 0)] [], none⟩,
         ⟨(some 6), .mv (.s 28), none⟩,
         ⟨none, .store 2 (.s 7) (.s 29), none⟩])
      (.ret)))))
theorem fn9 : IsFn prog 9 ac9 [.tmp 6, .cell 7 true 2] 30 := ⟨f9, ⟨[15], []⟩, func9, by kernel_rfl, by kernel_rfl, by kernel_rfl, by kernel_rfl⟩

/-- clearance/clearanceref10.Words -/
def ac10 : AC :=
  .seq (.reg [⟨(some 6), .mv (.c (.sl .full 2 [])), none⟩,
     ⟨(some 7), .alloc [(.int .i64 0), (.int .i64 0), (.str []), (.sl .full 2 []), (.sl .full 5 []), (.int .i64 0), (.bool false), (.int .i64 0)], none⟩])
  (.seq (.seq (.reg [⟨(some 10), .mv (.s 0), none⟩,
       ⟨(some 11), .mv (.s 1), none⟩,
       ⟨(some 12), .call 33 [(.s 10), (.s 11), (.c (.int .u8 123))], none⟩,
       ⟨(some 13), .not (.s 12), none⟩])
    (.cond (.s 13) (.seq (.reg [⟨(some 14), .mv (.s 0), none⟩,
         ⟨(some 15), .mv (.s 1), none⟩,
         ⟨(some 16), .mv (.s 2), none⟩,
         ⟨(some 17), .call 34 [(.s 14), (.s 15), (.s 16)], none⟩,
         ⟨(some 6), .mv (.c (.sl .full 2 [])), none⟩,
         ⟨none, .store 8 (.s 7) (.s 17), none⟩])
      (.ret))
     (.skip)))
   (.seq (.reg [⟨(some 19), .mv (.s 0), none⟩,
       ⟨(some 20), .mv (.s 1), none⟩,
       ⟨(some 21), .idxA 5 (.s 19) (.s 20), none⟩,
       ⟨(some 22), .load true 5 (.s 21), none⟩,
       ⟨(some 23), .call 35 [(.c (.int .i64 6)), (.s 22), (.c (.bool false))], none⟩,
       ⟨(some 18), .mv (.s 23), none⟩,
       ⟨(some 24), .ext (.s 18) 0, none⟩,
       ⟨(some 25), .ext (.s 18) 1, none⟩,
       ⟨(some 9), .alloc [(.int .i64 0), (.int .i64 0), (.str []), (.sl .full 2 []), (.sl .full 5 []), (.int .i64 0), (.bool false), (.int .i64 0)], none⟩,
       ⟨(some 8), .mv (.s 24), none⟩,
       ⟨none, .store 8 (.s 9) (.s 25), none⟩])
    (.seq (.draw [(⟨(some 26), .mv (.s 8), none⟩, []),
        (⟨(some 27), .call 36 [(.s 26)], none⟩, []),
        (⟨(some 28), .load true 8 (.s 9), none⟩, [0]),
        (⟨(some 6), .mv (.s 27), none⟩, []),
        (⟨none, .store 8 (.s 7) (.s 28), none⟩, [])])
     (.ret))))
theorem fn10 : IsFn prog 10 ac10 [.tmp 6, .cell 7 true 8] 29 := ⟨f10, ⟨[], []⟩, func10, by kernel_rfl, by kernel_rfl, by kernel_rfl, by kernel_rfl⟩

/-- clearance/clearanceref10.Words2 -/
def ac11 : AC :=
  .seq (.reg [⟨(some 4), .mv (.c (.bool false)), none⟩])
  (.seq (.seq (.reg [⟨(some 6), .mv (.s 0), none⟩,
       ⟨(some 7), .lenS (.s 6), none⟩,
       ⟨(some 8), .mv (.s 1), none⟩,
       ⟨(some 9), .lenS (.s 8), none⟩,
       ⟨(some 10), .binI .neq (.s 7) (.s 9), none⟩])
    (.cond (.s 10) (.seq (.reg [⟨(some 4), .mv (.c (.bool false)), none⟩])
      (.ret))
     (.skip)))
   (.seq (.seq (.reg [⟨(some 5), .mv (.c (.int .i64 0)), none⟩])
     (.block 0 (.loop (.seq (.seq (.reg [⟨(some 11), .mv (.s 5), none⟩,
            ⟨(some 12), .mv (.s 0), none⟩,
            ⟨(some 13), .lenS (.s 12), none⟩,
            ⟨(some 14), .binI .lss (.s 11) (.s 13), none⟩])
         (.cond (.s 14) (.skip)
          (.exit 0)))
        (.seq (.block 1 (.seq (.draw [(⟨(some 17), .mv (.s 0), none⟩, []),
              (⟨(some 18), .mv (.s 5), none⟩, []),
              (⟨(some 19), .idxA 2 (.s 17) (.s 18), none⟩, []),
              (⟨(some 20), .load true 2 (.s 19), none⟩, []),
              (⟨(some 21), .mv (.s 1), none⟩, []),
              (⟨(some 22), .mv (.s 5), none⟩, []),
              (⟨(some 23), .idxA 2 (.s 21) (.s 22), none⟩, []),
              (⟨(some 24), .load true 2 (.s 23), none⟩, []),
              (⟨(some 25), .eqA true [2, 1] (.s 20) (.s 24), none⟩, [])])
           (.cond (.s 25) (.seq (.reg [⟨(some 4), .mv (.c (.bool false)), none⟩])
             (.ret))
            (.skip))))
         (.reg [⟨(some 15), .mv (.s 5), none⟩,
            ⟨(some 16), .binI .add (.s 15) (.c (.int .i64 1)), none⟩,
            ⟨(some 5), .mv (.s 16), none⟩]))))))
    (.seq (.reg [⟨(some 4), .mv (.c (.bool true)), none⟩])
     (.ret))))
theorem fn11 : IsFn prog 11 ac11 [.tmp 4] 26 := ⟨f11, ⟨[], []⟩, func11, by kernel_rfl, by kernel_rfl, by kernel_rfl, by kernel_rfl⟩

end Go.Proofs.Try

/-
  The reader's first functions.
-/
namespace Go.Proofs.Try
open Go.Am
set_option maxRecDepth 4000

theorem ok_calls {r : Nat} {rd : Rdr} {σ : Store} (h : σ.box r = some rd.enc) : PCalls prog 32 [.ptr (.out r) 0] σ fun v σ' => v = .bool rd.ok ∧ σ' = σ := by
  refine fn32.calls ?_
  simp only [slots, ac32, am, h, Rdr.enc]
  refine retK_intro rfl (Store.sub_refl _) ⟨?_, rfl⟩
  cases hb : rd.bad <;> simp [Rdr.ok, V.erase, hb, badC, badA]

theorem sees_calls {r : Nat} {rd : Rdr} {k : Int} {σ : Store} (h : σ.box r = some rd.enc) : PCalls prog 67 [.ptr (.out r) 0, .int .u8 k] σ fun v σ' => v = .bool (rd.sees k) ∧ σ' = σ := by
  refine fn67.calls ?_
  simp only [slots, ac67, am]
  refine CallD.intro (ok_calls h) ?_
  simp only [am]
  cases hok : rd.ok
  · simp only [am]
    refine retK_intro rfl (Store.sub_refl _) ⟨?_, rfl⟩
    simp [Rdr.sees, hok, V.erase]
  · simp only [am, h, Rdr.enc]
    by_cases h0 : 0 ≤ rd.at_
    · simp only [am, h0, decide_true, h, Rdr.enc, encs_length]
      by_cases h1 : rd.at_ < rd.l.length
      · obtain ⟨j, hj⟩ := Int.eq_ofNat_of_zero_le h0
        have hj' : j < rd.l.length := by omega
        simp only [am, h1, decide_true, h, Rdr.enc]
        refine idxL_intro h0 (c := rd.l[j].enc) (by simp [encs_map, hj, hj']) ?_
        simp only [am, enc_eq]
        refine retK_intro rfl (Store.sub_refl _) ⟨?_, rfl⟩
        simp [Rdr.sees, isK, V.erase, hok, hj, hj']
      · simp only [am, h1, decide_false]
        refine retK_intro rfl (Store.sub_refl _) ⟨?_, rfl⟩
        have : rd.l[rd.at_.toNat]? = none := List.getElem?_eq_none (by omega)
        simp [Rdr.sees, isK, V.erase, this]
    · simp only [am, h0, decide_false]
      refine retK_intro rfl (Store.sub_refl _) ⟨?_, rfl⟩
      simp [Rdr.sees, isK, V.erase, h0]

theorem fail_calls {r : Nat} {rd : Rdr} {σ : Store} (h : σ.box r = some rd.enc) : PCalls prog 84 [.ptr (.out r) 0] σ fun v σ' => v = .tup [] ∧ σ' = σ.set r rd.fail.enc := by
  refine fn84.calls ?_
  simp only [slots, ac84, am]
  refine (ok_calls h).mono ?_
  rintro v σ' ⟨rfl, rfl⟩
  cases hb : rd.bad with
  | some b =>
    simp only [am, Rdr.ok, hb, Option.isNone]
    refine retK_intro rfl (Store.sub_refl _) ⟨rfl, ?_⟩
    rw [Rdr.fail, hb]; exact (Store.set_id h).symm
  | none =>
    simp only [am, Rdr.ok, hb, Option.isNone, h, Rdr.enc, Nat.reduceAdd]
    by_cases h0 : 0 ≤ rd.at_
    · simp only [am, h0, decide_true, encs_length]
      by_cases h1 : rd.at_ < rd.l.length
      · obtain ⟨j, hj⟩ := Int.eq_ofNat_of_zero_le h0
        have hj' : j < rd.l.length := by omega
        simp only [am, h1, decide_true]
        refine idxL_intro h0 (c := rd.l[j].enc) (by simp [encs_map, hj, hj']) ?_
        simp only [am, enc_eq, Nat.reduceAdd]
        refine retK_intro rfl (Store.sub_refl _) ⟨rfl, ?_⟩
        simp [Rdr.fail, Rdr.spot, hb, hj, hj', Rdr.enc, badC, badA]
      · simp only [am, h1, decide_false]
        refine retK_intro rfl (Store.sub_refl _) ⟨rfl, ?_⟩
        have : rd.l[rd.at_.toNat]? = none := List.getElem?_eq_none (by omega)
        simp [Rdr.fail, Rdr.spot, hb, this, Rdr.enc, badC, badA]
    · simp only [am, h0, decide_false]
      refine retK_intro rfl (Store.sub_refl _) ⟨rfl, ?_⟩
      simp [Rdr.fail, Rdr.spot, hb, h0, Rdr.enc, badC, badA]

theorem take_calls {r : Nat} {rd : Rdr} {k : Int} {σ : Store} (h : σ.box r = some rd.enc) (hb : rd.l.length ≤ big) : PCalls prog 71 [.ptr (.out r) 0, .int .u8 k] σ fun v σ' => v = .agg (rd.take k).1.enc ∧ σ' = σ.set r (rd.take k).2.enc := by
  refine fn71.calls ?_
  simp only [slots, ac71, am]
  refine (sees_calls h).mono ?_
  rintro v σ' ⟨rfl, rfl⟩
  cases hs : rd.sees k
  · simp only [am]
    refine (fail_calls h).mono ?_
    rintro v σ' ⟨rfl, rfl⟩
    simp only [am]
    refine retK_intro rfl (Store.sub_refl _) ⟨?_, ?_⟩
    · simp [Rdr.take, hs, V.erase, eraseL, Tree.zero, Tree.enc, encs]
    · simp [Rdr.take, hs]
  · have hs' := hs
    simp only [Rdr.sees, isK, Bool.and_eq_true, decide_eq_true_eq] at hs'
    obtain ⟨_, h0, hk⟩ := hs'
    have h1 : rd.at_.toNat < rd.l.length := by
      cases hq : rd.l[rd.at_.toNat]? with
      | none => rw [hq] at hk; simp at hk
      | some t => exact (List.getElem?_eq_some_iff.1 hq).1
    simp only [big] at hb
    simp only [am, h, Rdr.enc]
    rw [wrap_i64 (x := rd.at_ + 1) (by omega) (by omega), wrap_i64 (x := rd.at_ + 1 - 1) (by omega) (by omega)]
    refine idxL_intro (by omega) (c := rd.l[rd.at_.toNat].enc) (by rw [show (rd.at_ + 1 - 1).toNat = rd.at_.toNat by omega]; simp [encs_map, h1]) ?_
    simp only [am, enc_eq]
    refine retK_intro rfl (Store.sub_refl _) ⟨?_, ?_⟩
    · simp [Rdr.take, hs, V.erase, eraseL, h1, List.getD]
    · simp [Rdr.take, hs, Rdr.enc]

theorem word_calls {r : Nat} {rd : Rdr} {σ : Store} (h : σ.box r = some rd.enc) (hb : rd.l.length ≤ big) : PCalls prog 65 [.ptr (.out r) 0] σ fun v σ' => v = .agg rd.word.1.enc ∧ σ' = σ.set r rd.word.2.enc := by
  refine fn65.calls ?_
  simp only [slots, ac65, am]
  refine (take_calls h hb).mono ?_
  rintro v σ' ⟨rfl, rfl⟩
  simp only [am, enc_eq, Nat.reduceAdd]
  refine retK_intro rfl (Store.sub_refl _) ⟨?_, ?_⟩
  · simp [Rdr.word, V.erase, eraseL, Word.enc]
  · simp [Rdr.word]
end Go.Proofs.Try

/-
  Several with commas between.
-/
namespace Go.Proofs.Try
open Go.Am
set_option maxRecDepth 4000

/-- What is read one after the other: the state's family, its reader, and one step. -/
structure Sys (α : Type) where
  F : α → Store
  rd : α → Rdr
  set : α → Rdr → α
  step : α → α

def Sys.go {α : Type} (S : Sys α) : Nat → α → α
  | 0, a => a
  | n + 1, a => if (S.rd a).sees 44 then S.go n (S.step (S.set a ((S.rd a).take 44).2)) else a

theorem sees_spec {rd : Rdr} {k : Int} (h : rd.sees k = true) : rd.bad = none ∧ 0 ≤ rd.at_ ∧ rd.at_ < rd.l.length := by
  simp only [Rdr.sees, Rdr.ok, isK, Bool.and_eq_true, decide_eq_true_eq, Option.isNone_iff_eq_none] at h
  obtain ⟨h1, h0, hk⟩ := h
  refine ⟨h1, h0, ?_⟩
  cases hq : rd.l[rd.at_.toNat]? with
  | none => rw [hq] at hk; simp at hk
  | some t => have := (List.getElem?_eq_some_iff.1 hq).1; omega

theorem some_calls {α : Type} (S : Sys α) (Inv : α → Prop) {g : FuncId} {cap : List V} {r : Nat} (hnol : nolL cap = true)
    (hbox : ∀ a, Inv a → (S.F a).box r = some (S.rd a).enc) (hlen : ∀ a, Inv a → (S.rd a).l.length ≤ big)
    (hset : ∀ a, Inv a → (S.rd a).sees 44 = true → (S.F a).set r ((S.rd a).take 44).2.enc = S.F (S.set a ((S.rd a).take 44).2))
    (hstep : ∀ a, Inv a → (S.rd a).sees 44 = true → PCalls prog g cap (S.F (S.set a ((S.rd a).take 44).2)) (fun v σ' => v = .tup [] ∧ σ' = S.F (S.step (S.set a ((S.rd a).take 44).2))) ∧
      Inv (S.step (S.set a ((S.rd a).take 44).2)) ∧ (S.rd (S.step (S.set a ((S.rd a).take 44).2))).l = (S.rd a).l ∧ (S.rd a).at_ + 1 ≤ (S.rd (S.step (S.set a ((S.rd a).take 44).2))).at_)
    {a : α} (h0 : PCalls prog g cap (S.F a) (fun v σ' => v = .tup [] ∧ σ' = S.F (S.step a))) (hI : Inv (S.step a)) {n : Nat} (hn : (S.rd (S.step a)).l.length ≤ n) :
    PCalls prog 63 [.ptr (.out r) 0, .fn (.func g) [] cap] (S.F a) fun v σ' => v = .tup [] ∧ σ' = S.F (S.go n (S.step a)) := by
  refine fn63.calls ?_
  simp only [slots, ac63, am, hnol]
  refine h0.mono ?_
  rintro v σ' ⟨rfl, rfl⟩
  simp only [am]
  let I : { p : α × Nat // Inv p.1 ∧ ((S.rd p.1).l.length : Int) ≤ max (S.rd p.1).at_ 0 + p.2 ∧ S.go p.2 p.1 = S.go n (S.step a) } → St := fun p =>
    ⟨[.ptr (.out r) 0, .fn (.func g) [] cap] ++ List.replicate 10 .any, [], S.F p.1.1⟩
  refine vc_loop I (fun p => p.1.2) ?_ ?_
  · refine Upd.enter ⟨(S.step a, n), hI, by simp only; omega, rfl⟩ ?_ LLLe.rfl OLe.rfl
    simp [I, List.replicate, am]
  · rintro ⟨⟨b, m⟩, hb, hm, hgo⟩
    simp only [I, List.replicate, am]
    simp only at hb hm hgo
    refine (sees_calls (hbox b hb)).mono ?_
    rintro v σ' ⟨rfl, rfl⟩
    cases hs : (S.rd b).sees 44
    · simp only [am]
      refine retK_intro rfl (Store.sub_refl _) ⟨rfl, ?_⟩
      rw [← hgo]
      cases m <;> simp [Sys.go, hs]
    · obtain ⟨_, h1, h2⟩ := sees_spec hs
      simp only [am]
      refine (take_calls (hbox b hb) (hlen b hb)).mono ?_
      rintro v σ' ⟨rfl, rfl⟩
      simp only [am, hnol]
      obtain ⟨k1, k2, k3, k4⟩ := hstep b hb hs
      rw [hset b hb hs]
      refine k1.mono ?_
      rintro v σ' ⟨rfl, rfl⟩
      simp only [am]
      cases m with
      | zero => omega
      | succ m =>
        refine Upd.again ⟨(S.step (S.set b ((S.rd b).take 44).2), m), k2, ?_, ?_⟩ (by simp) ?_ LLLe.rfl OLe.rfl
        · rw [k3]; simp only; omega
        · rw [← hgo]; simp [Sys.go, hs]
        · simp [I, List.replicate, am]
end Go.Proofs.Try

/-
  What stands in a bracket.
-/
namespace Go.Proofs.Try
open Go.Am
set_option maxRecDepth 4000
set_option maxHeartbeats 4000000

theorem within_calls {r : Nat} {rd : Rdr} {kind : Int} {empty : Bool} {g : FuncId} {cap : List V} {σ : Store} (hnol : nolL cap = true) (h : σ.box r = some rd.enc) (hlen : rd.l.length ≤ big) (hkids : (rd.take kind).1.kids.length ≤ big)
    (i1 : Rdr) (σe : Store) (hcb : (rd.take kind).2.ok = true → (empty = false ∨ (rd.take kind).1.kids.length ≠ 0) → ∀ q, σ.box q = none →
      PCalls prog g (.ptr (.out q) 0 :: cap) ((σ.set r (rd.take kind).2.enc).set q (rd.take kind).1.inner.enc) fun v σ' => v = .tup [] ∧ σ' = (σe.set r (rd.take kind).2.enc).set q i1.enc)
    (hno : empty = true → (rd.take kind).1.kids.length = 0 → i1 = (rd.take kind).1.inner ∧ σe = σ) (hq : ∀ q, σ.box q = none → σe.box q = none) (hl : i1.l = (rd.take kind).1.kids) :
    PCalls prog 61 [.ptr (.out r) 0, .int .u8 kind, .bool empty, .fn (.func g) [] cap] σ fun v σ' =>
      if (rd.take kind).2.ok = true then v = .int .i64 (rd.take kind).1.tok.pos ∧ σ' = σe.set r ((rd.take kind).2.under i1).enc else v = .int .i64 0 ∧ σ' = σ.set r (rd.take kind).2.enc := by
  refine fn61.calls ?_
  simp only [slots, ac61, am]
  refine (take_calls h hlen).mono ?_
  rintro v σ' ⟨rfl, rfl⟩
  generalize ht : (rd.take kind).1 = t at *
  generalize hr1 : (rd.take kind).2 = rd1 at *
  simp only [am, enc_eq, Nat.reduceAdd]
  refine (ok_calls (Store.set_same _ _ _)).mono ?_
  rintro v σ' ⟨rfl, rfl⟩
  cases hok : rd1.ok
  · simp only [am]
    refine retK_intro rfl (Store.sub_refl _) ?_
    simp [V.erase]
  · have hbad : rd1.bad = none := by simpa [Rdr.ok] using hok
    simp only [am, Nat.reduceAdd]
    refine kO_intro fun q hqn => ?_
    have hqr : q ≠ r := by rintro rfl; rw [Store.set_same] at hqn; simp at hqn
    have hqn' : σ.box q = none := by rw [Store.set_other _ _ hqr] at hqn; exact hqn
    have hin : [V.sl .no 5 (encs t.kids), .int .i64 0, .int .i64 t.fin, .int .i64 0, .int .i64 0] = t.inner.enc := rfl
    simp only [am, hin]
    have hcl : ∀ i : Rdr, i.l = t.kids → ((σe.set r rd1.enc).set q i.enc).box q = some i.enc := fun i _ => Store.set_same _ _ _
    have hsub : ∀ (A B : List V), (σe.set r A).sub ((σe.set r A).set q B) := fun A B => by
      refine ⟨fun b cs hb => ?_, fun _ _ h => h⟩
      by_cases hbq : b = q
      · subst hbq; rw [Store.set_other _ _ hqr, hq b hqn'] at hb; simp at hb
      · rw [Store.set_other _ _ hbq]; exact hb
    have hsw : ∀ (A B C : List V), ((σe.set r A).set q B).set r C = (σe.set r C).set q B := fun A B C => by rw [Store.set_comm hqr, Store.set_set]
    have hci : ((σe.set r rd1.enc).set q i1.enc).box q = some i1.enc := Store.set_same _ _ _
    by_cases hc : empty = false ∨ t.kids.length ≠ 0
    case' neg =>
      have hE : empty = true := by cases empty <;> simp at hc ⊢
      have hk : t.kids.length = 0 := by
        rcases Nat.eq_zero_or_pos t.kids.length with h | h
        · exact h
        · exact absurd (.inr (by omega)) hc
      obtain ⟨e1, e2⟩ := hno hE hk
      simp only [am, hE, encs_length, hk, Int.natCast_zero, Int.lt_irrefl, decide_false]
      rw [← e1, ← e2]
    case' pos =>
      have hgo := hcb hok hc q hqn'
      cases hE : empty
      case' true =>
        have hk : 0 < t.kids.length := by
          rcases hc with h | h
          · rw [hE] at h; simp at h
          · omega
        simp only [am, encs_length, Int.natCast_pos, hk, decide_true]
      all_goals
        simp only [am, hnol]
        refine hgo.mono ?_
        rintro v σ' ⟨rfl, rfl⟩
        simp only [am]
    all_goals
      refine CallD.intro (ok_calls hci) ?_
      have hbox1 : ∀ (i : Rdr), ((σe.set r rd1.enc).set q i.enc).box r = some rd1.enc := fun i => by rw [Store.set_other _ _ (Ne.symm hqr), Store.set_same]
      have fin : ∀ (i : Rdr) (x : List V), x = (rd1.under i1).enc → (σe.set r (rd1.under i1).enc).sub (((σe.set r rd1.enc).set q i.enc).set r x) := fun i x hx => by
        rw [hx, hsw]; exact hsub _ _
      cases hio : i1.ok
      · have hcl : i1.close = i1 := by simp [Rdr.close, hio]
        simp only [am]
        refine (ok_calls hci).mono ?_
        rintro v σ' ⟨rfl, rfl⟩
        simp only [am, hio, hbox1, Rdr.ex, Nat.reduceAdd]
        exact retK_intro rfl (fin i1 _ (by rw [Rdr.under, hcl]; rfl)) ⟨rfl, rfl⟩
      · simp only [am, Rdr.ex, hl, encs_length]
        by_cases hlt : i1.at_ < t.kids.length
        · have hcl : i1.close = i1.fail := by simp [Rdr.close, hio, hl, hlt]
          simp only [am, hlt, decide_true]
          refine (fail_calls hci).mono ?_
          rintro v σ' ⟨rfl, rfl⟩
          simp only [am]
          refine (ok_calls (Store.set_same _ _ _)).mono ?_
          rintro v σ' ⟨rfl, rfl⟩
          have hf : i1.fail.ok = false := by
            have : i1.bad = none := by simpa [Rdr.ok] using hio
            simp [Rdr.fail, this, Rdr.ok]
          simp only [am, hf, hbox1, Rdr.ex, Nat.reduceAdd]
          exact retK_intro rfl (fin i1.fail _ (by rw [Rdr.under, hcl]; rfl)) ⟨rfl, rfl⟩
        · have hcl : i1.close = i1 := by simp [Rdr.close, hl, hlt]
          have hu : rd1.under i1 = rd1 := by
            have : i1.bad = none := by simpa [Rdr.ok] using hio
            rw [Rdr.under, hcl, this, ← hbad]
          simp only [am, hlt, decide_false]
          refine (ok_calls hci).mono ?_
          rintro v σ' ⟨rfl, rfl⟩
          simp only [am, hio]
          refine retK_intro rfl ?_ ⟨rfl, rfl⟩
          rw [hu]
          exact hsub _ _
end Go.Proofs.Try

/-
  Names in braces.
-/
namespace Go.Proofs.Try
open Go.Am
set_option maxRecDepth 4000
set_option maxHeartbeats 4000000

theorem words11_calls {o p r τ : Nat} {rows : List (List V)} {rd : Rdr} {σ : Store} (ho : σ.box o = some [.sl (.tk τ) 2 rows]) (hp : σ.box p = some [.ptr (.out r) 0]) (hr : σ.box r = some rd.enc) (hor : o ≠ r)
    (ht : σ.tip τ = some rows.length) (hb : rows.length + 1 ≤ big) (hlen : rd.l.length ≤ big) :
    PCalls prog 64 [.ptr (.out o) 0, .ptr (.out p) 0] σ fun v σ' => v = .tup [] ∧ σ' = ((σ.set r rd.word.2.enc).set o [.sl (.tk τ) 2 (rows ++ [rd.word.1.enc])]).setTip τ (rows.length + 1) := by
  refine fn64.calls ?_
  simp only [slots, ac64, am, ho, hp]
  refine CallD.intro (word_calls hr hlen) ?_
  simp only [am, Word.enc]
  refine appD_tk (by simpa using hb) ht ?_
  have h1 : (σ.set r rd.word.2.enc).box o = some [.sl (.tk τ) 2 rows] := by rw [Store.set_other _ _ hor]; exact ho
  simp only [am, h1, ho]
  exact retK_intro rfl (Store.sub_refl _) ⟨rfl, rfl⟩
/-- Memory while a list grows in a variable. -/
def gStore (σ : Store) (q o τ k : Nat) (rd : Rdr) (rows : List (List V)) : Store := ((σ.set q rd.enc).set o [.sl (.tk τ) k rows]).setTip τ rows.length
def wSys (σ : Store) (q o τ : Nat) : Sys (Rdr × List Word) := ⟨fun a => gStore σ q o τ 2 a.1 (a.2.map Word.enc), fun a => a.1, fun a r => (r, a.2), wStep⟩
theorem go_goG {β : Type} (F : Rdr × List β → Store) (step : Rdr × List β → Rdr × List β) : ∀ (n : Nat) (a : Rdr × List β), Sys.go ⟨F, fun a => a.1, fun a r => (r, a.2), step⟩ n a = goG step n a
  | 0, _ => rfl
  | n + 1, a => by simp only [Sys.go, goG, go_goG F step n]

theorem gStore_q {σ : Store} {q o τ k : Nat} {rd : Rdr} {rows : List (List V)} (h : q ≠ o) : (gStore σ q o τ k rd rows).box q = some rd.enc := by
  simp [gStore, Store.setTip, Store.set, h]
theorem gStore_o {σ : Store} {q o τ k : Nat} {rd : Rdr} {rows : List (List V)} : (gStore σ q o τ k rd rows).box o = some [.sl (.tk τ) k rows] := by
  simp [gStore, Store.setTip, Store.set]
theorem gStore_p {σ : Store} {q o τ k p : Nat} {rd : Rdr} {rows : List (List V)} (h : p ≠ q) (h' : p ≠ o) : (gStore σ q o τ k rd rows).box p = σ.box p := by
  simp [gStore, Store.setTip, Store.set, h, h']
theorem gStore_other {σ : Store} {q o τ k p : Nat} {rd : Rdr} {rows : List (List V)} {cs : List V} (h : p ≠ q) (h' : p ≠ o) : (gStore σ q o τ k rd rows).set p cs = gStore (σ.set p cs) q o τ k rd rows := by
  have : ((σ.set q rd.enc).set o [.sl (.tk τ) k rows]).set p cs = ((σ.set p cs).set q rd.enc).set o [.sl (.tk τ) k rows] := by
    rw [Store.set_comm (Ne.symm h'), Store.set_comm (b := q) (Ne.symm h)]
  show (((σ.set q rd.enc).set o [.sl (.tk τ) k rows]).set p cs).setTip τ rows.length = _
  rw [this]; rfl
theorem sub_set {σ : Store} {p : Nat} {cs : List V} (h : σ.box p = none) : σ.sub (σ.set p cs) := by
  refine ⟨fun b ds hb => ?_, fun _ _ h => h⟩
  have : b ≠ p := by rintro rfl; rw [h] at hb; simp at hb
  rw [Store.set_other _ _ this]; exact hb
theorem gStore_tip {σ : Store} {q o τ k : Nat} {rd : Rdr} {rows : List (List V)} : (gStore σ q o τ k rd rows).tip τ = some rows.length := by
  simp [gStore, Store.setTip]
theorem gStore_set {σ : Store} {q o τ k : Nat} {rd rd' : Rdr} {rows : List (List V)} (h : q ≠ o) : (gStore σ q o τ k rd rows).set q rd'.enc = gStore σ q o τ k rd' rows := by
  have : ((σ.set q rd.enc).set o [.sl (.tk τ) k rows]).set q rd'.enc = (σ.set q rd'.enc).set o [.sl (.tk τ) k rows] := by rw [Store.set_comm (Ne.symm h), Store.set_set]
  show (((σ.set q rd.enc).set o [.sl (.tk τ) k rows]).set q rd'.enc).setTip τ rows.length = _
  rw [this]; rfl
theorem gStore_put {σ : Store} {q o τ k : Nat} {rd rd' : Rdr} {rows : List (List V)} {c : List V} (h : q ≠ o) : (((gStore σ q o τ k rd rows).set q rd'.enc).set o [.sl (.tk τ) k (rows ++ [c])]).setTip τ (rows.length + 1) = gStore σ q o τ k rd' (rows ++ [c]) := by
  rw [gStore_set h]
  unfold gStore
  rw [List.length_append, List.length_cons, List.length_nil]
  show ((((σ.set q rd'.enc).set o [.sl (.tk τ) k rows]).set o [.sl (.tk τ) k (rows ++ [c])]).setTip τ rows.length).setTip τ (rows.length + 1) = _
  rw [Store.set_set, setTip_setTip]

/-- As long as nothing is wrong there are no more elements than trees that have been passed. -/
def Pace {β : Type} (l : List Tree) (a : Rdr × List β) : Prop := a.1.l = l ∧ 0 ≤ a.1.at_ ∧ a.1.at_ ≤ l.length ∧ (a.1.bad = none → (a.2.length : Int) ≤ a.1.at_)

theorem pace_word {l : List Tree} {a : Rdr × List Word} (h : Pace l a) (hb : a.1.bad = none) : Pace l (wStep a) ∧ a.1.at_ ≤ (wStep a).1.at_ := by
  obtain ⟨h1, h2, h3, h4⟩ := h
  have h4 := h4 hb
  rcases a.1.take_at 97 with ⟨_, k1, k2, k3, k4⟩ | ⟨_, k1, k2⟩
  · refine ⟨⟨?_, ?_, ?_, fun _ => ?_⟩, ?_⟩ <;> simp only [wStep, Rdr.word, Rdr.take_l, k1, List.length_append, List.length_cons, List.length_nil]
    · exact h1
    · omega
    · rw [h1] at k4; omega
    · omega
    · omega
  · refine ⟨⟨?_, ?_, ?_, fun hq => absurd hq k2⟩, ?_⟩ <;> simp only [wStep, Rdr.word, Rdr.take_l, k1]
    · exact h1
    · exact h2
    · exact h3
    · omega
theorem pace_take {β : Type} {l : List Tree} {a : Rdr × List β} (h : Pace l a) (hs : a.1.sees 44 = true) : Pace l ((a.1.take 44).2, a.2) ∧ (a.1.take 44).2.bad = none ∧ (a.1.take 44).2.at_ = a.1.at_ + 1 := by
  obtain ⟨h1, h2, h3, h4⟩ := h
  rcases a.1.take_at 44 with ⟨_, k1, k2, k3, k4⟩ | ⟨k0, _⟩
  · have hb : a.1.bad = none := by
      simp only [Rdr.sees, Rdr.ok, Bool.and_eq_true, Option.isNone_iff_eq_none] at hs
      exact hs.1
    have := h4 hb
    rw [h1] at k4
    exact ⟨⟨by simp only [Rdr.take_l]; exact h1, by simp only [k1]; omega, by simp only [k1]; omega, fun _ => by simp only [k1]; omega⟩, k2, k1⟩
  · rw [hs] at k0; simp at k0

theorem words1_calls {o q τ : Nat} {rd : Rdr} {σ : Store} (hqo : q ≠ o) (hat : rd.at_ = 0) (hbad : rd.bad = none) (hlen : rd.l.length + 1 ≤ big) :
    PCalls prog 62 [.ptr (.out q) 0, .ptr (.out o) 0] (gStore σ q o τ 2 rd []) fun v σ' => v = .tup [] ∧ σ' = gStore σ q o τ 2 (someG wStep rd).1 ((someG wStep rd).2.map Word.enc) := by
  refine fn62.calls ?_
  simp only [slots, ac62, am]
  refine kO_intro fun p hp => ?_
  have hpq : p ≠ q := by rintro rfl; rw [gStore_q hqo] at hp; simp at hp
  have hpo : p ≠ o := by rintro rfl; rw [gStore_o] at hp; simp at hp
  rw [gStore_other hpq hpo]
  simp only [am, gStore_p hpq hpo]
  have hstep : ∀ a : Rdr × List Word, Pace rd.l a → a.1.bad = none → PCalls prog 64 [.ptr (.out o) 0, .ptr (.out p) 0] (gStore (σ.set p [.ptr (.out q) 0]) q o τ 2 a.1 (a.2.map Word.enc)) fun v σ' =>
      v = .tup [] ∧ σ' = gStore (σ.set p [.ptr (.out q) 0]) q o τ 2 (wStep a).1 ((wStep a).2.map Word.enc) := fun a hp' hb => by
    have hl := hp'.2.2.2 hb
    have hl2 := hp'.2.2.1
    refine (words11_calls gStore_o (by rw [gStore_p hpq hpo, Store.set_same]) (gStore_q hqo) (Ne.symm hqo) gStore_tip (by rw [List.length_map]; omega) (by rw [hp'.1]; omega)).mono ?_
    rintro v σ' ⟨rfl, rfl⟩
    refine ⟨rfl, ?_⟩
    rw [gStore_put hqo]
    simp [wStep]
  have h0 : Pace rd.l (rd, ([] : List Word)) := ⟨rfl, by simp [hat], by simp [hat], fun _ => by simp [hat]⟩
  obtain ⟨p1, _⟩ := pace_word h0 hbad
  refine (some_calls (wSys (σ.set p [.ptr (.out q) 0]) q o τ) (Pace rd.l) (a := (rd, [])) (n := rd.l.length) (by simp [am]) (fun a h => gStore_q hqo) (fun a h => ?_) (fun a h hs => gStore_set hqo) (fun a h hs => ?_) (hstep _ h0 hbad) p1 ?_).mono ?_
  · show a.1.l.length ≤ big
    rw [h.1]; omega
  · obtain ⟨k1, k2, k3⟩ := pace_take h hs
    obtain ⟨k4, k5⟩ := pace_word k1 k2
    refine ⟨hstep _ k1 k2, k4, ?_, ?_⟩
    · exact k4.1.trans h.1.symm
    · show a.1.at_ + 1 ≤ _
      simp only at k5
      rw [k3] at k5
      exact k5
  · show (wStep (rd, [])).1.l.length ≤ rd.l.length
    rw [p1.1]; omega
  rintro v σ' ⟨rfl, rfl⟩
  simp only [am]
  refine retK_intro rfl (σ' := gStore σ q o τ 2 (someG wStep rd).1 ((someG wStep rd).2.map Word.enc)) ?_ ⟨rfl, rfl⟩
  have e : (wSys (σ.set p [.ptr (.out q) 0]) q o τ).F ((wSys (σ.set p [.ptr (.out q) 0]) q o τ).go rd.l.length ((wSys (σ.set p [.ptr (.out q) 0]) q o τ).step (rd, []))) = gStore (σ.set p [.ptr (.out q) 0]) q o τ 2 (someG wStep rd).1 ((someG wStep rd).2.map Word.enc) := by
    unfold wSys
    rw [go_goG]
    rfl
  rw [e, ← gStore_other hpq hpo]
  exact sub_set (by rw [gStore_p hpq hpo]; rw [gStore_p hpq hpo] at hp; exact hp)

theorem go_l {β : Type} {l : List Tree} {step : Rdr × List β → Rdr × List β} (hs : ∀ a, a.1.l = l → (step a).1.l = l) : ∀ (n : Nat) (a : Rdr × List β), a.1.l = l → (goG step n a).1.l = l
  | 0, _, h => h
  | n + 1, a, h => by
    simp only [goG]
    split
    · exact go_l hs n _ (hs _ (by rw [Rdr.take_l]; exact h))
    · exact h
theorem inside_l {β : Type} {step : Rdr × List β → Rdr × List β} (hs : ∀ l a, a.1.l = l → (step a).1.l = l) (empty : Bool) (t : Tree) : (Rdr.inside step empty t).1.l = t.kids := by
  unfold Rdr.inside
  split
  · rfl
  · exact go_l (hs _) _ _ (hs _ _ rfl)
theorem wStep_l (l : List Tree) (a : Rdr × List Word) (h : a.1.l = l) : (wStep a).1.l = l := by simp [wStep, Rdr.word, Rdr.take_l, h]

theorem words_calls {r : Nat} {empty : Bool} {rd : Rdr} {σ : Store} (h : σ.box r = some rd.enc) (hlen : rd.l.length ≤ big) (hkids : (rd.take 123).1.kids.length + 1 ≤ big) :
    PCalls prog 31 [.ptr (.out r) 0, .bool empty] σ fun v σ' => v = .tup [.sl .no 2 ((rd.words empty).1.1.map Word.enc), .int .i64 (rd.words empty).1.2] ∧ σ' = σ.set r (rd.words empty).2.enc := by
  refine fn31.calls ?_
  simp only [slots, ac31, am]
  refine kO_intro fun o ho => ?_
  have hor : o ≠ r := by rintro rfl; rw [h] at ho; simp at ho
  simp only [am]
  refine Upd.tok 0 fun τ hτ => ⟨_, _, _, LTo.rfl, rfl, fun i c hc => ⟨c, hc, LTo.rfl⟩, OTo.set (cs := [.sl .full 2 []]) (cs' := [.sl (.tk τ) 2 []]) (Store.set_same _ _ _) ⟨VTo.tok rfl, trivial⟩, ?_⟩
  simp only [am]
  have h1 : ((σ.set o [.sl (.tk τ) 2 []]).setTip τ 0).box r = some rd.enc := by
    show (σ.set o _).box r = _
    rw [Store.set_other _ _ (Ne.symm hor)]; exact h
  have hne : ∀ q, ((σ.set o [V.sl (.tk τ) 2 []]).setTip τ 0).box q = none → q ≠ o ∧ q ≠ r ∧ σ.box q = none := fun q hq => by
    have hqo : q ≠ o := by rintro rfl; rw [show ((σ.set q [V.sl (.tk τ) 2 []]).setTip τ 0).box q = _ from Store.set_same _ _ _] at hq; simp at hq
    have hq' : σ.box q = none := by rw [← Store.set_other σ [V.sl (.tk τ) 2 []] hqo]; exact hq
    exact ⟨hqo, by rintro rfl; rw [h] at hq'; simp at hq', hq'⟩
  generalize hin : Rdr.inside wStep empty (rd.take 123).1 = ins
  have hinl : ins.1.l = (rd.take 123).1.kids := by rw [← hin]; exact inside_l wStep_l _ _
  refine (within_calls (kind := 123) (by simp [am]) h1 hlen (by omega) ins.1 ((σ.set o [.sl (.tk τ) 2 (ins.2.map Word.enc)]).setTip τ (ins.2.map Word.enc).length) ?_ ?_ ?_ hinl).mono ?_
  · intro hok hc q hq
    obtain ⟨hqo, hqr, _⟩ := hne q hq
    have e1 : (((σ.set o [V.sl (.tk τ) 2 []]).setTip τ 0).set r (rd.take 123).2.enc).set q (rd.take 123).1.inner.enc = gStore (σ.set r (rd.take 123).2.enc) q o τ 2 (rd.take 123).1.inner [] := by
      unfold gStore
      rw [Store.set_comm (b := q) hqo, Store.set_comm (b := r) (Ne.symm hor)]
      rfl
    have e2 : (((σ.set o [V.sl (.tk τ) 2 (ins.2.map Word.enc)]).setTip τ (ins.2.map Word.enc).length).set r (rd.take 123).2.enc).set q ins.1.enc = gStore (σ.set r (rd.take 123).2.enc) q o τ 2 ins.1 (ins.2.map Word.enc) := by
      unfold gStore
      rw [Store.set_comm (b := q) hqo, Store.set_comm (b := r) (Ne.symm hor)]
      rfl
    have e3 : ins = someG wStep (rd.take 123).1.inner := by
      rw [← hin, Rdr.inside, if_neg]
      rintro ⟨q1, q2⟩
      rcases hc with hc | hc
      · rw [q1] at hc; simp at hc
      · exact hc q2
    rw [e1, e2, e3]
    exact words1_calls hqo rfl rfl hkids
  · intro q1 q2
    have : ins = ((rd.take 123).1.inner, []) := by rw [← hin, Rdr.inside, if_pos ⟨q1, q2⟩]
    rw [this]
    exact ⟨rfl, rfl⟩
  · intro q hq
    obtain ⟨hqo, _, hq'⟩ := hne q hq
    show (σ.set o _).box q = none
    rw [Store.set_other _ _ hqo]; exact hq'
  rintro v σ' hv
  have hdrop : ∀ (A B : List V) (n : Nat), (σ.set r A).sub (((σ.set o B).setTip τ n).set r A) := fun A B n => by
    refine ⟨fun b cs hb => ?_, fun υ m hm => ?_⟩
    · have hbo : b ≠ o := by rintro rfl; rw [Store.set_other _ _ hor, ho] at hb; simp at hb
      by_cases hbr : b = r
      · subst hbr; rw [Store.set_same] at hb ⊢; exact hb
      · rw [Store.set_other _ _ hbr] at hb ⊢
        show (σ.set o B).box b = _
        rw [Store.set_other _ _ hbo]; exact hb
    · have hm' : σ.tip υ = some m := hm
      have hne' : υ ≠ τ := by rintro rfl; rw [show (σ.set o [V.sl .full 2 []]).tip υ = σ.tip υ from rfl] at hτ; rw [hτ] at hm'; simp at hm'
      show ((σ.set o B).setTip τ n).tip υ = some m
      rw [setTip_tip_ne hne']; exact hm'
  split at hv
  · rename_i hok
    obtain ⟨rfl, rfl⟩ := hv
    have hb : (((σ.set o [V.sl (.tk τ) 2 (ins.2.map Word.enc)]).setTip τ (ins.2.map Word.enc).length).set r ((rd.take 123).2.under ins.1).enc).box o = some [V.sl (.tk τ) 2 (ins.2.map Word.enc)] := by
      rw [Store.set_other _ _ hor]; exact Store.set_same _ _ _
    simp only [am, hb]
    refine retK_intro rfl (hdrop _ _ _) ⟨?_, ?_⟩
    · simp [Rdr.words, Rdr.bracket, hok, hin, V.erase, eraseL]
    · simp [Rdr.words, Rdr.bracket, hok, hin]
  · rename_i hok
    obtain ⟨rfl, rfl⟩ := hv
    have hb : (((σ.set o [V.sl (.tk τ) 2 []]).setTip τ 0).set r (rd.take 123).2.enc).box o = some [V.sl (.tk τ) 2 []] := by
      rw [Store.set_other _ _ hor]; exact Store.set_same _ _ _
    simp only [am, hb]
    refine retK_intro rfl (hdrop _ _ _) ⟨?_, ?_⟩
    · simp [Rdr.words, Rdr.bracket, hok, V.erase, eraseL]
    · simp [Rdr.words, Rdr.bracket, hok]
end Go.Proofs.Try

namespace Go.Proofs.Try
open Go.Am

/-- (*clearance/term.reader).kids -/
def ac68 : AC :=
  .seq (.reg [⟨(some 7), .boxO 1 (.s 3), none⟩,
     ⟨(some 8), .mv (.c (.sl .full 5 [])), none⟩,
     ⟨(some 9), .mv (.c (.int .i64 0)), none⟩])
  (.seq (.reg [⟨(some 10), .allocO [(.sl .full 5 [])], none⟩])
   (.seq (.upd (.reg [⟨(some 12), .mv (.s 0), none⟩,
       ⟨(some 13), .mv (.s 1), none⟩,
       ⟨(some 14), .mv (.s 2), none⟩,
       ⟨(some 15), .mkfn (.func 86) [] [(.s 10), (.s 7)], none⟩,
       ⟨(some 16), .call 61 [(.s 12), (.s 13), (.s 14), (.s 15)], none⟩,
       ⟨(some 11), .mv (.s 16), none⟩]))
    (.seq (.reg [⟨(some 17), .load false 1 (.s 10), none⟩,
        ⟨(some 18), .mv (.s 11), none⟩,
        ⟨(some 8), .mv (.s 17), none⟩,
        ⟨(some 9), .mv (.s 18), none⟩])
     (.ret))))
theorem fn68 : IsFn prog 68 ac68 [.tmp 8, .tmp 9] 19 := ⟨f68, ⟨[7, 10], [2]⟩, func68, by kernel_rfl, by kernel_rfl, by kernel_rfl, by kernel_rfl⟩

/-- (*clearance/term.reader).kids$1 -/
def ac86 : AC :=
  .seq (.reg [⟨(some 3), .boxO 1 (.s 0), none⟩])
  (.reg [⟨(some 4), .load false 1 (.s 3), none⟩,
     ⟨(some 5), .mkfn (.func 87) [] [(.s 1), (.s 2), (.s 3)], none⟩,
     ⟨(some 6), .call 63 [(.s 4), (.s 5)], none⟩])
theorem fn86 : IsFn prog 86 ac86 [] 7 := ⟨f86, ⟨[3], []⟩, func86, by kernel_rfl, by kernel_rfl, by kernel_rfl, by kernel_rfl⟩

/-- (*clearance/term.reader).kids$1$1 -/
def ac87 : AC :=
  .hole [(⟨(some 3), .load false 1 (.s 0), none⟩, [1]),
    (⟨(some 4), .load false 1 (.s 1), none⟩, []),
    (⟨(some 5), .load false 1 (.s 2), none⟩, []),
    (⟨(some 6), .callv (.s 4) [(.s 5)], none⟩, []),
    (⟨(some 7), .lenS (.s 3), none⟩, []),
    (⟨(some 8), .bslice 5 [(.c (.agg [(.int .i64 0), (.int .i64 0), (.str []), (.sl .full 2 []), (.sl .full 5 [])]))], none⟩, []),
    (⟨(some 9), .mv (.c .any), none⟩, []),
    (⟨(some 10), .mv (.c .any), none⟩, []),
    (⟨none, .mv (.c .any), none⟩, []),
    (⟨none, .mv (.c .any), none⟩, [])]
  ⟨5, (.s 3), (.s 8), (.s 7), (.s 6), (.s 0), none, 9, 10, 20⟩
theorem fn87 : IsFn prog 87 ac87 [] 11 := ⟨f87, ⟨[], []⟩, func87, by kernel_rfl, by kernel_rfl, by kernel_rfl, by kernel_rfl⟩

/-- (*clearance/term.reader).constant -/
def ac38 : AC :=
  .seq (.reg [⟨(some 2), .alloc [(.int .i64 0), (.int .i64 0), (.str []), (.sl .full 2 []), (.sl .full 5 [])], none⟩])
  (.seq (.reg [⟨(some 5), .build [(.int .i64 0), (.int .i64 0), (.str []), (.sl .full 2 []), (.sl .full 5 [])] [], none⟩,
      ⟨(some 3), .alloc [(.int .i64 0), (.int .i64 0), (.str []), (.sl .full 2 []), (.sl .full 5 [])], none⟩,
      ⟨none, .store 5 (.s 3) (.s 5), none⟩])
   (.seq (.block 0 (.seq (.reg [⟨(some 14), .mv (.s 0), none⟩,
         ⟨(some 15), .call 67 [(.s 14), (.c (.int .u8 123))], none⟩,
         ⟨(some 13), .mv (.s 15), none⟩])
      (.cond (.s 13) (.seq (.reg [⟨(some 16), .fld 0 (.s 3), none⟩,
           ⟨none, .store 1 (.s 16) (.c (.int .i64 3)), none⟩])
        (.reg [⟨(some 18), .mv (.s 0), none⟩,
           ⟨(some 19), .call 31 [(.s 18), (.c (.bool true))], none⟩,
           ⟨(some 17), .mv (.s 19), none⟩,
           ⟨(some 20), .ext (.s 17) 0, none⟩,
           ⟨(some 21), .ext (.s 17) 1, none⟩,
           ⟨(some 22), .fld 3 (.s 3), none⟩,
           ⟨none, .store 1 (.s 22) (.s 20), none⟩,
           ⟨(some 23), .fld 1 (.s 3), none⟩,
           ⟨none, .store 1 (.s 23) (.s 21), none⟩]))
       (.seq (.reg [⟨(some 25), .mv (.s 0), none⟩,
           ⟨(some 26), .call 67 [(.s 25), (.c (.int .u8 40))], none⟩,
           ⟨(some 24), .mv (.s 26), none⟩])
        (.cond (.s 24) (.seq (.reg [⟨(some 27), .fld 0 (.s 3), none⟩,
             ⟨none, .store 1 (.s 27) (.c (.int .i64 4)), none⟩])
          (.reg [⟨(some 29), .mv (.s 0), none⟩,
             ⟨(some 30), .call 68 [(.s 29), (.c (.int .u8 40)), (.c (.bool false)), (.c (.fn (.func 38) [] []))], none⟩,
             ⟨(some 28), .mv (.s 30), none⟩,
             ⟨(some 31), .ext (.s 28) 0, none⟩,
             ⟨(some 32), .ext (.s 28) 1, none⟩,
             ⟨(some 33), .fld 4 (.s 3), none⟩,
             ⟨none, .store 1 (.s 33) (.s 31), none⟩,
             ⟨(some 34), .fld 1 (.s 3), none⟩,
             ⟨none, .store 1 (.s 34) (.s 32), none⟩]))
         (.seq (.reg [⟨(some 36), .mv (.s 0), none⟩,
             ⟨(some 37), .call 67 [(.s 36), (.c (.int .u8 91))], none⟩,
             ⟨(some 35), .mv (.s 37), none⟩])
          (.cond (.s 35) (.seq (.reg [⟨(some 38), .fld 0 (.s 3), none⟩,
               ⟨none, .store 1 (.s 38) (.c (.int .i64 5)), none⟩])
            (.reg [⟨(some 40), .mv (.s 0), none⟩,
               ⟨(some 41), .call 68 [(.s 40), (.c (.int .u8 91)), (.c (.bool true)), (.c (.fn (.func 69) [] []))], none⟩,
               ⟨(some 39), .mv (.s 41), none⟩,
               ⟨(some 42), .ext (.s 39) 0, none⟩,
               ⟨(some 43), .ext (.s 39) 1, none⟩,
               ⟨(some 44), .fld 4 (.s 3), none⟩,
               ⟨none, .store 1 (.s 44) (.s 42), none⟩,
               ⟨(some 45), .fld 1 (.s 3), none⟩,
               ⟨none, .store 1 (.s 45) (.s 43), none⟩]))
           (.seq (.reg [⟨(some 6), .mv (.s 0), none⟩,
               ⟨(some 7), .call 65 [(.s 6)], none⟩,
               ⟨(some 4), .alloc [(.str []), (.int .i64 0)], none⟩,
               ⟨none, .store 2 (.s 4) (.s 7), none⟩])
            (.reg [⟨(some 8), .fld 1 (.s 4), none⟩,
               ⟨(some 9), .load false 1 (.s 8), none⟩,
               ⟨(some 10), .fld 0 (.s 4), none⟩,
               ⟨(some 11), .load false 1 (.s 10), none⟩,
               ⟨(some 12), .build [(.int .i64 0), (.int .i64 0), (.str []), (.sl .full 2 []), (.sl .full 5 [])] [(0, 1, (.c (.int .i64 2))), (1, 1, (.s 9)), (2, 1, (.s 11))], none⟩,
               ⟨none, .store 5 (.s 3) (.s 12), none⟩])))))))))
    (.seq (.reg [⟨(some 46), .load true 5 (.s 3), none⟩,
        ⟨none, .store 5 (.s 2) (.s 46), none⟩])
     (.ret))))
theorem fn38 : IsFn prog 38 ac38 [.cell 2 true 5] 47 := ⟨f38, ⟨[], []⟩, func38, by kernel_rfl, by kernel_rfl, by kernel_rfl, by kernel_rfl⟩

/-- (*clearance/term.reader).rule -/
def ac69 : AC :=
  .seq (.reg [⟨(some 2), .alloc [(.int .i64 0), (.int .i64 0), (.str []), (.sl .full 2 []), (.sl .full 5 [])], none⟩])
  (.seq (.reg [⟨(some 6), .mv (.s 0), none⟩,
      ⟨(some 7), .call 65 [(.s 6)], none⟩,
      ⟨(some 3), .alloc [(.str []), (.int .i64 0)], none⟩,
      ⟨none, .store 2 (.s 3) (.s 7), none⟩])
   (.seq (.reg [⟨(some 8), .mv (.s 0), none⟩,
       ⟨(some 9), .call 71 [(.s 8), (.c (.int .u8 58))], none⟩])
    (.seq (.reg [⟨(some 11), .mv (.s 0), none⟩,
        ⟨(some 12), .call 31 [(.s 11), (.c (.bool true))], none⟩,
        ⟨(some 10), .mv (.s 12), none⟩,
        ⟨(some 13), .ext (.s 10) 0, none⟩,
        ⟨(some 14), .ext (.s 10) 1, none⟩,
        ⟨(some 4), .mv (.s 13), none⟩,
        ⟨(some 5), .mv (.s 14), none⟩])
     (.seq (.reg [⟨(some 15), .fld 1 (.s 3), none⟩,
         ⟨(some 16), .load false 1 (.s 15), none⟩,
         ⟨(some 17), .fld 0 (.s 3), none⟩,
         ⟨(some 18), .load false 1 (.s 17), none⟩,
         ⟨(some 19), .mv (.s 4), none⟩,
         ⟨(some 20), .build [(.int .i64 0), (.int .i64 0), (.str []), (.sl .full 2 []), (.sl .full 5 [])] [(0, 1, (.c (.int .i64 6))), (1, 1, (.s 16)), (2, 1, (.s 18)), (3, 1, (.s 19))], none⟩,
         ⟨none, .store 5 (.s 2) (.s 20), none⟩])
      (.ret)))))
theorem fn69 : IsFn prog 69 ac69 [.cell 2 true 5] 21 := ⟨f69, ⟨[], []⟩, func69, by kernel_rfl, by kernel_rfl, by kernel_rfl, by kernel_rfl⟩

/-- (*clearance/term.reader).atom -/
def ac72 : AC :=
  .seq (.reg [⟨(some 2), .alloc [(.int .i64 0), (.int .i64 0), (.str []), (.sl .full 2 []), (.sl .full 5 [])], none⟩])
  (.seq (.seq (.reg [⟨(some 5), .mv (.s 0), none⟩,
       ⟨(some 6), .call 67 [(.s 5), (.c (.int .u8 35))], none⟩])
    (.cond (.s 6) (.seq (.reg [⟨(some 7), .mv (.s 0), none⟩,
         ⟨(some 8), .call 71 [(.s 7), (.c (.int .u8 35))], none⟩,
         ⟨(some 3), .alloc [(.int .u8 0), (.str []), (.int .i64 0), (.sl .full 5 []), (.int .i64 0)], none⟩,
         ⟨none, .store 5 (.s 3) (.s 8), none⟩])
      (.seq (.draw [(⟨(some 9), .fld 0 (.s 3), none⟩, []),
          (⟨(some 10), .fld 2 (.s 9), none⟩, []),
          (⟨(some 11), .load false 1 (.s 10), none⟩, [1]),
          (⟨(some 12), .mv (.s 0), none⟩, []),
          (⟨(some 13), .call 38 [(.s 12)], none⟩, []),
          (⟨(some 14), .bslice 5 [(.s 13)], none⟩, []),
          (⟨(some 15), .build [(.int .i64 0), (.int .i64 0), (.str []), (.sl .full 2 []), (.sl .full 5 [])] [(0, 1, (.c (.int .i64 7))), (1, 1, (.s 11)), (4, 1, (.s 14))], none⟩, []),
          (⟨none, .store 5 (.s 2) (.s 15), none⟩, [])])
       (.ret)))
     (.skip)))
   (.seq (.reg [⟨(some 16), .mv (.s 0), none⟩,
       ⟨(some 17), .call 65 [(.s 16)], none⟩,
       ⟨(some 4), .alloc [(.str []), (.int .i64 0)], none⟩,
       ⟨none, .store 2 (.s 4) (.s 17), none⟩])
    (.seq (.reg [⟨(some 18), .fld 1 (.s 4), none⟩,
        ⟨(some 19), .load false 1 (.s 18), none⟩,
        ⟨(some 20), .fld 0 (.s 4), none⟩,
        ⟨(some 21), .load false 1 (.s 20), none⟩,
        ⟨(some 22), .build [(.int .i64 0), (.int .i64 0), (.str []), (.sl .full 2 []), (.sl .full 5 [])] [(0, 1, (.c (.int .i64 1))), (1, 1, (.s 19)), (2, 1, (.s 21))], none⟩,
        ⟨none, .store 5 (.s 2) (.s 22), none⟩])
     (.ret))))
theorem fn72 : IsFn prog 72 ac72 [.cell 2 true 5] 23 := ⟨f72, ⟨[], []⟩, func72, by kernel_rfl, by kernel_rfl, by kernel_rfl, by kernel_rfl⟩

/-- (*clearance/term.reader).label -/
def ac44 : AC :=
  .seq (.reg [⟨(some 2), .alloc [(.int .i64 0), (.int .i64 0), (.str []), (.sl .full 2 []), (.sl .full 5 [])], none⟩])
  (.seq (.seq (.reg [⟨(some 9), .bslice 1 [(.c (.int .u8 43)), (.c (.int .u8 38))], none⟩,
       ⟨(some 10), .lenS (.s 9), none⟩,
       ⟨(some 11), .mv (.c (.int .i64 0)), none⟩])
    (.block 0 (.loop (.seq (.reg [⟨(some 12), .binI .lss (.s 11) (.s 10), none⟩])
       (.seq (.cond (.s 12) (.skip)
         (.exit 0))
        (.seq (.block 1 (.seq (.reg [⟨(some 13), .idxA 1 (.s 9) (.s 11), none⟩,
              ⟨(some 14), .load false 1 (.s 13), none⟩,
              ⟨(some 4), .mv (.s 14), none⟩])
           (.seq (.seq (.reg [⟨(some 15), .mv (.s 0), none⟩,
                ⟨(some 16), .mv (.s 4), none⟩,
                ⟨(some 17), .call 67 [(.s 15), (.s 16)], none⟩,
                ⟨(some 18), .not (.s 17), none⟩])
             (.cond (.s 18) (.exit 1)
              (.skip)))
            (.seq (.reg [⟨(some 19), .mv (.s 0), none⟩,
                ⟨(some 20), .mv (.s 4), none⟩,
                ⟨(some 21), .call 71 [(.s 19), (.s 20)], none⟩,
                ⟨(some 5), .alloc [(.int .u8 0), (.str []), (.int .i64 0), (.sl .full 5 []), (.int .i64 0)], none⟩,
                ⟨none, .store 5 (.s 5) (.s 21), none⟩])
             (.seq (.reg [⟨(some 6), .mv (.c (.int .i64 8)), none⟩])
              (.seq (.seq (.reg [⟨(some 22), .mv (.s 4), none⟩,
                   ⟨(some 23), .binI .eql (.s 22) (.c (.int .u8 38)), none⟩])
                (.cond (.s 23) (.reg [⟨(some 6), .mv (.c (.int .i64 9)), none⟩])
                 (.skip)))
               (.seq (.reg [⟨(some 25), .mv (.s 0), none⟩,
                   ⟨(some 26), .call 68 [(.s 25), (.c (.int .u8 40)), (.c (.bool false)), (.c (.fn (.func 44) [] []))], none⟩,
                   ⟨(some 24), .mv (.s 26), none⟩,
                   ⟨(some 27), .ext (.s 24) 0, none⟩,
                   ⟨(some 28), .ext (.s 24) 1, none⟩,
                   ⟨(some 7), .mv (.s 27), none⟩,
                   ⟨(some 8), .mv (.s 28), none⟩])
                (.seq (.reg [⟨(some 29), .mv (.s 6), none⟩,
                    ⟨(some 30), .fld 0 (.s 5), none⟩,
                    ⟨(some 31), .fld 2 (.s 30), none⟩,
                    ⟨(some 32), .load false 1 (.s 31), none⟩,
                    ⟨(some 33), .mv (.s 7), none⟩,
                    ⟨(some 34), .build [(.int .i64 0), (.int .i64 0), (.str []), (.sl .full 2 []), (.sl .full 5 [])] [(0, 1, (.s 29)), (1, 1, (.s 32)), (4, 1, (.s 33))], none⟩,
                    ⟨none, .store 5 (.s 2) (.s 34), none⟩])
                 (.ret)))))))))
         (.reg [⟨(some 35), .binI .add (.s 11) (.c (.int .i64 1)), none⟩,
            ⟨(some 11), .mv (.s 35), none⟩])))))))
   (.seq (.reg [⟨(some 36), .mv (.s 0), none⟩,
       ⟨(some 37), .call 72 [(.s 36)], none⟩,
       ⟨none, .store 5 (.s 2) (.s 37), none⟩])
    (.ret)))
theorem fn44 : IsFn prog 44 ac44 [.cell 2 true 5] 38 := ⟨f44, ⟨[], []⟩, func44, by kernel_rfl, by kernel_rfl, by kernel_rfl, by kernel_rfl⟩

/-- (*clearance/term.reader).field -/
def ac75 : AC :=
  .seq (.reg [⟨(some 2), .alloc [(.int .i64 0), (.int .i64 0), (.str []), (.sl .full 2 []), (.sl .full 5 [])], none⟩])
  (.seq (.reg [⟨(some 4), .mv (.s 0), none⟩,
      ⟨(some 5), .call 65 [(.s 4)], none⟩,
      ⟨(some 3), .alloc [(.str []), (.int .i64 0)], none⟩,
      ⟨none, .store 2 (.s 3) (.s 5), none⟩])
   (.seq (.reg [⟨(some 6), .mv (.s 0), none⟩,
       ⟨(some 7), .call 71 [(.s 6), (.c (.int .u8 61))], none⟩])
    (.seq (.draw [(⟨(some 8), .fld 1 (.s 3), none⟩, []),
        (⟨(some 9), .load false 1 (.s 8), none⟩, [1]),
        (⟨(some 10), .fld 0 (.s 3), none⟩, []),
        (⟨(some 11), .load false 1 (.s 10), none⟩, [1]),
        (⟨(some 12), .mv (.s 0), none⟩, []),
        (⟨(some 13), .call 72 [(.s 12)], none⟩, []),
        (⟨(some 14), .bslice 5 [(.s 13)], none⟩, []),
        (⟨(some 15), .build [(.int .i64 0), (.int .i64 0), (.str []), (.sl .full 2 []), (.sl .full 5 [])] [(0, 1, (.c (.int .i64 11))), (1, 1, (.s 9)), (2, 1, (.s 11)), (4, 1, (.s 14))], none⟩, []),
        (⟨none, .store 5 (.s 2) (.s 15), none⟩, [])])
     (.ret))))
theorem fn75 : IsFn prog 75 ac75 [.cell 2 true 5] 16 := ⟨f75, ⟨[], []⟩, func75, by kernel_rfl, by kernel_rfl, by kernel_rfl, by kernel_rfl⟩

/-- (*clearance/term.reader).row -/
def ac45 : AC :=
  .seq (.reg [⟨(some 2), .alloc [(.int .i64 0), (.int .i64 0), (.str []), (.sl .full 2 []), (.sl .full 5 [])], none⟩])
  (.seq (.seq (.reg [⟨(some 5), .mv (.s 0), none⟩,
       ⟨(some 6), .call 67 [(.s 5), (.c (.int .u8 91))], none⟩,
       ⟨(some 7), .not (.s 6), none⟩])
    (.cond (.s 7) (.seq (.reg [⟨(some 8), .mv (.s 0), none⟩,
         ⟨(some 9), .call 65 [(.s 8)], none⟩,
         ⟨(some 3), .alloc [(.str []), (.int .i64 0)], none⟩,
         ⟨none, .store 2 (.s 3) (.s 9), none⟩])
      (.seq (.reg [⟨(some 10), .fld 1 (.s 3), none⟩,
          ⟨(some 11), .load false 1 (.s 10), none⟩,
          ⟨(some 12), .fld 0 (.s 3), none⟩,
          ⟨(some 13), .load false 1 (.s 12), none⟩,
          ⟨(some 14), .build [(.int .i64 0), (.int .i64 0), (.str []), (.sl .full 2 []), (.sl .full 5 [])] [(0, 1, (.c (.int .i64 1))), (1, 1, (.s 11)), (2, 1, (.s 13))], none⟩,
          ⟨none, .store 5 (.s 2) (.s 14), none⟩])
       (.ret)))
     (.skip)))
   (.seq (.reg [⟨(some 15), .build [(.int .i64 0), (.int .i64 0), (.str []), (.sl .full 2 []), (.sl .full 5 [])] [(0, 1, (.c (.int .i64 10)))], none⟩,
       ⟨(some 4), .allocO [(.int .i64 0), (.int .i64 0), (.str []), (.sl .full 2 []), (.sl .full 5 [])], none⟩,
       ⟨none, .store 5 (.s 4) (.s 15), none⟩])
    (.seq (.upd (.reg [⟨(some 16), .mv (.s 0), none⟩,
        ⟨(some 17), .mkfn (.func 73) [] [(.s 4)], none⟩,
        ⟨(some 18), .call 61 [(.s 16), (.c (.int .u8 91)), (.c (.bool true)), (.s 17)], none⟩,
        ⟨(some 19), .fld 1 (.s 4), none⟩,
        ⟨none, .store 1 (.s 19) (.s 18), none⟩]))
     (.seq (.reg [⟨(some 20), .load true 5 (.s 4), none⟩,
         ⟨none, .store 5 (.s 2) (.s 20), none⟩])
      (.ret)))))
theorem fn45 : IsFn prog 45 ac45 [.cell 2 true 5] 21 := ⟨f45, ⟨[4], [5]⟩, func45, by kernel_rfl, by kernel_rfl, by kernel_rfl, by kernel_rfl⟩

/-- (*clearance/term.reader).row$1 -/
def ac73 : AC :=
  .seq (.reg [⟨(some 2), .boxO 1 (.s 0), none⟩])
  (.seq (.seq (.reg [⟨(some 3), .load false 1 (.s 2), none⟩,
       ⟨(some 4), .call 67 [(.s 3), (.c (.int .u8 124))], none⟩,
       ⟨(some 5), .not (.s 4), none⟩])
    (.cond (.s 5) (.reg [⟨(some 6), .load false 1 (.s 2), none⟩,
        ⟨(some 7), .mkfn (.func 74) [] [(.s 1), (.s 2)], none⟩,
        ⟨(some 8), .call 63 [(.s 6), (.s 7)], none⟩])
     (.skip)))
   (.seq (.reg [⟨(some 9), .load false 1 (.s 2), none⟩,
       ⟨(some 10), .call 67 [(.s 9), (.c (.int .u8 124))], none⟩])
    (.cond (.s 10) (.seq (.reg [⟨(some 11), .load false 1 (.s 2), none⟩,
         ⟨(some 12), .call 71 [(.s 11), (.c (.int .u8 124))], none⟩])
      (.reg [⟨(some 13), .load false 1 (.s 2), none⟩,
         ⟨(some 14), .call 65 [(.s 13)], none⟩,
         ⟨(some 15), .bslice 2 [(.s 14)], none⟩,
         ⟨(some 16), .fld 3 (.s 1), none⟩,
         ⟨none, .store 1 (.s 16) (.s 15), none⟩]))
     (.skip))))
theorem fn73 : IsFn prog 73 ac73 [] 17 := ⟨f73, ⟨[2], []⟩, func73, by kernel_rfl, by kernel_rfl, by kernel_rfl, by kernel_rfl⟩

/-- (*clearance/term.reader).row$1$1 -/
def ac74 : AC :=
  .hole [(⟨(some 2), .fld 4 (.s 0), none⟩, []),
    (⟨(some 3), .load false 1 (.s 2), none⟩, [1]),
    (⟨(some 4), .load false 1 (.s 1), none⟩, []),
    (⟨(some 5), .call 75 [(.s 4)], none⟩, []),
    (⟨(some 6), .lenS (.s 3), none⟩, []),
    (⟨(some 7), .bslice 5 [(.c (.agg [(.int .i64 0), (.int .i64 0), (.str []), (.sl .full 2 []), (.sl .full 5 [])]))], none⟩, []),
    (⟨(some 8), .mv (.c .any), none⟩, []),
    (⟨(some 9), .mv (.c .any), none⟩, []),
    (⟨none, .mv (.c .any), none⟩, []),
    (⟨(some 10), .mv (.c .any), none⟩, []),
    (⟨none, .mv (.c .any), none⟩, [])]
  ⟨5, (.s 3), (.s 7), (.s 6), (.s 5), (.s 0), (some 4), 8, 9, 10⟩
theorem fn74 : IsFn prog 74 ac74 [] 11 := ⟨f74, ⟨[], []⟩, func74, by kernel_rfl, by kernel_rfl, by kernel_rfl, by kernel_rfl⟩

/-- clearance/term.read -/
def ac37 : AC :=
  .seq (.reg [⟨(some 8), .alloc [(.int .i64 0), (.int .i64 0), (.str []), (.sl .full 2 []), (.sl .full 5 [])], none⟩,
     ⟨(some 9), .mv (.c (.int .i64 0)), none⟩,
     ⟨(some 10), .alloc [(.int .i64 0), (.int .i64 0)], none⟩])
  (.seq (.reg [⟨(some 13), .mv (.s 0), none⟩,
      ⟨(some 14), .mv (.s 1), none⟩,
      ⟨(some 15), .mv (.s 2), none⟩,
      ⟨(some 16), .build [(.sl .full 5 []), (.int .i64 0), (.int .i64 0), (.int .i64 0), (.int .i64 0)] [(0, 1, (.s 13)), (1, 1, (.s 14)), (2, 1, (.s 15))], none⟩,
      ⟨(some 17), .boxO 5 (.s 16), none⟩,
      ⟨(some 11), .mv (.s 17), none⟩])
   (.seq (.reg [⟨(some 18), .mv (.s 3), none⟩,
       ⟨(some 19), .mv (.s 11), none⟩,
       ⟨(some 20), .callv (.s 18) [(.s 19)], none⟩,
       ⟨(some 12), .alloc [(.int .i64 0), (.int .i64 0), (.str []), (.sl .full 2 []), (.sl .full 5 [])], none⟩,
       ⟨none, .store 5 (.s 12) (.s 20), none⟩])
    (.seq (.seq (.reg [⟨(some 21), .mv (.s 11), none⟩,
         ⟨(some 22), .call 32 [(.s 21)], none⟩,
         ⟨(some 23), .not (.s 22), none⟩])
      (.cond (.s 23) (.seq (.draw [(⟨(some 24), .build [(.int .i64 0), (.int .i64 0), (.str []), (.sl .full 2 []), (.sl .full 5 [])] [], none⟩, []),
           (⟨(some 25), .mv (.s 11), none⟩, []),
           (⟨(some 26), .nilck (.s 25), none⟩, []),
           (⟨(some 27), .fld 3 (.s 26), none⟩, []),
           (⟨(some 28), .load true 2 (.s 27), none⟩, [1]),
           (⟨none, .store 5 (.s 8) (.s 24), none⟩, []),
           (⟨(some 9), .mv (.c (.int .i64 0)), none⟩, []),
           (⟨none, .store 2 (.s 10) (.s 28), none⟩, [])])
        (.ret))
       (.skip)))
     (.seq (.draw [(⟨(some 29), .load true 5 (.s 12), none⟩, []),
         (⟨(some 30), .mv (.s 11), none⟩, []),
         (⟨(some 31), .nilck (.s 30), none⟩, []),
         (⟨(some 32), .fld 1 (.s 31), none⟩, []),
         (⟨(some 33), .load false 1 (.s 32), none⟩, [1]),
         (⟨(some 34), .build [(.int .i64 0), (.int .i64 0)] [], none⟩, []),
         (⟨none, .store 5 (.s 8) (.s 29), none⟩, []),
         (⟨(some 9), .mv (.s 33), none⟩, []),
         (⟨none, .store 2 (.s 10) (.s 34), none⟩, [])])
      (.ret)))))
theorem fn37 : IsFn prog 37 ac37 [.cell 8 true 5, .tmp 9, .cell 10 true 2] 35 := ⟨f37, ⟨[17], []⟩, func37, by kernel_rfl, by kernel_rfl, by kernel_rfl, by kernel_rfl⟩

/-- clearance/term.Const -/
def ac13 : AC :=
  .seq (.reg [⟨(some 6), .alloc [(.int .i64 0), (.int .i64 0), (.str []), (.sl .full 2 []), (.sl .full 5 [])], none⟩,
     ⟨(some 7), .mv (.c (.int .i64 0)), none⟩,
     ⟨(some 8), .alloc [(.int .i64 0), (.int .i64 0)], none⟩])
  (.seq (.reg [⟨(some 9), .mv (.s 0), none⟩,
      ⟨(some 10), .mv (.s 1), none⟩,
      ⟨(some 11), .mv (.s 2), none⟩,
      ⟨(some 12), .call 37 [(.s 9), (.s 10), (.s 11), (.c (.fn (.func 38) [] []))], none⟩,
      ⟨(some 13), .ext (.s 12) 0, none⟩,
      ⟨(some 14), .ext (.s 12) 1, none⟩,
      ⟨(some 15), .ext (.s 12) 2, none⟩,
      ⟨none, .store 5 (.s 6) (.s 13), none⟩,
      ⟨(some 7), .mv (.s 14), none⟩,
      ⟨none, .store 2 (.s 8) (.s 15), none⟩])
   (.ret))
theorem fn13 : IsFn prog 13 ac13 [.cell 6 true 5, .tmp 7, .cell 8 true 2] 16 := ⟨f13, ⟨[], []⟩, func13, by kernel_rfl, by kernel_rfl, by kernel_rfl, by kernel_rfl⟩

/-- clearance/term.Label -/
def ac15 : AC :=
  .seq (.reg [⟨(some 6), .alloc [(.int .i64 0), (.int .i64 0), (.str []), (.sl .full 2 []), (.sl .full 5 [])], none⟩,
     ⟨(some 7), .mv (.c (.int .i64 0)), none⟩,
     ⟨(some 8), .alloc [(.int .i64 0), (.int .i64 0)], none⟩])
  (.seq (.reg [⟨(some 9), .mv (.s 0), none⟩,
      ⟨(some 10), .mv (.s 1), none⟩,
      ⟨(some 11), .mv (.s 2), none⟩,
      ⟨(some 12), .call 37 [(.s 9), (.s 10), (.s 11), (.c (.fn (.func 44) [] []))], none⟩,
      ⟨(some 13), .ext (.s 12) 0, none⟩,
      ⟨(some 14), .ext (.s 12) 1, none⟩,
      ⟨(some 15), .ext (.s 12) 2, none⟩,
      ⟨none, .store 5 (.s 6) (.s 13), none⟩,
      ⟨(some 7), .mv (.s 14), none⟩,
      ⟨none, .store 2 (.s 8) (.s 15), none⟩])
   (.ret))
theorem fn15 : IsFn prog 15 ac15 [.cell 6 true 5, .tmp 7, .cell 8 true 2] 16 := ⟨f15, ⟨[], []⟩, func15, by kernel_rfl, by kernel_rfl, by kernel_rfl, by kernel_rfl⟩

/-- clearance/term.Row -/
def ac17 : AC :=
  .seq (.reg [⟨(some 6), .alloc [(.int .i64 0), (.int .i64 0), (.str []), (.sl .full 2 []), (.sl .full 5 [])], none⟩,
     ⟨(some 7), .mv (.c (.int .i64 0)), none⟩,
     ⟨(some 8), .alloc [(.int .i64 0), (.int .i64 0)], none⟩])
  (.seq (.reg [⟨(some 9), .mv (.s 0), none⟩,
      ⟨(some 10), .mv (.s 1), none⟩,
      ⟨(some 11), .mv (.s 2), none⟩,
      ⟨(some 12), .call 37 [(.s 9), (.s 10), (.s 11), (.c (.fn (.func 45) [] []))], none⟩,
      ⟨(some 13), .ext (.s 12) 0, none⟩,
      ⟨(some 14), .ext (.s 12) 1, none⟩,
      ⟨(some 15), .ext (.s 12) 2, none⟩,
      ⟨none, .store 5 (.s 6) (.s 13), none⟩,
      ⟨(some 7), .mv (.s 14), none⟩,
      ⟨none, .store 2 (.s 8) (.s 15), none⟩])
   (.ret))
theorem fn17 : IsFn prog 17 ac17 [.cell 6 true 5, .tmp 7, .cell 8 true 2] 16 := ⟨f17, ⟨[], []⟩, func17, by kernel_rfl, by kernel_rfl, by kernel_rfl, by kernel_rfl⟩

end Go.Proofs.Try

/-
  Nodes in a bracket.
-/
namespace Go.Proofs.Try
open Go.Am
set_option maxRecDepth 4000
set_option maxHeartbeats 4000000

theorem Nd.wd {n : Nd} : (V.agg n.enc).wd = some 5 := by rw [Nd.enc_eq]; rfl
theorem Nd.one {n : Nd} : oneL n.enc = true := by rw [Nd.enc_eq]; rfl
theorem Nd.nol {n : Nd} : nolL n.enc = true := by rw [Nd.enc_eq]; rfl
theorem Nd.er {n : Nd} : eraseL n.enc = n.enc := by rw [Nd.enc_eq]; rfl

theorem kids11_calls {o f p q τ : Nat} {g : FuncId} {rows : List (List V)} {rd' : Rdr} {n : Nd} {σ : Store} (ho : σ.box o = some [.sl (.tk τ) 5 rows]) (hf : σ.box f = some [.fn (.func g) [] []]) (hp : σ.box p = some [.ptr (.out q) 0])
    (hoq : o ≠ q) (ht : σ.tip τ = some rows.length) (hb : rows.length + 1 ≤ big) (hone : PCalls prog g [.ptr (.out q) 0] σ fun v σ' => v = .agg n.enc ∧ σ' = σ.set q rd'.enc) :
    PCalls prog 87 [.ptr (.out o) 0, .ptr (.out f) 0, .ptr (.out p) 0] σ fun v σ' => v = .tup [] ∧ σ' = ((σ.set q rd'.enc).set o [.sl (.tk τ) 5 (rows ++ [n.enc])]).setTip τ (rows.length + 1) := by
  refine fn87.calls ?_
  simp only [slots, ac87, am, ho, hp, hf]
  refine CallD.intro hone ?_
  have h1 : (σ.set q rd'.enc).box o = some [.sl (.tk τ) 5 rows] := by rw [Store.set_other _ _ hoq]; exact ho
  simp only [am, h1, ho]
  refine hole_intro (τ := τ) (m := rows) (cs := n.enc) (p := .ptr (.out o) 0) rfl rfl rfl hb ht ⟨Nd.wd, Nd.one, Nd.nol⟩ Nd.er (by simp [am]) rfl (by simp only [ev, am, h1]; rfl) ?_
  simp only [am]
  exact retK_intro rfl (Store.sub_refl _) ⟨rfl, rfl⟩
theorem pace_one {β : Type} {one : Rdr → β × Rdr} (ho : Reads one) {l : List Tree} {a : Rdr × List β} (h : Pace l a) (hb : a.1.bad = none) : Pace l (oStep one a) ∧ a.1.at_ ≤ (oStep one a).1.at_ := by
  obtain ⟨h1, h2, h3, h4⟩ := h
  have h4 := h4 hb
  obtain ⟨k1, k2, k3⟩ := ho.go a.1 h2 (by rw [h1]; exact h3)
  refine ⟨⟨by simp only [oStep, ho.l]; exact h1, by simp only [oStep]; omega, by simp only [oStep]; rw [h1] at k2; exact k2, fun hq => ?_⟩, k1⟩
  have := k3 hq
  simp only [oStep, List.length_append, List.length_cons, List.length_nil]
  omega
def kSys (one : Rdr → Nd × Rdr) (σ : Store) (q o τ : Nat) : Sys (Rdr × List Nd) := ⟨fun a => gStore σ q o τ 5 a.1 (a.2.map Nd.enc), fun a => a.1, fun a r => (r, a.2), oStep one⟩

theorem kids1_calls {o f q τ : Nat} {g : FuncId} {one : Rdr → Nd × Rdr} (hr : Reads one) {rd : Rdr} {σ : Store} (hqo : q ≠ o) (hfq : f ≠ q) (hfo : f ≠ o) (hf : σ.box f = some [.fn (.func g) [] []]) (hat : rd.at_ = 0) (hbad : rd.bad = none) (hlen : rd.l.length + 1 ≤ big)
    (hone : ∀ (r : Rdr) (σ : Store), r.l = rd.l → 0 ≤ r.at_ → r.at_ ≤ rd.l.length → σ.box q = some r.enc → PCalls prog g [.ptr (.out q) 0] σ fun v σ' => v = .agg (one r).1.enc ∧ σ' = σ.set q (one r).2.enc) :
    PCalls prog 86 [.ptr (.out q) 0, .ptr (.out o) 0, .ptr (.out f) 0] (gStore σ q o τ 5 rd []) fun v σ' => v = .tup [] ∧ σ' = gStore σ q o τ 5 (someG (oStep one) rd).1 ((someG (oStep one) rd).2.map Nd.enc) := by
  refine fn86.calls ?_
  simp only [slots, ac86, am]
  refine kO_intro fun p hp => ?_
  have hpq : p ≠ q := by rintro rfl; rw [gStore_q hqo] at hp; simp at hp
  have hpo : p ≠ o := by rintro rfl; rw [gStore_o] at hp; simp at hp
  have hpf : f ≠ p := by rintro rfl; rw [gStore_p hpq hpo, hf] at hp; simp at hp
  rw [gStore_other hpq hpo]
  simp only [am, gStore_p hpq hpo]
  have hstep : ∀ a : Rdr × List Nd, Pace rd.l a → a.1.bad = none → PCalls prog 87 [.ptr (.out o) 0, .ptr (.out f) 0, .ptr (.out p) 0] (gStore (σ.set p [.ptr (.out q) 0]) q o τ 5 a.1 (a.2.map Nd.enc)) fun v σ' =>
      v = .tup [] ∧ σ' = gStore (σ.set p [.ptr (.out q) 0]) q o τ 5 (oStep one a).1 ((oStep one a).2.map Nd.enc) := fun a hp' hb => by
    have hl := hp'.2.2.2 hb
    have hl2 := hp'.2.2.1
    refine (kids11_calls gStore_o (by rw [gStore_p hfq hfo, Store.set_other _ _ hpf]; exact hf) (by rw [gStore_p hpq hpo, Store.set_same]) (Ne.symm hqo) gStore_tip (by rw [List.length_map]; omega) (hone a.1 _ hp'.1 hp'.2.1 hl2 (gStore_q hqo))).mono ?_
    rintro v σ' ⟨rfl, rfl⟩
    refine ⟨rfl, ?_⟩
    rw [gStore_put hqo]
    simp [oStep]
  have h0 : Pace rd.l (rd, ([] : List Nd)) := ⟨rfl, by simp [hat], by simp [hat], fun _ => by simp [hat]⟩
  obtain ⟨p1, _⟩ := pace_one hr h0 hbad
  refine (some_calls (kSys one (σ.set p [.ptr (.out q) 0]) q o τ) (Pace rd.l) (a := (rd, [])) (n := rd.l.length) (by simp [am]) (fun a h => gStore_q hqo) (fun a h => ?_) (fun a h hs => gStore_set hqo) (fun a h hs => ?_) (hstep _ h0 hbad) p1 ?_).mono ?_
  · show a.1.l.length ≤ big
    rw [h.1]; omega
  · obtain ⟨k1, k2, k3⟩ := pace_take h hs
    obtain ⟨k4, k5⟩ := pace_one hr k1 k2
    refine ⟨hstep _ k1 k2, k4, ?_, ?_⟩
    · exact k4.1.trans h.1.symm
    · show a.1.at_ + 1 ≤ _
      simp only at k5
      rw [k3] at k5
      exact k5
  · show (oStep one (rd, [])).1.l.length ≤ rd.l.length
    rw [p1.1]; omega
  rintro v σ' ⟨rfl, rfl⟩
  simp only [am]
  refine retK_intro rfl (σ' := gStore σ q o τ 5 (someG (oStep one) rd).1 ((someG (oStep one) rd).2.map Nd.enc)) ?_ ⟨rfl, rfl⟩
  have e : (kSys one (σ.set p [.ptr (.out q) 0]) q o τ).F ((kSys one (σ.set p [.ptr (.out q) 0]) q o τ).go rd.l.length ((kSys one (σ.set p [.ptr (.out q) 0]) q o τ).step (rd, []))) = gStore (σ.set p [.ptr (.out q) 0]) q o τ 5 (someG (oStep one) rd).1 ((someG (oStep one) rd).2.map Nd.enc) := by
    unfold kSys
    rw [go_goG]
    rfl
  rw [e, ← gStore_other hpq hpo]
  exact sub_set (by rw [gStore_p hpq hpo]; rw [gStore_p hpq hpo] at hp; exact hp)
end Go.Proofs.Try

/-
  Nodes in a bracket, the whole.
-/
namespace Go.Proofs.Try
open Go.Am
set_option maxRecDepth 4000
set_option maxHeartbeats 4000000

theorem Store.sub_trans {a b c : Store} (h : a.sub b) (k : b.sub c) : a.sub c := ⟨fun x cs hx => k.1 x cs (h.1 x cs hx), fun x n hx => k.2 x n (h.2 x n hx)⟩
theorem sub_both {a b : Store} {r : Nat} {A : List V} (h : a.sub b) : (a.set r A).sub (b.set r A) := by
  refine ⟨fun x cs hx => ?_, h.2⟩
  by_cases hr : x = r
  · subst hr; rw [Store.set_same] at hx ⊢; exact hx
  · rw [Store.set_other _ _ hr] at hx ⊢; exact h.1 x cs hx
theorem oStep_l {β : Type} {one : Rdr → β × Rdr} (h : Reads one) (l : List Tree) (a : Rdr × List β) (ha : a.1.l = l) : (oStep one a).1.l = l := by simp [oStep, h.l, ha]

theorem kids_calls {r : Nat} {empty : Bool} {kind : Int} {g : FuncId} {one : Rdr → Nd × Rdr} (hone : Reads one) {rd : Rdr} {σ : Store} (h : σ.box r = some rd.enc) (hlen : rd.l.length ≤ big) (hkids : (rd.take kind).1.kids.length + 1 ≤ big)
    (hcalls : ∀ (q : Nat) (i : Rdr) (σ : Store), i.l = (rd.take kind).1.kids → 0 ≤ i.at_ → i.at_ ≤ i.l.length → σ.box q = some i.enc → PCalls prog g [.ptr (.out q) 0] σ fun v σ' => v = .agg (one i).1.enc ∧ σ' = σ.set q (one i).2.enc) :
    PCalls prog 68 [.ptr (.out r) 0, .int .u8 kind, .bool empty, .fn (.func g) [] []] σ fun v σ' => v = .tup [.sl .no 5 ((rd.nodes one kind empty).1.1.map Nd.enc), .int .i64 (rd.nodes one kind empty).1.2] ∧ σ' = σ.set r (rd.nodes one kind empty).2.enc := by
  refine fn68.calls ?_
  simp only [slots, ac68, am]
  refine kO_intro fun f hf => ?_
  have hfr : f ≠ r := by rintro rfl; rw [h] at hf; simp at hf
  simp only [am]
  refine kO_intro fun o ho => ?_
  have hfo : f ≠ o := by rintro rfl; rw [Store.set_same] at ho; simp at ho
  have hor : o ≠ r := by rintro rfl; rw [Store.set_other _ _ (Ne.symm hfr), h] at ho; simp at ho
  generalize hσ : σ.set f [.fn (.func g) [] []] = σf at ho ⊢
  have hff : σf.box f = some [.fn (.func g) [] []] := by rw [← hσ]; exact Store.set_same _ _ _
  have hfσ : σ.sub σf := by rw [← hσ]; exact sub_set hf
  have h : σf.box r = some rd.enc := by rw [← hσ, Store.set_other _ _ (Ne.symm hfr)]; exact h
  simp only [am]
  refine Upd.tok 0 fun τ hτ => ⟨_, _, _, LTo.rfl, rfl, fun i c hc => ⟨c, hc, LTo.rfl⟩, OTo.set (cs := [.sl .full 5 []]) (cs' := [.sl (.tk τ) 5 []]) (Store.set_same _ _ _) ⟨VTo.tok rfl, trivial⟩, ?_⟩
  simp only [am]
  have h1 : ((σf.set o [.sl (.tk τ) 5 []]).setTip τ 0).box r = some rd.enc := by
    show (σf.set o _).box r = _
    rw [Store.set_other _ _ (Ne.symm hor)]; exact h
  have hne : ∀ q, ((σf.set o [V.sl (.tk τ) 5 []]).setTip τ 0).box q = none → q ≠ o ∧ q ≠ r ∧ σf.box q = none := fun q hq => by
    have hqo : q ≠ o := by rintro rfl; rw [show ((σf.set q [V.sl (.tk τ) 5 []]).setTip τ 0).box q = _ from Store.set_same _ _ _] at hq; simp at hq
    have hq' : σf.box q = none := by rw [← Store.set_other σf [V.sl (.tk τ) 5 []] hqo]; exact hq
    exact ⟨hqo, by rintro rfl; rw [h] at hq'; simp at hq', hq'⟩
  generalize hin : Rdr.inside (oStep one) empty (rd.take kind).1 = ins
  have hinl : ins.1.l = (rd.take kind).1.kids := by rw [← hin]; exact inside_l (oStep_l hone) _ _
  refine (within_calls (kind := kind) (by simp [am]) h1 hlen (by omega) ins.1 ((σf.set o [.sl (.tk τ) 5 (ins.2.map Nd.enc)]).setTip τ (ins.2.map Nd.enc).length) ?_ ?_ ?_ hinl).mono ?_
  · intro hok hc q hq
    obtain ⟨hqo, hqr, _⟩ := hne q hq
    have e1 : (((σf.set o [V.sl (.tk τ) 5 []]).setTip τ 0).set r (rd.take kind).2.enc).set q (rd.take kind).1.inner.enc = gStore (σf.set r (rd.take kind).2.enc) q o τ 5 (rd.take kind).1.inner [] := by
      unfold gStore
      rw [Store.set_comm (b := q) hqo, Store.set_comm (b := r) (Ne.symm hor)]
      rfl
    have e2 : (((σf.set o [V.sl (.tk τ) 5 (ins.2.map Nd.enc)]).setTip τ (ins.2.map Nd.enc).length).set r (rd.take kind).2.enc).set q ins.1.enc = gStore (σf.set r (rd.take kind).2.enc) q o τ 5 ins.1 (ins.2.map Nd.enc) := by
      unfold gStore
      rw [Store.set_comm (b := q) hqo, Store.set_comm (b := r) (Ne.symm hor)]
      rfl
    have e3 : ins = someG (oStep one) (rd.take kind).1.inner := by
      rw [← hin, Rdr.inside, if_neg]
      rintro ⟨q1, q2⟩
      rcases hc with hc | hc
      · rw [q1] at hc; simp at hc
      · exact hc q2
    rw [e1, e2, e3]
    refine kids1_calls hone hqo ?_ hfo (by rw [Store.set_other _ _ hfr]; exact hff) rfl rfl hkids (fun i σ' h1 h2 h3 h4 => hcalls q i σ' h1 h2 (by rw [h1]; exact h3) h4)
    rintro rfl
    rw [show ((σf.set o [V.sl (.tk τ) 5 []]).setTip τ 0).box f = (σf.set o [V.sl (.tk τ) 5 []]).box f from rfl, Store.set_other _ _ hfo, hff] at hq
    simp at hq
  · intro q1 q2
    have : ins = ((rd.take kind).1.inner, []) := by rw [← hin, Rdr.inside, if_pos ⟨q1, q2⟩]
    rw [this]
    exact ⟨rfl, rfl⟩
  · intro q hq
    obtain ⟨hqo, _, hq'⟩ := hne q hq
    show (σf.set o _).box q = none
    rw [Store.set_other _ _ hqo]; exact hq'
  rintro v σ' hv
  have hdrop : ∀ (A B : List V) (n : Nat), (σ.set r A).sub (((σf.set o B).setTip τ n).set r A) := fun A B n => by
    refine Store.sub_trans (sub_both hfσ) ?_
    refine ⟨fun b cs hb => ?_, fun υ m hm => ?_⟩
    · have hbo : b ≠ o := by rintro rfl; rw [Store.set_other _ _ hor, ho] at hb; simp at hb
      by_cases hbr : b = r
      · subst hbr; rw [Store.set_same] at hb ⊢; exact hb
      · rw [Store.set_other _ _ hbr] at hb ⊢
        show (σf.set o B).box b = _
        rw [Store.set_other _ _ hbo]; exact hb
    · have hm' : σf.tip υ = some m := hm
      have hne' : υ ≠ τ := by rintro rfl; rw [show (σf.set o [V.sl .full 5 []]).tip υ = σf.tip υ from rfl] at hτ; rw [hτ] at hm'; simp at hm'
      show ((σf.set o B).setTip τ n).tip υ = some m
      rw [setTip_tip_ne hne']; exact hm'
  split at hv
  · rename_i hok
    obtain ⟨rfl, rfl⟩ := hv
    have hb : (((σf.set o [V.sl (.tk τ) 5 (ins.2.map Nd.enc)]).setTip τ (ins.2.map Nd.enc).length).set r ((rd.take kind).2.under ins.1).enc).box o = some [V.sl (.tk τ) 5 (ins.2.map Nd.enc)] := by
      rw [Store.set_other _ _ hor]; exact Store.set_same _ _ _
    simp only [am, hb]
    refine retK_intro rfl (hdrop _ _ _) ⟨?_, ?_⟩
    · simp [Rdr.nodes, Rdr.bracket, hok, hin, V.erase, eraseL]
    · simp [Rdr.nodes, Rdr.bracket, hok, hin]
  · rename_i hok
    obtain ⟨rfl, rfl⟩ := hv
    have hb : (((σf.set o [V.sl (.tk τ) 5 []]).setTip τ 0).set r (rd.take kind).2.enc).box o = some [V.sl (.tk τ) 5 []] := by
      rw [Store.set_other _ _ hor]; exact Store.set_same _ _ _
    simp only [am, hb]
    refine retK_intro rfl (hdrop _ _ _) ⟨?_, ?_⟩
    · simp [Rdr.nodes, Rdr.bracket, hok, V.erase, eraseL]
    · simp [Rdr.nodes, Rdr.bracket, hok]
end Go.Proofs.Try

/-
  What the reader reads.
-/
namespace Go.Am

/-- A name alone, as a node of a kind. -/
def Rdr.leaf (kind : Int) (r : Rdr) : Nd × Rdr := (.mk kind r.word.1.pos r.word.1.text [] [], r.word.2)
def Rdr.rule (r : Rdr) : Nd × Rdr :=
  (.mk 6 r.word.1.pos r.word.1.text ((r.word.2.take 58).2.words true).1.1 [], ((r.word.2.take 58).2.words true).2)
def Rdr.constant : Nat → Rdr → Nd × Rdr
  | 0, r => r.leaf 2
  | n + 1, r =>
    if r.sees 123 = true then (.mk 3 (r.words true).1.2 [] (r.words true).1.1 [], (r.words true).2)
    else if r.sees 40 = true then (.mk 4 (r.nodes (Rdr.constant n) 40 false).1.2 [] [] (r.nodes (Rdr.constant n) 40 false).1.1, (r.nodes (Rdr.constant n) 40 false).2)
    else if r.sees 91 = true then (.mk 5 (r.nodes Rdr.rule 91 true).1.2 [] [] (r.nodes Rdr.rule 91 true).1.1, (r.nodes Rdr.rule 91 true).2)
    else r.leaf 2
def Rdr.atom (n : Nat) (r : Rdr) : Nd × Rdr :=
  if r.sees 35 = true then (.mk 7 (r.take 35).1.tok.pos [] [] [(Rdr.constant n (r.take 35).2).1], (Rdr.constant n (r.take 35).2).2) else r.leaf 1
def Rdr.label : Nat → Rdr → Nd × Rdr
  | 0, r => r.leaf 1
  | n + 1, r =>
    if r.sees 43 = true then (.mk 8 (r.take 43).1.tok.pos [] [] ((r.take 43).2.nodes (Rdr.label n) 40 false).1.1, ((r.take 43).2.nodes (Rdr.label n) 40 false).2)
    else if r.sees 38 = true then (.mk 9 (r.take 38).1.tok.pos [] [] ((r.take 38).2.nodes (Rdr.label n) 40 false).1.1, ((r.take 38).2.nodes (Rdr.label n) 40 false).2)
    else r.atom (n + 1)
def Rdr.field (n : Nat) (r : Rdr) : Nd × Rdr :=
  (.mk 11 r.word.1.pos r.word.1.text [] [((r.word.2.take 61).2.atom n).1], ((r.word.2.take 61).2.atom n).2)
end Go.Am

/-
  Rules, constants.
-/
namespace Go.Proofs.Try
open Go.Am
set_option maxRecDepth 4000
set_option maxHeartbeats 4000000

theorem rule_calls {r : Nat} {rd : Rdr} {σ : Store} (h : σ.box r = some rd.enc) (hlen : rd.l.length ≤ big) (hk : ∀ (x : Rdr) (k : Int), x.l = rd.l → (x.take k).1.kids.length + 1 ≤ big) :
    PCalls prog 69 [.ptr (.out r) 0] σ fun v σ' => v = .agg rd.rule.1.enc ∧ σ' = σ.set r rd.rule.2.enc := by
  refine fn69.calls ?_
  simp only [slots, ac69, am]
  refine (word_calls h hlen).mono ?_
  rintro v σ' ⟨rfl, rfl⟩
  simp only [am, Word.enc]
  refine (take_calls (Store.set_same _ _ _) (by simp [Rdr.word, Rdr.take_l, hlen])).mono ?_
  rintro v σ' ⟨rfl, rfl⟩
  simp only [am]
  refine (words_calls (Store.set_same _ _ _) (by simp [Rdr.word, Rdr.take_l, hlen]) (hk _ _ (by simp [Rdr.word, Rdr.take_l]))).mono ?_
  rintro v σ' ⟨rfl, rfl⟩
  simp only [am, Nat.reduceAdd]
  refine retK_intro rfl (Store.sub_refl _) ⟨?_, rfl⟩
  simp [Rdr.rule, V.erase, eraseL, Nd.enc, nencs]
end Go.Proofs.Try

/-
  Reading goes on, or fails.
-/
namespace Go.Am

/-- How far something comes. -/
def Goes (r r' : Rdr) : Prop := r'.l = r.l ∧ (0 ≤ r.at_ → r.at_ ≤ r.l.length → r.at_ ≤ r'.at_ ∧ r'.at_ ≤ r.l.length ∧ (r'.bad = none → r.at_ + 1 ≤ r'.at_))
theorem Goes.trans {a b c : Rdr} (h : Goes a b) (k : Goes b c) : Goes a c := by
  refine ⟨k.1.trans h.1, fun h1 h2 => ?_⟩
  obtain ⟨p1, p2, p3⟩ := h.2 h1 h2
  obtain ⟨q1, q2, q3⟩ := k.2 (by omega) (by rw [h.1]; exact p2)
  rw [h.1] at q2
  exact ⟨by omega, q2, fun hq => by have := q3 hq; omega⟩
theorem goes_take (r : Rdr) (k : Int) : Goes r (r.take k).2 := by
  refine ⟨r.take_l k, fun h1 h2 => ?_⟩
  rcases r.take_at k with ⟨_, e, _, h3, h4⟩ | ⟨_, e, hb⟩
  · rw [e]; exact ⟨by omega, by omega, fun _ => by omega⟩
  · rw [e]; exact ⟨by omega, h2, fun hq => absurd hq hb⟩
theorem goes_word (r : Rdr) : Goes r r.word.2 := goes_take r 97
theorem goes_leaf (r : Rdr) (k : Int) : Goes r (r.leaf k).2 := goes_word r
theorem goes_bracket {β : Type} (step : Rdr × List β → Rdr × List β) (k : Int) (e : Bool) (r : Rdr) : Goes r (r.bracket step k e).2 := by
  have h := goes_take r k
  unfold Rdr.bracket
  split
  · rename_i hok
    have hb : (r.take k).2.bad = none := by simpa [Rdr.ok] using hok
    exact ⟨h.1, fun h1 h2 => by
      obtain ⟨p1, p2, p3⟩ := h.2 h1 h2
      exact ⟨p1, p2, fun _ => p3 hb⟩⟩
  · exact h
theorem goes_words (r : Rdr) (e : Bool) : Goes r (r.words e).2 := goes_bracket _ _ _ _
theorem goes_nodes (r : Rdr) (one : Rdr → Nd × Rdr) (k : Int) (e : Bool) : Goes r (r.nodes one k e).2 := goes_bracket _ _ _ _
theorem reads_of {one : Rdr → Nd × Rdr} (h : ∀ r, Goes r (one r).2) : Reads one := ⟨fun r => (h r).1, fun r => (h r).2⟩
theorem goes_rule (r : Rdr) : Goes r r.rule.2 := ((goes_word r).trans (goes_take _ _)).trans (goes_words _ _)
theorem goes_constant : ∀ (n : Nat) (r : Rdr), Goes r (Rdr.constant n r).2
  | 0, r => goes_leaf r 2
  | n + 1, r => by
    simp only [Rdr.constant]
    split
    · exact goes_words r true
    · split
      · exact goes_nodes r _ 40 false
      · split
        · exact goes_nodes r _ 91 true
        · exact goes_leaf r 2
theorem goes_atom (n : Nat) (r : Rdr) : Goes r (r.atom n).2 := by
  simp only [Rdr.atom]
  split
  · exact (goes_take r 35).trans (goes_constant n _)
  · exact goes_leaf r 1
theorem goes_label : ∀ (n : Nat) (r : Rdr), Goes r (Rdr.label n r).2
  | 0, r => goes_leaf r 1
  | n + 1, r => by
    simp only [Rdr.label]
    split
    · exact (goes_take r 43).trans (goes_nodes _ _ 40 false)
    · split
      · exact (goes_take r 38).trans (goes_nodes _ _ 40 false)
      · exact goes_atom (n + 1) r
theorem goes_field (n : Nat) (r : Rdr) : Goes r (r.field n).2 := ((goes_word r).trans (goes_take _ _)).trans (goes_atom n _)
end Go.Am

/-
  Constants.
-/
namespace Go.Proofs.Try
open Go.Am
set_option maxRecDepth 4000
set_option maxHeartbeats 4000000

theorem sees_nil {r : Rdr} {k : Int} (h : manys r.l = 0) : r.sees k = false := by
  have : r.l = [] := List.eq_nil_of_length_eq_zero (by have := manys_ge r.l; omega)
  simp [Rdr.sees, isK, this]
theorem kids_big {l : List Tree} {x : Rdr} {k : Int} (hm : manys l + 1 ≤ big) (h : x.l = l) : (x.take k).1.kids.length + 1 ≤ big := by
  have h1 := (x.take_many k).1
  have h2 := manys_ge (x.take k).1.kids
  rw [h] at h1
  omega

theorem constant_calls : ∀ (n : Nat) {r : Nat} {rd : Rdr} {σ : Store} (_ : σ.box r = some rd.enc) (_ : manys rd.l ≤ n) (_ : manys rd.l + 1 ≤ big),
    PCalls prog 38 [.ptr (.out r) 0] σ fun v σ' => v = .agg (Rdr.constant n rd).1.enc ∧ σ' = σ.set r (Rdr.constant n rd).2.enc := by
  intro n
  induction n with
  | zero =>
    intro r rd σ h hn hm
    have hlen := manys_ge rd.l
    refine fn38.calls ?_
    simp only [slots, ac38, am]
    refine (sees_calls h).mono ?_
    rintro v σ' ⟨rfl, rfl⟩
    simp only [am, sees_nil (Nat.le_zero.1 hn)]
    refine (sees_calls h).mono ?_
    rintro v σ' ⟨rfl, rfl⟩
    simp only [am, sees_nil (Nat.le_zero.1 hn)]
    refine (sees_calls h).mono ?_
    rintro v σ' ⟨rfl, rfl⟩
    simp only [am, sees_nil (Nat.le_zero.1 hn)]
    refine (word_calls h (by omega)).mono ?_
    rintro v σ' ⟨rfl, rfl⟩
    simp only [am, Word.enc, Nat.reduceAdd]
    refine retK_intro rfl (Store.sub_refl _) ⟨?_, rfl⟩
    simp [Rdr.constant, Rdr.leaf, V.erase, eraseL, Nd.enc, nencs]
  | succ n ih =>
    intro r rd σ h hn hm
    have hlen := manys_ge rd.l
    refine fn38.calls ?_
    simp only [slots, ac38, am]
    refine (sees_calls h).mono ?_
    rintro v σ' ⟨rfl, rfl⟩
    cases h1 : rd.sees 123
    case' true =>
      simp only [am, Nat.reduceAdd]
      refine (words_calls h (by omega) (kids_big hm rfl)).mono ?_
      rintro v σ' ⟨rfl, rfl⟩
      simp only [am, Nat.reduceAdd]
      refine retK_intro rfl (Store.sub_refl _) ⟨?_, by simp [Rdr.constant, h1]⟩
      simp [Rdr.constant, h1, V.erase, eraseL, Nd.enc, nencs]
    case' false =>
      simp only [am]
      refine (sees_calls h).mono ?_
      rintro v σ' ⟨rfl, rfl⟩
      cases h2 : rd.sees 40
    case' false.true =>
      have hk : manys (rd.take 40).1.kids + 1 ≤ manys rd.l := (rd.take_many 40).2 (by
        rcases rd.take_at 40 with ⟨_, _, e, _, _⟩ | ⟨e, _, _⟩
        · exact e
        · rw [h2] at e; simp at e)
      simp only [am, Nat.reduceAdd]
      refine (kids_calls (reads_of (goes_constant n)) h (by omega) (kids_big hm rfl) (fun q i σ' e1 _ _ e4 => ih e4 (by rw [e1]; omega) (by rw [e1]; omega))).mono ?_
      rintro v σ' ⟨rfl, rfl⟩
      simp only [am, Nat.reduceAdd]
      refine retK_intro rfl (Store.sub_refl _) ⟨?_, by simp [Rdr.constant, h1, h2]⟩
      simp [Rdr.constant, h1, h2, V.erase, eraseL, Nd.enc, nencs_map]
    case' false.false =>
      simp only [am]
      refine (sees_calls h).mono ?_
      rintro v σ' ⟨rfl, rfl⟩
      cases h3 : rd.sees 91
    case' false.false.true =>
      simp only [am, Nat.reduceAdd]
      refine (kids_calls (reads_of goes_rule) h (by omega) (kids_big hm rfl) (fun q i σ' e1 _ _ e4 => rule_calls e4 (by have g1 := manys_ge i.l; have g2 := (rd.take_many 91).1; rw [← e1] at g2; omega) (fun x k ex => kids_big (by have g2 := (rd.take_many 91).1; rw [← e1] at g2; omega) ex))).mono ?_
      rintro v σ' ⟨rfl, rfl⟩
      simp only [am, Nat.reduceAdd]
      refine retK_intro rfl (Store.sub_refl _) ⟨?_, by simp [Rdr.constant, h1, h2, h3]⟩
      simp [Rdr.constant, h1, h2, h3, V.erase, eraseL, Nd.enc, nencs_map]
    case' false.false.false =>
      simp only [am]
      refine (word_calls h (by omega)).mono ?_
      rintro v σ' ⟨rfl, rfl⟩
      simp only [am, Word.enc, Nat.reduceAdd]
      refine retK_intro rfl (Store.sub_refl _) ⟨?_, by simp [Rdr.constant, Rdr.leaf, h1, h2, h3]⟩
      simp [Rdr.constant, Rdr.leaf, h1, h2, h3, V.erase, eraseL, Nd.enc, nencs]
end Go.Proofs.Try

/-
  Atoms, labels, fields.
-/
namespace Go.Proofs.Try
open Go.Am
set_option maxRecDepth 4000
set_option maxHeartbeats 4000000

theorem Nd.len {n : Nd} : n.enc.length = 5 := by rw [Nd.enc_eq]; rfl
theorem Tree.ld {t : Tree} : ∀ {n : Nat}, t.enc.drop n = [V.int .u8 t.tok.kind, .str t.tok.text, .int .i64 t.tok.pos, .sl .no 5 (encs t.kids), .int .i64 t.fin].drop n := fun {n} => by rw [enc_eq]

theorem atom_calls {n r : Nat} {rd : Rdr} {σ : Store} (h : σ.box r = some rd.enc) (hn : manys rd.l ≤ n) (hm : manys rd.l + 1 ≤ big) :
    PCalls prog 72 [.ptr (.out r) 0] σ fun v σ' => v = .agg (rd.atom n).1.enc ∧ σ' = σ.set r (rd.atom n).2.enc := by
  have hlen := manys_ge rd.l
  refine fn72.calls ?_
  simp only [slots, ac72, am]
  refine (sees_calls h).mono ?_
  rintro v σ' ⟨rfl, rfl⟩
  cases h1 : rd.sees 35
  case' true =>
    simp only [am]
    refine (take_calls h (by omega)).mono ?_
    rintro v σ' ⟨rfl, rfl⟩
    simp only [am, enc_eq, Nat.reduceAdd]
    refine CallD.intro (constant_calls n (Store.set_same _ _ _) (by rw [Rdr.take_l]; exact hn) (by rw [Rdr.take_l]; exact hm)) ?_
    simp only [am, Nd.len, Nd.one, Nd.nol, Nd.er, Nat.reduceAdd]
    refine retK_intro rfl (Store.sub_refl _) ⟨?_, by simp [Rdr.atom, h1]⟩
    simp [Rdr.atom, h1, V.erase, eraseL, Nd.enc, nencs]
  case' false =>
    simp only [am]
    refine (word_calls h (by omega)).mono ?_
    rintro v σ' ⟨rfl, rfl⟩
    simp only [am, Word.enc, Nat.reduceAdd]
    refine retK_intro rfl (Store.sub_refl _) ⟨?_, by simp [Rdr.atom, Rdr.leaf, h1]⟩
    simp [Rdr.atom, Rdr.leaf, h1, V.erase, eraseL, Nd.enc, nencs]
theorem field_calls {n r : Nat} {rd : Rdr} {σ : Store} (h : σ.box r = some rd.enc) (hn : manys rd.l ≤ n) (hm : manys rd.l + 1 ≤ big) :
    PCalls prog 75 [.ptr (.out r) 0] σ fun v σ' => v = .agg (rd.field n).1.enc ∧ σ' = σ.set r (rd.field n).2.enc := by
  have hlen := manys_ge rd.l
  refine fn75.calls ?_
  simp only [slots, ac75, am]
  refine (word_calls h (by omega)).mono ?_
  rintro v σ' ⟨rfl, rfl⟩
  simp only [am, Word.enc, Nat.reduceAdd]
  have e1 : rd.word.2.l = rd.l := by simp [Rdr.word, Rdr.take_l]
  refine (take_calls (Store.set_same _ _ _) (by rw [e1]; omega)).mono ?_
  rintro v σ' ⟨rfl, rfl⟩
  simp only [am, Nat.reduceAdd]
  refine CallD.intro (atom_calls (n := n) (Store.set_same _ _ _) (by rw [Rdr.take_l, e1]; exact hn) (by rw [Rdr.take_l, e1]; exact hm)) ?_
  simp only [am, Nd.len, Nd.one, Nd.nol, Nd.er, Nat.reduceAdd]
  refine retK_intro rfl (Store.sub_refl _) ⟨?_, by simp [Rdr.field]⟩
  simp [Rdr.field, V.erase, eraseL, Nd.enc, nencs]
end Go.Proofs.Try

/-
  Labels.
-/
namespace Go.Proofs.Try
open Go.Am
set_option maxRecDepth 4000
set_option maxHeartbeats 4000000

def inv44 (r : Nat) (rd : Rdr) (σ : Store) (i : { i : Nat // i ≤ 2 ∧ (1 ≤ i → rd.sees 43 = false) ∧ (2 ≤ i → rd.sees 38 = false) }) : St :=
  ⟨[.ptr (.out r) 0, .any, .ptr (.loc 0) 0, .any, .any, .any, .any, .any, .any, .sl .full 1 [[.int .u8 43], [.int .u8 38]], .int .i64 2, .int .i64 (i.1 : Nat)] ++ List.replicate 26 .any,
    [[.int .i64 0, .int .i64 0, .str [], .sl .full 2 [], .sl .full 5 []]], σ⟩

theorem Nd.ovr {n : Nd} {a b c d e : V} : over [a, b, c, d, e] n.enc = n.enc := by rw [Nd.enc_eq]; rfl
theorem Nd.tk {n : Nd} : takeN 5 n.enc = some n.enc := by rw [Nd.enc_eq]; rfl
theorem take_less (r : Rdr) (k : Int) : manys (r.take k).1.kids + 1 ≤ manys r.l ∨ manys (r.take k).1.kids = 0 := by
  rcases r.take_at k with ⟨_, _, e, _, _⟩ | ⟨e, _, _⟩
  · exact .inl ((r.take_many k).2 e)
  · right; simp [Rdr.take, e, Tree.zero, Tree.kids, manys]
theorem label_leaf {n : Nat} {rd : Rdr} (h1 : rd.sees 43 = false) (h2 : rd.sees 38 = false) (hn : manys rd.l ≤ n) : Rdr.label n rd = rd.atom n := by
  cases n with
  | zero => simp [Rdr.label, Rdr.atom, sees_nil (Nat.le_zero.1 hn)]
  | succ n => simp [Rdr.label, h1, h2]

theorem label_step {n : Nat} (ih : ∀ m, n = m + 1 → ∀ {r : Nat} {rd : Rdr} {σ : Store} (_ : σ.box r = some rd.enc) (_ : manys rd.l ≤ m) (_ : manys rd.l + 1 ≤ big),
    PCalls prog 44 [.ptr (.out r) 0] σ fun v σ' => v = .agg (Rdr.label m rd).1.enc ∧ σ' = σ.set r (Rdr.label m rd).2.enc) {r : Nat} {rd : Rdr} {σ : Store} (h : σ.box r = some rd.enc) (hn : manys rd.l ≤ n) (hm : manys rd.l + 1 ≤ big) :
    PCalls prog 44 [.ptr (.out r) 0] σ fun v σ' => v = .agg (Rdr.label n rd).1.enc ∧ σ' = σ.set r (Rdr.label n rd).2.enc := by
  have hlen := manys_ge rd.l
  have hpos : ∀ k, rd.sees k = true → ∃ m, n = m + 1 := fun k hk => by
    cases n with
    | zero => rw [sees_nil (Nat.le_zero.1 hn)] at hk; simp at hk
    | succ m => exact ⟨m, rfl⟩
  have kids : ∀ (m : Nat) (k : Int), n = m + 1 → ∀ (q : Nat) (i : Rdr) (σ : Store), i.l = ((rd.take k).2.take 40).1.kids → 0 ≤ i.at_ → i.at_ ≤ i.l.length → σ.box q = some i.enc → PCalls prog 44 [.ptr (.out q) 0] σ fun v σ' => v = .agg (Rdr.label m i).1.enc ∧ σ' = σ.set q (Rdr.label m i).2.enc := fun m k e q i σ e1 _ _ e4 => by
    have g1 := ((rd.take k).2.take_many 40).1
    have g2 := take_less (rd.take k).2 40
    rw [Rdr.take_l, ← e1] at g1 g2
    exact ih m e e4 (by omega) (by omega)
  refine fn44.calls ?_
  simp only [slots, ac44, am]
  refine vc_loop (fun i => inv44 r rd σ i) (fun i => 2 - i.1) ?_ ?_
  · refine Upd.enter ⟨0, by omega, by omega, by omega⟩ ?_ ?_ OLe.rfl
    · simp [inv44, List.replicate, am]
    · simp [inv44, am]
  · rintro ⟨i, hi, hi1, hi2⟩
    simp only [inv44, List.replicate, am]
    have hcase : i = 0 ∨ i = 1 ∨ i = 2 := by omega
    rcases hcase with rfl | rfl | rfl
    · simp only [am, show (((0 : Nat) : Int) < 2) = True by simp, decide_true]
      refine idxL_intro (by omega) (c := [.int .u8 43]) rfl ?_
      simp only [am]
      refine (sees_calls h).mono ?_
      rintro v σ' ⟨rfl, rfl⟩
      cases h1 : rd.sees 43
      · simp only [am]
        rw [wrap_i64 (by omega) (by omega)]
        exact Upd.again ⟨1, by omega, fun _ => rfl, by omega⟩ (by simp) (by simp [am]) LLLe.rfl OLe.rfl
      · have eqD : decide ((43 : Int) = 38) = false := by simp
        obtain ⟨m, rfl⟩ := hpos _ h1
        simp only [am]
        refine (take_calls h (by omega)).mono ?_
        rintro v σ' ⟨rfl, rfl⟩
        simp only [am, enc_eq, Nat.reduceAdd, decide_true, eqD]
        refine (kids_calls (reads_of (goes_label m)) (Store.set_same _ _ _) (by rw [Rdr.take_l]; omega) (kids_big hm (Rdr.take_l _ _)) (kids m 43 rfl)).mono ?_
        rintro v σ' ⟨rfl, rfl⟩
        simp only [am, Nat.reduceAdd]
        refine retK_intro rfl (Store.sub_refl _) ⟨?_, by simp [Rdr.label, h1]⟩
        simp [Rdr.label, h1, V.erase, eraseL, Nd.enc, nencs_map]
    · have hs1 := hi1 (by omega)
      simp only [am, show (((1 : Nat) : Int) < 2) = True by simp, decide_true]
      refine idxL_intro (by omega) (c := [.int .u8 38]) rfl ?_
      simp only [am]
      refine (sees_calls h).mono ?_
      rintro v σ' ⟨rfl, rfl⟩
      cases h1 : rd.sees 38
      · simp only [am]
        rw [wrap_i64 (by omega) (by omega)]
        exact Upd.again ⟨2, by omega, fun _ => hs1, fun _ => rfl⟩ (by simp) (by simp [am]) LLLe.rfl OLe.rfl
      · have eqD : decide ((38 : Int) = 38) = true := by simp
        obtain ⟨m, rfl⟩ := hpos _ h1
        simp only [am]
        refine (take_calls h (by omega)).mono ?_
        rintro v σ' ⟨rfl, rfl⟩
        simp only [am, enc_eq, Nat.reduceAdd, decide_true, eqD]
        refine (kids_calls (reads_of (goes_label m)) (Store.set_same _ _ _) (by rw [Rdr.take_l]; omega) (kids_big hm (Rdr.take_l _ _)) (kids m 38 rfl)).mono ?_
        rintro v σ' ⟨rfl, rfl⟩
        simp only [am, Nat.reduceAdd]
        refine retK_intro rfl (Store.sub_refl _) ⟨?_, by simp [Rdr.label, hs1, h1]⟩
        simp [Rdr.label, hs1, h1, V.erase, eraseL, Nd.enc, nencs_map]
    · have hs1 := hi1 (by omega)
      have hs2 := hi2 (by omega)
      simp only [am, show (((2 : Nat) : Int) < 2) = False by simp, decide_false]
      refine (atom_calls h hn hm).mono ?_
      rintro v σ' ⟨rfl, rfl⟩
      simp only [am, Nd.len, Nd.one, Nd.ovr, Nd.tk]
      rw [label_leaf hs1 hs2 hn]
      refine retK_intro (by simp only [am, Nd.nol]) (Store.sub_refl _) ⟨?_, rfl⟩
      simp only [am, Nd.er]

theorem label_calls : ∀ (n : Nat) {r : Nat} {rd : Rdr} {σ : Store} (_ : σ.box r = some rd.enc) (_ : manys rd.l ≤ n) (_ : manys rd.l + 1 ≤ big),
    PCalls prog 44 [.ptr (.out r) 0] σ fun v σ' => v = .agg (Rdr.label n rd).1.enc ∧ σ' = σ.set r (Rdr.label n rd).2.enc := by
  intro n
  induction n with
  | zero => exact fun h hn hm => label_step (fun m e => by omega) h hn hm
  | succ n ih => exact fun h hn hm => label_step (fun m e => by obtain rfl : n = m := by omega
                                                                exact ih) h hn hm
end Go.Proofs.Try

/-
  Rows, and reading at a place.
-/
namespace Go.Am
def Rdr.rowIn (n : Nat) (i : Rdr) : (Rdr × List Nd) × List Word :=
  let a := if i.sees 124 = true then (i, []) else someG (oStep (Rdr.field n)) i
  if a.1.sees 124 = true then (((a.1.take 124).2.word.2, a.2), [(a.1.take 124).2.word.1]) else (a, [])
def Rdr.rowOf (n : Nat) (t : Tree) : (Rdr × List Nd) × List Word := if t.kids.length = 0 then ((t.inner, []), []) else t.inner.rowIn n
def Rdr.row (n : Nat) (r : Rdr) : Nd × Rdr :=
  if r.sees 91 = true then (.mk 10 (r.take 91).1.tok.pos [] (Rdr.rowOf n (r.take 91).1).2 (Rdr.rowOf n (r.take 91).1).1.2, (r.take 91).2.under (Rdr.rowOf n (r.take 91).1).1.1) else r.leaf 1
def Nd.zero : Nd := .mk 0 0 [] [] []
/-- What is read at a place: the node, how far, and what is wrong. -/
def readAt (one : Rdr → Nd × Rdr) (l : List Tree) (at_ fin : Int) : Nd × Int × Option Int :=
  match (one ⟨l, at_, fin, none⟩).2.bad with
  | some b => (.zero, 0, some b)
  | none => ((one ⟨l, at_, fin, none⟩).1, (one ⟨l, at_, fin, none⟩).2.at_, none)
def wordsAt (l : List Tree) (at_ fin : Int) : List Word × Option Int :=
  match ((⟨l, at_, fin, none⟩ : Rdr).words false).2.bad with
  | some b => ([], some b)
  | none => (((⟨l, at_, fin, none⟩ : Rdr).words false).1.1, none)
end Go.Am

/-
  Rows.
-/
namespace Go.Proofs.Try
open Go.Am
set_option maxRecDepth 4000
set_option maxHeartbeats 4000000

/-- A row's node while its fields are read. -/
def rCells (τ : Nat) (names rows : List (List V)) : List V := [.int .i64 10, .int .i64 0, .str [], .sl .full 2 names, .sl (.tk τ) 5 rows]

theorem row11_calls {n o p q τ : Nat} {names rows : List (List V)} {rd : Rdr} {σ : Store} (ho : σ.box o = some (rCells τ names rows)) (hp : σ.box p = some [.ptr (.out q) 0]) (hq : σ.box q = some rd.enc)
    (hoq : o ≠ q) (ht : σ.tip τ = some rows.length) (hb : rows.length + 1 ≤ big) (hn : manys rd.l ≤ n) (hm : manys rd.l + 1 ≤ big) :
    PCalls prog 74 [.ptr (.out o) 0, .ptr (.out p) 0] σ fun v σ' => v = .tup [] ∧ σ' = ((σ.set q (rd.field n).2.enc).set o (rCells τ names (rows ++ [(rd.field n).1.enc]))).setTip τ (rows.length + 1) := by
  unfold rCells at ho ⊢
  refine fn74.calls ?_
  simp only [slots, ac74, am, ho, hp]
  refine CallD.intro (field_calls (n := n) hq hn hm) ?_
  have h1 : (σ.set q (rd.field n).2.enc).box o = some [.int .i64 10, .int .i64 0, .str [], .sl .full 2 names, .sl (.tk τ) 5 rows] := by rw [Store.set_other _ _ hoq]; exact ho
  simp only [am, h1, ho]
  refine hole_intro (τ := τ) (m := rows) (cs := (rd.field n).1.enc) (p := .ptr (.out o) 4) rfl rfl rfl hb ht ⟨Nd.wd, Nd.one, Nd.nol⟩ Nd.er (by simp [am]) rfl (by simp only [ev, am, h1]; rfl) ?_
  simp only [am]
  exact retK_intro rfl (Store.sub_refl _) ⟨rfl, rfl⟩
end Go.Proofs.Try

/-
  What stands in a row's bracket.
-/
namespace Go.Proofs.Try
open Go.Am
set_option maxRecDepth 4000
set_option maxHeartbeats 4000000

def gRow (σ : Store) (q o τ : Nat) (rd : Rdr) (names rows : List (List V)) : Store := ((σ.set q rd.enc).set o (rCells τ names rows)).setTip τ rows.length
theorem gRow_q {σ : Store} {q o τ : Nat} {rd : Rdr} {names rows : List (List V)} (h : q ≠ o) : (gRow σ q o τ rd names rows).box q = some rd.enc := by
  simp [gRow, Store.setTip, Store.set, h]
theorem gRow_o {σ : Store} {q o τ : Nat} {rd : Rdr} {names rows : List (List V)} : (gRow σ q o τ rd names rows).box o = some (rCells τ names rows) := by
  simp [gRow, Store.setTip, Store.set]
theorem gRow_p {σ : Store} {q o τ p : Nat} {rd : Rdr} {names rows : List (List V)} (h : p ≠ q) (h' : p ≠ o) : (gRow σ q o τ rd names rows).box p = σ.box p := by
  simp [gRow, Store.setTip, Store.set, h, h']
theorem gRow_other {σ : Store} {q o τ p : Nat} {rd : Rdr} {names rows : List (List V)} {cs : List V} (h : p ≠ q) (h' : p ≠ o) : (gRow σ q o τ rd names rows).set p cs = gRow (σ.set p cs) q o τ rd names rows := by
  have : ((σ.set q rd.enc).set o (rCells τ names rows)).set p cs = ((σ.set p cs).set q rd.enc).set o (rCells τ names rows) := by
    rw [Store.set_comm (Ne.symm h'), Store.set_comm (b := q) (Ne.symm h)]
  show (((σ.set q rd.enc).set o (rCells τ names rows)).set p cs).setTip τ rows.length = _
  rw [this]; rfl
theorem gRow_tip {σ : Store} {q o τ : Nat} {rd : Rdr} {names rows : List (List V)} : (gRow σ q o τ rd names rows).tip τ = some rows.length := by
  simp [gRow, Store.setTip]
theorem gRow_set {σ : Store} {q o τ : Nat} {rd rd' : Rdr} {names rows : List (List V)} (h : q ≠ o) : (gRow σ q o τ rd names rows).set q rd'.enc = gRow σ q o τ rd' names rows := by
  have : ((σ.set q rd.enc).set o (rCells τ names rows)).set q rd'.enc = (σ.set q rd'.enc).set o (rCells τ names rows) := by rw [Store.set_comm (Ne.symm h), Store.set_set]
  show (((σ.set q rd.enc).set o (rCells τ names rows)).set q rd'.enc).setTip τ rows.length = _
  rw [this]; rfl
theorem gRow_names {σ : Store} {q o τ : Nat} {rd : Rdr} {names names' rows : List (List V)} : (gRow σ q o τ rd names rows).set o (rCells τ names' rows) = gRow σ q o τ rd names' rows := by
  show (((σ.set q rd.enc).set o (rCells τ names rows)).set o (rCells τ names' rows)).setTip τ rows.length = _
  rw [Store.set_set]; rfl
theorem gRow_put {σ : Store} {q o τ : Nat} {rd rd' : Rdr} {names rows : List (List V)} {c : List V} (h : q ≠ o) : (((gRow σ q o τ rd names rows).set q rd'.enc).set o (rCells τ names (rows ++ [c]))).setTip τ (rows.length + 1) = gRow σ q o τ rd' names (rows ++ [c]) := by
  rw [gRow_set h]
  unfold gRow
  rw [List.length_append, List.length_cons, List.length_nil]
  show ((((σ.set q rd'.enc).set o (rCells τ names rows)).set o (rCells τ names (rows ++ [c]))).setTip τ rows.length).setTip τ (rows.length + 1) = _
  rw [Store.set_set, setTip_setTip]
def rSys (one : Rdr → Nd × Rdr) (σ : Store) (q o τ : Nat) : Sys (Rdr × List Nd) := ⟨fun a => gRow σ q o τ a.1 [] (a.2.map Nd.enc), fun a => a.1, fun a r => (r, a.2), oStep one⟩

theorem someG_l {one : Rdr → Nd × Rdr} (h : Reads one) (r : Rdr) : (someG (oStep one) r).1.l = r.l := go_l (oStep_l h _) _ _ (oStep_l h _ _ rfl)
theorem row1_calls {n o q τ : Nat} {rd : Rdr} {σ : Store} (hqo : q ≠ o) (hat : rd.at_ = 0) (hbad : rd.bad = none) (hn : manys rd.l ≤ n) (hm : manys rd.l + 1 ≤ big) :
    PCalls prog 73 [.ptr (.out q) 0, .ptr (.out o) 0] (gRow σ q o τ rd [] []) fun v σ' => v = .tup [] ∧ σ' = gRow σ q o τ (rd.rowIn n).1.1 ((rd.rowIn n).2.map Word.enc) ((rd.rowIn n).1.2.map Nd.enc) := by
  have hlen := manys_ge rd.l
  have hfield : Reads (Rdr.field n) := reads_of (goes_field n)
  refine fn73.calls ?_
  simp only [slots, ac73, am]
  refine kO_intro fun p hp => ?_
  have hpq : p ≠ q := by rintro rfl; rw [gRow_q hqo] at hp; simp at hp
  have hpo : p ≠ o := by rintro rfl; rw [gRow_o] at hp; simp at hp
  rw [gRow_p hpq hpo] at hp
  rw [gRow_other hpq hpo]
  have hsp : ∀ a b c, (gRow (σ.set p [.ptr (.out q) 0]) q o τ a b c).box p = some [.ptr (.out q) 0] := fun a b c => by rw [gRow_p hpq hpo, Store.set_same]
  have hfin : ∀ a b c, (gRow σ q o τ a b c).sub (gRow (σ.set p [.ptr (.out q) 0]) q o τ a b c) := fun a b c => by
    rw [← gRow_other hpq hpo]; exact sub_set (by rw [gRow_p hpq hpo]; exact hp)
  simp only [am, hsp]
  refine (sees_calls (gRow_q hqo)).mono ?_
  rintro v σ' ⟨rfl, rfl⟩
  cases h1 : rd.sees 124
  all_goals simp only [am, hsp]
  case' false =>
    have hstep : ∀ a : Rdr × List Nd, Pace rd.l a → a.1.bad = none → PCalls prog 74 [.ptr (.out o) 0, .ptr (.out p) 0] (gRow (σ.set p [.ptr (.out q) 0]) q o τ a.1 [] (a.2.map Nd.enc)) fun v σ' =>
        v = .tup [] ∧ σ' = gRow (σ.set p [.ptr (.out q) 0]) q o τ (oStep (Rdr.field n) a).1 [] ((oStep (Rdr.field n) a).2.map Nd.enc) := fun a hp' hb => by
      have hl := hp'.2.2.2 hb
      have hl2 := hp'.2.2.1
      refine (row11_calls (n := n) gRow_o (hsp _ _ _) (gRow_q hqo) (Ne.symm hqo) gRow_tip (by rw [List.length_map]; omega) (by rw [hp'.1]; exact hn) (by rw [hp'.1]; exact hm)).mono ?_
      rintro v σ' ⟨rfl, rfl⟩
      refine ⟨rfl, ?_⟩
      rw [gRow_put hqo]
      simp [oStep]
    have h0 : Pace rd.l (rd, ([] : List Nd)) := ⟨rfl, by simp [hat], by simp [hat], fun _ => by simp [hat]⟩
    obtain ⟨p1, _⟩ := pace_one hfield h0 hbad
    refine (some_calls (rSys (Rdr.field n) (σ.set p [.ptr (.out q) 0]) q o τ) (Pace rd.l) (a := (rd, [])) (n := rd.l.length) (by simp [am]) (fun a h => gRow_q hqo) (fun a h => ?_) (fun a h hs => gRow_set hqo) (fun a h hs => ?_) (hstep _ h0 hbad) p1 ?_).mono ?_
    · show a.1.l.length ≤ big
      rw [h.1]; omega
    · obtain ⟨k1, k2, k3⟩ := pace_take h hs
      obtain ⟨k4, k5⟩ := pace_one hfield k1 k2
      refine ⟨hstep _ k1 k2, k4, ?_, ?_⟩
      · exact k4.1.trans h.1.symm
      · show a.1.at_ + 1 ≤ _
        simp only at k5
        rw [k3] at k5
        exact k5
    · show (oStep (Rdr.field n) (rd, [])).1.l.length ≤ rd.l.length
      rw [p1.1]; omega
    rintro v σ' ⟨rfl, rfl⟩
    have e : (rSys (Rdr.field n) (σ.set p [.ptr (.out q) 0]) q o τ).F ((rSys (Rdr.field n) (σ.set p [.ptr (.out q) 0]) q o τ).go rd.l.length ((rSys (Rdr.field n) (σ.set p [.ptr (.out q) 0]) q o τ).step (rd, []))) = gRow (σ.set p [.ptr (.out q) 0]) q o τ (someG (oStep (Rdr.field n)) rd).1 [] ((someG (oStep (Rdr.field n)) rd).2.map Nd.enc) := by
      unfold rSys
      rw [go_goG]
      rfl
    rw [e]
    have hl := someG_l hfield rd
    have hres : rd.rowIn n = if (someG (oStep (Rdr.field n)) rd).1.sees 124 = true then ((((someG (oStep (Rdr.field n)) rd).1.take 124).2.word.2, (someG (oStep (Rdr.field n)) rd).2), [((someG (oStep (Rdr.field n)) rd).1.take 124).2.word.1]) else (someG (oStep (Rdr.field n)) rd, []) := by
      simp only [Rdr.rowIn, h1, Bool.false_eq_true, if_false]
    generalize someG (oStep (Rdr.field n)) rd = a at hl hres ⊢
    simp only [am, hsp]
  case' true =>
    have hres : rd.rowIn n = if rd.sees 124 = true then (((rd.take 124).2.word.2, []), [(rd.take 124).2.word.1]) else ((rd, []), []) := by
      simp only [Rdr.rowIn, h1, if_true]
    have hl : rd.l = rd.l := rfl
    rw [show gRow (σ.set p [.ptr (.out q) 0]) q o τ rd [] [] = gRow (σ.set p [.ptr (.out q) 0]) q o τ (rd, ([] : List Nd)).1 [] ((rd, ([] : List Nd)).2.map Nd.enc) from rfl]
    have hres : rd.rowIn n = if (rd, ([] : List Nd)).1.sees 124 = true then ((((rd, ([] : List Nd)).1.take 124).2.word.2, (rd, ([] : List Nd)).2), [((rd, ([] : List Nd)).1.take 124).2.word.1]) else ((rd, ([] : List Nd)), []) := hres
    have hl : (rd, ([] : List Nd)).1.l = rd.l := rfl
    generalize (rd, ([] : List Nd)) = a at hl hres ⊢
  all_goals
    refine (sees_calls (gRow_q hqo)).mono ?_
    rintro v σ' ⟨rfl, rfl⟩
    cases h2 : a.1.sees 124
    · simp only [am, hres, h2]
      exact retK_intro rfl (hfin _ _ _) ⟨rfl, rfl⟩
    · simp only [am, hsp]
      refine (take_calls (gRow_q hqo) (by rw [hl]; omega)).mono ?_
      rintro v σ' ⟨rfl, rfl⟩
      rw [gRow_set hqo]
      simp only [am, hsp]
      refine (word_calls (gRow_q hqo) (by rw [Rdr.take_l, hl]; omega)).mono ?_
      rintro v σ' ⟨rfl, rfl⟩
      rw [gRow_set hqo]
      simp only [am, hsp, Word.enc, gRow_o, rCells, Nat.reduceAdd]
      rw [show [V.int .i64 10, .int .i64 0, .str [], .sl .full 2 [[.str (a.1.take 124).2.word.1.text, .int .i64 (a.1.take 124).2.word.1.pos]], .sl (.tk τ) 5 (a.2.map Nd.enc)] = rCells τ ([(a.1.take 124).2.word.1].map Word.enc) (a.2.map Nd.enc) from rfl, gRow_names]
      exact retK_intro rfl (hfin _ _ _) ⟨rfl, by rw [hres, if_pos h2]⟩
end Go.Proofs.Try

/-
  Rows, the whole.
-/
namespace Go.Proofs.Try
open Go.Am
set_option maxRecDepth 4000
set_option maxHeartbeats 4000000

theorem sub_skip {a b : Store} {o : Nat} {C : List V} (h : a.sub b) (k : a.box o = none) : a.sub (b.set o C) := by
  refine ⟨fun x cs hx => ?_, h.2⟩
  have : x ≠ o := by rintro rfl; rw [k] at hx; simp at hx
  rw [Store.set_other _ _ this]; exact h.1 x cs hx
theorem rowIn_l {n : Nat} (i : Rdr) : (i.rowIn n).1.1.l = i.l := by
  have hfield : Reads (Rdr.field n) := reads_of (goes_field n)
  cases h1 : i.sees 124
  · cases h2 : (someG (oStep (Rdr.field n)) i).1.sees 124 <;> simp [Rdr.rowIn, h1, h2, Rdr.word, Rdr.take_l, someG_l hfield]
  · simp [Rdr.rowIn, h1, Rdr.word, Rdr.take_l]
theorem rowOf_l {n : Nat} (t : Tree) : (Rdr.rowOf n t).1.1.l = t.kids := by
  unfold Rdr.rowOf
  split
  · rfl
  · rw [rowIn_l]; rfl

theorem row_calls {n r : Nat} {rd : Rdr} {σ : Store} (h : σ.box r = some rd.enc) (hn : manys rd.l ≤ n) (hm : manys rd.l + 1 ≤ big) :
    PCalls prog 45 [.ptr (.out r) 0] σ fun v σ' => v = .agg (rd.row n).1.enc ∧ σ' = σ.set r (rd.row n).2.enc := by
  have hlen := manys_ge rd.l
  refine fn45.calls ?_
  simp only [slots, ac45, am]
  refine (sees_calls h).mono ?_
  rintro v σ ⟨rfl, rfl⟩
  cases h1 : rd.sees 91
  · simp only [am]
    refine (word_calls h (by omega)).mono ?_
    rintro v σ' ⟨rfl, rfl⟩
    simp only [am, Word.enc, Nat.reduceAdd]
    refine retK_intro rfl (Store.sub_refl _) ⟨?_, by simp [Rdr.row, Rdr.leaf, h1]⟩
    simp [Rdr.row, Rdr.leaf, h1, V.erase, eraseL, Nd.enc, nencs]
  · simp only [am]
    refine kO_intro fun o ho => ?_
    have hor : o ≠ r := by rintro rfl; rw [h] at ho; simp at ho
    simp only [am]
    refine Upd.tok 0 fun τ hτ => ⟨_, _, _, LTo.rfl, rfl, fun i c hc => ⟨c, hc, LTo.rfl⟩, OTo.set (cs := [.int .i64 10, .int .i64 0, .str [], .sl .full 2 [], .sl .full 5 []]) (cs' := rCells τ [] []) (Store.set_same _ _ _) ⟨VTo.same, VTo.same, VTo.same, VTo.same, VTo.tok rfl, trivial⟩, ?_⟩
    simp only [am]
    have h1' : ((σ.set o (rCells τ [] [])).setTip τ 0).box r = some rd.enc := by
      show (σ.set o _).box r = _
      rw [Store.set_other _ _ (Ne.symm hor)]; exact h
    have hne : ∀ q, ((σ.set o (rCells τ [] [])).setTip τ 0).box q = none → q ≠ o ∧ q ≠ r ∧ σ.box q = none := fun q hq => by
      have hqo : q ≠ o := by rintro rfl; rw [show ((σ.set q (rCells τ [] [])).setTip τ 0).box q = _ from Store.set_same _ _ _] at hq; simp at hq
      have hq' : σ.box q = none := by rw [← Store.set_other σ (rCells τ [] []) hqo]; exact hq
      exact ⟨hqo, by rintro rfl; rw [h] at hq'; simp at hq', hq'⟩
    have hkids : manys (rd.take 91).1.kids ≤ manys rd.l := (rd.take_many 91).1
    have hklen := manys_ge (rd.take 91).1.kids
    generalize hin : Rdr.rowOf n (rd.take 91).1 = ins
    have hinl : ins.1.1.l = (rd.take 91).1.kids := by rw [← hin]; exact rowOf_l _
    refine (within_calls (kind := 91) (by simp [am]) h1' (by omega) (by omega) ins.1.1 ((σ.set o (rCells τ (ins.2.map Word.enc) (ins.1.2.map Nd.enc))).setTip τ (ins.1.2.map Nd.enc).length) ?_ ?_ ?_ hinl).mono ?_
    · intro hok hc q hq
      obtain ⟨hqo, hqr, _⟩ := hne q hq
      have e1 : (((σ.set o (rCells τ [] [])).setTip τ 0).set r (rd.take 91).2.enc).set q (rd.take 91).1.inner.enc = gRow (σ.set r (rd.take 91).2.enc) q o τ (rd.take 91).1.inner [] [] := by
        unfold gRow
        rw [Store.set_comm (b := q) hqo, Store.set_comm (b := r) (Ne.symm hor)]
        rfl
      have e2 : (((σ.set o (rCells τ (ins.2.map Word.enc) (ins.1.2.map Nd.enc))).setTip τ (ins.1.2.map Nd.enc).length).set r (rd.take 91).2.enc).set q ins.1.1.enc = gRow (σ.set r (rd.take 91).2.enc) q o τ ins.1.1 (ins.2.map Word.enc) (ins.1.2.map Nd.enc) := by
        unfold gRow
        rw [Store.set_comm (b := q) hqo, Store.set_comm (b := r) (Ne.symm hor)]
        rfl
      have e3 : ins = (rd.take 91).1.inner.rowIn n := by
        rw [← hin, Rdr.rowOf, if_neg]
        rcases hc with hc | hc
        · simp at hc
        · exact hc
      rw [e1, e2, e3]
      exact row1_calls hqo rfl rfl (by show manys (rd.take 91).1.kids ≤ n; omega) (by show manys (rd.take 91).1.kids + 1 ≤ big; omega)
    · intro q1 q2
      have : ins = (((rd.take 91).1.inner, []), []) := by rw [← hin, Rdr.rowOf, if_pos q2]
      rw [this]
      exact ⟨rfl, rfl⟩
    · intro q hq
      obtain ⟨hqo, _, hq'⟩ := hne q hq
      show (σ.set o _).box q = none
      rw [Store.set_other _ _ hqo]; exact hq'
    rintro v σ' hv
    have hdrop : ∀ (A B : List V) (n : Nat), (σ.set r A).sub (((σ.set o B).setTip τ n).set r A) := fun A B n => by
      refine ⟨fun b cs hb => ?_, fun υ m hm => ?_⟩
      · have hbo : b ≠ o := by rintro rfl; rw [Store.set_other _ _ hor, ho] at hb; simp at hb
        by_cases hbr : b = r
        · subst hbr; rw [Store.set_same] at hb ⊢; exact hb
        · rw [Store.set_other _ _ hbr] at hb ⊢
          show (σ.set o B).box b = _
          rw [Store.set_other _ _ hbo]; exact hb
      · have hm' : σ.tip υ = some m := hm
        have hne' : υ ≠ τ := by rintro rfl; rw [show (σ.set o [V.int .i64 10, .int .i64 0, .str [], .sl .full 2 [], .sl .full 5 []]).tip υ = σ.tip υ from rfl] at hτ; rw [hτ] at hm'; simp at hm'
        show ((σ.set o B).setTip τ n).tip υ = some m
        rw [setTip_tip_ne hne']; exact hm'
    have hok : (rd.take 91).2.ok = true := by
      rcases rd.take_at 91 with ⟨_, _, e, _, _⟩ | ⟨e, _, _⟩
      · simp [Rdr.ok, e]
      · rw [h1] at e; simp at e
    rw [if_pos hok] at hv
    obtain ⟨rfl, rfl⟩ := hv
    have hb : (((σ.set o (rCells τ (ins.2.map Word.enc) (ins.1.2.map Nd.enc))).setTip τ (ins.1.2.map Nd.enc).length).set r ((rd.take 91).2.under ins.1.1).enc).box o = some (rCells τ (ins.2.map Word.enc) (ins.1.2.map Nd.enc)) := by
      rw [Store.set_other _ _ hor]; exact Store.set_same _ _ _
    simp only [rCells] at hb hdrop ⊢
    simp only [am, hb, Nat.reduceAdd]
    refine retK_intro rfl (sub_skip (hdrop _ _ _) (by rw [Store.set_other _ _ hor]; exact ho)) ⟨?_, by simp [Rdr.row, h1, hin]⟩
    simp [Rdr.row, h1, hin, V.erase, eraseL, Nd.enc, nencs_map]
end Go.Proofs.Try

/-
  Reading at a place.
-/
namespace Go.Proofs.Try
open Go.Am
set_option maxRecDepth 4000
set_option maxHeartbeats 4000000

def fenc (b : Option Int) : V := .agg [.int .i64 (badC b), .int .i64 (badA b)]

theorem read_calls {g : FuncId} {one : Rdr → Nd × Rdr} {l : List Tree} {at_ fin : Int} {σ : Store}
    (hone : ∀ q (σ : Store), σ.box q = some (⟨l, at_, fin, none⟩ : Rdr).enc → PCalls prog g [.ptr (.out q) 0] σ fun v σ' => v = .agg (one ⟨l, at_, fin, none⟩).1.enc ∧ σ' = σ.set q (one ⟨l, at_, fin, none⟩).2.enc) :
    PCalls prog 37 [.sl .no 5 (encs l), .int .i64 at_, .int .i64 fin, .fn (.func g) [] []] σ fun v σ' => v = .tup [.agg (readAt one l at_ fin).1.enc, .int .i64 (readAt one l at_ fin).2.1, fenc (readAt one l at_ fin).2.2] ∧ σ' = σ := by
  refine fn37.calls ?_
  simp only [slots, ac37, am]
  refine kO_intro fun q hq => ?_
  rw [show [V.sl .no 5 (encs l), .int .i64 at_, .int .i64 fin, .int .i64 0, .int .i64 0] = (⟨l, at_, fin, none⟩ : Rdr).enc from rfl]
  simp only [am]
  refine (hone q _ (Store.set_same _ _ _)).mono ?_
  rintro v σ' ⟨rfl, rfl⟩
  have hb := Store.set_same σ q (one ⟨l, at_, fin, none⟩).2.enc
  have hres : readAt one l at_ fin = match (one ⟨l, at_, fin, none⟩).2.bad with | some b => (.zero, 0, some b) | none => ((one ⟨l, at_, fin, none⟩).1, (one ⟨l, at_, fin, none⟩).2.at_, none) := rfl
  generalize one ⟨l, at_, fin, none⟩ = o at hb hres ⊢
  simp only [am, Nd.len, Nd.one, Nd.nol, Nd.er, Nd.ovr, Nd.tk, Nd.wd]
  refine (ok_calls (Store.set_same _ _ _)).mono ?_
  rintro v σ' ⟨rfl, rfl⟩
  cases h : o.2.bad with
  | some b =>
    simp only [am, Rdr.ok, h, Option.isNone, Rdr.ex, Nat.reduceAdd]
    rw [h] at hres
    refine retK_intro rfl (sub_set hq) ⟨?_, rfl⟩
    simp [hres, V.erase, eraseL, Nd.zero, Nd.enc, nencs, fenc]
  | none =>
    simp only [am, Rdr.ok, h, Option.isNone, Rdr.ex, Nat.reduceAdd, Nd.len, Nd.one, Nd.nol, Nd.er, Nd.ovr, Nd.tk, Nd.wd]
    rw [h] at hres
    refine retK_intro (by simp only [am, Nd.nol]) (sub_set hq) ⟨?_, rfl⟩
    simp [hres, V.erase, eraseL, fenc, Nd.er, badC, badA]

theorem Const_calls {n : Nat} {l : List Tree} {at_ fin : Int} {σ : Store} (hn : manys l ≤ n) (hm : manys l + 1 ≤ big) :
    PCalls prog 13 [.sl .no 5 (encs l), .int .i64 at_, .int .i64 fin] σ fun v σ' => v = .tup [.agg (readAt (Rdr.constant n) l at_ fin).1.enc, .int .i64 (readAt (Rdr.constant n) l at_ fin).2.1, fenc (readAt (Rdr.constant n) l at_ fin).2.2] ∧ σ' = σ := by
  refine fn13.calls ?_
  simp only [slots, ac13, am]
  refine (read_calls (one := Rdr.constant n) (fun q σ h => constant_calls n h hn hm)).mono ?_
  rintro v σ ⟨rfl, rfl⟩
  generalize readAt (Rdr.constant n) l at_ fin = o
  simp only [am, fenc, Nd.len, Nd.ovr, Nd.tk, Nd.one, Nd.wd]
  refine retK_intro (by simp only [am, Nd.nol]) (Store.sub_refl _) ⟨?_, rfl⟩
  simp [V.erase, eraseL, Nd.er]

theorem Label_calls {n : Nat} {l : List Tree} {at_ fin : Int} {σ : Store} (hn : manys l ≤ n) (hm : manys l + 1 ≤ big) :
    PCalls prog 15 [.sl .no 5 (encs l), .int .i64 at_, .int .i64 fin] σ fun v σ' => v = .tup [.agg (readAt (Rdr.label n) l at_ fin).1.enc, .int .i64 (readAt (Rdr.label n) l at_ fin).2.1, fenc (readAt (Rdr.label n) l at_ fin).2.2] ∧ σ' = σ := by
  refine fn15.calls ?_
  simp only [slots, ac15, am]
  refine (read_calls (one := Rdr.label n) (fun q σ h => label_calls n h hn hm)).mono ?_
  rintro v σ ⟨rfl, rfl⟩
  generalize readAt (Rdr.label n) l at_ fin = o
  simp only [am, fenc, Nd.len, Nd.ovr, Nd.tk, Nd.one, Nd.wd]
  refine retK_intro (by simp only [am, Nd.nol]) (Store.sub_refl _) ⟨?_, rfl⟩
  simp [V.erase, eraseL, Nd.er]

theorem Row_calls {n : Nat} {l : List Tree} {at_ fin : Int} {σ : Store} (hn : manys l ≤ n) (hm : manys l + 1 ≤ big) :
    PCalls prog 17 [.sl .no 5 (encs l), .int .i64 at_, .int .i64 fin] σ fun v σ' => v = .tup [.agg (readAt (Rdr.row n) l at_ fin).1.enc, .int .i64 (readAt (Rdr.row n) l at_ fin).2.1, fenc (readAt (Rdr.row n) l at_ fin).2.2] ∧ σ' = σ := by
  refine fn17.calls ?_
  simp only [slots, ac17, am]
  refine (read_calls (one := Rdr.row n) (fun q σ h => row_calls (n := n) h hn hm)).mono ?_
  rintro v σ ⟨rfl, rfl⟩
  generalize readAt (Rdr.row n) l at_ fin = o
  simp only [am, fenc, Nd.len, Nd.ovr, Nd.tk, Nd.one, Nd.wd]
  refine retK_intro (by simp only [am, Nd.nol]) (Store.sub_refl _) ⟨?_, rfl⟩
  simp [V.erase, eraseL, Nd.er]

theorem Words_calls {l : List Tree} {at_ fin : Int} {σ : Store} (hm : manys l + 1 ≤ big) :
    PCalls prog 9 [.sl .no 5 (encs l), .int .i64 at_, .int .i64 fin] σ fun v σ' => v = .tup [.sl .no 2 ((wordsAt l at_ fin).1.map Word.enc), fenc (wordsAt l at_ fin).2] ∧ σ' = σ := by
  have hlen := manys_ge l
  refine fn9.calls ?_
  simp only [slots, ac9, am]
  refine kO_intro fun q hq => ?_
  rw [show [V.sl .no 5 (encs l), .int .i64 at_, .int .i64 fin, .int .i64 0, .int .i64 0] = (⟨l, at_, fin, none⟩ : Rdr).enc from rfl]
  simp only [am]
  refine (words_calls (Store.set_same _ _ _) (by simp only; omega) (kids_big hm rfl)).mono ?_
  rintro v σ' ⟨rfl, rfl⟩
  have hb := Store.set_same σ q ((⟨l, at_, fin, none⟩ : Rdr).words false).2.enc
  have hres : wordsAt l at_ fin = match ((⟨l, at_, fin, none⟩ : Rdr).words false).2.bad with | some b => ([], some b) | none => (((⟨l, at_, fin, none⟩ : Rdr).words false).1.1, none) := rfl
  generalize (⟨l, at_, fin, none⟩ : Rdr).words false = o at hb hres ⊢
  simp only [am]
  refine (ok_calls (Store.set_same _ _ _)).mono ?_
  rintro v σ' ⟨rfl, rfl⟩
  cases h : o.2.bad with
  | some b =>
    simp only [am, Rdr.ok, h, Option.isNone, Rdr.ex, Nat.reduceAdd]
    rw [h] at hres
    refine retK_intro rfl (sub_set hq) ⟨?_, rfl⟩
    simp [hres, V.erase, eraseL, fenc]
  | none =>
    simp only [am, Rdr.ok, h, Option.isNone]
    rw [h] at hres
    refine retK_intro rfl (sub_set hq) ⟨?_, rfl⟩
    simp [hres, V.erase, eraseL, fenc, badC, badA]
end Go.Proofs.Try

namespace Go.Proofs.Try
open Go.Am

/-- clearance/clearanceref10.whole -/
def ac35 : AC :=
  .seq (.reg [⟨(some 4), .box 5 (.s 1), none⟩,
     ⟨(some 6), .mv (.c (.sl .full 5 [])), none⟩,
     ⟨(some 7), .alloc [(.int .i64 0), (.int .i64 0), (.str []), (.sl .full 2 []), (.sl .full 5 []), (.int .i64 0), (.bool false), (.int .i64 0)], none⟩])
  (.seq (.seq (.reg [⟨(some 10), .mv (.s 2), none⟩,
       ⟨(some 11), .mv (.s 10), none⟩,
       ⟨(some 12), .fld 3 (.s 4), (some (11, true))⟩,
       ⟨(some 13), .load false 1 (.s 12), (some (11, true))⟩,
       ⟨(some 14), .lenS (.s 13), (some (11, true))⟩,
       ⟨(some 15), .binI .eql (.s 14) (.c (.int .i64 0)), (some (11, true))⟩,
       ⟨(some 16), .pick (.s 11) (.s 15) (.c (.bool false)), none⟩])
    (.cond (.s 16) (.seq (.reg [⟨(some 17), .build [(.int .i64 0), (.int .i64 0), (.str []), (.sl .full 2 []), (.sl .full 5 []), (.int .i64 0), (.bool false), (.int .i64 0)] [], none⟩,
         ⟨(some 6), .mv (.c (.sl .full 5 [])), none⟩,
         ⟨none, .store 8 (.s 7) (.s 17), none⟩])
      (.ret))
     (.skip)))
   (.seq (.reg [⟨(some 19), .mv (.s 0), none⟩,
       ⟨(some 20), .fld 3 (.s 4), none⟩,
       ⟨(some 21), .load false 1 (.s 20), none⟩,
       ⟨(some 22), .fld 4 (.s 4), none⟩,
       ⟨(some 23), .load false 1 (.s 22), none⟩,
       ⟨(some 24), .call 66 [(.s 19), (.s 21), (.c (.int .i64 0)), (.s 23)], none⟩,
       ⟨(some 18), .mv (.s 24), none⟩,
       ⟨(some 25), .ext (.s 18) 0, none⟩,
       ⟨(some 26), .ext (.s 18) 1, none⟩,
       ⟨(some 9), .alloc [(.int .i64 0), (.int .i64 0), (.str []), (.sl .full 2 []), (.sl .full 5 []), (.int .i64 0), (.bool false), (.int .i64 0)], none⟩,
       ⟨(some 8), .mv (.s 25), none⟩,
       ⟨none, .store 8 (.s 9) (.s 26), none⟩])
    (.seq (.seq (.reg [⟨(some 27), .fld 6 (.s 9), none⟩,
         ⟨(some 28), .load false 1 (.s 27), none⟩,
         ⟨(some 29), .not (.s 28), none⟩,
         ⟨(some 30), .mv (.s 29), none⟩,
         ⟨(some 31), .fld 5 (.s 9), (some (30, true))⟩,
         ⟨(some 32), .load false 1 (.s 31), (some (30, true))⟩,
         ⟨(some 33), .fld 3 (.s 4), (some (30, true))⟩,
         ⟨(some 34), .load false 1 (.s 33), (some (30, true))⟩,
         ⟨(some 35), .lenS (.s 34), (some (30, true))⟩,
         ⟨(some 36), .binI .lss (.s 32) (.s 35), (some (30, true))⟩,
         ⟨(some 37), .pick (.s 30) (.s 36) (.c (.bool false)), none⟩])
      (.cond (.s 37) (.seq (.reg [⟨(some 38), .fld 3 (.s 4), none⟩,
           ⟨(some 39), .load false 1 (.s 38), none⟩,
           ⟨(some 40), .fld 5 (.s 9), none⟩,
           ⟨(some 41), .load false 1 (.s 40), none⟩,
           ⟨(some 42), .fld 4 (.s 4), none⟩,
           ⟨(some 43), .load false 1 (.s 42), none⟩,
           ⟨(some 44), .call 34 [(.s 39), (.s 41), (.s 43)], none⟩,
           ⟨(some 6), .mv (.c (.sl .full 5 [])), none⟩,
           ⟨none, .store 8 (.s 7) (.s 44), none⟩])
        (.ret))
       (.skip)))
     (.seq (.draw [(⟨(some 45), .mv (.s 8), none⟩, []),
         (⟨(some 46), .load true 8 (.s 9), none⟩, []),
         (⟨(some 6), .mv (.s 45), none⟩, []),
         (⟨none, .store 8 (.s 7) (.s 46), none⟩, [])])
      (.ret)))))
theorem fn35 : IsFn prog 35 ac35 [.tmp 6, .cell 7 true 8] 47 := ⟨f35, ⟨[], []⟩, func35, by kernel_rfl, by kernel_rfl, by kernel_rfl, by kernel_rfl⟩

/-- clearance/clearanceref10.some -/
def ac66 : AC :=
  .seq (.reg [⟨(some 8), .mv (.c (.sl .full 5 [])), none⟩,
     ⟨(some 9), .alloc [(.int .i64 0), (.int .i64 0), (.str []), (.sl .full 2 []), (.sl .full 5 []), (.int .i64 0), (.bool false), (.int .i64 0)], none⟩])
  (.seq (.reg [⟨(some 10), .mv (.c (.sl .full 5 [])), none⟩])
   (.block 0 (.loop (.block 1 (.seq (.reg [⟨(some 12), .mv (.s 0), none⟩,
          ⟨(some 13), .mv (.s 1), none⟩,
          ⟨(some 14), .mv (.s 2), none⟩,
          ⟨(some 15), .mv (.s 3), none⟩,
          ⟨(some 16), .call 85 [(.s 12), (.s 13), (.s 14), (.s 15)], none⟩,
          ⟨(some 11), .alloc [(.int .i64 0), (.int .i64 0), (.str []), (.sl .full 2 []), (.sl .full 5 []), (.int .i64 0), (.bool false), (.int .i64 0)], none⟩,
          ⟨none, .store 8 (.s 11) (.s 16), none⟩])
       (.seq (.seq (.reg [⟨(some 17), .fld 6 (.s 11), none⟩,
            ⟨(some 18), .load false 1 (.s 17), none⟩])
         (.cond (.s 18) (.seq (.draw [(⟨(some 19), .load true 8 (.s 11), none⟩, []),
              (⟨(some 8), .mv (.c (.sl .full 5 [])), none⟩, []),
              (⟨none, .store 8 (.s 9) (.s 19), none⟩, [])])
           (.ret))
          (.skip)))
        (.seq (.reg [⟨(some 20), .mv (.s 10), none⟩,
            ⟨(some 21), .fld 0 (.s 11), none⟩,
            ⟨(some 22), .load true 5 (.s 21), none⟩,
            ⟨(some 23), .bslice 5 [(.s 22)], none⟩,
            ⟨(some 24), .app 5 (.s 20) (.s 23), none⟩,
            ⟨(some 10), .mv (.s 24), none⟩])
         (.seq (.seq (.reg [⟨(some 25), .mv (.s 1), none⟩,
              ⟨(some 26), .fld 5 (.s 11), none⟩,
              ⟨(some 27), .load false 1 (.s 26), none⟩,
              ⟨(some 28), .call 33 [(.s 25), (.s 27), (.c (.int .u8 44))], none⟩,
              ⟨(some 29), .not (.s 28), none⟩])
           (.cond (.s 29) (.seq (.draw [(⟨(some 30), .mv (.s 10), none⟩, []),
                (⟨(some 31), .load true 8 (.s 11), none⟩, []),
                (⟨(some 8), .mv (.s 30), none⟩, []),
                (⟨none, .store 8 (.s 9) (.s 31), none⟩, [])])
             (.ret))
            (.skip)))
          (.reg [⟨(some 32), .fld 5 (.s 11), none⟩,
             ⟨(some 33), .load false 1 (.s 32), none⟩,
             ⟨(some 34), .binI .add (.s 33) (.c (.int .i64 1)), none⟩,
             ⟨(some 2), .mv (.s 34), none⟩])))))))))
theorem fn66 : IsFn prog 66 ac66 [.tmp 8, .cell 9 true 8] 35 := ⟨f66, ⟨[], []⟩, func66, by kernel_rfl, by kernel_rfl, by kernel_rfl, by kernel_rfl⟩

/-- clearance/clearanceref10.one -/
def ac85 : AC :=
  .seq (.reg [⟨(some 8), .alloc [(.int .i64 0), (.int .i64 0), (.str []), (.sl .full 2 []), (.sl .full 5 []), (.int .i64 0), (.bool false), (.int .i64 0)], none⟩])
  (.seq (.seq (.reg [⟨(some 9), .mv (.s 0), none⟩])
    (.block 0 (.seq (.reg [⟨(some 11), .binI .eql (.s 9) (.c (.int .i64 1)), none⟩,
         ⟨(some 10), .mv (.s 11), none⟩])
      (.cond (.s 10) (.seq (.reg [⟨(some 12), .mv (.s 1), none⟩,
           ⟨(some 13), .mv (.s 2), none⟩,
           ⟨(some 14), .mv (.s 3), none⟩,
           ⟨(some 15), .call 90 [(.s 12), (.s 13), (.s 14)], none⟩,
           ⟨none, .store 8 (.s 8) (.s 15), none⟩])
        (.ret))
       (.seq (.reg [⟨(some 17), .binI .eql (.s 9) (.c (.int .i64 2)), none⟩,
           ⟨(some 16), .mv (.s 17), none⟩])
        (.cond (.s 16) (.seq (.reg [⟨(some 18), .mv (.s 1), none⟩,
             ⟨(some 19), .mv (.s 2), none⟩,
             ⟨(some 20), .mv (.s 3), none⟩,
             ⟨(some 21), .call 91 [(.s 18), (.s 19), (.s 20)], none⟩,
             ⟨none, .store 8 (.s 8) (.s 21), none⟩])
          (.ret))
         (.seq (.reg [⟨(some 23), .binI .eql (.s 9) (.c (.int .i64 3)), none⟩,
             ⟨(some 22), .mv (.s 23), none⟩])
          (.cond (.s 22) (.seq (.reg [⟨(some 24), .mv (.s 1), none⟩,
               ⟨(some 25), .mv (.s 2), none⟩,
               ⟨(some 26), .mv (.s 3), none⟩,
               ⟨(some 27), .call 92 [(.s 24), (.s 25), (.s 26)], none⟩,
               ⟨none, .store 8 (.s 8) (.s 27), none⟩])
            (.ret))
           (.seq (.reg [⟨(some 29), .binI .eql (.s 9) (.c (.int .i64 4)), none⟩,
               ⟨(some 28), .mv (.s 29), none⟩])
            (.cond (.s 28) (.seq (.reg [⟨(some 30), .mv (.s 1), none⟩,
                 ⟨(some 31), .mv (.s 2), none⟩,
                 ⟨(some 32), .mv (.s 3), none⟩,
                 ⟨(some 33), .call 93 [(.s 30), (.s 31), (.s 32)], none⟩,
                 ⟨none, .store 8 (.s 8) (.s 33), none⟩])
              (.ret))
             (.seq (.reg [⟨(some 35), .binI .eql (.s 9) (.c (.int .i64 5)), none⟩,
                 ⟨(some 34), .mv (.s 35), none⟩])
              (.cond (.s 34) (.seq (.seq (.reg [⟨(some 36), .mv (.s 1), none⟩,
                    ⟨(some 37), .mv (.s 2), none⟩,
                    ⟨(some 38), .call 33 [(.s 36), (.s 37), (.c (.int .u8 43))], none⟩,
                    ⟨(some 39), .mv (.s 38), none⟩,
                    ⟨(some 40), .mv (.s 1), (some (39, false))⟩,
                    ⟨(some 41), .mv (.s 2), (some (39, false))⟩,
                    ⟨(some 42), .call 33 [(.s 40), (.s 41), (.c (.int .u8 38))], (some (39, false))⟩,
                    ⟨(some 43), .pick (.s 39) (.c (.bool true)) (.s 42), none⟩])
                 (.cond (.s 43) (.seq (.reg [⟨(some 44), .mv (.s 1), none⟩,
                      ⟨(some 45), .mv (.s 2), none⟩,
                      ⟨(some 46), .mv (.s 3), none⟩,
                      ⟨(some 47), .call 34 [(.s 44), (.s 45), (.s 46)], none⟩,
                      ⟨none, .store 8 (.s 8) (.s 47), none⟩])
                   (.ret))
                  (.skip)))
                (.seq (.reg [⟨(some 48), .mv (.s 1), none⟩,
                    ⟨(some 49), .mv (.s 2), none⟩,
                    ⟨(some 50), .mv (.s 3), none⟩,
                    ⟨(some 51), .call 92 [(.s 48), (.s 49), (.s 50)], none⟩,
                    ⟨none, .store 8 (.s 8) (.s 51), none⟩])
                 (.ret)))
               (.skip)))))))))))))
   (.seq (.seq (.reg [⟨(some 52), .mv (.s 1), none⟩,
        ⟨(some 53), .mv (.s 2), none⟩,
        ⟨(some 54), .call 33 [(.s 52), (.s 53), (.c (.int .u8 97))], none⟩,
        ⟨(some 55), .not (.s 54), none⟩])
     (.cond (.s 55) (.seq (.reg [⟨(some 56), .mv (.s 1), none⟩,
          ⟨(some 57), .mv (.s 2), none⟩,
          ⟨(some 58), .mv (.s 3), none⟩,
          ⟨(some 59), .call 34 [(.s 56), (.s 57), (.s 58)], none⟩,
          ⟨none, .store 8 (.s 8) (.s 59), none⟩])
       (.ret))
      (.skip)))
    (.seq (.draw [(⟨(some 60), .mv (.s 1), none⟩, []),
        (⟨(some 61), .mv (.s 2), none⟩, []),
        (⟨(some 62), .idxA 5 (.s 60) (.s 61), none⟩, []),
        (⟨(some 63), .fld 0 (.s 62), none⟩, []),
        (⟨(some 64), .fld 2 (.s 63), none⟩, []),
        (⟨(some 65), .load false 1 (.s 64), none⟩, []),
        (⟨(some 66), .mv (.s 1), none⟩, []),
        (⟨(some 67), .mv (.s 2), none⟩, []),
        (⟨(some 68), .idxA 5 (.s 66) (.s 67), none⟩, []),
        (⟨(some 69), .fld 0 (.s 68), none⟩, []),
        (⟨(some 70), .fld 1 (.s 69), none⟩, []),
        (⟨(some 71), .load false 1 (.s 70), none⟩, []),
        (⟨(some 72), .build [(.int .i64 0), (.int .i64 0), (.str []), (.sl .full 2 []), (.sl .full 5 [])] [(1, 1, (.s 65)), (2, 1, (.s 71))], none⟩, []),
        (⟨(some 73), .mv (.s 2), none⟩, []),
        (⟨(some 74), .binI .add (.s 73) (.c (.int .i64 1)), none⟩, []),
        (⟨(some 75), .build [(.int .i64 0), (.int .i64 0), (.str []), (.sl .full 2 []), (.sl .full 5 []), (.int .i64 0), (.bool false), (.int .i64 0)] [(0, 5, (.s 72)), (5, 1, (.s 74))], none⟩, []),
        (⟨none, .store 8 (.s 8) (.s 75), none⟩, [])])
     (.ret))))
theorem fn85 : IsFn prog 85 ac85 [.cell 8 true 8] 76 := ⟨f85, ⟨[], []⟩, func85, by kernel_rfl, by kernel_rfl, by kernel_rfl, by kernel_rfl⟩

/-- clearance/clearanceref10.Const -/
def ac90 : AC :=
  .seq (.reg [⟨(some 6), .alloc [(.int .i64 0), (.int .i64 0), (.str []), (.sl .full 2 []), (.sl .full 5 []), (.int .i64 0), (.bool false), (.int .i64 0)], none⟩])
  (.seq (.seq (.reg [⟨(some 12), .mv (.s 0), none⟩,
       ⟨(some 13), .mv (.s 1), none⟩,
       ⟨(some 14), .call 33 [(.s 12), (.s 13), (.c (.int .u8 97))], none⟩])
    (.cond (.s 14) (.seq (.draw [(⟨(some 15), .mv (.s 0), none⟩, []),
         (⟨(some 16), .mv (.s 1), none⟩, []),
         (⟨(some 17), .idxA 5 (.s 15) (.s 16), none⟩, []),
         (⟨(some 18), .fld 0 (.s 17), none⟩, []),
         (⟨(some 19), .fld 2 (.s 18), none⟩, []),
         (⟨(some 20), .load false 1 (.s 19), none⟩, []),
         (⟨(some 21), .mv (.s 0), none⟩, []),
         (⟨(some 22), .mv (.s 1), none⟩, []),
         (⟨(some 23), .idxA 5 (.s 21) (.s 22), none⟩, []),
         (⟨(some 24), .fld 0 (.s 23), none⟩, []),
         (⟨(some 25), .fld 1 (.s 24), none⟩, []),
         (⟨(some 26), .load false 1 (.s 25), none⟩, []),
         (⟨(some 27), .build [(.int .i64 0), (.int .i64 0), (.str []), (.sl .full 2 []), (.sl .full 5 [])] [(0, 1, (.c (.int .i64 2))), (1, 1, (.s 20)), (2, 1, (.s 26))], none⟩, []),
         (⟨(some 28), .mv (.s 1), none⟩, []),
         (⟨(some 29), .binI .add (.s 28) (.c (.int .i64 1)), none⟩, []),
         (⟨(some 30), .build [(.int .i64 0), (.int .i64 0), (.str []), (.sl .full 2 []), (.sl .full 5 []), (.int .i64 0), (.bool false), (.int .i64 0)] [(0, 5, (.s 27)), (5, 1, (.s 29))], none⟩, []),
         (⟨none, .store 8 (.s 6) (.s 30), none⟩, [])])
      (.ret))
     (.skip)))
   (.seq (.reg [⟨(some 7), .mv (.c (.int .i64 0)), none⟩,
       ⟨(some 8), .mv (.c (.int .i64 0)), none⟩])
    (.seq (.seq (.reg [⟨(some 31), .mv (.s 0), none⟩,
         ⟨(some 32), .mv (.s 1), none⟩,
         ⟨(some 33), .call 33 [(.s 31), (.s 32), (.c (.int .u8 123))], none⟩])
      (.cond (.s 33) (.reg [⟨(some 7), .mv (.c (.int .i64 6)), none⟩,
          ⟨(some 8), .mv (.c (.int .i64 3)), none⟩])
       (.seq (.reg [⟨(some 34), .mv (.s 0), none⟩,
           ⟨(some 35), .mv (.s 1), none⟩,
           ⟨(some 36), .call 33 [(.s 34), (.s 35), (.c (.int .u8 40))], none⟩])
        (.cond (.s 36) (.reg [⟨(some 7), .mv (.c (.int .i64 1)), none⟩,
            ⟨(some 8), .mv (.c (.int .i64 4)), none⟩])
         (.seq (.reg [⟨(some 37), .mv (.s 0), none⟩,
             ⟨(some 38), .mv (.s 1), none⟩,
             ⟨(some 39), .call 33 [(.s 37), (.s 38), (.c (.int .u8 91))], none⟩])
          (.cond (.s 39) (.reg [⟨(some 7), .mv (.c (.int .i64 2)), none⟩,
              ⟨(some 8), .mv (.c (.int .i64 5)), none⟩])
           (.seq (.reg [⟨(some 40), .mv (.s 0), none⟩,
               ⟨(some 41), .mv (.s 1), none⟩,
               ⟨(some 42), .mv (.s 2), none⟩,
               ⟨(some 43), .call 34 [(.s 40), (.s 41), (.s 42)], none⟩,
               ⟨none, .store 8 (.s 6) (.s 43), none⟩])
            (.ret))))))))
     (.seq (.reg [⟨(some 45), .mv (.s 7), none⟩,
         ⟨(some 46), .mv (.s 0), none⟩,
         ⟨(some 47), .mv (.s 1), none⟩,
         ⟨(some 48), .idxA 5 (.s 46) (.s 47), none⟩,
         ⟨(some 49), .load true 5 (.s 48), none⟩,
         ⟨(some 50), .mv (.s 8), none⟩,
         ⟨(some 51), .binI .neq (.s 50) (.c (.int .i64 4)), none⟩,
         ⟨(some 52), .call 35 [(.s 45), (.s 49), (.s 51)], none⟩,
         ⟨(some 44), .mv (.s 52), none⟩,
         ⟨(some 53), .ext (.s 44) 0, none⟩,
         ⟨(some 54), .ext (.s 44) 1, none⟩,
         ⟨(some 10), .alloc [(.int .i64 0), (.int .i64 0), (.str []), (.sl .full 2 []), (.sl .full 5 []), (.int .i64 0), (.bool false), (.int .i64 0)], none⟩,
         ⟨(some 9), .mv (.s 53), none⟩,
         ⟨none, .store 8 (.s 10) (.s 54), none⟩])
      (.seq (.seq (.reg [⟨(some 55), .fld 6 (.s 10), none⟩,
           ⟨(some 56), .load false 1 (.s 55), none⟩])
        (.cond (.s 56) (.seq (.reg [⟨(some 57), .load true 8 (.s 10), none⟩,
             ⟨none, .store 8 (.s 6) (.s 57), none⟩])
          (.ret))
         (.skip)))
       (.seq (.reg [⟨(some 58), .mv (.s 8), none⟩,
           ⟨(some 59), .mv (.s 0), none⟩,
           ⟨(some 60), .mv (.s 1), none⟩,
           ⟨(some 61), .idxA 5 (.s 59) (.s 60), none⟩,
           ⟨(some 62), .fld 0 (.s 61), none⟩,
           ⟨(some 63), .fld 2 (.s 62), none⟩,
           ⟨(some 64), .load false 1 (.s 63), none⟩,
           ⟨(some 65), .mv (.s 9), none⟩,
           ⟨(some 66), .build [(.int .i64 0), (.int .i64 0), (.str []), (.sl .full 2 []), (.sl .full 5 [])] [(0, 1, (.s 58)), (1, 1, (.s 64)), (4, 1, (.s 65))], none⟩,
           ⟨(some 11), .alloc [(.int .i64 0), (.int .i64 0), (.str []), (.sl .full 2 []), (.sl .full 5 [])], none⟩,
           ⟨none, .store 5 (.s 11) (.s 66), none⟩])
        (.seq (.seq (.reg [⟨(some 67), .mv (.s 8), none⟩,
             ⟨(some 68), .binI .eql (.s 67) (.c (.int .i64 3)), none⟩])
          (.cond (.s 68) (.seq (.reg [⟨(some 69), .mv (.s 9), none⟩,
               ⟨(some 70), .call 36 [(.s 69)], none⟩,
               ⟨(some 71), .fld 3 (.s 11), none⟩,
               ⟨none, .store 1 (.s 71) (.s 70), none⟩])
            (.reg [⟨(some 72), .fld 4 (.s 11), none⟩,
               ⟨none, .store 1 (.s 72) (.c (.sl .full 5 [])), none⟩]))
           (.skip)))
         (.seq (.reg [⟨(some 73), .load true 5 (.s 11), none⟩,
             ⟨(some 74), .mv (.s 1), none⟩,
             ⟨(some 75), .binI .add (.s 74) (.c (.int .i64 1)), none⟩,
             ⟨(some 76), .build [(.int .i64 0), (.int .i64 0), (.str []), (.sl .full 2 []), (.sl .full 5 []), (.int .i64 0), (.bool false), (.int .i64 0)] [(0, 5, (.s 73)), (5, 1, (.s 75))], none⟩,
             ⟨none, .store 8 (.s 6) (.s 76), none⟩])
          (.ret)))))))))
theorem fn90 : IsFn prog 90 ac90 [.cell 6 true 8] 77 := ⟨f90, ⟨[], []⟩, func90, by kernel_rfl, by kernel_rfl, by kernel_rfl, by kernel_rfl⟩

/-- clearance/clearanceref10.rule -/
def ac91 : AC :=
  .seq (.reg [⟨(some 6), .alloc [(.int .i64 0), (.int .i64 0), (.str []), (.sl .full 2 []), (.sl .full 5 []), (.int .i64 0), (.bool false), (.int .i64 0)], none⟩])
  (.seq (.seq (.reg [⟨(some 7), .mv (.c (.int .i64 0)), none⟩])
    (.block 0 (.loop (.seq (.seq (.reg [⟨(some 11), .mv (.s 7), none⟩,
           ⟨(some 12), .binI .lss (.s 11) (.c (.int .i64 3)), none⟩])
        (.cond (.s 12) (.skip)
         (.exit 0)))
       (.seq (.block 1 (.seq (.reg [⟨(some 15), .bslice 1 [(.c (.int .u8 97)), (.c (.int .u8 58)), (.c (.int .u8 123))], none⟩,
             ⟨(some 8), .mv (.s 15), none⟩])
          (.seq (.reg [⟨(some 16), .mv (.s 0), none⟩,
              ⟨(some 17), .mv (.s 1), none⟩,
              ⟨(some 18), .mv (.s 7), none⟩,
              ⟨(some 19), .binI .add (.s 17) (.s 18), none⟩,
              ⟨(some 20), .mv (.s 8), none⟩,
              ⟨(some 21), .mv (.s 7), none⟩,
              ⟨(some 22), .idxA 1 (.s 20) (.s 21), none⟩,
              ⟨(some 23), .load false 1 (.s 22), none⟩,
              ⟨(some 24), .call 33 [(.s 16), (.s 19), (.s 23)], none⟩,
              ⟨(some 25), .not (.s 24), none⟩])
           (.cond (.s 25) (.seq (.reg [⟨(some 26), .mv (.s 0), none⟩,
                ⟨(some 27), .mv (.s 1), none⟩,
                ⟨(some 28), .mv (.s 7), none⟩,
                ⟨(some 29), .binI .add (.s 27) (.s 28), none⟩,
                ⟨(some 30), .mv (.s 2), none⟩,
                ⟨(some 31), .call 34 [(.s 26), (.s 29), (.s 30)], none⟩,
                ⟨none, .store 8 (.s 6) (.s 31), none⟩])
             (.ret))
            (.skip)))))
        (.reg [⟨(some 13), .mv (.s 7), none⟩,
           ⟨(some 14), .binI .add (.s 13) (.c (.int .i64 1)), none⟩,
           ⟨(some 7), .mv (.s 14), none⟩]))))))
   (.seq (.reg [⟨(some 33), .mv (.s 0), none⟩,
       ⟨(some 34), .mv (.s 1), none⟩,
       ⟨(some 35), .binI .add (.s 34) (.c (.int .i64 2)), none⟩,
       ⟨(some 36), .idxA 5 (.s 33) (.s 35), none⟩,
       ⟨(some 37), .load true 5 (.s 36), none⟩,
       ⟨(some 38), .call 35 [(.c (.int .i64 6)), (.s 37), (.c (.bool true))], none⟩,
       ⟨(some 32), .mv (.s 38), none⟩,
       ⟨(some 39), .ext (.s 32) 0, none⟩,
       ⟨(some 40), .ext (.s 32) 1, none⟩,
       ⟨(some 10), .alloc [(.int .i64 0), (.int .i64 0), (.str []), (.sl .full 2 []), (.sl .full 5 []), (.int .i64 0), (.bool false), (.int .i64 0)], none⟩,
       ⟨(some 9), .mv (.s 39), none⟩,
       ⟨none, .store 8 (.s 10) (.s 40), none⟩])
    (.seq (.seq (.reg [⟨(some 41), .fld 6 (.s 10), none⟩,
         ⟨(some 42), .load false 1 (.s 41), none⟩])
      (.cond (.s 42) (.seq (.reg [⟨(some 43), .load true 8 (.s 10), none⟩,
           ⟨none, .store 8 (.s 6) (.s 43), none⟩])
        (.ret))
       (.skip)))
     (.seq (.draw [(⟨(some 44), .mv (.s 0), none⟩, []),
         (⟨(some 45), .mv (.s 1), none⟩, []),
         (⟨(some 46), .idxA 5 (.s 44) (.s 45), none⟩, []),
         (⟨(some 47), .fld 0 (.s 46), none⟩, []),
         (⟨(some 48), .fld 2 (.s 47), none⟩, []),
         (⟨(some 49), .load false 1 (.s 48), none⟩, [1]),
         (⟨(some 50), .mv (.s 0), none⟩, []),
         (⟨(some 51), .mv (.s 1), none⟩, []),
         (⟨(some 52), .idxA 5 (.s 50) (.s 51), none⟩, []),
         (⟨(some 53), .fld 0 (.s 52), none⟩, []),
         (⟨(some 54), .fld 1 (.s 53), none⟩, []),
         (⟨(some 55), .load false 1 (.s 54), none⟩, [1]),
         (⟨(some 56), .mv (.s 9), none⟩, []),
         (⟨(some 57), .call 36 [(.s 56)], none⟩, []),
         (⟨(some 58), .build [(.int .i64 0), (.int .i64 0), (.str []), (.sl .full 2 []), (.sl .full 5 [])] [(0, 1, (.c (.int .i64 6))), (1, 1, (.s 49)), (2, 1, (.s 55)), (3, 1, (.s 57))], none⟩, []),
         (⟨(some 59), .mv (.s 1), none⟩, []),
         (⟨(some 60), .binI .add (.s 59) (.c (.int .i64 3)), none⟩, []),
         (⟨(some 61), .build [(.int .i64 0), (.int .i64 0), (.str []), (.sl .full 2 []), (.sl .full 5 []), (.int .i64 0), (.bool false), (.int .i64 0)] [(0, 5, (.s 58)), (5, 1, (.s 60))], none⟩, []),
         (⟨none, .store 8 (.s 6) (.s 61), none⟩, [])])
      (.ret)))))
theorem fn91 : IsFn prog 91 ac91 [.cell 6 true 8] 62 := ⟨f91, ⟨[], []⟩, func91, by kernel_rfl, by kernel_rfl, by kernel_rfl, by kernel_rfl⟩

/-- clearance/clearanceref10.Label -/
def ac92 : AC :=
  .seq (.reg [⟨(some 6), .alloc [(.int .i64 0), (.int .i64 0), (.str []), (.sl .full 2 []), (.sl .full 5 []), (.int .i64 0), (.bool false), (.int .i64 0)], none⟩])
  (.seq (.seq (.reg [⟨(some 11), .mv (.s 0), none⟩,
       ⟨(some 12), .mv (.s 1), none⟩,
       ⟨(some 13), .call 33 [(.s 11), (.s 12), (.c (.int .u8 97))], none⟩])
    (.cond (.s 13) (.seq (.draw [(⟨(some 14), .mv (.s 0), none⟩, []),
         (⟨(some 15), .mv (.s 1), none⟩, []),
         (⟨(some 16), .idxA 5 (.s 14) (.s 15), none⟩, []),
         (⟨(some 17), .fld 0 (.s 16), none⟩, []),
         (⟨(some 18), .fld 2 (.s 17), none⟩, []),
         (⟨(some 19), .load false 1 (.s 18), none⟩, []),
         (⟨(some 20), .mv (.s 0), none⟩, []),
         (⟨(some 21), .mv (.s 1), none⟩, []),
         (⟨(some 22), .idxA 5 (.s 20) (.s 21), none⟩, []),
         (⟨(some 23), .fld 0 (.s 22), none⟩, []),
         (⟨(some 24), .fld 1 (.s 23), none⟩, []),
         (⟨(some 25), .load false 1 (.s 24), none⟩, []),
         (⟨(some 26), .build [(.int .i64 0), (.int .i64 0), (.str []), (.sl .full 2 []), (.sl .full 5 [])] [(0, 1, (.c (.int .i64 1))), (1, 1, (.s 19)), (2, 1, (.s 25))], none⟩, []),
         (⟨(some 27), .mv (.s 1), none⟩, []),
         (⟨(some 28), .binI .add (.s 27) (.c (.int .i64 1)), none⟩, []),
         (⟨(some 29), .build [(.int .i64 0), (.int .i64 0), (.str []), (.sl .full 2 []), (.sl .full 5 []), (.int .i64 0), (.bool false), (.int .i64 0)] [(0, 5, (.s 26)), (5, 1, (.s 28))], none⟩, []),
         (⟨none, .store 8 (.s 6) (.s 29), none⟩, [])])
      (.ret))
     (.skip)))
   (.seq (.seq (.reg [⟨(some 30), .mv (.s 0), none⟩,
        ⟨(some 31), .mv (.s 1), none⟩,
        ⟨(some 32), .call 33 [(.s 30), (.s 31), (.c (.int .u8 35))], none⟩])
     (.cond (.s 32) (.seq (.reg [⟨(some 33), .mv (.s 0), none⟩,
          ⟨(some 34), .mv (.s 1), none⟩,
          ⟨(some 35), .binI .add (.s 34) (.c (.int .i64 1)), none⟩,
          ⟨(some 36), .mv (.s 2), none⟩,
          ⟨(some 37), .call 90 [(.s 33), (.s 35), (.s 36)], none⟩,
          ⟨(some 7), .alloc [(.int .i64 0), (.int .i64 0), (.str []), (.sl .full 2 []), (.sl .full 5 []), (.int .i64 0), (.bool false), (.int .i64 0)], none⟩,
          ⟨none, .store 8 (.s 7) (.s 37), none⟩])
       (.seq (.seq (.reg [⟨(some 38), .fld 6 (.s 7), none⟩,
            ⟨(some 39), .load false 1 (.s 38), none⟩,
            ⟨(some 40), .not (.s 39), none⟩])
         (.cond (.s 40) (.draw [(⟨(some 41), .mv (.s 0), none⟩, []),
             (⟨(some 42), .mv (.s 1), none⟩, []),
             (⟨(some 43), .idxA 5 (.s 41) (.s 42), none⟩, []),
             (⟨(some 44), .fld 0 (.s 43), none⟩, []),
             (⟨(some 45), .fld 2 (.s 44), none⟩, []),
             (⟨(some 46), .load false 1 (.s 45), none⟩, []),
             (⟨(some 47), .fld 0 (.s 7), none⟩, []),
             (⟨(some 48), .load true 5 (.s 47), none⟩, []),
             (⟨(some 49), .bslice 5 [(.s 48)], none⟩, []),
             (⟨(some 50), .build [(.int .i64 0), (.int .i64 0), (.str []), (.sl .full 2 []), (.sl .full 5 [])] [(0, 1, (.c (.int .i64 7))), (1, 1, (.s 46)), (4, 1, (.s 49))], none⟩, []),
             (⟨(some 51), .fld 0 (.s 7), none⟩, []),
             (⟨none, .store 5 (.s 51) (.s 50), none⟩, [])])
          (.skip)))
        (.seq (.reg [⟨(some 52), .load true 8 (.s 7), none⟩,
            ⟨none, .store 8 (.s 6) (.s 52), none⟩])
         (.ret))))
      (.skip)))
    (.seq (.seq (.reg [⟨(some 53), .mv (.s 0), none⟩,
         ⟨(some 54), .mv (.s 1), none⟩,
         ⟨(some 55), .call 33 [(.s 53), (.s 54), (.c (.int .u8 43))], none⟩,
         ⟨(some 56), .not (.s 55), none⟩,
         ⟨(some 57), .mv (.s 56), none⟩,
         ⟨(some 58), .mv (.s 0), (some (57, true))⟩,
         ⟨(some 59), .mv (.s 1), (some (57, true))⟩,
         ⟨(some 60), .call 33 [(.s 58), (.s 59), (.c (.int .u8 38))], (some (57, true))⟩,
         ⟨(some 61), .not (.s 60), (some (57, true))⟩,
         ⟨(some 62), .pick (.s 57) (.s 61) (.c (.bool false)), none⟩])
      (.cond (.s 62) (.seq (.reg [⟨(some 63), .mv (.s 0), none⟩,
           ⟨(some 64), .mv (.s 1), none⟩,
           ⟨(some 65), .mv (.s 2), none⟩,
           ⟨(some 66), .call 34 [(.s 63), (.s 64), (.s 65)], none⟩,
           ⟨none, .store 8 (.s 6) (.s 66), none⟩])
        (.ret))
       (.skip)))
     (.seq (.seq (.reg [⟨(some 67), .mv (.s 0), none⟩,
          ⟨(some 68), .mv (.s 1), none⟩,
          ⟨(some 69), .binI .add (.s 68) (.c (.int .i64 1)), none⟩,
          ⟨(some 70), .call 33 [(.s 67), (.s 69), (.c (.int .u8 40))], none⟩,
          ⟨(some 71), .not (.s 70), none⟩])
       (.cond (.s 71) (.seq (.reg [⟨(some 72), .mv (.s 0), none⟩,
            ⟨(some 73), .mv (.s 1), none⟩,
            ⟨(some 74), .binI .add (.s 73) (.c (.int .i64 1)), none⟩,
            ⟨(some 75), .mv (.s 2), none⟩,
            ⟨(some 76), .call 34 [(.s 72), (.s 74), (.s 75)], none⟩,
            ⟨none, .store 8 (.s 6) (.s 76), none⟩])
         (.ret))
        (.skip)))
      (.seq (.reg [⟨(some 78), .mv (.s 0), none⟩,
          ⟨(some 79), .mv (.s 1), none⟩,
          ⟨(some 80), .binI .add (.s 79) (.c (.int .i64 1)), none⟩,
          ⟨(some 81), .idxA 5 (.s 78) (.s 80), none⟩,
          ⟨(some 82), .load true 5 (.s 81), none⟩,
          ⟨(some 83), .call 35 [(.c (.int .i64 3)), (.s 82), (.c (.bool false))], none⟩,
          ⟨(some 77), .mv (.s 83), none⟩,
          ⟨(some 84), .ext (.s 77) 0, none⟩,
          ⟨(some 85), .ext (.s 77) 1, none⟩,
          ⟨(some 9), .alloc [(.int .i64 0), (.int .i64 0), (.str []), (.sl .full 2 []), (.sl .full 5 []), (.int .i64 0), (.bool false), (.int .i64 0)], none⟩,
          ⟨(some 8), .mv (.s 84), none⟩,
          ⟨none, .store 8 (.s 9) (.s 85), none⟩])
       (.seq (.seq (.reg [⟨(some 86), .fld 6 (.s 9), none⟩,
            ⟨(some 87), .load false 1 (.s 86), none⟩])
         (.cond (.s 87) (.seq (.reg [⟨(some 88), .load true 8 (.s 9), none⟩,
              ⟨none, .store 8 (.s 6) (.s 88), none⟩])
           (.ret))
          (.skip)))
        (.seq (.reg [⟨(some 10), .mv (.c (.int .i64 8)), none⟩])
         (.seq (.seq (.reg [⟨(some 89), .mv (.s 0), none⟩,
              ⟨(some 90), .mv (.s 1), none⟩,
              ⟨(some 91), .call 33 [(.s 89), (.s 90), (.c (.int .u8 38))], none⟩])
           (.cond (.s 91) (.reg [⟨(some 10), .mv (.c (.int .i64 9)), none⟩])
            (.skip)))
          (.seq (.reg [⟨(some 92), .mv (.s 10), none⟩,
              ⟨(some 93), .mv (.s 0), none⟩,
              ⟨(some 94), .mv (.s 1), none⟩,
              ⟨(some 95), .idxA 5 (.s 93) (.s 94), none⟩,
              ⟨(some 96), .fld 0 (.s 95), none⟩,
              ⟨(some 97), .fld 2 (.s 96), none⟩,
              ⟨(some 98), .load false 1 (.s 97), none⟩,
              ⟨(some 99), .mv (.s 8), none⟩,
              ⟨(some 100), .build [(.int .i64 0), (.int .i64 0), (.str []), (.sl .full 2 []), (.sl .full 5 [])] [(0, 1, (.s 92)), (1, 1, (.s 98)), (4, 1, (.s 99))], none⟩,
              ⟨(some 101), .mv (.s 1), none⟩,
              ⟨(some 102), .binI .add (.s 101) (.c (.int .i64 2)), none⟩,
              ⟨(some 103), .build [(.int .i64 0), (.int .i64 0), (.str []), (.sl .full 2 []), (.sl .full 5 []), (.int .i64 0), (.bool false), (.int .i64 0)] [(0, 5, (.s 100)), (5, 1, (.s 102))], none⟩,
              ⟨none, .store 8 (.s 6) (.s 103), none⟩])
           (.ret))))))))))
theorem fn92 : IsFn prog 92 ac92 [.cell 6 true 8] 104 := ⟨f92, ⟨[], []⟩, func92, by kernel_rfl, by kernel_rfl, by kernel_rfl, by kernel_rfl⟩

/-- clearance/clearanceref10.field -/
def ac93 : AC :=
  .seq (.reg [⟨(some 6), .alloc [(.int .i64 0), (.int .i64 0), (.str []), (.sl .full 2 []), (.sl .full 5 []), (.int .i64 0), (.bool false), (.int .i64 0)], none⟩])
  (.seq (.seq (.reg [⟨(some 8), .mv (.s 0), none⟩,
       ⟨(some 9), .mv (.s 1), none⟩,
       ⟨(some 10), .call 33 [(.s 8), (.s 9), (.c (.int .u8 97))], none⟩,
       ⟨(some 11), .not (.s 10), none⟩])
    (.cond (.s 11) (.seq (.reg [⟨(some 12), .mv (.s 0), none⟩,
         ⟨(some 13), .mv (.s 1), none⟩,
         ⟨(some 14), .mv (.s 2), none⟩,
         ⟨(some 15), .call 34 [(.s 12), (.s 13), (.s 14)], none⟩,
         ⟨none, .store 8 (.s 6) (.s 15), none⟩])
      (.ret))
     (.skip)))
   (.seq (.seq (.reg [⟨(some 16), .mv (.s 0), none⟩,
        ⟨(some 17), .mv (.s 1), none⟩,
        ⟨(some 18), .binI .add (.s 17) (.c (.int .i64 1)), none⟩,
        ⟨(some 19), .call 33 [(.s 16), (.s 18), (.c (.int .u8 61))], none⟩,
        ⟨(some 20), .not (.s 19), none⟩])
     (.cond (.s 20) (.seq (.reg [⟨(some 21), .mv (.s 0), none⟩,
          ⟨(some 22), .mv (.s 1), none⟩,
          ⟨(some 23), .binI .add (.s 22) (.c (.int .i64 1)), none⟩,
          ⟨(some 24), .mv (.s 2), none⟩,
          ⟨(some 25), .call 34 [(.s 21), (.s 23), (.s 24)], none⟩,
          ⟨none, .store 8 (.s 6) (.s 25), none⟩])
       (.ret))
      (.skip)))
    (.seq (.reg [⟨(some 26), .mv (.s 0), none⟩,
        ⟨(some 27), .mv (.s 1), none⟩,
        ⟨(some 28), .binI .add (.s 27) (.c (.int .i64 2)), none⟩,
        ⟨(some 29), .mv (.s 2), none⟩,
        ⟨(some 30), .call 85 [(.c (.int .i64 5)), (.s 26), (.s 28), (.s 29)], none⟩,
        ⟨(some 7), .alloc [(.int .i64 0), (.int .i64 0), (.str []), (.sl .full 2 []), (.sl .full 5 []), (.int .i64 0), (.bool false), (.int .i64 0)], none⟩,
        ⟨none, .store 8 (.s 7) (.s 30), none⟩])
     (.seq (.seq (.reg [⟨(some 31), .fld 6 (.s 7), none⟩,
          ⟨(some 32), .load false 1 (.s 31), none⟩,
          ⟨(some 33), .not (.s 32), none⟩])
       (.cond (.s 33) (.draw [(⟨(some 34), .mv (.s 0), none⟩, []),
           (⟨(some 35), .mv (.s 1), none⟩, []),
           (⟨(some 36), .idxA 5 (.s 34) (.s 35), none⟩, []),
           (⟨(some 37), .fld 0 (.s 36), none⟩, []),
           (⟨(some 38), .fld 2 (.s 37), none⟩, []),
           (⟨(some 39), .load false 1 (.s 38), none⟩, []),
           (⟨(some 40), .mv (.s 0), none⟩, []),
           (⟨(some 41), .mv (.s 1), none⟩, []),
           (⟨(some 42), .idxA 5 (.s 40) (.s 41), none⟩, []),
           (⟨(some 43), .fld 0 (.s 42), none⟩, []),
           (⟨(some 44), .fld 1 (.s 43), none⟩, []),
           (⟨(some 45), .load false 1 (.s 44), none⟩, []),
           (⟨(some 46), .fld 0 (.s 7), none⟩, []),
           (⟨(some 47), .load true 5 (.s 46), none⟩, []),
           (⟨(some 48), .bslice 5 [(.s 47)], none⟩, []),
           (⟨(some 49), .build [(.int .i64 0), (.int .i64 0), (.str []), (.sl .full 2 []), (.sl .full 5 [])] [(0, 1, (.c (.int .i64 11))), (1, 1, (.s 39)), (2, 1, (.s 45)), (4, 1, (.s 48))], none⟩, []),
           (⟨(some 50), .fld 0 (.s 7), none⟩, []),
           (⟨none, .store 5 (.s 50) (.s 49), none⟩, [])])
        (.skip)))
      (.seq (.reg [⟨(some 51), .load true 8 (.s 7), none⟩,
          ⟨none, .store 8 (.s 6) (.s 51), none⟩])
       (.ret))))))
theorem fn93 : IsFn prog 93 ac93 [.cell 6 true 8] 52 := ⟨f93, ⟨[], []⟩, func93, by kernel_rfl, by kernel_rfl, by kernel_rfl, by kernel_rfl⟩

/-- clearance/clearanceref10.Many -/
def ac52 : AC :=
  .seq (.reg [⟨(some 1), .box 5 (.s 0), none⟩,
     ⟨(some 2), .mv (.c (.int .i64 0)), none⟩])
  (.seq (.reg [⟨(some 5), .fld 3 (.s 1), none⟩,
      ⟨(some 6), .load false 1 (.s 5), none⟩,
      ⟨(some 7), .lenS (.s 6), none⟩,
      ⟨(some 8), .binI .add (.c (.int .i64 1)) (.s 7), none⟩,
      ⟨(some 3), .mv (.s 8), none⟩])
   (.seq (.seq (.reg [⟨(some 4), .mv (.c (.int .i64 0)), none⟩])
     (.block 0 (.loop (.seq (.seq (.reg [⟨(some 9), .mv (.s 4), none⟩,
            ⟨(some 10), .fld 4 (.s 1), none⟩,
            ⟨(some 11), .load false 1 (.s 10), none⟩,
            ⟨(some 12), .lenS (.s 11), none⟩,
            ⟨(some 13), .binI .lss (.s 9) (.s 12), none⟩])
         (.cond (.s 13) (.skip)
          (.exit 0)))
        (.seq (.block 1 (.reg [⟨(some 16), .mv (.s 3), none⟩,
             ⟨(some 17), .fld 4 (.s 1), none⟩,
             ⟨(some 18), .load false 1 (.s 17), none⟩,
             ⟨(some 19), .mv (.s 4), none⟩,
             ⟨(some 20), .idxA 5 (.s 18) (.s 19), none⟩,
             ⟨(some 21), .load true 5 (.s 20), none⟩,
             ⟨(some 22), .call 52 [(.s 21)], none⟩,
             ⟨(some 23), .binI .add (.s 16) (.s 22), none⟩,
             ⟨(some 3), .mv (.s 23), none⟩]))
         (.reg [⟨(some 14), .mv (.s 4), none⟩,
            ⟨(some 15), .binI .add (.s 14) (.c (.int .i64 1)), none⟩,
            ⟨(some 4), .mv (.s 15), none⟩]))))))
    (.seq (.reg [⟨(some 24), .mv (.s 3), none⟩,
        ⟨(some 2), .mv (.s 24), none⟩])
     (.ret))))
theorem fn52 : IsFn prog 52 ac52 [.tmp 2] 25 := ⟨f52, ⟨[], []⟩, func52, by kernel_rfl, by kernel_rfl, by kernel_rfl, by kernel_rfl⟩

/-- clearance/clearanceref02.Right -/
def ac54 : AC :=
  .seq (.reg [⟨(some 2), .mv (.c (.bool false)), none⟩])
  (.seq (.seq (.reg [⟨(some 4), .mv (.s 0), none⟩,
       ⟨(some 5), .lenT (.s 4), none⟩,
       ⟨(some 6), .binI .lss (.s 5) (.c (.int .i64 1)), none⟩,
       ⟨(some 7), .mv (.s 6), none⟩,
       ⟨(some 8), .mv (.s 0), (some (7, false))⟩,
       ⟨(some 9), .lenT (.s 8), (some (7, false))⟩,
       ⟨(some 10), .binI .gtr (.s 9) (.c (.int .i64 16)), (some (7, false))⟩,
       ⟨(some 11), .pick (.s 7) (.c (.bool true)) (.s 10), none⟩,
       ⟨(some 12), .mv (.s 11), none⟩,
       ⟨(some 13), .mv (.s 0), (some (12, false))⟩,
       ⟨(some 14), .idxS (.s 13) (.c (.int .i64 0)), (some (12, false))⟩,
       ⟨(some 15), .call 80 [(.s 14)], (some (12, false))⟩,
       ⟨(some 16), .not (.s 15), (some (12, false))⟩,
       ⟨(some 17), .pick (.s 12) (.c (.bool true)) (.s 16), none⟩])
    (.cond (.s 17) (.seq (.reg [⟨(some 2), .mv (.c (.bool false)), none⟩])
      (.ret))
     (.skip)))
   (.seq (.seq (.reg [⟨(some 3), .mv (.c (.int .i64 1)), none⟩])
     (.block 0 (.loop (.seq (.seq (.reg [⟨(some 18), .mv (.s 3), none⟩,
            ⟨(some 19), .mv (.s 0), none⟩,
            ⟨(some 20), .lenT (.s 19), none⟩,
            ⟨(some 21), .binI .lss (.s 18) (.s 20), none⟩])
         (.cond (.s 21) (.skip)
          (.exit 0)))
        (.seq (.block 1 (.seq (.reg [⟨(some 24), .mv (.s 0), none⟩,
              ⟨(some 25), .mv (.s 3), none⟩,
              ⟨(some 26), .idxS (.s 24) (.s 25), none⟩,
              ⟨(some 27), .call 80 [(.s 26)], none⟩,
              ⟨(some 28), .not (.s 27), none⟩,
              ⟨(some 29), .mv (.s 28), none⟩,
              ⟨(some 30), .mv (.s 0), (some (29, true))⟩,
              ⟨(some 31), .mv (.s 3), (some (29, true))⟩,
              ⟨(some 32), .idxS (.s 30) (.s 31), (some (29, true))⟩,
              ⟨(some 33), .binI .lss (.s 32) (.c (.int .u8 48)), (some (29, true))⟩,
              ⟨(some 34), .mv (.s 33), (some (29, true))⟩,
              ⟨(some 35), .mv (.s 0), (some (34, false))⟩,
              ⟨(some 36), .mv (.s 3), (some (34, false))⟩,
              ⟨(some 37), .idxS (.s 35) (.s 36), (some (34, false))⟩,
              ⟨(some 38), .binI .gtr (.s 37) (.c (.int .u8 57)), (some (34, false))⟩,
              ⟨(some 39), .pick (.s 34) (.c (.bool true)) (.s 38), (some (29, true))⟩,
              ⟨(some 40), .pick (.s 29) (.s 39) (.c (.bool false)), none⟩,
              ⟨(some 41), .mv (.s 40), none⟩,
              ⟨(some 42), .mv (.s 0), (some (41, true))⟩,
              ⟨(some 43), .mv (.s 3), (some (41, true))⟩,
              ⟨(some 44), .idxS (.s 42) (.s 43), (some (41, true))⟩,
              ⟨(some 45), .binI .neq (.s 44) (.c (.int .u8 95)), (some (41, true))⟩,
              ⟨(some 46), .pick (.s 41) (.s 45) (.c (.bool false)), none⟩])
           (.cond (.s 46) (.seq (.reg [⟨(some 2), .mv (.c (.bool false)), none⟩])
             (.ret))
            (.skip))))
         (.reg [⟨(some 22), .mv (.s 3), none⟩,
            ⟨(some 23), .binI .add (.s 22) (.c (.int .i64 1)), none⟩,
            ⟨(some 3), .mv (.s 23), none⟩]))))))
    (.seq (.reg [⟨(some 2), .mv (.c (.bool true)), none⟩])
     (.ret))))
theorem fn54 : IsFn prog 54 ac54 [.tmp 2] 47 := ⟨f54, ⟨[], []⟩, func54, by kernel_rfl, by kernel_rfl, by kernel_rfl, by kernel_rfl⟩

/-- clearance/clearanceref02.letter -/
def ac80 : AC :=
  .seq (.reg [⟨(some 2), .mv (.c (.bool false)), none⟩])
  (.seq (.reg [⟨(some 3), .mv (.s 0), none⟩,
      ⟨(some 4), .binI .geq (.s 3) (.c (.int .u8 97)), none⟩,
      ⟨(some 5), .mv (.s 4), none⟩,
      ⟨(some 6), .mv (.s 0), (some (5, true))⟩,
      ⟨(some 7), .binI .leq (.s 6) (.c (.int .u8 122)), (some (5, true))⟩,
      ⟨(some 8), .pick (.s 5) (.s 7) (.c (.bool false)), none⟩,
      ⟨(some 2), .mv (.s 8), none⟩])
   (.ret))
theorem fn80 : IsFn prog 80 ac80 [.tmp 2] 9 := ⟨f80, ⟨[], []⟩, func80, by kernel_rfl, by kernel_rfl, by kernel_rfl, by kernel_rfl⟩

/-- clearance/clearanceref10.right -/
def ac55 : AC :=
  .seq (.reg [⟨(some 2), .mv (.c (.bool false)), none⟩])
  (.seq (.seq (.reg [⟨(some 3), .mv (.c (.int .i64 0)), none⟩])
    (.block 0 (.loop (.seq (.seq (.reg [⟨(some 4), .mv (.s 3), none⟩,
           ⟨(some 5), .mv (.s 0), none⟩,
           ⟨(some 6), .lenS (.s 5), none⟩,
           ⟨(some 7), .binI .lss (.s 4) (.s 6), none⟩])
        (.cond (.s 7) (.skip)
         (.exit 0)))
       (.seq (.block 1 (.seq (.reg [⟨(some 10), .mv (.s 0), none⟩,
             ⟨(some 11), .mv (.s 3), none⟩,
             ⟨(some 12), .idxA 2 (.s 10) (.s 11), none⟩,
             ⟨(some 13), .fld 0 (.s 12), none⟩,
             ⟨(some 14), .load false 1 (.s 13), none⟩,
             ⟨(some 15), .call 54 [(.s 14)], none⟩,
             ⟨(some 16), .not (.s 15), none⟩])
          (.cond (.s 16) (.seq (.reg [⟨(some 2), .mv (.c (.bool false)), none⟩])
            (.ret))
           (.skip))))
        (.reg [⟨(some 8), .mv (.s 3), none⟩,
           ⟨(some 9), .binI .add (.s 8) (.c (.int .i64 1)), none⟩,
           ⟨(some 3), .mv (.s 9), none⟩]))))))
   (.seq (.reg [⟨(some 2), .mv (.c (.bool true)), none⟩])
    (.ret)))
theorem fn55 : IsFn prog 55 ac55 [.tmp 2] 17 := ⟨f55, ⟨[], []⟩, func55, by kernel_rfl, by kernel_rfl, by kernel_rfl, by kernel_rfl⟩

end Go.Proofs.Try

/-
  What the reference reads of names.
-/
namespace Go.Am
structure Got where
  node : Nd
  next : Int
  bad : Bool
  pos : Int
def Got.enc (g : Got) : List V := [.int .i64 g.node.kind, .int .i64 g.node.pos, .str g.node.text, .sl .no 2 (g.node.names.map Word.enc), .sl .no 5 (g.node.kids.map Nd.enc), .int .i64 g.next, .bool g.bad, .int .i64 g.pos]
def spotOf (l : List Tree) (at_ fin : Int) : Int := if 0 ≤ at_ then (match l[at_.toNat]? with | some t => t.tok.pos | none => fin) else fin
def wrongAt (l : List Tree) (at_ fin : Int) : Got := ⟨.zero, 0, true, spotOf l at_ fin⟩
def tokAt (l : List Tree) (at_ : Int) : Tok := match l[at_.toNat]? with | some t => t.tok | none => ⟨0, [], 0⟩
def nameAt (l : List Tree) (at_ fin : Int) : Got :=
  if isK l at_ 97 = true then ⟨.mk 0 (tokAt l at_).pos (tokAt l at_).text [] [], at_ + 1, false, 0⟩ else wrongAt l at_ fin
def someAt (one : Int → Got) (l : List Tree) : Nat → Int → List Nd → List Nd × Got
  | 0, _, _ => ([], ⟨.zero, 0, true, 0⟩)
  | n + 1, at_, out =>
    if (one at_).bad = true then ([], one at_)
    else if isK l (one at_).next 44 = true then someAt one l n ((one at_).next + 1) (out ++ [(one at_).node])
    else (out ++ [(one at_).node], one at_)
def wholeAt (one : List Tree → Int → Int → Got) (t : Tree) (empty : Bool) : List Nd × Got :=
  if empty = true ∧ t.kids.length = 0 then ([], ⟨.zero, 0, false, 0⟩)
  else
    let r := someAt (fun i => one t.kids i t.fin) t.kids (t.kids.length + 1) 0 []
    if r.2.bad = false ∧ r.2.next < t.kids.length then ([], wrongAt t.kids r.2.next t.fin) else r
def wordsOf (l : List Nd) : List Word := l.map fun n => ⟨n.text, n.pos⟩
def treeAt (l : List Tree) (at_ : Int) : Tree := match l[at_.toNat]? with | some t => t | none => .zero
def refWords (l : List Tree) (at_ fin : Int) : List Word × Got :=
  if isK l at_ 123 = true then (wordsOf (wholeAt nameAt (treeAt l at_) false).1, (wholeAt nameAt (treeAt l at_) false).2) else ([], wrongAt l at_ fin)
theorem some_len {one : Int → Got} {l : List Tree} : ∀ (n : Nat) (a : Int) (out : List Nd), (someAt one l n a out).1.length ≤ out.length + n
  | 0, _, _ => by simp [someAt]
  | n + 1, a, out => by
    simp only [someAt]
    split
    · simp
    · split
      · have := some_len (one := one) (l := l) n ((one a).next + 1) (out ++ [(one a).node])
        simp at this; omega
      · simp
theorem whole_len {one : List Tree → Int → Int → Got} (t : Tree) (e : Bool) : (wholeAt one t e).1.length ≤ t.kids.length + 1 := by
  unfold wholeAt
  split
  · simp
  · simp only
    split
    · simp
    · have := some_len (one := fun i => one t.kids i t.fin) (l := t.kids) (t.kids.length + 1) 0 []
      simpa using this
theorem isK_spec {l : List Tree} {i k : Int} (h : isK l i k = true) : ∃ j t, i = (j : Nat) ∧ l[j]? = some t ∧ t.tok.kind = k ∧ j < l.length := by
  simp only [isK, Bool.and_eq_true, decide_eq_true_eq] at h
  obtain ⟨h0, hk⟩ := h
  obtain ⟨j, rfl⟩ := Int.eq_ofNat_of_zero_le h0
  simp only [Int.toNat_natCast] at hk
  cases hq : l[j]? with
  | none => rw [hq] at hk; simp at hk
  | some t => rw [hq] at hk; exact ⟨j, t, rfl, hq, by simpa using hk, (List.getElem?_eq_some_iff.1 hq).1⟩
theorem encs_at {l : List Tree} {j : Nat} {t : Tree} (h : l[j]? = some t) : (encs l)[((j : Nat) : Int).toNat]? = some t.enc := by simp [encs_map, h]
theorem nencs_at {l : List Nd} {j : Nat} {t : Nd} (h : l[j]? = some t) : (l.map Nd.enc)[((j : Nat) : Int).toNat]? = some t.enc := by simp [h]
theorem wencs_at {l : List Word} {j : Nat} {t : Word} (h : l[j]? = some t) : (l.map Word.enc)[((j : Nat) : Int).toNat]? = some t.enc := by simp [h]
end Go.Am

/-
  The reference's reading of names.
-/
namespace Go.Proofs.Try
open Go.Am
set_option maxRecDepth 4000
set_option maxHeartbeats 4000000

theorem is_calls (l : List Tree) (i : Int) (k : Int) (σ : Store) : PCalls prog 33 [.sl .no 5 (encs l), .int .i64 i, .int .u8 k] σ fun v σ' => v = .bool (isK l i k) ∧ σ' = σ := by
  refine fn33.calls ?_
  simp only [slots, ac33, am, amo, amc, Nat.reduceAdd, decide_true, decide_false]
  by_cases h0 : 0 ≤ i
  · simp only [am, h0, decide_true, encs_length]
    by_cases h1 : i < l.length
    · obtain ⟨j, rfl⟩ := Int.eq_ofNat_of_zero_le h0
      have hj : j < l.length := by omega
      simp only [am, amo, amc, Nat.reduceAdd, encs_length, List.length_map, decide_true, decide_false, h1, decide_true]
      refine idxL_intro h0 (c := l[j].enc) (by simp [encs_map, hj]) ?_
      simp only [am, amo, amc, Nat.reduceAdd, encs_length, List.length_map, decide_true, decide_false, enc_eq]
      refine retK_intro rfl (Store.sub_refl _) ⟨?_, rfl⟩
      simp [V.erase, eraseL, isK, hj]
    · simp only [am, amo, amc, Nat.reduceAdd, encs_length, List.length_map, decide_true, decide_false, h1, decide_false]
      have : l[i.toNat]? = none := List.getElem?_eq_none (by omega)
      refine retK_intro rfl (Store.sub_refl _) ⟨?_, rfl⟩
      simp [V.erase, eraseL, isK, this]
  · simp only [am, amo, amc, Nat.reduceAdd, encs_length, List.length_map, decide_true, decide_false, h0, decide_false]
    refine retK_intro rfl (Store.sub_refl _) ⟨?_, rfl⟩
    simp [V.erase, eraseL, isK, h0]

theorem wrong_calls (l : List Tree) (i fin : Int) (σ : Store) : PCalls prog 34 [.sl .no 5 (encs l), .int .i64 i, .int .i64 fin] σ fun v σ' => v = .agg (wrongAt l i fin).enc ∧ σ' = σ := by
  refine fn34.calls ?_
  simp only [slots, ac34, am, amo, amc, Nat.reduceAdd, decide_true, decide_false]
  by_cases h0 : 0 ≤ i
  · simp only [am, h0, decide_true, encs_length]
    by_cases h1 : i < l.length
    · obtain ⟨j, rfl⟩ := Int.eq_ofNat_of_zero_le h0
      have hj : j < l.length := by omega
      simp only [am, amo, amc, Nat.reduceAdd, encs_length, List.length_map, decide_true, decide_false, h1, decide_true]
      refine idxL_intro h0 (c := l[j].enc) (by simp [encs_map, hj]) ?_
      simp only [am, amo, amc, Nat.reduceAdd, encs_length, List.length_map, decide_true, decide_false, enc_eq, Nat.reduceAdd]
      refine retK_intro rfl (Store.sub_refl _) ⟨?_, rfl⟩
      simp [V.erase, eraseL, wrongAt, spotOf, Got.enc, Nd.zero, Nd.kind, Nd.pos, Nd.text, Nd.names, Nd.kids, hj]
    · simp only [am, amo, amc, Nat.reduceAdd, encs_length, List.length_map, decide_true, decide_false, h1, decide_false]
      have : l[i.toNat]? = none := List.getElem?_eq_none (by omega)
      refine retK_intro rfl (Store.sub_refl _) ⟨?_, rfl⟩
      simp [V.erase, eraseL, wrongAt, spotOf, Got.enc, Nd.zero, Nd.kind, Nd.pos, Nd.text, Nd.names, Nd.kids, this]
  · simp only [am, amo, amc, Nat.reduceAdd, encs_length, List.length_map, decide_true, decide_false, h0, decide_false]
    refine retK_intro rfl (Store.sub_refl _) ⟨?_, rfl⟩
    simp [V.erase, eraseL, wrongAt, spotOf, Got.enc, Nd.zero, Nd.kind, Nd.pos, Nd.text, Nd.names, Nd.kids, h0]

theorem name_calls (l : List Tree) (i fin : Int) (σ : Store) (hb : l.length ≤ big) : PCalls prog 85 [.int .i64 6, .sl .no 5 (encs l), .int .i64 i, .int .i64 fin] σ fun v σ' => v = .agg (nameAt l i fin).enc ∧ σ' = σ := by
  refine fn85.calls ?_
  simp only [slots, ac85, am, amo, amc, Nat.reduceAdd, decide_true, decide_false]
  simp only [am, amo, amc, Nat.reduceAdd, encs_length, List.length_map, decide_true, decide_false, show decide ((6 : Int) = 1) = false from rfl, show decide ((6 : Int) = 2) = false from rfl, show decide ((6 : Int) = 3) = false from rfl, show decide ((6 : Int) = 4) = false from rfl, show decide ((6 : Int) = 5) = false from rfl]
  refine (is_calls l i 97 σ).mono ?_
  rintro v σ ⟨rfl, rfl⟩
  cases h : isK l i 97
  · simp only [am, amo, amc, Nat.reduceAdd, encs_length, List.length_map, decide_true, decide_false]
    refine (wrong_calls l i fin σ).mono ?_
    rintro v σ ⟨rfl, rfl⟩
    simp only [am, amo, amc, Nat.reduceAdd, encs_length, List.length_map, decide_true, decide_false, Got.enc]
    refine retK_intro rfl (Store.sub_refl _) ⟨?_, rfl⟩
    simp [V.erase, eraseL, nameAt, h, Got.enc]
  · obtain ⟨j, t, rfl, hj, hk, hl⟩ := isK_spec h
    simp only [big] at hb
    simp only [am, amo, amc, Nat.reduceAdd, encs_length, List.length_map, decide_true, decide_false]
    refine idxL_intro (by omega) (encs_at hj) ?_
    simp only [am, amo, amc, Nat.reduceAdd, encs_length, List.length_map, decide_true, decide_false, enc_eq, Nat.reduceAdd]
    refine idxL_intro (by omega) (encs_at hj) ?_
    simp only [am, amo, amc, Nat.reduceAdd, encs_length, List.length_map, decide_true, decide_false, enc_eq, Nat.reduceAdd]
    rw [wrap_i64 (by omega) (by omega)]
    refine retK_intro rfl (Store.sub_refl _) ⟨?_, rfl⟩
    simp [V.erase, eraseL, nameAt, h, Got.enc, tokAt, hj, Nd.kind, Nd.pos, Nd.text, Nd.names, Nd.kids]

theorem nameAt_next {l : List Tree} {at_ : Nat} {fin : Int} {g : Got} (h : nameAt l at_ fin = g) (hb : g.bad = false) : g.next = (at_ : Int) + 1 ∧ at_ < l.length := by
  unfold nameAt at h
  split at h
  · rename_i hk
    obtain ⟨j, t, e, _, _, hl⟩ := isK_spec hk
    subst h
    exact ⟨rfl, by omega⟩
  · subst h; simp [wrongAt] at hb
def nz8 : List V := [.int .i64 0, .int .i64 0, .str [], .sl .full 2 [], .sl .full 5 [], .int .i64 0, .bool false, .int .i64 0]
def inv66 (l : List Tree) (fin : Int) (σ : Store) (at_ τ : Nat) (out : List Nd) : St :=
  ⟨[.int .i64 6, .sl .no 5 (encs l), .int .i64 (at_ : Nat), .int .i64 fin] ++ List.replicate 4 .any ++ [.any, .ptr (.loc 0) 0, .sl (.tk τ) 5 (out.map Nd.enc)] ++ List.replicate 24 .any, [nz8], σ.setTip τ out.length⟩

theorem some_ref_calls (l : List Tree) (fin : Int) (σ : Store) (hb : l.length + 1 ≤ big) : PCalls prog 66 [.int .i64 6, .sl .no 5 (encs l), .int .i64 0, .int .i64 fin] σ fun v σ' => v = .tup [.sl .no 5 ((someAt (fun i => nameAt l i fin) l (l.length + 1) 0 []).1.map Nd.enc), .agg (someAt (fun i => nameAt l i fin) l (l.length + 1) 0 []).2.enc] ∧ σ' = σ := by
  generalize hR : someAt (fun i => nameAt l i fin) l (l.length + 1) 0 [] = R
  refine fn66.calls ?_
  simp only [slots, ac66, am, amo, amc, Nat.reduceAdd, decide_true, decide_false]
  let I : { p : Nat × Nat × Nat × List Nd // σ.tip p.2.2.1 = none ∧ someAt (fun i => nameAt l i fin) l p.1 (p.2.1 : Nat) p.2.2.2 = R ∧ p.2.2.2.length ≤ p.2.1 ∧ p.2.1 ≤ l.length ∧ l.length + 1 ≤ p.2.1 + p.1 } → St := fun p => inv66 l fin σ p.1.2.1 p.1.2.2.1 p.1.2.2.2
  refine vc_loop I (fun p => p.1.1) ?_ ?_
  · refine Upd.tokEnter 0 fun τ hτ => ⟨⟨(l.length + 1, 0, τ, []), hτ, hR, by simp, by simp, by simp⟩, ?_, rfl, rfl⟩
    simp [I, inv66, List.replicate, lto]
  · rintro ⟨⟨m, at_, τ, out⟩, hτ, hR, h1, h2, h3⟩
    simp only at hτ hR h1 h2 h3
    have hm : ∃ k, m = k + 1 := ⟨m - 1, by omega⟩
    obtain ⟨m, rfl⟩ := hm
    simp only [I, inv66, List.replicate, am, nz8]
    refine (name_calls l at_ fin _ (by omega)).mono ?_
    rintro v σ' ⟨rfl, rfl⟩
    simp only [someAt] at hR
    generalize hg : nameAt l at_ fin = g at *
    simp only [am, amo, amc, Nat.reduceAdd, encs_length, List.length_map, decide_true, decide_false, Got.enc, Nat.reduceAdd]
    cases hbad : g.bad
    · rw [hbad] at hR
      simp only [am, amo, amc, Nat.reduceAdd, encs_length, List.length_map, decide_true, decide_false]
      have hK := nameAt_next hg hbad
      refine app_tk (by simp; omega) (by simp [setTip_tip_same]) ?_
      simp only [am, amo, amc, Nat.reduceAdd, encs_length, List.length_map, decide_true, decide_false, setTip_setTip]
      refine (is_calls l g.next 44 _).mono ?_
      rintro v σ' ⟨rfl, rfl⟩
      cases h44 : isK l g.next 44
      · simp only [am, amo, amc, Nat.reduceAdd, encs_length, List.length_map, decide_true, decide_false]
        refine retK_intro rfl (sub_tip hτ) ⟨?_, rfl⟩
        rw [h44] at hR
        simp only [Bool.false_eq_true, if_false] at hR
        simp [V.erase, eraseL, ← hR, Got.enc, hbad, Nd.enc_eq]
      · obtain ⟨j, t, hj, hjt, hk, hjl⟩ := isK_spec h44
        simp only [big] at hb
        simp only [am, amo, amc, Nat.reduceAdd, encs_length, List.length_map, decide_true, decide_false]
        rw [wrap_i64 (by omega) (by omega)]
        rw [h44] at hR
        simp only [Bool.false_eq_true, if_false, if_true] at hR
        refine Upd.againD ⟨(m, at_ + 2, τ, out ++ [g.node]), hτ, ?_, by simp; omega, by simp only; omega, by simp only; omega⟩ (by simp) ?_ ?_ ?_ rfl rfl
        · rw [← hR]; congr 1; simp only; omega
        · simp [inv66, List.replicate, am, Nd.enc_eq]; omega
        · simp [inv66, am, nz8]
        · simp [inv66, OLe.rfl]
    · rw [hbad] at hR
      simp only [am, amo, amc, Nat.reduceAdd, encs_length, List.length_map, decide_true, decide_false]
      refine retK_intro rfl (sub_tip hτ) ⟨?_, rfl⟩
      simp [V.erase, eraseL, ← hR, Got.enc, hbad]
end Go.Proofs.Try

/-
  Records, where they are handed on whole.
-/
namespace Go.Am
theorem Tree.r_len {x : Tree} : x.enc.length = 5 := by rw [enc_eq]; rfl
theorem Tree.r_one {x : Tree} : oneL x.enc = true := by rw [enc_eq]; rfl
theorem Tree.r_nol {x : Tree} : nolL x.enc = true := by rw [enc_eq]; rfl
theorem Tree.r_er {x : Tree} : eraseL x.enc = x.enc := by rw [enc_eq]; rfl
theorem Tree.r_tk {x : Tree} : takeN 5 x.enc = some x.enc := by rw [enc_eq]; rfl
theorem Tree.r_ld {x : Tree} : ldC true 5 x.enc = some (.agg x.enc) := by rw [enc_eq]; rfl
theorem Tree.r_has {x : Tree} : hasN 5 x.enc = true := by rw [enc_eq]; rfl
theorem Tree.r_ov {x : Tree} {z0 z1 z2 z3 z4 : V} : over [z0, z1, z2, z3, z4] x.enc = x.enc := by rw [enc_eq]; rfl
theorem Tree.r_lo {x : Tree} {n : Nat} : loL n x.enc = true := by rw [enc_eq]; rfl
def Tree.rec_ := And.intro @Tree.r_len <| And.intro @Tree.r_one <| And.intro @Tree.r_nol <| And.intro @Tree.r_er <| And.intro @Tree.r_tk <| And.intro @Tree.r_ld <| And.intro @Tree.r_has <| And.intro @Tree.r_ov @Tree.r_lo
theorem Nd.r_len {x : Nd} : x.enc.length = 5 := by rw [Nd.enc_eq]; rfl
theorem Nd.r_one {x : Nd} : oneL x.enc = true := by rw [Nd.enc_eq]; rfl
theorem Nd.r_nol {x : Nd} : nolL x.enc = true := by rw [Nd.enc_eq]; rfl
theorem Nd.r_er {x : Nd} : eraseL x.enc = x.enc := by rw [Nd.enc_eq]; rfl
theorem Nd.r_tk {x : Nd} : takeN 5 x.enc = some x.enc := by rw [Nd.enc_eq]; rfl
theorem Nd.r_ld {x : Nd} : ldC true 5 x.enc = some (.agg x.enc) := by rw [Nd.enc_eq]; rfl
theorem Nd.r_has {x : Nd} : hasN 5 x.enc = true := by rw [Nd.enc_eq]; rfl
theorem Nd.r_ov {x : Nd} {z0 z1 z2 z3 z4 : V} : over [z0, z1, z2, z3, z4] x.enc = x.enc := by rw [Nd.enc_eq]; rfl
theorem Nd.r_lo {x : Nd} {n : Nat} : loL n x.enc = true := by rw [Nd.enc_eq]; rfl
def Nd.rec_ := And.intro @Nd.r_len <| And.intro @Nd.r_one <| And.intro @Nd.r_nol <| And.intro @Nd.r_er <| And.intro @Nd.r_tk <| And.intro @Nd.r_ld <| And.intro @Nd.r_has <| And.intro @Nd.r_ov @Nd.r_lo
theorem Word.r_len {x : Word} : x.enc.length = 2 := by rw [Word.enc]; rfl
theorem Word.r_one {x : Word} : oneL x.enc = true := by rw [Word.enc]; rfl
theorem Word.r_nol {x : Word} : nolL x.enc = true := by rw [Word.enc]; rfl
theorem Word.r_er {x : Word} : eraseL x.enc = x.enc := by rw [Word.enc]; rfl
theorem Word.r_tk {x : Word} : takeN 2 x.enc = some x.enc := by rw [Word.enc]; rfl
theorem Word.r_ld {x : Word} : ldC true 2 x.enc = some (.agg x.enc) := by rw [Word.enc]; rfl
theorem Word.r_has {x : Word} : hasN 2 x.enc = true := by rw [Word.enc]; rfl
theorem Word.r_ov {x : Word} {z0 z1 : V} : over [z0, z1] x.enc = x.enc := by rw [Word.enc]; rfl
theorem Word.r_lo {x : Word} {n : Nat} : loL n x.enc = true := by rw [Word.enc]; rfl
def Word.rec_ := And.intro @Word.r_len <| And.intro @Word.r_one <| And.intro @Word.r_nol <| And.intro @Word.r_er <| And.intro @Word.r_tk <| And.intro @Word.r_ld <| And.intro @Word.r_has <| And.intro @Word.r_ov @Word.r_lo
theorem Got.r_len {x : Got} : x.enc.length = 8 := by rw [Got.enc]; rfl
theorem Got.r_one {x : Got} : oneL x.enc = true := by rw [Got.enc]; rfl
theorem Got.r_nol {x : Got} : nolL x.enc = true := by rw [Got.enc]; rfl
theorem Got.r_er {x : Got} : eraseL x.enc = x.enc := by rw [Got.enc]; rfl
theorem Got.r_tk {x : Got} : takeN 8 x.enc = some x.enc := by rw [Got.enc]; rfl
theorem Got.r_ld {x : Got} : ldC true 8 x.enc = some (.agg x.enc) := by rw [Got.enc]; rfl
theorem Got.r_has {x : Got} : hasN 8 x.enc = true := by rw [Got.enc]; rfl
theorem Got.r_ov {x : Got} {z0 z1 z2 z3 z4 z5 z6 z7 : V} : over [z0, z1, z2, z3, z4, z5, z6, z7] x.enc = x.enc := by rw [Got.enc]; rfl
theorem Got.r_lo {x : Got} {n : Nat} : loL n x.enc = true := by rw [Got.enc]; rfl
def Got.rec_ := And.intro @Got.r_len <| And.intro @Got.r_one <| And.intro @Got.r_nol <| And.intro @Got.r_er <| And.intro @Got.r_tk <| And.intro @Got.r_ld <| And.intro @Got.r_has <| And.intro @Got.r_ov @Got.r_lo
theorem Nd.x1 {r : Nd} : r.enc.drop 1 = [V.int .i64 r.pos, .str r.text, .sl .no 2 (r.names.map Word.enc), .sl .no 5 (r.kids.map Nd.enc)] := by rw [Nd.enc_eq]; rfl
theorem Nd.x2 {r : Nd} : r.enc.drop 2 = [V.str r.text, .sl .no 2 (r.names.map Word.enc), .sl .no 5 (r.kids.map Nd.enc)] := by rw [Nd.enc_eq]; rfl
theorem Nd.x3 {r : Nd} : r.enc.drop 3 = [V.sl .no 2 (r.names.map Word.enc), .sl .no 5 (r.kids.map Nd.enc)] := by rw [Nd.enc_eq]; rfl
theorem Nd.x4 {r : Nd} : r.enc.drop 4 = [V.sl .no 5 (r.kids.map Nd.enc)] := by rw [Nd.enc_eq]; rfl
theorem Nd.x0 {r : Nd} : ldC false 1 r.enc = some (.int .i64 r.kind) := by rw [Nd.enc_eq]; rfl
/-- A node's fields. -/
def Nd.fl := And.intro @Nd.x0 <| And.intro @Nd.x1 <| And.intro @Nd.x2 <| And.intro @Nd.x3 @Nd.x4
theorem Tree.x1 {r : Tree} : r.enc.drop 1 = [V.str r.tok.text, .int .i64 r.tok.pos, .sl .no 5 (encs r.kids), .int .i64 r.fin] := by rw [enc_eq]; rfl
theorem Tree.x2 {r : Tree} : r.enc.drop 2 = [V.int .i64 r.tok.pos, .sl .no 5 (encs r.kids), .int .i64 r.fin] := by rw [enc_eq]; rfl
theorem Tree.x3 {r : Tree} : r.enc.drop 3 = [V.sl .no 5 (encs r.kids), .int .i64 r.fin] := by rw [enc_eq]; rfl
theorem Tree.x4 {r : Tree} : r.enc.drop 4 = [V.int .i64 r.fin] := by rw [enc_eq]; rfl
theorem Tree.x0 {r : Tree} : ldC false 1 r.enc = some (.int .u8 r.tok.kind) := by rw [enc_eq]; rfl
theorem Tree.xt {r : Tree} : ldC true 3 r.enc = some (.agg [.int .u8 r.tok.kind, .str r.tok.text, .int .i64 r.tok.pos]) := by rw [enc_eq]; rfl
/-- A tree's fields. -/
def Tree.fl := And.intro @Tree.x0 <| And.intro @Tree.xt <| And.intro @Tree.x1 <| And.intro @Tree.x2 <| And.intro @Tree.x3 @Tree.x4
end Go.Am
