/-
  Part 4 of the proof of CommandBackUptoCardSaid: a logic over the model, the forms of the functions that the law reaches, and what they compute.
-/
import Derived.Test.YthncngbmelgmaaaDoorBack3
set_option linter.unusedVariables false
set_option linter.unusedSimpArgs false
set_option linter.defProp false
set_option linter.unusedSectionVars false

namespace Go.Am
def all2 {β : Type} (f : β → β → Bool) : List β → List β → Bool
  | [], [] => true
  | x :: xs, y :: ys => f x y && all2 f xs ys
  | _, _ => false
theorem all2_samesQ : ∀ a b : List Nd, all2 Nd.sameQ a b = samesQ a b
  | [], [] => by simp [all2, samesQ]
  | [], _ :: _ => by simp [all2, samesQ]
  | _ :: _, [] => by simp [all2, samesQ]
  | x :: xs, y :: ys => by simp [all2, samesQ, all2_samesQ xs ys]
def wSame (a b : Word) : Bool := decide (a.text = b.text)
theorem all2_sameW : ∀ a b : List Word, all2 wSame a b = sameW a b
  | [], [] => rfl
  | [], _ :: _ => rfl
  | _ :: _, [] => rfl
  | x :: xs, y :: ys => by simp [all2, sameW, wSame, all2_sameW xs ys]
def at_ (pre us : List Tree) (fin : Int) (k : Nat) : Rdr := ⟨pre ++ us, ((pre.length + k : Nat) : Int), fin, none⟩
theorem sees_mid {pre post : List Tree} {t : Tree} {fin k : Int} : (at_ pre (t :: post) fin 0).sees k = decide (t.tok.kind = k) := by
  simp [at_, Rdr.sees, Rdr.ok, isK]
theorem sees_end {pre : List Tree} {fin k : Int} : (at_ pre [] fin 0).sees k = false := by
  simp [at_, Rdr.sees, Rdr.ok, isK]
theorem take_mid {pre post : List Tree} {t : Tree} {fin k : Int} (h : t.tok.kind = k) : (at_ pre (t :: post) fin 0).take k = (t, at_ (pre ++ [t]) post fin 0) := by
  have hs := sees_mid (pre := pre) (post := post) (t := t) (fin := fin) (k := k)
  rw [decide_eq_true h] at hs
  rw [Rdr.take, if_pos hs]
  simp [at_]
def Back {β : Type} (one : Nat → Rdr → β × Rdr) (sm : β → β → Bool) (x : β) (sh : List Sh) : Prop :=
  ∀ toks : List Tok, toks.map Tok.sh = sh → ∃ us : List Tree, us ≠ [] ∧ flats us = toks ∧ WFs us ∧
    ∀ N, manys us ≤ N → ∀ (pre post : List Tree) (fin : Int), ∃ y, one N (at_ pre (us ++ post) fin 0) = (y, at_ (pre ++ us) post fin 0) ∧ sm y x = true
theorem sh_name {t : List UInt8} {toks : List Tok} (h : toks.map Tok.sh = [nmS t]) : ∃ p, toks = [⟨97, t, p⟩] := by
  match toks, h with
  | [⟨k, s, p⟩], h =>
    simp [Tok.sh, nmS] at h
    exact ⟨p, by rw [h.1, h.2]⟩
theorem sh_sign {c : UInt8} {toks : List Tok} (h : toks.map Tok.sh = [sgn c]) : ∃ p, toks = [⟨(c.toNat : Nat), [c], p⟩] := by
  match toks, h with
  | [⟨k, s, p⟩], h =>
    simp [Tok.sh, sgn] at h
    exact ⟨p, by rw [h.1, h.2]⟩
theorem leaf_tree {t : Tok} (h1 : closing t.kind = 0) (h2 : closesZ t.kind = false) : flats [.mk t [] t.pos] = [t] ∧ WFs [.mk t [] t.pos] := by
  refine ⟨by simp [flats, Tree.flat, h1], ?_⟩
  simp [WFs, Tree.WF, h2]
theorem word_back (w : Word) : Back (fun _ => Rdr.word) wSame w [nmS w.text] := by
  intro toks h
  obtain ⟨p, rfl⟩ := sh_name h
  obtain ⟨f1, f2⟩ := leaf_tree (t := ⟨97, w.text, p⟩) rfl rfl
  refine ⟨_, by simp, f1, f2, fun N _ pre post fin => ⟨⟨w.text, p⟩, ?_, by simp [wSame]⟩⟩
  have := take_mid (pre := pre) (post := post) (t := .mk ⟨97, w.text, p⟩ [] p) (fin := fin) (k := 97) rfl
  simp only [List.singleton_append, Rdr.word, this]; rfl
theorem sameQ_of {m n : Nd} (k : m.kind = n.kind) (t : m.text = n.text) (w : sameW m.names n.names = true) (s : samesQ m.kids n.kids = true) : m.sameQ n = true := by
  rw [Nd.sameQ_eq, decide_eq_true k, decide_eq_true t, w, s]; rfl
theorem leaf_back {k : Int} {n : Nd} (hk : n.kind = k) (h : n.leafQ = true) : Back (fun _ => Rdr.leaf k) Nd.sameQ n [nmS n.text] := by
  intro toks ht
  obtain ⟨us, h1, h2, h3, h4⟩ := word_back ⟨n.text, 0⟩ toks ht
  refine ⟨us, h1, h2, h3, fun N hN pre post fin => ?_⟩
  obtain ⟨y, e1, e2⟩ := h4 N hN pre post fin
  refine ⟨.mk k y.pos y.text [] [], by simp only [Rdr.leaf, e1], ?_⟩
  simp only [Nd.leafQ, Bool.and_eq_true, decide_eq_true_eq] at h
  have hn : n.names = [] := List.length_eq_zero_iff.1 (by omega)
  have hks : n.kids = [] := List.length_eq_zero_iff.1 (by omega)
  simp only [wSame, decide_eq_true_eq] at e2
  exact sameQ_of hk.symm e2 (show sameW [] n.names = true by rw [hn]; rfl) (show samesQ [] n.kids = true by rw [hks]; simp [samesQ])
def NoComma (post : List Tree) : Prop := ∀ t r, post = t :: r → t.tok.kind ≠ 44
theorem no_comma {pre post : List Tree} {fin : Int} (h : NoComma post) : (at_ pre post fin 0).sees 44 = false := by
  cases post with
  | nil => exact sees_end
  | cons t r => rw [sees_mid]; exact decide_eq_false (h t r rfl)
section
variable {β : Type} {one : Nat → Rdr → β × Rdr} {sm : β → β → Bool} {S : β → List Sh}
theorem goG_back : ∀ (xs : List β), (∀ x ∈ xs, Back one sm x (S x)) → ∀ toks : List Tok, toks.map Tok.sh = (xs.map S).flatMap (fun y => sgn 44 :: y) →
    ∃ us : List Tree, flats us = toks ∧ WFs us ∧ xs.length ≤ us.length ∧ ∀ N, manys us ≤ N → ∀ (pre post : List Tree) (fin : Int) (n : Nat) (acc : List β), xs.length ≤ n → NoComma post →
      ∃ ys, goG (oStep (one N)) n (at_ pre (us ++ post) fin 0, acc) = (at_ (pre ++ us) post fin 0, acc ++ ys) ∧ all2 sm ys xs = true
  | [], _, toks, ht => by
    have : toks = [] := by simpa using ht
    subst this
    refine ⟨[], rfl, trivial, by simp, fun N _ pre post fin n acc _ hp => ⟨[], ?_, rfl⟩⟩
    cases n with
    | zero => simp [goG]
    | succ n => rw [goG]; simp [no_comma hp]
  | x :: xs, h, toks, ht => by
    simp only [List.map_cons, List.flatMap_cons] at ht
    obtain ⟨t1, t3, rfl, h1, h3⟩ := List.map_eq_append_iff.1 ht
    obtain ⟨tc, t2, rfl, hc, h2⟩ := List.map_eq_append_iff.1 (show t1.map Tok.sh = [sgn 44] ++ S x from h1)
    obtain ⟨p, rfl⟩ := sh_sign hc
    obtain ⟨f1, f2⟩ := leaf_tree (t := ⟨((44 : UInt8).toNat : Nat), [44], p⟩) rfl rfl
    obtain ⟨ux, n1, e1, w1, b1⟩ := h x (by simp) t2 h2
    obtain ⟨us, e2, w2, l2, b2⟩ := goG_back xs (fun y hy => h y (by simp [hy])) t3 h3
    generalize hT : (Tree.mk ⟨((44 : UInt8).toNat : Nat), [44], p⟩ [] p) = T at f1 f2
    have hk : T.tok.kind = 44 := by rw [← hT]; rfl
    refine ⟨[T] ++ ux ++ us, ?_, ?_, ?_, ?_⟩
    · rw [flats_append, flats_append, e1, e2, ← f1, ← hT]
    · rw [WFs_append, WFs_append]; exact ⟨⟨by rw [← hT] at f2 ⊢; exact f2, w1⟩, w2⟩
    · simp only [List.length_append, List.length_cons, List.length_nil]; omega
    · intro N hN pre post fin n acc hn hp
      simp only [manys_append] at hN
      obtain ⟨n, rfl⟩ : ∃ m, n = m + 1 := ⟨n - 1, by simp at hn; omega⟩
      obtain ⟨y, q1, q2⟩ := b1 N (by omega) (pre ++ [T]) (us ++ post) fin
      obtain ⟨ys, q3, q4⟩ := b2 N (by omega) (pre ++ [T] ++ ux) post fin n (acc ++ [y]) (by simp at hn; omega) hp
      refine ⟨y :: ys, ?_, by simp [all2, q2, q4]⟩
      have es : [T] ++ ux ++ us ++ post = T :: (ux ++ (us ++ post)) := by simp
      rw [es, goG]
      simp only [sees_mid, hk, decide_true, if_true]
      rw [take_mid hk]
      simp only [oStep, q1]
      rw [show pre ++ ([T] ++ ux ++ us) = pre ++ [T] ++ ux ++ us by simp, q3]
      simp
theorem some_back {x : β} {xs : List β} (h : ∀ y ∈ x :: xs, Back one sm y (S y)) {toks : List Tok} (ht : toks.map Tok.sh = commaS ((x :: xs).map S)) :
    ∃ us : List Tree, us ≠ [] ∧ flats us = toks ∧ WFs us ∧ ∀ N, manys us ≤ N → ∀ (pre post : List Tree) (fin : Int), NoComma post →
      ∃ ys, someG (oStep (one N)) (at_ pre (us ++ post) fin 0) = (at_ (pre ++ us) post fin 0, ys) ∧ all2 sm ys (x :: xs) = true := by
  simp only [List.map_cons, commaS] at ht
  obtain ⟨t1, t2, rfl, h1, h2⟩ := List.map_eq_append_iff.1 ht
  obtain ⟨ux, n1, e1, w1, b1⟩ := h x (by simp) t1 h1
  obtain ⟨us, e2, w2, l2, b2⟩ := goG_back xs (fun y hy => h y (by simp [hy])) t2 h2
  refine ⟨ux ++ us, by simp [n1], by rw [flats_append, e1, e2], by rw [WFs_append]; exact ⟨w1, w2⟩, fun N hN pre post fin hp => ?_⟩
  rw [manys_append] at hN
  obtain ⟨y, q1, q2⟩ := b1 N (by omega) pre (us ++ post) fin
  obtain ⟨ys, q3, q4⟩ := b2 N (by omega) (pre ++ ux) post fin (at_ pre (ux ++ us ++ post) fin 0).l.length [y] (by simp [at_]; omega) hp
  refine ⟨y :: ys, ?_, by simp [all2, q2, q4]⟩
  unfold someG
  simp only [oStep, List.append_assoc] at q1 q3 ⊢
  rw [q1]
  simp only [List.nil_append]
  rw [q3]
  simp
theorem sign_val {a b : UInt8} (h : closing (a.toNat : Nat) = (b.toNat : Nat)) : [UInt8.ofNat (closing (a.toNat : Nat)).toNat] = [b] := by rw [h]; simp
theorem bracket_back {a b : UInt8} {e : Bool} {xs : List β} (hab : closing (a.toNat : Nat) = (b.toNat : Nat)) (hb0 : (b.toNat : Int) ≠ 0) (hca : closesZ (a.toNat : Nat) = false) (h : ∀ y ∈ xs, Back one sm y (S y)) (he : xs = [] → e = true) {toks : List Tok}
    (ht : toks.map Tok.sh = [sgn a] ++ commaS (xs.map S) ++ [sgn b]) :
    ∃ T : Tree, flats [T] = toks ∧ WFs [T] ∧ T.tok.kind = (a.toNat : Nat) ∧ ∀ N, manys [T] ≤ N + 1 → ∀ (pre post : List Tree) (fin : Int),
      ∃ ys p, (at_ pre (T :: post) fin 0).bracket (oStep (one N)) (a.toNat : Nat) e = ((ys, p), at_ (pre ++ [T]) post fin 0) ∧ all2 sm ys xs = true := by
  obtain ⟨t1, t3, rfl, h1, h3⟩ := List.map_eq_append_iff.1 ht
  obtain ⟨ta, t2, rfl, ha, h2⟩ := List.map_eq_append_iff.1 h1
  obtain ⟨pa, rfl⟩ := sh_sign ha
  obtain ⟨pb, rfl⟩ := sh_sign h3
  have hc0 : closing (a.toNat : Nat) ≠ 0 := by rw [hab]; exact hb0
  have key : ∃ us : List Tree, flats us = t2 ∧ WFs us ∧ ∀ N, manys us ≤ N → ∀ (T : Tree), T.kids = us → ∃ ys, Rdr.inside (oStep (one N)) e T = (at_ us [] T.fin 0, ys) ∧ all2 sm ys xs = true := by
    cases xs with
    | nil =>
      have : t2 = [] := by simpa [commaS] using h2
      subst this
      refine ⟨[], rfl, trivial, fun N _ T hT => ⟨[], ?_, rfl⟩⟩
      rw [Rdr.inside, if_pos ⟨he rfl, by rw [hT]; rfl⟩]
      simp [Tree.inner, at_, hT]
    | cons x xs =>
      obtain ⟨us, n1, e1, w1, b1⟩ := some_back h h2
      refine ⟨us, e1, w1, fun N hN T hT => ?_⟩
      obtain ⟨ys, q1, q2⟩ := b1 N hN [] [] T.fin (fun t r h => by simp at h)
      refine ⟨ys, ?_, q2⟩
      rw [Rdr.inside, if_neg (fun h => n1 (by rw [← hT]; exact List.length_eq_zero_iff.1 h.2))]
      have : T.inner = at_ [] (us ++ []) T.fin 0 := by simp [Tree.inner, at_, hT]
      rw [this, q1]; simp
  obtain ⟨us, e1, w1, b1⟩ := key
  refine ⟨.mk ⟨(a.toNat : Nat), [a], pa⟩ us pb, ?_, ?_, rfl, ?_⟩
  · simp only [flats, Tree.flat, List.append_nil]
    rw [if_pos hc0, e1, sign_val hab, hab]
    simp
  · simp only [WFs, Tree.WF]; exact ⟨⟨hca, fun h => absurd h hc0, w1⟩, trivial⟩
  · intro N hN pre post fin
    obtain ⟨ys, q1, q2⟩ := b1 N (by simp only [manys, Tree.many] at hN; omega) (.mk ⟨(a.toNat : Nat), [a], pa⟩ us pb) rfl
    refine ⟨ys, pa, ?_, q2⟩
    unfold Rdr.bracket
    rw [take_mid (t := .mk ⟨(a.toNat : Nat), [a], pa⟩ us pb) (k := (a.toNat : Nat)) rfl]
    simp only [q1]
    have hok : (at_ (pre ++ [Tree.mk ⟨(a.toNat : Nat), [a], pa⟩ us pb]) post fin 0).ok = true := rfl
    rw [if_pos hok]
    have hcl : (at_ us [] pb 0).close = at_ us [] pb 0 := by unfold Rdr.close; rw [if_neg]; simp [at_]
    simp only [Rdr.under, Tree.fin, hcl, Tree.tok]
    rfl
end
end Go.Am

namespace Go.Am
theorem head_of {us : List Tree} {s : Sh} {r : List Sh} (h0 : us ≠ []) (h : (flats us).map Tok.sh = s :: r) : ∃ t ts, us = t :: ts ∧ t.tok.kind = s.1 := by
  cases us with
  | nil => exact absurd rfl h0
  | cons t ts =>
    refine ⟨t, ts, rfl, ?_⟩
    have e : flats (t :: ts) = flats [t] ++ flats ts := flats_append [t] ts
    rw [e, flats_one] at h
    simp only [List.cons_append, List.map_cons, List.cons.injEq] at h
    rw [← h.1]; rfl
theorem sees_head {pre us post : List Tree} {fin k : Int} {s : Sh} {r : List Sh} {toks : List Tok} (h0 : us ≠ []) (hf : flats us = toks) (h : toks.map Tok.sh = s :: r) : (at_ pre (us ++ post) fin 0).sees k = decide (s.1 = k) := by
  obtain ⟨t, ts, rfl, hk⟩ := head_of h0 (by rw [hf]; exact h)
  rw [List.cons_append, sees_mid, hk]
theorem many_pos {us : List Tree} (h : us ≠ []) : 1 ≤ manys us := by
  cases us with
  | nil => exact absurd rfl h
  | cons t ts => simp only [manys]; omega
theorem sign_tree {c : UInt8} (h : (decide (closing (c.toNat : Nat) = 0) && !closesZ (c.toNat : Nat)) = true) {toks : List Tok} (ht : toks.map Tok.sh = [sgn c]) : ∃ T : Tree, flats [T] = toks ∧ WFs [T] ∧ T.tok.kind = (c.toNat : Nat) := by
  simp only [Bool.and_eq_true, decide_eq_true_eq, Bool.not_eq_true'] at h
  obtain ⟨p, rfl⟩ := sh_sign ht
  obtain ⟨f1, f2⟩ := leaf_tree (t := ⟨(c.toNat : Nat), [c], p⟩) h.1 h.2
  exact ⟨_, f1, f2, rfl⟩
theorem words_back {ws : List Word} {toks : List Tok} (ht : toks.map Tok.sh = [sgn 123] ++ wshp ws ++ [sgn 125]) :
    ∃ T : Tree, flats [T] = toks ∧ WFs [T] ∧ T.tok.kind = 123 ∧ ∀ (pre post : List Tree) (fin : Int), ∃ ys p, (at_ pre (T :: post) fin 0).words true = ((ys, p), at_ (pre ++ [T]) post fin 0) ∧ sameW ys ws = true := by
  obtain ⟨T, h1, h2, h3, h4⟩ := bracket_back (one := fun _ => Rdr.word) (sm := wSame) (S := fun w => [nmS w.text]) (a := 123) (b := 125) (e := true) (xs := ws) (by decide) (by decide) (by decide) (fun w _ => word_back w) (fun _ => rfl) ht
  refine ⟨T, h1, h2, h3, fun pre post fin => ?_⟩
  obtain ⟨ys, p, q1, q2⟩ := h4 (manys [T]) (by omega) pre post fin
  rw [all2_sameW] at q2
  exact ⟨ys, p, q1, q2⟩
theorem nodes_back {one : Nat → Rdr → Nd × Rdr} {a b : UInt8} {e : Bool} {ks : List Nd} (hab : (decide (closing (a.toNat : Nat) = (b.toNat : Nat)) && decide ((b.toNat : Int) ≠ 0) && !closesZ (a.toNat : Nat)) = true) (h : ∀ y ∈ ks, Back one Nd.sameQ y y.shp) (he : ks = [] → e = true) {toks : List Tok}
    (ht : toks.map Tok.sh = [sgn a] ++ commaS (shps ks) ++ [sgn b]) :
    ∃ T : Tree, flats [T] = toks ∧ WFs [T] ∧ T.tok.kind = (a.toNat : Nat) ∧ ∀ N, manys [T] ≤ N + 1 → ∀ (pre post : List Tree) (fin : Int),
      ∃ ys p, (at_ pre (T :: post) fin 0).nodes (one N) (a.toNat : Nat) e = ((ys, p), at_ (pre ++ [T]) post fin 0) ∧ samesQ ys ks = true := by
  simp only [Bool.and_eq_true, decide_eq_true_eq, Bool.not_eq_true'] at hab
  rw [shps_map] at ht
  obtain ⟨T, h1, h2, h3, h4⟩ := bracket_back (one := one) (sm := Nd.sameQ) (S := Nd.shp) (e := e) hab.1.1 hab.1.2 hab.2 h he ht
  refine ⟨T, h1, h2, h3, fun N hN pre post fin => ?_⟩
  obtain ⟨ys, p, q1, q2⟩ := h4 N hN pre post fin
  rw [all2_samesQ] at q2
  exact ⟨ys, p, q1, q2⟩
theorem rule_back {n : Nd} (h : n.ruleQ = true) : Back (fun _ => Rdr.rule) Nd.sameQ n n.shp := by
  obtain ⟨k, h1, h2, h3⟩ := rule_spec h
  intro toks ht
  have e : n.shp = [nmS n.text] ++ [sgn 58] ++ ([sgn 123] ++ wshp n.names ++ [sgn 125]) := by rw [Nd.shp_eq, k]; rfl
  rw [e] at ht
  obtain ⟨t1, t3, rfl, a1, a3⟩ := List.map_eq_append_iff.1 ht
  obtain ⟨tw, tc, rfl, aw, ac⟩ := List.map_eq_append_iff.1 a1
  obtain ⟨uw, n1, f1, w1, b1⟩ := word_back ⟨n.text, 0⟩ tw aw
  obtain ⟨C, f2, w2, c2⟩ := sign_tree (by decide) ac
  obtain ⟨T, f3, w3, c3, b3⟩ := words_back a3
  refine ⟨uw ++ [C] ++ [T], by simp, by rw [flats_append, flats_append, f1, f2, f3], by rw [WFs_append, WFs_append]; exact ⟨⟨w1, w2⟩, w3⟩, fun N hN pre post fin => ?_⟩
  obtain ⟨y, q1, q2⟩ := b1 (manys uw) (Nat.le_refl _) pre ([C] ++ [T] ++ post) fin
  obtain ⟨ys, p, q3, q4⟩ := b3 (pre ++ uw ++ [C]) post fin
  have q5 := take_mid (pre := pre ++ uw) (post := [T] ++ post) (t := C) (fin := fin) (k := 58) c2
  refine ⟨.mk 6 y.pos y.text ys [], ?_, ?_⟩
  · have es : uw ++ [C] ++ [T] ++ post = uw ++ ([C] ++ [T] ++ post) := by simp
    have q1' : (at_ pre (uw ++ ([C] ++ [T] ++ post)) fin 0).word = (y, at_ (pre ++ uw) ([C] ++ [T] ++ post) fin 0) := q1
    have q5' : (at_ (pre ++ uw) ([C] ++ [T] ++ post) fin 0).take 58 = (C, at_ (pre ++ uw ++ [C]) (T :: post) fin 0) := q5
    simp only [es, Rdr.rule, q1', q5', q3]
    simp
  · simp only [wSame, decide_eq_true_eq] at q2
    exact sameQ_of k.symm q2 q4 (show samesQ [] n.kids = true by rw [h3]; simp [samesQ])
theorem const_back : ∀ (k : Nat) (n : Nd), n.wt ≤ k → n.constQ = true → Back Rdr.constant Nd.sameQ n n.shp := by
  intro k
  induction k with
  | zero => intro n h _; cases n; simp only [Nd.wt] at h; omega
  | succ k ih =>
    intro n hk h toks ht
    rcases const_spec h with ⟨h1, h2⟩ | ⟨h1, h2, h3, h4⟩ | ⟨h1, h2, h3, h4, h5⟩ | ⟨h1, h2, h3, h4⟩
    · have e : n.shp = [nmS n.text] := by rw [Nd.shp_eq, h1]; rfl
      rw [e] at ht
      obtain ⟨us, n1, f1, w1, b1⟩ := leaf_back h1 h2 toks ht
      refine ⟨us, n1, f1, w1, fun N hN pre post fin => ?_⟩
      have hp := many_pos n1
      obtain ⟨N, rfl⟩ : ∃ m, N = m + 1 := ⟨N - 1, by omega⟩
      obtain ⟨y, q1, q2⟩ := b1 _ hN pre post fin
      refine ⟨y, ?_, q2⟩
      have s1 := sees_head (pre := pre) (post := post) (fin := fin) (k := 123) n1 f1 ht
      have s2 := sees_head (pre := pre) (post := post) (fin := fin) (k := 40) n1 f1 ht
      have s3 := sees_head (pre := pre) (post := post) (fin := fin) (k := 91) n1 f1 ht
      rw [Rdr.constant, s1, s2, s3]
      exact q1
    · have e : n.shp = [sgn 123] ++ wshp n.names ++ [sgn 125] := by rw [Nd.shp_eq, h1]; rfl
      rw [e] at ht
      obtain ⟨T, f1, w1, c1, b1⟩ := words_back ht
      refine ⟨[T], by simp, f1, w1, fun N hN pre post fin => ?_⟩
      have hp := many_pos (us := [T]) (by simp)
      obtain ⟨N, rfl⟩ : ∃ m, N = m + 1 := ⟨N - 1, by omega⟩
      obtain ⟨ys, p, q1, q2⟩ := b1 pre post fin
      refine ⟨.mk 3 p [] ys [], ?_, sameQ_of h1.symm h2.symm q2 (show samesQ [] n.kids = true by rw [h4]; simp [samesQ])⟩
      rw [List.singleton_append, Rdr.constant, if_pos (by rw [sees_mid, c1]; rfl), q1]
    · have e : n.shp = [sgn 40] ++ commaS (shps n.kids) ++ [sgn 41] := by rw [Nd.shp_eq, h1]; rfl
      rw [e] at ht
      obtain ⟨T, f1, w1, c1, b1⟩ := nodes_back (one := Rdr.constant) (e := false) (by decide) (fun m hm => ih m (by have := kidw hm; omega) (h5 m hm)) (fun h => absurd h h4) ht
      refine ⟨[T], by simp, f1, w1, fun N hN pre post fin => ?_⟩
      have hp := many_pos (us := [T]) (by simp)
      obtain ⟨N, rfl⟩ : ∃ m, N = m + 1 := ⟨N - 1, by omega⟩
      obtain ⟨ys, p, q1, q2⟩ := b1 N hN pre post fin
      refine ⟨.mk 4 p [] [] ys, ?_, sameQ_of h1.symm h2.symm (show sameW [] n.names = true by rw [h3]; rfl) q2⟩
      have q1' : (at_ pre (T :: post) fin 0).nodes (Rdr.constant N) 40 false = ((ys, p), at_ (pre ++ [T]) post fin 0) := q1
      rw [List.singleton_append, Rdr.constant, if_neg (by rw [sees_mid, c1]; decide), if_pos (by rw [sees_mid, c1]; rfl), q1']
    · have e : n.shp = [sgn 91] ++ commaS (shps n.kids) ++ [sgn 93] := by rw [Nd.shp_eq, h1]; rfl
      rw [e] at ht
      obtain ⟨T, f1, w1, c1, b1⟩ := nodes_back (one := fun _ => Rdr.rule) (e := true) (by decide) (fun m hm => rule_back (h4 m hm)) (fun _ => rfl) ht
      refine ⟨[T], by simp, f1, w1, fun N hN pre post fin => ?_⟩
      have hp := many_pos (us := [T]) (by simp)
      obtain ⟨N, rfl⟩ : ∃ m, N = m + 1 := ⟨N - 1, by omega⟩
      obtain ⟨ys, p, q1, q2⟩ := b1 N hN pre post fin
      refine ⟨.mk 5 p [] [] ys, ?_, sameQ_of h1.symm h2.symm (show sameW [] n.names = true by rw [h3]; rfl) q2⟩
      have q1' : (at_ pre (T :: post) fin 0).nodes Rdr.rule 91 true = ((ys, p), at_ (pre ++ [T]) post fin 0) := q1
      rw [List.singleton_append, Rdr.constant, if_neg (by rw [sees_mid, c1]; decide), if_neg (by rw [sees_mid, c1]; decide), if_pos (by rw [sees_mid, c1]; rfl), q1']
theorem atom_back {n : Nd} (h : n.labelQ = true) (hk : n.kind = 1 ∨ n.kind = 7) : Back Rdr.atom Nd.sameQ n n.shp := by
  intro toks ht
  rcases label_spec h with ⟨h1, h2⟩ | ⟨h1, h2, h3, c, h4, h5⟩ | ⟨h1, _⟩
  · have e : n.shp = [nmS n.text] := by rw [Nd.shp_eq, h1]; rfl
    rw [e] at ht
    obtain ⟨us, n1, f1, w1, b1⟩ := leaf_back h1 h2 toks ht
    refine ⟨us, n1, f1, w1, fun N hN pre post fin => ?_⟩
    obtain ⟨y, q1, q2⟩ := b1 _ hN pre post fin
    refine ⟨y, ?_, q2⟩
    have s1 := sees_head (pre := pre) (post := post) (fin := fin) (k := 35) n1 f1 ht
    rw [Rdr.atom, s1]
    exact q1
  · have e : n.shp = [sgn 35] ++ c.shp := by rw [Nd.shp_eq, h1, h4]; rfl
    rw [e] at ht
    obtain ⟨t1, t2, rfl, a1, a2⟩ := List.map_eq_append_iff.1 ht
    obtain ⟨C, f2, w2, c2⟩ := sign_tree (by decide) a1
    obtain ⟨us, n1, f1, w1, b1⟩ := const_back _ c (Nat.le_refl _) h5 t2 a2
    refine ⟨[C] ++ us, by simp, by rw [flats_append, f1, f2], by rw [WFs_append]; exact ⟨w2, w1⟩, fun N hN pre post fin => ?_⟩
    rw [manys_append] at hN
    obtain ⟨y, q1, q2⟩ := b1 N (by omega) (pre ++ [C]) post fin
    have q5 := take_mid (pre := pre) (post := us ++ post) (t := C) (fin := fin) (k := 35) c2
    refine ⟨.mk 7 C.tok.pos [] [] [y], ?_, sameQ_of h1.symm h2.symm (show sameW [] n.names = true by rw [h3]; rfl) (show samesQ [y] n.kids = true by rw [h4]; simp [samesQ, q2])⟩
    rw [List.append_assoc, List.singleton_append, Rdr.atom, if_pos (by rw [sees_mid, c2]; rfl), q5]
    simp only [q1]
    simp
  · omega
theorem label_back : ∀ (k : Nat) (n : Nd), n.wt ≤ k → n.labelQ = true → Back Rdr.label Nd.sameQ n n.shp := by
  intro k
  induction k with
  | zero => intro n h _; cases n; simp only [Nd.wt] at h; omega
  | succ k ih =>
    intro n hk h toks ht
    by_cases hat : n.kind = 1 ∨ n.kind = 7
    · obtain ⟨us, n1, f1, w1, b1⟩ := atom_back h hat toks ht
      refine ⟨us, n1, f1, w1, fun N hN pre post fin => ?_⟩
      have hp := many_pos n1
      obtain ⟨N, rfl⟩ : ∃ m, N = m + 1 := ⟨N - 1, by omega⟩
      obtain ⟨y, q1, q2⟩ := b1 _ hN pre post fin
      refine ⟨y, ?_, q2⟩
      obtain ⟨s, r, hs, h43, h38⟩ : ∃ s r, toks.map Tok.sh = s :: r ∧ s.1 ≠ 43 ∧ s.1 ≠ 38 := by
        rw [ht, Nd.shp_eq]
        rcases hat with e | e <;> rw [e]
        · exact ⟨_, _, rfl, (by decide : (97 : Int) ≠ 43), (by decide : (97 : Int) ≠ 38)⟩
        · exact ⟨_, _, rfl, (by decide : (35 : Int) ≠ 43), (by decide : (35 : Int) ≠ 38)⟩
      have s1 := sees_head (pre := pre) (post := post) (fin := fin) (k := 43) n1 f1 hs
      have s2 := sees_head (pre := pre) (post := post) (fin := fin) (k := 38) n1 f1 hs
      rw [decide_eq_false h43] at s1
      rw [decide_eq_false h38] at s2
      rw [Rdr.label, s1, s2]
      exact q1
    · rcases label_spec h with ⟨h1, _⟩ | ⟨h1, _⟩ | ⟨h1, h2, h3, h4, h5⟩
      · omega
      · omega
      have hkids := fun m hm => ih m (by have := kidw hm; omega) (h5 m hm)
      rcases h1 with h1 | h1
      · have e : n.shp = [sgn 43] ++ ([sgn 40] ++ commaS (shps n.kids) ++ [sgn 41]) := by rw [Nd.shp_eq, h1]; rfl
        rw [e] at ht
        obtain ⟨t1, t2, rfl, a1, a2⟩ := List.map_eq_append_iff.1 ht
        obtain ⟨C, f2, w2, c2⟩ := sign_tree (by decide) a1
        obtain ⟨T, f1, w1, c1, b1⟩ := nodes_back (one := Rdr.label) (e := false) (by decide) hkids (fun h => absurd h h4) a2
        refine ⟨[C] ++ [T], by simp, by rw [flats_append, f1, f2], by rw [WFs_append]; exact ⟨w2, w1⟩, fun N hN pre post fin => ?_⟩
        rw [manys_append] at hN
        have hp := many_pos (us := [C]) (by simp)
        obtain ⟨N, rfl⟩ : ∃ m, N = m + 1 := ⟨N - 1, by omega⟩
        obtain ⟨ys, p, q1, q2⟩ := b1 N (by omega) (pre ++ [C]) post fin
        have q5 := take_mid (pre := pre) (post := T :: post) (t := C) (fin := fin) (k := 43) c2
        refine ⟨.mk 8 C.tok.pos [] [] ys, ?_, sameQ_of h1.symm h2.symm (show sameW [] n.names = true by rw [h3]; rfl) q2⟩
        have q1' : (at_ (pre ++ [C]) (T :: post) fin 0).nodes (Rdr.label N) 40 false = ((ys, p), at_ (pre ++ [C] ++ [T]) post fin 0) := q1
        rw [List.append_assoc, List.singleton_append, List.singleton_append, Rdr.label, if_pos (by rw [sees_mid, c2]; rfl), q5]
        simp only [q1']
        simp
      · have e : n.shp = [sgn 38] ++ ([sgn 40] ++ commaS (shps n.kids) ++ [sgn 41]) := by rw [Nd.shp_eq, h1]; rfl
        rw [e] at ht
        obtain ⟨t1, t2, rfl, a1, a2⟩ := List.map_eq_append_iff.1 ht
        obtain ⟨C, f2, w2, c2⟩ := sign_tree (by decide) a1
        obtain ⟨T, f1, w1, c1, b1⟩ := nodes_back (one := Rdr.label) (e := false) (by decide) hkids (fun h => absurd h h4) a2
        refine ⟨[C] ++ [T], by simp, by rw [flats_append, f1, f2], by rw [WFs_append]; exact ⟨w2, w1⟩, fun N hN pre post fin => ?_⟩
        rw [manys_append] at hN
        have hp := many_pos (us := [C]) (by simp)
        obtain ⟨N, rfl⟩ : ∃ m, N = m + 1 := ⟨N - 1, by omega⟩
        obtain ⟨ys, p, q1, q2⟩ := b1 N (by omega) (pre ++ [C]) post fin
        have q5 := take_mid (pre := pre) (post := T :: post) (t := C) (fin := fin) (k := 38) c2
        refine ⟨.mk 9 C.tok.pos [] [] ys, ?_, sameQ_of h1.symm h2.symm (show sameW [] n.names = true by rw [h3]; rfl) q2⟩
        have q1' : (at_ (pre ++ [C]) (T :: post) fin 0).nodes (Rdr.label N) 40 false = ((ys, p), at_ (pre ++ [C] ++ [T]) post fin 0) := q1
        rw [List.append_assoc, List.singleton_append, List.singleton_append, Rdr.label, if_neg (by rw [sees_mid, c2]; decide), if_pos (by rw [sees_mid, c2]; rfl), q5]
        simp only [q1']
        simp
theorem field_back {n : Nd} (h : n.fieldQ = true) : Back Rdr.field Nd.sameQ n n.shp := by
  obtain ⟨k, h1, h2, c, h3, h4⟩ := field_spec h
  intro toks ht
  have e : n.shp = [nmS n.text] ++ [sgn 61] ++ c.shp := by rw [Nd.shp_eq, k, h3]; rfl
  rw [e] at ht
  obtain ⟨t1, t3, rfl, a1, a3⟩ := List.map_eq_append_iff.1 ht
  obtain ⟨tw, tc, rfl, aw, ac⟩ := List.map_eq_append_iff.1 a1
  obtain ⟨uw, n1, f1, w1, b1⟩ := word_back ⟨n.text, 0⟩ tw aw
  obtain ⟨C, f2, w2, c2⟩ := sign_tree (by decide) ac
  have hc : c.kind = 1 ∨ c.kind = 7 := by simp only [Nd.atomQ, Bool.and_eq_true, Bool.or_eq_true, decide_eq_true_eq] at h4; exact h4.1
  obtain ⟨ua, n3, f3, w3, b3⟩ := atom_back (atom_label h4) hc t3 a3
  refine ⟨uw ++ [C] ++ ua, by simp, by rw [flats_append, flats_append, f1, f2, f3], by rw [WFs_append, WFs_append]; exact ⟨⟨w1, w2⟩, w3⟩, fun N hN pre post fin => ?_⟩
  rw [manys_append] at hN
  obtain ⟨y, q1, q2⟩ := b1 (manys uw) (Nat.le_refl _) pre ([C] ++ ua ++ post) fin
  obtain ⟨z, q3, q4⟩ := b3 N (by omega) (pre ++ uw ++ [C]) post fin
  have q5 := take_mid (pre := pre ++ uw) (post := ua ++ post) (t := C) (fin := fin) (k := 61) c2
  refine ⟨.mk 11 y.pos y.text [] [z], ?_, ?_⟩
  · have es : uw ++ [C] ++ ua ++ post = uw ++ ([C] ++ ua ++ post) := by simp
    have q1' : (at_ pre (uw ++ ([C] ++ ua ++ post)) fin 0).word = (y, at_ (pre ++ uw) ([C] ++ ua ++ post) fin 0) := q1
    have q5' : (at_ (pre ++ uw) ([C] ++ ua ++ post) fin 0).take 61 = (C, at_ (pre ++ uw ++ [C]) (ua ++ post) fin 0) := q5
    simp only [es, Rdr.field, q1', q5', q3]
    simp
  · simp only [wSame, decide_eq_true_eq] at q2
    exact sameQ_of k.symm q2 (show sameW [] n.names = true by rw [h2]; rfl) (show samesQ [z] n.kids = true by rw [h3]; simp [samesQ, q4])
end Go.Am

namespace Go.Am
theorem inner_at (T : Tree) : T.inner = at_ [] T.kids T.fin 0 := by simp [Tree.inner, at_]
theorem close_end {us : List Tree} {fin : Int} : (at_ us [] fin 0).close = at_ us [] fin 0 := by unfold Rdr.close; rw [if_neg]; simp [at_]
theorem field_head {n : Nd} (h : n.fieldQ = true) : ∃ r, n.shp = nmS n.text :: r := by
  obtain ⟨k, _, _, c, h3, _⟩ := field_spec h
  exact ⟨[sgn 61] ++ c.shp, by rw [Nd.shp_eq, k, h3]; rfl⟩
theorem rowOf_back {n : Nd} (hn : n.names = [] ∨ ∃ w, n.names = [w] ∧ nameR w.text = true) (hf : ∀ x ∈ n.kids, x.fieldQ = true) {toks : List Tok}
    (ht : toks.map Tok.sh = commaS (shps n.kids) ++ (if 0 < n.names.length then [sgn 124] ++ wshp n.names else [])) :
    ∃ us : List Tree, flats us = toks ∧ WFs us ∧ ∀ N, manys us ≤ N → ∀ T : Tree, T.kids = us → ∃ ws ks, Rdr.rowOf N T = ((at_ us [] T.fin 0, ks), ws) ∧ sameW ws n.names = true ∧ samesQ ks n.kids = true := by
  obtain ⟨t1, t2, rfl, a1, a2⟩ := List.map_eq_append_iff.1 ht
  have nameside : (n.names = [] ∧ t2 = []) ∨ (∃ w C uw, n.names = [w] ∧ uw ≠ [] ∧ flats ([C] ++ uw) = t2 ∧ WFs ([C] ++ uw) ∧ C.tok.kind = 124 ∧ ∀ (pre post : List Tree) (fin : Int), ∃ y, (at_ pre (uw ++ post) fin 0).word = (y, at_ (pre ++ uw) post fin 0) ∧ wSame y w = true) := by
    rcases hn with hn | ⟨w, hn, hw⟩
    · left
      rw [hn] at a2
      exact ⟨hn, by simpa using a2⟩
    · right
      have e : (if 0 < n.names.length then [sgn 124] ++ wshp n.names else []) = [sgn 124] ++ [nmS w.text] := by rw [hn]; simp [wshp, commaS]
      rw [e] at a2
      obtain ⟨tc, tw, rfl, ac, aw⟩ := List.map_eq_append_iff.1 a2
      obtain ⟨C, f2, w2, c2⟩ := sign_tree (by decide) ac
      obtain ⟨uw, n1, f1, w1, b1⟩ := word_back w tw aw
      exact ⟨w, C, uw, hn, n1, by rw [flats_append, f1, f2], by rw [WFs_append]; exact ⟨w2, w1⟩, c2, fun pre post fin => b1 _ (Nat.le_refl _) pre post fin⟩
  have tail : ∀ (pre : List Tree) (us' : List Tree) (fin : Int) (ks : List Nd), (n.names = [] ∧ us' = [] ∨ ∃ w C uw, n.names = [w] ∧ us' = [C] ++ uw ∧ C.tok.kind = 124 ∧ ∀ (pre post : List Tree) (fin : Int), ∃ y, (at_ pre (uw ++ post) fin 0).word = (y, at_ (pre ++ uw) post fin 0) ∧ wSame y w = true) →
      ∃ ws, (if (at_ pre us' fin 0).sees 124 = true then (((((at_ pre us' fin 0).take 124).2.word.2, ks), [((at_ pre us' fin 0).take 124).2.word.1]) : (Rdr × List Nd) × List Word) else ((at_ pre us' fin 0, ks), [])) = ((at_ (pre ++ us') [] fin 0, ks), ws) ∧ sameW ws n.names = true := by
    intro pre us' fin ks h
    rcases h with ⟨h1, rfl⟩ | ⟨w, C, uw, h1, rfl, h3, h4⟩
    · rw [sees_end]
      exact ⟨[], by simp, by rw [h1]; rfl⟩
    · obtain ⟨y, q1, q2⟩ := h4 (pre ++ [C]) [] fin
      rw [List.append_nil] at q1
      refine ⟨[y], ?_, by rw [h1]; simpa [sameW, wSame] using q2⟩
      rw [List.singleton_append, sees_mid, h3, if_pos (by decide), take_mid h3, q1]
      simp
  cases hk : n.kids with
  | nil =>
    rw [hk] at a1
    have : t1 = [] := by simpa [shps, commaS] using a1
    subst this
    rcases nameside with ⟨h1, rfl⟩ | ⟨w, C, uw, h1, h0, h2, h3, h4, h5⟩
    · refine ⟨[], rfl, trivial, fun N _ T hT => ⟨[], [], ?_, by rw [h1]; rfl, by simp [samesQ]⟩⟩
      rw [Rdr.rowOf, if_pos (by rw [hT]; rfl), inner_at, hT]
    · refine ⟨[C] ++ uw, by simpa using h2, h3, fun N _ T hT => ?_⟩
      obtain ⟨ws, q1, q2⟩ := tail [] ([C] ++ uw) T.fin [] (.inr ⟨w, C, uw, h1, rfl, h4, h5⟩)
      refine ⟨ws, [], ?_, q2, by simp [samesQ]⟩
      rw [Rdr.rowOf, if_neg (by rw [hT]; simp), inner_at, hT, Rdr.rowIn]
      have hs : (at_ [] ([C] ++ uw) T.fin 0).sees 124 = true := by rw [List.singleton_append, sees_mid, h4]; rfl
      simp only [hs, if_true] at q1 ⊢
      rw [q1]; simp
  | cons x xs =>
    rw [hk, shps_map] at a1
    obtain ⟨us, n1, f1, w1, b1⟩ := some_back (one := Rdr.field) (sm := Nd.sameQ) (S := Nd.shp) (x := x) (xs := xs) (fun y hy => field_back (hf y (by rw [hk]; exact hy))) a1
    obtain ⟨r, hr⟩ := field_head (hf x (by rw [hk]; simp))
    have hhead : t1.map Tok.sh = nmS x.text :: (r ++ (xs.map Nd.shp).flatMap fun y => sgn 44 :: y) := by rw [a1]; simp [commaS, hr]
    have go : ∀ (us' : List Tree), NoComma us' → (n.names = [] ∧ us' = [] ∨ ∃ w C uw, n.names = [w] ∧ us' = [C] ++ uw ∧ C.tok.kind = 124 ∧ ∀ (pre post : List Tree) (fin : Int), ∃ y, (at_ pre (uw ++ post) fin 0).word = (y, at_ (pre ++ uw) post fin 0) ∧ wSame y w = true) →
        ∀ N, manys (us ++ us') ≤ N → ∀ T : Tree, T.kids = us ++ us' → ∃ ws ks, Rdr.rowOf N T = ((at_ (us ++ us') [] T.fin 0, ks), ws) ∧ sameW ws n.names = true ∧ samesQ ks (x :: xs) = true := by
      intro us' hnc hq N hN T hT
      rw [manys_append] at hN
      obtain ⟨ks, q1, q2⟩ := b1 N (by omega) [] us' T.fin hnc
      obtain ⟨ws, q3, q4⟩ := tail us us' T.fin ks hq
      rw [all2_samesQ] at q2
      refine ⟨ws, ks, ?_, q4, q2⟩
      rw [Rdr.rowOf, if_neg (by rw [hT]; intro h; rw [List.length_append] at h; exact n1 (List.length_eq_zero_iff.1 (by omega))), inner_at, hT, Rdr.rowIn]
      have hs : (at_ [] (us ++ us') T.fin 0).sees 124 = false := by rw [sees_head n1 f1 hhead]; rfl
      rw [List.nil_append] at q1
      simp only [hs, Bool.false_eq_true, if_false, q1]
      exact q3
    rcases nameside with ⟨h1, rfl⟩ | ⟨w, C, uw, h1, h0, h2, h3, h4, h5⟩
    · refine ⟨us ++ [], by simpa using f1, by simpa using w1, go [] (fun t r h => by simp at h) (.inl ⟨h1, rfl⟩)⟩
    · refine ⟨us ++ ([C] ++ uw), by rw [flats_append, f1, h2], by rw [WFs_append]; exact ⟨w1, h3⟩, go ([C] ++ uw) (fun t r h => ?_) (.inr ⟨w, C, uw, h1, rfl, h4, h5⟩)⟩
      simp only [List.singleton_append, List.cons.injEq] at h
      rw [← h.1, h4]; decide
theorem row_back {n : Nd} (h : n.rowQ = true) : Back Rdr.row Nd.sameQ n n.shp := by
  intro toks ht
  rcases row_spec h with ⟨k, h2, hn, hf⟩ | ⟨k, h⟩
  · have e : n.shp = [sgn 91] ++ (commaS (shps n.kids) ++ (if 0 < n.names.length then [sgn 124] ++ wshp n.names else [])) ++ [sgn 93] := by rw [Nd.shp_eq, k]; rfl
    rw [e] at ht
    obtain ⟨t1, t3, rfl, h1, h3⟩ := List.map_eq_append_iff.1 ht
    obtain ⟨ta, t2, rfl, ha, hin⟩ := List.map_eq_append_iff.1 h1
    obtain ⟨pa, rfl⟩ := sh_sign ha
    obtain ⟨pb, rfl⟩ := sh_sign h3
    obtain ⟨us, f1, w1, b1⟩ := rowOf_back hn hf hin
    generalize hT : Tree.mk ⟨((91 : UInt8).toNat : Nat), [91], pa⟩ us pb = T
    have hTk : T.tok.kind = 91 := by rw [← hT]; rfl
    have hTks : T.kids = us := by rw [← hT]; rfl
    have hTm : manys [T] = 1 + manys us := by simp only [manys, many_eq, hTks]; omega
    refine ⟨[T], by simp, ?_, ?_, fun N hN pre post fin => ?_⟩
    · rw [← hT]
      have hc : closing ((91 : UInt8).toNat : Nat) ≠ 0 := by decide
      simp only [flats, Tree.flat, List.append_nil]
      rw [if_pos hc, f1]
      simp; decide +kernel
    · rw [← hT]; simp only [WFs, Tree.WF]; exact ⟨⟨rfl, fun h => absurd h (by decide), w1⟩, trivial⟩
    · obtain ⟨ws, ks, q1, q2, q3⟩ := b1 N (by omega) T hTks
      refine ⟨.mk 10 T.tok.pos [] ws ks, ?_, sameQ_of k.symm h2.symm q2 q3⟩
      have q5 := take_mid (pre := pre) (post := post) (t := T) (fin := fin) (k := 91) hTk
      rw [List.singleton_append, Rdr.row, if_pos (by rw [sees_mid, hTk]; rfl), q5]
      simp only [q1, Rdr.under, close_end]
      rfl
  · have e : n.shp = [nmS n.text] := by rw [Nd.shp_eq, k]; rfl
    have hl : n.leafQ = true := by
      rcases label_spec h with ⟨_, h2⟩ | ⟨h1, _⟩ | ⟨h1, _⟩
      · exact h2
      · omega
      · omega
    rw [e] at ht
    obtain ⟨us, n1, f1, w1, b1⟩ := leaf_back k hl toks ht
    refine ⟨us, n1, f1, w1, fun N hN pre post fin => ?_⟩
    obtain ⟨y, q1, q2⟩ := b1 _ hN pre post fin
    refine ⟨y, ?_, q2⟩
    have s1 := sees_head (pre := pre) (post := post) (fin := fin) (k := 91) n1 f1 ht
    rw [Rdr.row, s1]
    exact q1
end Go.Am

namespace Go.Am
def pairS (p : Word × Word) : List Sh := [nmS p.1.text] ++ [sgn 60] ++ [nmS p.2.text]
def pieceS (k : UInt8) (c : Cmd) (n : Nd) : List Sh :=
  if k = 110 then [nmS c.name.text]
  else if k = 102 then wshp c.names
  else if k = 119 then [sgn 123] ++ wshp c.names ++ [sgn 125]
  else if k = 112 then [sgn 123] ++ commaS (c.pairs.map pairS) ++ [sgn 125]
  else n.shp
def lett : List UInt8 → List Nd → List (UInt8 × Nd)
  | [], _ => []
  | k :: ks, ts => (k, ts.headD .zero) :: lett ks (if isTerm k = true then ts.tail else ts)
theorem pieces_lett (c : Cmd) : ∀ (ks : List UInt8) (x : List (List UInt8) × List Nd), (ks.foldl (stepC c) x).1 = x.1 ++ (lett ks x.2).map fun q => pieceT q.1 c q.2
  | [], x => by simp [lett]
  | k :: ks, x => by
    rw [List.foldl_cons, pieces_lett c ks]
    simp [stepC, lett]
def shpC (c : Cmd) : List Sh := [nmS (formOf c.op).1] ++ ((lett (formOf c.op).2 [c.left, c.right]).map fun q => pieceS q.1 c q.2).flatten
theorem textC_lett (c : Cmd) : textC c = (formOf c.op).1 ++ ((lett (formOf c.op).2 [c.left, c.right]).map fun q => pieceT q.1 c q.2).flatMap fun y => [32] ++ y := by
  rw [textC, piecesT, pieces_lett]; rfl
theorem lex_space {s : List UInt8} {ks : List Sh} (h : LexTo s ks) : LexTo ([32] ++ s) ks := by
  intro n p acc hn
  rcases n with _ | n
  · simp at hn
  obtain ⟨toks, e1, e2⟩ := h n (p + 1) acc (by simpa using hn)
  refine ⟨toks, ?_, e2⟩
  rw [List.singleton_append, lexF, if_neg (fun h => by have := h.1; revert this; decide), runR_no (by decide), if_neg (by simp), if_neg (by decide), if_pos (.inl (by decide)), e1]
theorem lex_parts {β : Type} {T : β → List UInt8} {S : β → List Sh} : ∀ {l : List β}, (∀ x ∈ l, LexN (T x) (S x)) → Stop ((l.map T).flatMap fun y => [32] ++ y) ∧ LexTo ((l.map T).flatMap fun y => [32] ++ y) ((l.map S).flatten)
  | [], _ => ⟨trivial, lex_nil⟩
  | x :: xs, h => by
    obtain ⟨h1, h2⟩ := lex_parts (l := xs) fun y hy => h y (by simp [hy])
    simp only [List.map_cons, List.flatMap_cons, List.flatten_cons, List.append_assoc]
    exact ⟨show goesB 32 = false by decide, lex_space (h x (by simp) _ _ h1 h2)⟩
theorem lex_pair {p : Word × Word} (h : pairQ p = true) : LexN (pairT p) (pairS p) := by
  simp only [pairQ, Bool.and_eq_true] at h
  exact (LexN.sign (lexN h.1) (by decide)).nn (lexN h.2)
theorem lex_pairs {ps : List (Word × Word)} (h : ps.all pairQ = true) : LexS (braceT (ps.map pairT)) ([sgn 123] ++ commaS (ps.map pairS) ++ [sgn 125]) :=
  LexN.sign ((lexS 123 (by decide)).nn (lex_comma (T := pairT) (S := pairS) fun p hp => lex_pair (List.all_eq_true.1 h p hp))) (by decide)
theorem named_right {ws : List Word} (h : namedQ (ws.map Word.text) = true) : rightW ws = true := by
  simp only [namedQ, List.all_map] at h
  exact h
def PieceOk (k : UInt8) (c : Cmd) (n : Nd) : Prop :=
  (k = 110 ∧ nameR c.name.text = true) ∨ (k = 102 ∧ c.names.length = 1 ∧ rightW c.names = true) ∨ (k = 119 ∧ 0 < c.names.length ∧ rightW c.names = true) ∨ (k = 112 ∧ c.pairs.all pairQ = true) ∨ (k = 116 ∧ n.labelQ = true) ∨ (k = 114 ∧ n.rowQ = true)
theorem piece_lex {k : UInt8} {c : Cmd} {n : Nd} (h : PieceOk k c n) : LexN (pieceT k c n) (pieceS k c n) := by
  rcases h with ⟨rfl, h⟩ | ⟨rfl, _, h⟩ | ⟨rfl, _, h⟩ | ⟨rfl, h⟩ | ⟨rfl, h⟩ | ⟨rfl, h⟩
  · exact lexN h
  · exact lex_words h
  · exact (lex_set h).n
  · exact (lex_pairs h).n
  · exact lx_label _ n (Nat.le_refl _) h
  · exact lx_row h
theorem textC_lex {c : Cmd} (h0 : nameR (formOf c.op).1 = true) (h : ∀ q ∈ lett (formOf c.op).2 [c.left, c.right], PieceOk q.1 c q.2) : (lexR (textC c)).2 = none ∧ (lexR (textC c)).1.map Tok.sh = shpC c := by
  obtain ⟨h1, h2⟩ := lex_parts (T := fun q : UInt8 × Nd => pieceT q.1 c q.2) (S := fun q => pieceS q.1 c q.2) (l := lett (formOf c.op).2 [c.left, c.right]) fun q hq => piece_lex (h q hq)
  have := lexN h0 _ _ h1 h2
  rw [textC_lett]
  obtain ⟨toks, e1, e2⟩ := this _ 0 [] (Nat.le_refl _)
  unfold lexR
  rw [e1]
  exact ⟨rfl, by rw [shpC]; simpa using e2⟩
def pSame (a b : Word × Word) : Bool := decide (a.1.text = b.1.text) && decide (a.2.text = b.2.text)
theorem all2_samePQ : ∀ a b : List (Word × Word), all2 pSame a b = samePQ a b
  | [], [] => rfl
  | [], _ :: _ => rfl
  | _ :: _, [] => rfl
  | p :: ps, q :: qs => by simp only [all2, samePQ, pSame, all2_samePQ ps qs]
theorem pairs_in_back : ∀ (ps : List (Word × Word)) (p : Word × Word) (toks : List Tok), toks.map Tok.sh = commaS ((p :: ps).map pairS) →
    ∃ us : List Tree, us ≠ [] ∧ flats us = toks ∧ WFs us ∧ ∀ (n : Nat) (pre : List Tree) (fin : Int) (acc : List (Word × Word)), us.length ≤ n →
      ∃ ys r, Rdr.pairsG n (at_ pre us fin 0) acc = (r, acc ++ ys) ∧ r.bad = none ∧ all2 pSame ys (p :: ps) = true := by
  intro ps
  induction ps with
  | nil =>
    intro p toks ht
    have ht : toks.map Tok.sh = [nmS p.1.text] ++ [sgn 60] ++ [nmS p.2.text] := by simpa [commaS, pairS] using ht
    obtain ⟨t12, t3, rfl, h12, h3⟩ := List.map_eq_append_iff.1 ht
    obtain ⟨t1, t2, rfl, h1, h2⟩ := List.map_eq_append_iff.1 h12
    obtain ⟨p1, rfl⟩ := sh_name h1
    obtain ⟨p2, rfl⟩ := sh_sign h2
    obtain ⟨p3, rfl⟩ := sh_name h3
    obtain ⟨f1, w1⟩ := leaf_tree (t := ⟨97, p.1.text, p1⟩) rfl rfl
    obtain ⟨f2, w2⟩ := leaf_tree (t := ⟨((60 : UInt8).toNat : Nat), [60], p2⟩) rfl rfl
    obtain ⟨f3, w3⟩ := leaf_tree (t := ⟨97, p.2.text, p3⟩) rfl rfl
    refine ⟨[.mk ⟨97, p.1.text, p1⟩ [] p1] ++ [.mk ⟨((60 : UInt8).toNat : Nat), [60], p2⟩ [] p2] ++ [.mk ⟨97, p.2.text, p3⟩ [] p3], by simp, by rw [flats_append, flats_append, f1, f2, f3], by rw [WFs_append, WFs_append]; exact ⟨⟨w1, w2⟩, w3⟩, fun n pre fin acc hn => ?_⟩
    obtain ⟨m, rfl⟩ : ∃ m, n = m + 1 := ⟨n - 1, by simp at hn; omega⟩
    generalize hT1 : (Tree.mk ⟨97, p.1.text, p1⟩ [] p1) = T1
    generalize hT2 : (Tree.mk ⟨((60 : UInt8).toNat : Nat), [60], p2⟩ [] p2) = T2
    generalize hT3 : (Tree.mk ⟨97, p.2.text, p3⟩ [] p3) = T3
    have e1 : (at_ pre (T1 :: [T2, T3]) fin 0).take 97 = (T1, at_ (pre ++ [T1]) [T2, T3] fin 0) := take_mid (by rw [← hT1]; rfl)
    have e2 : (at_ (pre ++ [T1]) [T2, T3] fin 0).take 60 = (T2, at_ (pre ++ [T1] ++ [T2]) [T3] fin 0) := take_mid (by rw [← hT2]; rfl)
    have e3 : (at_ (pre ++ [T1] ++ [T2]) [T3] fin 0).take 97 = (T3, at_ (pre ++ [T1] ++ [T2] ++ [T3]) [] fin 0) := take_mid (by rw [← hT3]; rfl)
    refine ⟨[(⟨T1.tok.text, T1.tok.pos⟩, ⟨T3.tok.text, T3.tok.pos⟩)], at_ (pre ++ [T1] ++ [T2] ++ [T3]) [] fin 0, ?_, rfl, ?_⟩
    · simp only [Rdr.pairsG, List.cons_append, List.nil_append]
      have wd1 : (at_ pre (T1 :: [T2, T3]) fin 0).word = (⟨T1.tok.text, T1.tok.pos⟩, at_ (pre ++ [T1]) [T2, T3] fin 0) := by rw [Rdr.word, e1]
      have wd3 : (at_ (pre ++ [T1] ++ [T2]) [T3] fin 0).word = (⟨T3.tok.text, T3.tok.pos⟩, at_ (pre ++ [T1] ++ [T2] ++ [T3]) [] fin 0) := by rw [Rdr.word, e3]
      rw [if_neg (by simp [at_])]
      simp only [wd1, e2, wd3]
      rw [if_pos (by simp [at_])]
    · rw [← hT1, ← hT3]; simp [all2, pSame, Tree.tok]
  | cons q ps ih =>
    intro p toks ht
    have ht : toks.map Tok.sh = [nmS p.1.text] ++ [sgn 60] ++ [nmS p.2.text] ++ [sgn 44] ++ commaS ((q :: ps).map pairS) := by simpa [commaS, pairS] using ht
    obtain ⟨t1234, t5, rfl, h1234, h5⟩ := List.map_eq_append_iff.1 ht
    obtain ⟨t123, t4, rfl, h123, h4⟩ := List.map_eq_append_iff.1 h1234
    obtain ⟨t12, t3, rfl, h12, h3⟩ := List.map_eq_append_iff.1 h123
    obtain ⟨t1, t2, rfl, h1, h2⟩ := List.map_eq_append_iff.1 h12
    obtain ⟨p1, rfl⟩ := sh_name h1
    obtain ⟨p2, rfl⟩ := sh_sign h2
    obtain ⟨p3, rfl⟩ := sh_name h3
    obtain ⟨p4, rfl⟩ := sh_sign h4
    obtain ⟨us, n0, f5, w5, b5⟩ := ih q t5 h5
    obtain ⟨f1, w1⟩ := leaf_tree (t := ⟨97, p.1.text, p1⟩) rfl rfl
    obtain ⟨f2, w2⟩ := leaf_tree (t := ⟨((60 : UInt8).toNat : Nat), [60], p2⟩) rfl rfl
    obtain ⟨f3, w3⟩ := leaf_tree (t := ⟨97, p.2.text, p3⟩) rfl rfl
    obtain ⟨f4, w4⟩ := leaf_tree (t := ⟨((44 : UInt8).toNat : Nat), [44], p4⟩) rfl rfl
    refine ⟨[.mk ⟨97, p.1.text, p1⟩ [] p1] ++ [.mk ⟨((60 : UInt8).toNat : Nat), [60], p2⟩ [] p2] ++ [.mk ⟨97, p.2.text, p3⟩ [] p3] ++ [.mk ⟨((44 : UInt8).toNat : Nat), [44], p4⟩ [] p4] ++ us, by simp, by rw [flats_append, flats_append, flats_append, flats_append, f1, f2, f3, f4, f5], by rw [WFs_append, WFs_append, WFs_append, WFs_append]; exact ⟨⟨⟨⟨w1, w2⟩, w3⟩, w4⟩, w5⟩, fun n pre fin acc hn => ?_⟩
    obtain ⟨m, rfl⟩ : ∃ m, n = m + 1 := ⟨n - 1, by simp at hn; omega⟩
    generalize hT1 : (Tree.mk ⟨97, p.1.text, p1⟩ [] p1) = T1
    generalize hT2 : (Tree.mk ⟨((60 : UInt8).toNat : Nat), [60], p2⟩ [] p2) = T2
    generalize hT3 : (Tree.mk ⟨97, p.2.text, p3⟩ [] p3) = T3
    generalize hT4 : (Tree.mk ⟨((44 : UInt8).toNat : Nat), [44], p4⟩ [] p4) = T4
    have e1 : (at_ pre (T1 :: (T2 :: T3 :: T4 :: us)) fin 0).take 97 = (T1, at_ (pre ++ [T1]) (T2 :: T3 :: T4 :: us) fin 0) := take_mid (by rw [← hT1]; rfl)
    have e2 : (at_ (pre ++ [T1]) (T2 :: T3 :: T4 :: us) fin 0).take 60 = (T2, at_ (pre ++ [T1] ++ [T2]) (T3 :: T4 :: us) fin 0) := take_mid (by rw [← hT2]; rfl)
    have e3 : (at_ (pre ++ [T1] ++ [T2]) (T3 :: T4 :: us) fin 0).take 97 = (T3, at_ (pre ++ [T1] ++ [T2] ++ [T3]) (T4 :: us) fin 0) := take_mid (by rw [← hT3]; rfl)
    have e4 : (at_ (pre ++ [T1] ++ [T2] ++ [T3]) (T4 :: us) fin 0).take 44 = (T4, at_ (pre ++ [T1] ++ [T2] ++ [T3] ++ [T4]) us fin 0) := take_mid (by rw [← hT4]; rfl)
    obtain ⟨ys, r, g1, g2, g3⟩ := b5 m (pre ++ [T1] ++ [T2] ++ [T3] ++ [T4]) fin (acc ++ [(⟨T1.tok.text, T1.tok.pos⟩, ⟨T3.tok.text, T3.tok.pos⟩)]) (by simp at hn; omega)
    refine ⟨(⟨T1.tok.text, T1.tok.pos⟩, ⟨T3.tok.text, T3.tok.pos⟩) :: ys, r, ?_, g2, ?_⟩
    · simp only [Rdr.pairsG, List.cons_append, List.nil_append]
      have wd1 : (at_ pre (T1 :: (T2 :: T3 :: T4 :: us)) fin 0).word = (⟨T1.tok.text, T1.tok.pos⟩, at_ (pre ++ [T1]) (T2 :: T3 :: T4 :: us) fin 0) := by rw [Rdr.word, e1]
      have wd3 : (at_ (pre ++ [T1] ++ [T2]) (T3 :: T4 :: us) fin 0).word = (⟨T3.tok.text, T3.tok.pos⟩, at_ (pre ++ [T1] ++ [T2] ++ [T3]) (T4 :: us) fin 0) := by rw [Rdr.word, e3]
      rw [if_neg (by simp [at_])]
      simp only [wd1, e2, wd3, e4, g1]
      rw [if_neg (by simp [at_]; omega)]
      simp
    · rw [← hT1, ← hT3]; simp only [all2, pSame, g3, Tree.tok]; simp
end Go.Am

namespace Go.Am
def Eff (k : UInt8) (c : Cmd) (n : Nd) (c0 c1 : Cmd) : Prop :=
  (k = 110 ∧ ∃ w : Word, w.text = c.name.text ∧ c1 = { c0 with name := w }) ∨
  ((k = 102 ∨ k = 119) ∧ ∃ ws, sameW ws c.names = true ∧ c1 = { c0 with names := ws }) ∨
  (k = 112 ∧ ∃ ps a, samePQ ps c.pairs = true ∧ c1 = { c0 with pairs := ps, pairsAt := a }) ∨
  ((k = 116 ∨ k = 114) ∧ ∃ m : Nd, m.sameQ n = true ∧ c1 = if c0.left.kind = 0 then { c0 with left := m } else { c0 with right := m })
def PieceBack (k : UInt8) (c : Cmd) (n : Nd) (toks : List Tok) : Prop :=
  ∃ us : List Tree, us ≠ [] ∧ flats us = toks ∧ WFs us ∧ ∀ (pre post : List Tree) (fin : Int) (c0 : Cmd), (k = 112 → c0.pairs = []) → ∃ c1, partP k (at_ pre (us ++ post) fin 0, c0) = (at_ (pre ++ us) post fin 0, c1) ∧ Eff k c n c0 c1
theorem at_rd {pre us : List Tree} {fin : Int} : (⟨(at_ pre us fin 0).l, (at_ pre us fin 0).at_, (at_ pre us fin 0).fin, none⟩ : Rdr) = at_ pre us fin 0 := rfl
theorem at_next {pre us : List Tree} {T : Tree} {fin : Int} : ({ at_ pre (T :: us) fin 0 with at_ := (at_ pre (T :: us) fin 0).at_ + 1 } : Rdr) = at_ (pre ++ [T]) us fin 0 := by simp [at_]
theorem part_back {k : UInt8} {c : Cmd} {n : Nd} (h : PieceOk k c n) {toks : List Tok} (ht : toks.map Tok.sh = pieceS k c n) : PieceBack k c n toks := by
  rcases h with ⟨rfl, h⟩ | ⟨rfl, h1, h⟩ | ⟨rfl, h1, h⟩ | ⟨rfl, h⟩ | ⟨rfl, h⟩ | ⟨rfl, h⟩
  · obtain ⟨us, n1, f1, w1, b1⟩ := word_back c.name toks ht
    refine ⟨us, n1, f1, w1, fun pre post fin c0 _ => ?_⟩
    obtain ⟨y, q1, q2⟩ := b1 (manys us) (Nat.le_refl _) pre post fin
    refine ⟨{ c0 with name := y }, ?_, .inl ⟨rfl, y, by simpa [wSame] using q2, rfl⟩⟩
    have q1 : (at_ pre (us ++ post) fin 0).word = (y, at_ (pre ++ us) post fin 0) := q1
    have hb : (at_ pre (us ++ post) fin 0).bad = none := rfl
    simp [partP, hb, q1]
  · obtain ⟨w, hw⟩ : ∃ w, c.names = [w] := by
      match hc : c.names, h1 with
      | [w], _ => exact ⟨w, rfl⟩
    have ht : toks.map Tok.sh = [nmS w.text] := by rw [ht]; simp [pieceS, wshp, hw, commaS]
    obtain ⟨us, n1, f1, w1, b1⟩ := word_back w toks ht
    refine ⟨us, n1, f1, w1, fun pre post fin c0 _ => ?_⟩
    obtain ⟨y, q1, q2⟩ := b1 (manys us) (Nat.le_refl _) pre post fin
    refine ⟨{ c0 with names := [y] }, ?_, .inr (.inl ⟨.inl rfl, [y], ?_, rfl⟩)⟩
    · have q1 : (at_ pre (us ++ post) fin 0).word = (y, at_ (pre ++ us) post fin 0) := q1
      have hb : (at_ pre (us ++ post) fin 0).bad = none := rfl
      simp [partP, hb, q1]
    · rw [hw]; simpa [sameW, wSame] using q2
  · obtain ⟨T, f1, w1, k1, b1⟩ := bracket_back (one := fun _ => Rdr.word) (sm := wSame) (S := fun w => [nmS w.text]) (a := 123) (b := 125) (e := false) (xs := c.names) (by decide) (by decide) (by decide) (fun w _ => word_back w) (fun e => by rw [e] at h1; simp at h1) (toks := toks) ht
    refine ⟨[T], by simp, f1, w1, fun pre post fin c0 _ => ?_⟩
    obtain ⟨ys, p, q1, q2⟩ := b1 (manys [T]) (by omega) pre post fin
    rw [all2_sameW] at q2
    have q1 : (at_ pre (T :: post) fin 0).words false = ((ys, p), at_ (pre ++ [T]) post fin 0) := q1
    refine ⟨{ c0 with names := ys }, ?_, .inr (.inl ⟨.inr rfl, ys, q2, rfl⟩)⟩
    have hb : (at_ pre (T :: post) fin 0).bad = none := rfl
    have hw : wordsAt (at_ pre (T :: post) fin 0).l (at_ pre (T :: post) fin 0).at_ (at_ pre (T :: post) fin 0).fin = (ys, none) := by
      unfold wordsAt
      rw [at_rd, q1]; rfl
    have e119 : partP 119 (at_ pre ([T] ++ post) fin 0, c0) = ({ at_ pre (T :: post) fin 0 with bad := (wordsAt (at_ pre (T :: post) fin 0).l (at_ pre (T :: post) fin 0).at_ (at_ pre (T :: post) fin 0).fin).2, at_ := (at_ pre (T :: post) fin 0).at_ + 1 }, { c0 with names := (wordsAt (at_ pre (T :: post) fin 0).l (at_ pre (T :: post) fin 0).at_ (at_ pre (T :: post) fin 0).fin).1 }) := rfl
    rw [e119, hw, ← at_next]
    rfl
  · have ht : toks.map Tok.sh = [sgn 123] ++ commaS (c.pairs.map pairS) ++ [sgn 125] := ht
    obtain ⟨t1, t3, rfl, h1, h3⟩ := List.map_eq_append_iff.1 ht
    obtain ⟨ta, t2, rfl, ha, h2⟩ := List.map_eq_append_iff.1 h1
    obtain ⟨pa, rfl⟩ := sh_sign ha
    obtain ⟨pb, rfl⟩ := sh_sign h3
    have key : ∃ us : List Tree, flats us = t2 ∧ WFs us ∧ ((us = [] ∧ c.pairs = []) ∨ us ≠ [] ∧ ∀ fin, ∃ ys r, Rdr.pairsG (us.length + 1) (at_ [] us fin 0) [] = (r, ys) ∧ r.bad = none ∧ samePQ ys c.pairs = true) := by
      cases hc : c.pairs with
      | nil =>
        rw [hc] at h2
        have : t2 = [] := by simpa [commaS] using h2
        exact ⟨[], by rw [this]; rfl, trivial, .inl ⟨rfl, rfl⟩⟩
      | cons p ps =>
        rw [hc] at h2
        obtain ⟨us, n1, f1, w1, b1⟩ := pairs_in_back ps p t2 h2
        refine ⟨us, f1, w1, .inr ⟨n1, fun fin => ?_⟩⟩
        obtain ⟨ys, r, q1, q2, q3⟩ := b1 (us.length + 1) [] fin [] (by omega)
        exact ⟨ys, r, by rw [q1]; rfl, q2, by rw [← all2_samePQ]; exact q3⟩
    obtain ⟨us, f1, w1, hk⟩ := key
    refine ⟨[.mk ⟨((123 : UInt8).toNat : Nat), [123], pa⟩ us pb], by simp, ?_, ?_, fun pre post fin c0 hp => ?_⟩
    · simp only [flats, Tree.flat, List.append_nil]
      rw [if_pos (by decide), f1]
      rfl
    · simp only [WFs, Tree.WF]
      exact ⟨⟨by decide, fun h => absurd h (by decide), w1⟩, trivial⟩
    · have hp := hp rfl
      have e112 : ∀ x : Rdr × Cmd, x.1.bad = none → partP 112 x = pairsP x.1 x.2 := fun x hx => by simp [partP, hx]
      have htk : (at_ pre (Tree.mk ⟨((123 : UInt8).toNat : Nat), [123], pa⟩ us pb :: post) fin 0).take 123 = (.mk ⟨((123 : UInt8).toNat : Nat), [123], pa⟩ us pb, at_ (pre ++ [.mk ⟨((123 : UInt8).toNat : Nat), [123], pa⟩ us pb]) post fin 0) := take_mid rfl
      rw [e112 _ rfl]
      unfold pairsP
      simp only [List.cons_append, List.nil_append, htk, Tree.kids, Tree.tok]
      rcases hk with ⟨rfl, hc⟩ | ⟨n1, hk⟩
      · rw [if_pos (.inr rfl)]
        refine ⟨_, rfl, .inr (.inr (.inl ⟨rfl, [], pa, by rw [hc]; rfl, ?_⟩))⟩
        cases c0; simp only at hp; subst hp; rfl
      · have hl : us.length ≠ 0 := fun h => n1 (List.length_eq_zero_iff.1 h)
        rw [if_neg (by simp [at_, hl])]
        obtain ⟨ys, r, q1, q2, q3⟩ := hk pb
        have hin : (Tree.mk ⟨((123 : UInt8).toNat : Nat), [123], pa⟩ us pb).inner = at_ [] us pb 0 := by simp [Tree.inner, at_, Tree.kids, Tree.fin]
        rw [hin, q1]
        simp only [q2, Rdr.bads]
        exact ⟨_, rfl, .inr (.inr (.inl ⟨rfl, ys, pa, q3, rfl⟩))⟩
  · obtain ⟨us, n1, f1, w1, b1⟩ := label_back _ n (Nat.le_refl _) h toks ht
    refine ⟨us, n1, f1, w1, fun pre post fin c0 _ => ?_⟩
    have hm : manys us ≤ manys (at_ pre (us ++ post) fin 0).l := by simp only [at_, manys_append]; omega
    obtain ⟨y, q1, q2⟩ := b1 _ hm pre post fin
    have e116 : ∀ x : Rdr × Cmd, x.1.bad = none → partP 116 x = nodeP x.1 x.2 (readAt (Rdr.label (manys x.1.l)) x.1.l x.1.at_ x.1.fin) := fun x hx => by simp [partP, hx]
    rw [e116 _ rfl]
    unfold readAt
    rw [at_rd, q1]
    refine ⟨_, ?_, .inr (.inr (.inr ⟨.inl rfl, y, q2, rfl⟩))⟩
    simp [nodeP, at_]
  · obtain ⟨us, n1, f1, w1, b1⟩ := row_back h toks ht
    refine ⟨us, n1, f1, w1, fun pre post fin c0 _ => ?_⟩
    have hm : manys us ≤ manys (at_ pre (us ++ post) fin 0).l := by simp only [at_, manys_append]; omega
    obtain ⟨y, q1, q2⟩ := b1 _ hm pre post fin
    have e114 : ∀ x : Rdr × Cmd, x.1.bad = none → partP 114 x = nodeP x.1 x.2 (readAt (Rdr.row (manys x.1.l)) x.1.l x.1.at_ x.1.fin) := fun x hx => by simp [partP, hx]
    rw [e114 _ rfl]
    unfold readAt
    rw [at_rd, q1]
    refine ⟨_, ?_, .inr (.inr (.inr ⟨.inr rfl, y, q2, rfl⟩))⟩
    simp [nodeP, at_]
def Effs (c : Cmd) : List (UInt8 × Nd) → Cmd → Cmd → Prop
  | [], c0, c1 => c1 = c0
  | q :: qs, c0, c2 => ∃ c1, Eff q.1 c q.2 c0 c1 ∧ Effs c qs c1 c2
theorem eff_pairs {k : UInt8} {c : Cmd} {n : Nd} {c0 c1 : Cmd} (hk : k ≠ 112) (h : Eff k c n c0 c1) : c1.pairs = c0.pairs := by
  rcases h with ⟨_, w, _, rfl⟩ | ⟨_, w, _, rfl⟩ | ⟨h, _⟩ | ⟨_, m, _, rfl⟩
  · rfl
  · rfl
  · exact absurd h hk
  · split <;> rfl
theorem parts_back {c : Cmd} : ∀ (qs : List (UInt8 × Nd)), (∀ q ∈ qs, PieceOk q.1 c q.2) → (qs.map (·.1)).count 112 ≤ 1 → ∀ toks : List Tok, toks.map Tok.sh = (qs.map fun q => pieceS q.1 c q.2).flatten →
    ∃ us : List Tree, flats us = toks ∧ WFs us ∧ ∀ (pre : List Tree) (fin : Int) (c0 : Cmd), (112 ∈ qs.map (·.1) → c0.pairs = []) → ∃ c1, partsP (qs.map (·.1)) (at_ pre us fin 0, c0) = (at_ (pre ++ us) [] fin 0, c1) ∧ Effs c qs c0 c1
  | [], _, _, toks, ht => by
    have : toks = [] := by simpa using ht
    subst this
    exact ⟨[], rfl, trivial, fun pre fin c0 _ => ⟨c0, by simp [partsP], rfl⟩⟩
  | q :: qs, h, hc, toks, ht => by
    simp only [List.map_cons, List.flatten_cons] at ht
    obtain ⟨t1, t2, rfl, h1, h2⟩ := List.map_eq_append_iff.1 ht
    obtain ⟨u1, _, f1, w1, b1⟩ := part_back (h q (by simp)) h1
    have hc2 : (qs.map (·.1)).count 112 ≤ 1 := by
      rw [List.map_cons, List.count_cons] at hc; omega
    obtain ⟨u2, f2, w2, b2⟩ := parts_back qs (fun x hx => h x (by simp [hx])) hc2 t2 h2
    refine ⟨u1 ++ u2, by rw [flats_append, f1, f2], by rw [WFs_append]; exact ⟨w1, w2⟩, fun pre fin c0 hp => ?_⟩
    obtain ⟨c1, e1, g1⟩ := b1 pre u2 fin c0 (fun e => hp (by simp [e]))
    obtain ⟨c2, e2, g2⟩ := b2 (pre ++ u1) fin c1 (fun hm => by
      by_cases e : q.1 = 112
      · exfalso
        rw [List.map_cons, e, List.count_cons_self] at hc
        have : (qs.map (·.1)).count 112 = 0 := by omega
        exact List.count_eq_zero.1 this hm
      · rw [eff_pairs e g1]; exact hp (by simp only [List.map_cons, List.mem_cons]; exact .inr hm))
    exact ⟨c2, by simp only [List.map_cons, partsP, e1, e2, List.append_assoc], c1, g1, g2⟩
theorem lett_fst : ∀ (ks : List UInt8) (ts : List Nd), (lett ks ts).map (·.1) = ks
  | [], _ => rfl
  | k :: ks, ts => by simp only [lett, List.map_cons, lett_fst ks]
def kinds7 : List (List UInt8) := [[110, 119], [110, 119, 112], [110, 116, 116], [110, 114, 114], [110, 102], [], [110]]
theorem form_kind {op : Int} (h1 : 1 ≤ op) (h2 : op ≤ 15) : (formOf op).2 ∈ kinds7 ∧ nameR (formOf op).1 = true ∧ numberP (formOf op).1 = op := by
  have key : ∀ n : Nat, n < 15 → (formOf ((n + 1 : Nat) : Int)).2 ∈ kinds7 ∧ nameR (formOf ((n + 1 : Nat) : Int)).1 = true ∧ numberP (formOf ((n + 1 : Nat) : Int)).1 = ((n + 1 : Nat) : Int) := by decide +kernel
  have := key (op.toNat - 1) (by omega)
  rwa [show ((op.toNat - 1 + 1 : Nat) : Int) = op by omega] at this
end Go.Am

namespace Go.Am
theorem pieces_right {c : Cmd} (h : c.rightQ = true) (h1 : 1 ≤ c.op) : ∀ q ∈ lett (formOf c.op).2 [c.left, c.right], PieceOk q.1 c q.2 := by
  simp only [Cmd.rightQ, Bool.and_eq_true, decide_eq_true_eq] at h
  obtain ⟨⟨⟨⟨h0, hn⟩, hns⟩, hp⟩, ht⟩ := h
  obtain ⟨hk, _, _⟩ := form_kind h1 h0.2
  simp only [Cmd.nameQ, Cmd.namesQ, Cmd.pairsQ, Cmd.termsQ, cntN] at hn hns hp ht
  have nm : ∀ l, namedQ (l.map Word.text) = true → rightW l = true := fun l h => named_right h
  simp only [kinds7, List.mem_cons, List.not_mem_nil, or_false] at hk
  rcases hk with e | e | e | e | e | e | e
  all_goals simp [e, List.count_cons] at hn hns hp ht
  all_goals simp [e, lett, isTerm, PieceOk]
  · exact ⟨hn, hns.1, nm _ hns.2⟩
  · exact ⟨hn, ⟨hns.1, nm _ hns.2⟩, hp⟩
  · exact ⟨hn, ht.1, ht.2⟩
  · exact ⟨hn, ht.1, ht.2⟩
  · exact ⟨hn, hns.1, nm _ hns.2⟩
  · exact hn
mutual
theorem Nd.sameQ_symm : ∀ (n m : Nd), n.sameQ m = true → m.sameQ n = true
  | .mk k p t ws ks, m, h => by
    rw [Nd.sameQ_eq] at h
    simp only [Bool.and_eq_true, decide_eq_true_eq] at h
    obtain ⟨⟨⟨h1, h2⟩, h3⟩, h4⟩ := h
    refine sameQ_of h1.symm h2.symm ?_ (samesQ_symm ks m.kids h4)
    rw [sameW_eq] at h3 ⊢
    simp only [decide_eq_true_eq] at h3 ⊢
    exact h3.symm
theorem samesQ_symm : ∀ (a b : List Nd), samesQ a b = true → samesQ b a = true
  | [], [], _ => by simp [samesQ]
  | [], _ :: _, h => by simp [samesQ] at h
  | _ :: _, [], h => by simp [samesQ] at h
  | n :: ns, m :: ms, h => by
    simp only [samesQ, Bool.and_eq_true] at h ⊢
    exact ⟨Nd.sameQ_symm n m h.1, samesQ_symm ns ms h.2⟩
end
theorem samePQ_symm : ∀ (a b : List (Word × Word)), samePQ a b = true → samePQ b a = true
  | [], [], _ => rfl
  | [], _ :: _, h => by simp [samePQ] at h
  | _ :: _, [], h => by simp [samePQ] at h
  | p :: ps, q :: qs, h => by
    simp only [samePQ, Bool.and_eq_true, decide_eq_true_eq] at h ⊢
    exact ⟨⟨h.1.1.symm, h.1.2.symm⟩, samePQ_symm ps qs h.2⟩
theorem Cmd.sameQ_symm {a b : Cmd} (h : a.sameQ b = true) : b.sameQ a = true := by
  unfold Cmd.sameQ at h ⊢
  rw [sameW_eq] at h ⊢
  simp only [Bool.and_eq_true, decide_eq_true_eq] at h ⊢
  obtain ⟨⟨⟨⟨⟨h1, h2⟩, h3⟩, h4⟩, h5⟩, h6⟩ := h
  exact ⟨⟨⟨⟨⟨h1.symm, h2.symm⟩, h3.symm⟩, samePQ_symm _ _ h4⟩, Nd.sameQ_symm _ _ h5⟩, Nd.sameQ_symm _ _ h6⟩
theorem kind_same {m n : Nd} (h : m.sameQ n = true) : m.kind = n.kind := by
  rw [Nd.sameQ_eq] at h
  simp only [Bool.and_eq_true, decide_eq_true_eq] at h
  exact h.1.1.1
theorem label_kind {n : Nd} (h : n.labelQ = true) : n.kind ≠ 0 := by
  rcases label_spec h with ⟨h, _⟩ | ⟨h, _⟩ | ⟨h, _⟩ <;> omega
theorem row_kind {n : Nd} (h : n.rowQ = true) : n.kind ≠ 0 := by
  rcases row_spec h with ⟨h, _⟩ | ⟨h, _⟩ <;> omega
theorem effs_same {c d : Cmd} {p : Int} (h : c.rightQ = true) (h1 : 1 ≤ c.op) (he : Effs c (lett (formOf c.op).2 [c.left, c.right]) { Cmd.zero with op := c.op, pos := p } d) : d.sameQ c = true := by
  simp only [Cmd.rightQ, Bool.and_eq_true, decide_eq_true_eq] at h
  obtain ⟨⟨⟨⟨h0, hn⟩, hns⟩, hp⟩, ht⟩ := h
  obtain ⟨hk, _, _⟩ := form_kind h1 h0.2
  simp only [Cmd.nameQ, Cmd.namesQ, Cmd.pairsQ, Cmd.termsQ, cntN] at hn hns hp ht
  simp only [kinds7, List.mem_cons, List.not_mem_nil, or_false] at hk
  have zl : ∀ n : Nd, n.sameQ .zero = true → Nd.zero.sameQ n = true := fun n h => Nd.sameQ_symm _ _ h
  have hz : (Nd.zero).kind = 0 := rfl
  have w0 : c.names = [] → sameW [] c.names = true := fun e => by rw [e]; rfl
  have p0 : c.pairs = [] → samePQ [] c.pairs = true := fun e => by rw [e]; rfl
  rcases hk with e | e | e | e | e | e | e
  all_goals simp [e, List.count_cons] at hn hns hp ht
  all_goals simp [e, lett, isTerm, Effs, Eff] at he
  · obtain ⟨c1, ⟨w, a1, rfl⟩, ws, a2, rfl⟩ := he
    simp [Cmd.sameQ, a1, a2, Cmd.zero, p0 hp, zl _ ht.1, zl _ ht.2]
  · obtain ⟨c1, ⟨w, a1, rfl⟩, c2, ⟨ws, a2, rfl⟩, ps, a3, ⟨a, rfl⟩⟩ := he
    simp [Cmd.sameQ, a1, a2, a3, Cmd.zero, zl _ ht.1, zl _ ht.2]
  · obtain ⟨c1, ⟨w, a1, rfl⟩, c2, ⟨m, a2, rfl⟩, m2, a3, rfl⟩ := he
    have := kind_same a2
    have := label_kind ht.1
    have hm : m.kind ≠ 0 := by omega
    simp [Cmd.sameQ, a1, a2, a3, Cmd.zero, hz, hm, w0 hns, p0 hp]
  · obtain ⟨c1, ⟨w, a1, rfl⟩, c2, ⟨m, a2, rfl⟩, m2, a3, rfl⟩ := he
    have := kind_same a2
    have := row_kind ht.1
    have hm : m.kind ≠ 0 := by omega
    simp [Cmd.sameQ, a1, a2, a3, Cmd.zero, hz, hm, w0 hns, p0 hp]
  · obtain ⟨c1, ⟨w, a1, rfl⟩, ws, a2, rfl⟩ := he
    simp [Cmd.sameQ, a1, a2, Cmd.zero, p0 hp, zl _ ht.1, zl _ ht.2]
  · subst he
    simp [Cmd.sameQ, Cmd.zero, hn, w0 hns, p0 hp, zl _ ht.1, zl _ ht.2]
  · obtain ⟨w, a1, rfl⟩ := he
    simp [Cmd.sameQ, a1, Cmd.zero, w0 hns, p0 hp, zl _ ht.1, zl _ ht.2]
theorem cmd_back {c : Cmd} (h : c.rightQ = true) (h1 : 1 ≤ c.op) {toks : List Tok} (ht : toks.map Tok.sh = shpC c) :
    ∃ us : List Tree, flats us = toks ∧ WFs us ∧ ∀ fin : Int, ∃ d : Cmd, cmdP us fin = (d, 0, 0) ∧ d.sameQ c = true := by
  have h15 : c.op ≤ 15 := by simp only [Cmd.rightQ, Bool.and_eq_true, decide_eq_true_eq] at h; exact h.1.1.1.1.2
  obtain ⟨_, k2, k3⟩ := form_kind h1 h15
  unfold shpC at ht
  obtain ⟨t1, t2, rfl, a1, a2⟩ := List.map_eq_append_iff.1 ht
  obtain ⟨u1, n1, f1, w1, b1⟩ := word_back ⟨(formOf c.op).1, 0⟩ t1 a1
  obtain ⟨u2, f2, w2, b2⟩ := parts_back (lett (formOf c.op).2 [c.left, c.right]) (pieces_right h h1) (by rw [lett_fst]; exact (form_letters c.op).2) t2 a2
  refine ⟨u1 ++ u2, by rw [flats_append, f1, f2], by rw [WFs_append]; exact ⟨w1, w2⟩, fun fin => ?_⟩
  obtain ⟨y, q1, q2⟩ := b1 (manys u1) (Nat.le_refl _) [] u2 fin
  have q1 : (at_ [] (u1 ++ u2) fin 0).word = (y, at_ u1 u2 fin 0) := q1
  have q2 : y.text = (formOf c.op).1 := by simpa [wSame] using q2
  obtain ⟨d, e1, e2⟩ := b2 u1 fin { Cmd.zero with op := c.op, pos := y.pos } (fun _ => rfl)
  rw [lett_fst] at e1
  refine ⟨d, ?_, effs_same h h1 e2⟩
  have hq : (⟨u1 ++ u2, 0, fin, none⟩ : Rdr).word = (y, at_ u1 u2 fin 0) := q1
  obtain ⟨t, ts, hu⟩ : ∃ t ts, u1 ++ u2 = t :: ts := by
    cases u1 with
    | nil => exact absurd rfl n1
    | cons t r => exact ⟨t, r ++ u2, rfl⟩
  rw [hu] at hq ⊢
  unfold cmdP
  simp only [hq, q2, k3]
  rw [if_neg (by omega), e1]
  unfold endP
  simp [at_]
end Go.Am

namespace Go.Am
theorem op_zero {c : Cmd} (h : c.rightQ = true) (h0 : c.op = 0) : textC c = [] ∧ Cmd.zero.sameQ c = true := by
  simp only [Cmd.rightQ, Bool.and_eq_true, decide_eq_true_eq] at h
  obtain ⟨⟨⟨⟨_, hn⟩, hns⟩, hp⟩, ht⟩ := h
  have e : (formOf c.op).2 = [] := by rw [h0]; rfl
  have e1 : (formOf c.op).1 = [] := by rw [h0]; rfl
  simp only [Cmd.nameQ, Cmd.namesQ, Cmd.pairsQ, Cmd.termsQ, cntN] at hn hns hp ht
  simp [e] at hn hns hp ht
  have zl : ∀ n : Nd, n.sameQ .zero = true → Nd.zero.sameQ n = true := fun n h => Nd.sameQ_symm _ _ h
  refine ⟨by simp [textC, piecesT, e, e1, joinS], ?_⟩
  simp [Cmd.sameQ, Cmd.zero, h0, hn, hns, hp, sameW, samePQ, zl _ ht.1, zl _ ht.2]
theorem read_back12 {c : Cmd} (h : c.rightQ = true) : (lexR (textC c)).2 = none ∧
    ((treeR (lexR (textC c)).1).2 = none → ∃ d, readP (textC c) = (d, 0, 0) ∧ c.sameQ d = true) ∧ (∀ a, (treeR (lexR (textC c)).1).2 = some a → readP (textC c) = (.zero, 2, a)) := by
  have h0 : 0 ≤ c.op := by simp only [Cmd.rightQ, Bool.and_eq_true, decide_eq_true_eq] at h; exact h.1.1.1.1.1
  have h15 : c.op ≤ 15 := by simp only [Cmd.rightQ, Bool.and_eq_true, decide_eq_true_eq] at h; exact h.1.1.1.1.2
  by_cases hz : c.op = 0
  · obtain ⟨e1, e2⟩ := op_zero h hz
    rw [e1]
    refine ⟨rfl, fun _ => ⟨.zero, rfl, Cmd.sameQ_symm e2⟩, fun a ha => ?_⟩
    have : (treeR (lexR []).1).2 = none := by decide +kernel
    rw [this] at ha; simp at ha
  · have h1 : 1 ≤ c.op := by omega
    obtain ⟨_, k2, _⟩ := form_kind h1 h15
    obtain ⟨l1, l2⟩ := textC_lex k2 (pieces_right h h1)
    obtain ⟨us, f1, w1, b1⟩ := cmd_back h h1 l2
    refine ⟨l1, fun hd => ?_, fun a ha => ?_⟩
    · have ht : (treeR (lexR (textC c)).1).1 = us := by rw [← f1] at hd ⊢; exact tree_back w1 hd
      obtain ⟨d, e1, e2⟩ := b1 ((textC c).length : Nat)
      refine ⟨d, ?_, Cmd.sameQ_symm e2⟩
      unfold readP
      rw [treeP_line, l1, hd, ht]
      exact e1
    · unfold readP
      rw [treeP_line, l1, ha]
end Go.Am
