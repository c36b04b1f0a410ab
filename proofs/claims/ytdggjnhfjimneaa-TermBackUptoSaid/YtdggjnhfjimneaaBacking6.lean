/-
  For any node: the law of what is read back of its text holds (TermBack), where what comes in is of bulk at most 1048576.
-/
import Derived.ProofKit
import Derived.OpenShut
import Derived.JoinedCond
import Derived.ChangeStays
import Derived.ReadAgain
import Derived.Test.YtdggjnhfjimneaaRows
import Derived.Test.YtdggjnhfjimneaaBacking5
set_option linter.unusedVariables false
set_option linter.unusedSimpArgs false
set_option linter.defProp false

/-
  Reading trees back.
-/
namespace Go.Am
def all2 {β : Type} (f : β → β → Bool) : List β → List β → Bool
  | [], [] => true
  | x :: xs, y :: ys => f x y && all2 f xs ys
  | _, _ => false
theorem all2_samesQ : ∀ a b : List Nd, all2 Nd.sameQ a b = samesQ a b
  | [], [] => by simp [all2, samesQ]
  | [], _ :: _ => by simp [all2, samesQ]
  | _ :: _, [] => by simp [all2, samesQ]
  | x :: xs, y :: ys => by simp [all2, samesQ, all2_samesQ xs ys]
def wSame (a b : Word) : Bool := decide (a.text = b.text)
theorem all2_sameW : ∀ a b : List Word, all2 wSame a b = sameW a b
  | [], [] => rfl
  | [], _ :: _ => rfl
  | _ :: _, [] => rfl
  | x :: xs, y :: ys => by simp [all2, sameW, wSame, all2_sameW xs ys]
/-- A reader at a place among trees. -/
def at_ (pre us : List Tree) (fin : Int) (k : Nat) : Rdr := ⟨pre ++ us, ((pre.length + k : Nat) : Int), fin, none⟩
theorem at_move {pre a b : List Tree} {fin : Int} {k : Nat} : at_ pre (a ++ b) fin (a.length + k) = at_ (pre ++ a) b fin k := by
  simp [at_]; omega
theorem sees_mid {pre post : List Tree} {t : Tree} {fin k : Int} : (at_ pre (t :: post) fin 0).sees k = decide (t.tok.kind = k) := by
  simp [at_, Rdr.sees, Rdr.ok, isK]
theorem sees_end {pre : List Tree} {fin k : Int} : (at_ pre [] fin 0).sees k = false := by
  simp [at_, Rdr.sees, Rdr.ok, isK]
theorem take_mid {pre post : List Tree} {t : Tree} {fin k : Int} (h : t.tok.kind = k) : (at_ pre (t :: post) fin 0).take k = (t, at_ (pre ++ [t]) post fin 0) := by
  have hs := sees_mid (pre := pre) (post := post) (t := t) (fin := fin) (k := k)
  rw [decide_eq_true h] at hs
  rw [Rdr.take, if_pos hs]
  simp [at_]
def Back {β : Type} (one : Nat → Rdr → β × Rdr) (sm : β → β → Bool) (x : β) (sh : List Sh) : Prop :=
  ∀ toks : List Tok, toks.map Tok.sh = sh → ∃ us : List Tree, us ≠ [] ∧ flats us = toks ∧ WFs us ∧
    ∀ N, manys us ≤ N → ∀ (pre post : List Tree) (fin : Int), ∃ y, one N (at_ pre (us ++ post) fin 0) = (y, at_ (pre ++ us) post fin 0) ∧ sm y x = true
theorem sh_name {t : List UInt8} {toks : List Tok} (h : toks.map Tok.sh = [nmS t]) : ∃ p, toks = [⟨97, t, p⟩] := by
  match toks, h with
  | [⟨k, s, p⟩], h =>
    simp [Tok.sh, nmS] at h
    exact ⟨p, by rw [h.1, h.2]⟩
theorem sh_sign {c : UInt8} {toks : List Tok} (h : toks.map Tok.sh = [sgn c]) : ∃ p, toks = [⟨(c.toNat : Nat), [c], p⟩] := by
  match toks, h with
  | [⟨k, s, p⟩], h =>
    simp [Tok.sh, sgn] at h
    exact ⟨p, by rw [h.1, h.2]⟩
theorem leaf_tree {t : Tok} (h1 : closing t.kind = 0) (h2 : closesZ t.kind = false) : flats [.mk t [] t.pos] = [t] ∧ WFs [.mk t [] t.pos] := by
  refine ⟨by simp [flats, Tree.flat, h1], ?_⟩
  simp [WFs, Tree.WF, h2]
theorem word_back (w : Word) : Back (fun _ => Rdr.word) wSame w [nmS w.text] := by
  intro toks h
  obtain ⟨p, rfl⟩ := sh_name h
  obtain ⟨f1, f2⟩ := leaf_tree (t := ⟨97, w.text, p⟩) rfl rfl
  refine ⟨_, by simp, f1, f2, fun N _ pre post fin => ⟨⟨w.text, p⟩, ?_, by simp [wSame]⟩⟩
  have := take_mid (pre := pre) (post := post) (t := .mk ⟨97, w.text, p⟩ [] p) (fin := fin) (k := 97) rfl
  simp only [List.singleton_append, Rdr.word, this]; rfl
theorem sameQ_of {m n : Nd} (k : m.kind = n.kind) (t : m.text = n.text) (w : sameW m.names n.names = true) (s : samesQ m.kids n.kids = true) : m.sameQ n = true := by
  rw [Nd.sameQ_eq, decide_eq_true k, decide_eq_true t, w, s]; rfl
theorem leaf_back {k : Int} {n : Nd} (hk : n.kind = k) (h : n.leafQ = true) : Back (fun _ => Rdr.leaf k) Nd.sameQ n [nmS n.text] := by
  intro toks ht
  obtain ⟨us, h1, h2, h3, h4⟩ := word_back ⟨n.text, 0⟩ toks ht
  refine ⟨us, h1, h2, h3, fun N hN pre post fin => ?_⟩
  obtain ⟨y, e1, e2⟩ := h4 N hN pre post fin
  refine ⟨.mk k y.pos y.text [] [], by simp only [Rdr.leaf, e1], ?_⟩
  simp only [Nd.leafQ, Bool.and_eq_true, decide_eq_true_eq] at h
  have hn : n.names = [] := List.length_eq_zero_iff.1 (by omega)
  have hks : n.kids = [] := List.length_eq_zero_iff.1 (by omega)
  simp only [wSame, decide_eq_true_eq] at e2
  exact sameQ_of hk.symm e2 (show sameW [] n.names = true by rw [hn]; rfl) (show samesQ [] n.kids = true by rw [hks]; simp [samesQ])
def NoComma (post : List Tree) : Prop := ∀ t r, post = t :: r → t.tok.kind ≠ 44
theorem no_comma {pre post : List Tree} {fin : Int} (h : NoComma post) : (at_ pre post fin 0).sees 44 = false := by
  cases post with
  | nil => exact sees_end
  | cons t r => rw [sees_mid]; exact decide_eq_false (h t r rfl)
section
variable {β : Type} {one : Nat → Rdr → β × Rdr} {sm : β → β → Bool} {S : β → List Sh}
theorem goG_back : ∀ (xs : List β), (∀ x ∈ xs, Back one sm x (S x)) → ∀ toks : List Tok, toks.map Tok.sh = (xs.map S).flatMap (fun y => sgn 44 :: y) →
    ∃ us : List Tree, flats us = toks ∧ WFs us ∧ xs.length ≤ us.length ∧ ∀ N, manys us ≤ N → ∀ (pre post : List Tree) (fin : Int) (n : Nat) (acc : List β), xs.length ≤ n → NoComma post →
      ∃ ys, goG (oStep (one N)) n (at_ pre (us ++ post) fin 0, acc) = (at_ (pre ++ us) post fin 0, acc ++ ys) ∧ all2 sm ys xs = true
  | [], _, toks, ht => by
    have : toks = [] := by simpa using ht
    subst this
    refine ⟨[], rfl, trivial, by simp, fun N _ pre post fin n acc _ hp => ⟨[], ?_, rfl⟩⟩
    cases n with
    | zero => simp [goG]
    | succ n => rw [goG]; simp [no_comma hp]
  | x :: xs, h, toks, ht => by
    simp only [List.map_cons, List.flatMap_cons] at ht
    obtain ⟨t1, t3, rfl, h1, h3⟩ := List.map_eq_append_iff.1 ht
    obtain ⟨tc, t2, rfl, hc, h2⟩ := List.map_eq_append_iff.1 (show t1.map Tok.sh = [sgn 44] ++ S x from h1)
    obtain ⟨p, rfl⟩ := sh_sign hc
    obtain ⟨f1, f2⟩ := leaf_tree (t := ⟨((44 : UInt8).toNat : Nat), [44], p⟩) rfl rfl
    obtain ⟨ux, n1, e1, w1, b1⟩ := h x (by simp) t2 h2
    obtain ⟨us, e2, w2, l2, b2⟩ := goG_back xs (fun y hy => h y (by simp [hy])) t3 h3
    generalize hT : (Tree.mk ⟨((44 : UInt8).toNat : Nat), [44], p⟩ [] p) = T at f1 f2
    have hk : T.tok.kind = 44 := by rw [← hT]; rfl
    refine ⟨[T] ++ ux ++ us, ?_, ?_, ?_, ?_⟩
    · rw [flats_append, flats_append, e1, e2, ← f1, ← hT]
    · rw [WFs_append, WFs_append]; exact ⟨⟨by rw [← hT] at f2 ⊢; exact f2, w1⟩, w2⟩
    · simp only [List.length_append, List.length_cons, List.length_nil]; omega
    · intro N hN pre post fin n acc hn hp
      simp only [manys_append] at hN
      obtain ⟨n, rfl⟩ : ∃ m, n = m + 1 := ⟨n - 1, by simp at hn; omega⟩
      obtain ⟨y, q1, q2⟩ := b1 N (by omega) (pre ++ [T]) (us ++ post) fin
      obtain ⟨ys, q3, q4⟩ := b2 N (by omega) (pre ++ [T] ++ ux) post fin n (acc ++ [y]) (by simp at hn; omega) hp
      refine ⟨y :: ys, ?_, by simp [all2, q2, q4]⟩
      have es : [T] ++ ux ++ us ++ post = T :: (ux ++ (us ++ post)) := by simp
      rw [es, goG]
      simp only [sees_mid, hk, decide_true, if_true]
      rw [take_mid hk]
      simp only [oStep, q1]
      rw [show pre ++ ([T] ++ ux ++ us) = pre ++ [T] ++ ux ++ us by simp, q3]
      simp
theorem some_back {x : β} {xs : List β} (h : ∀ y ∈ x :: xs, Back one sm y (S y)) {toks : List Tok} (ht : toks.map Tok.sh = commaS ((x :: xs).map S)) :
    ∃ us : List Tree, us ≠ [] ∧ flats us = toks ∧ WFs us ∧ ∀ N, manys us ≤ N → ∀ (pre post : List Tree) (fin : Int), NoComma post →
      ∃ ys, someG (oStep (one N)) (at_ pre (us ++ post) fin 0) = (at_ (pre ++ us) post fin 0, ys) ∧ all2 sm ys (x :: xs) = true := by
  simp only [List.map_cons, commaS] at ht
  obtain ⟨t1, t2, rfl, h1, h2⟩ := List.map_eq_append_iff.1 ht
  obtain ⟨ux, n1, e1, w1, b1⟩ := h x (by simp) t1 h1
  obtain ⟨us, e2, w2, l2, b2⟩ := goG_back xs (fun y hy => h y (by simp [hy])) t2 h2
  refine ⟨ux ++ us, by simp [n1], by rw [flats_append, e1, e2], by rw [WFs_append]; exact ⟨w1, w2⟩, fun N hN pre post fin hp => ?_⟩
  rw [manys_append] at hN
  obtain ⟨y, q1, q2⟩ := b1 N (by omega) pre (us ++ post) fin
  obtain ⟨ys, q3, q4⟩ := b2 N (by omega) (pre ++ ux) post fin (at_ pre (ux ++ us ++ post) fin 0).l.length [y] (by simp [at_]; omega) hp
  refine ⟨y :: ys, ?_, by simp [all2, q2, q4]⟩
  unfold someG
  simp only [oStep, List.append_assoc] at q1 q3 ⊢
  rw [q1]
  simp only [List.nil_append]
  rw [q3]
  simp
theorem sign_val {a b : UInt8} (h : closing (a.toNat : Nat) = (b.toNat : Nat)) : [UInt8.ofNat (closing (a.toNat : Nat)).toNat] = [b] := by rw [h]; simp
theorem bracket_back {a b : UInt8} {e : Bool} {xs : List β} (hab : closing (a.toNat : Nat) = (b.toNat : Nat)) (hb0 : (b.toNat : Int) ≠ 0) (hca : closesZ (a.toNat : Nat) = false) (h : ∀ y ∈ xs, Back one sm y (S y)) (he : xs = [] → e = true) {toks : List Tok}
    (ht : toks.map Tok.sh = [sgn a] ++ commaS (xs.map S) ++ [sgn b]) :
    ∃ T : Tree, flats [T] = toks ∧ WFs [T] ∧ T.tok.kind = (a.toNat : Nat) ∧ ∀ N, manys [T] ≤ N + 1 → ∀ (pre post : List Tree) (fin : Int),
      ∃ ys p, (at_ pre (T :: post) fin 0).bracket (oStep (one N)) (a.toNat : Nat) e = ((ys, p), at_ (pre ++ [T]) post fin 0) ∧ all2 sm ys xs = true := by
  obtain ⟨t1, t3, rfl, h1, h3⟩ := List.map_eq_append_iff.1 ht
  obtain ⟨ta, t2, rfl, ha, h2⟩ := List.map_eq_append_iff.1 h1
  obtain ⟨pa, rfl⟩ := sh_sign ha
  obtain ⟨pb, rfl⟩ := sh_sign h3
  have hc0 : closing (a.toNat : Nat) ≠ 0 := by rw [hab]; exact hb0
  have key : ∃ us : List Tree, flats us = t2 ∧ WFs us ∧ ∀ N, manys us ≤ N → ∀ (T : Tree), T.kids = us → ∃ ys, Rdr.inside (oStep (one N)) e T = (at_ us [] T.fin 0, ys) ∧ all2 sm ys xs = true := by
    cases xs with
    | nil =>
      have : t2 = [] := by simpa [commaS] using h2
      subst this
      refine ⟨[], rfl, trivial, fun N _ T hT => ⟨[], ?_, rfl⟩⟩
      rw [Rdr.inside, if_pos ⟨he rfl, by rw [hT]; rfl⟩]
      simp [Tree.inner, at_, hT]
    | cons x xs =>
      obtain ⟨us, n1, e1, w1, b1⟩ := some_back h h2
      refine ⟨us, e1, w1, fun N hN T hT => ?_⟩
      obtain ⟨ys, q1, q2⟩ := b1 N hN [] [] T.fin (fun t r h => by simp at h)
      refine ⟨ys, ?_, q2⟩
      rw [Rdr.inside, if_neg (fun h => n1 (by rw [← hT]; exact List.length_eq_zero_iff.1 h.2))]
      have : T.inner = at_ [] (us ++ []) T.fin 0 := by simp [Tree.inner, at_, hT]
      rw [this, q1]; simp
  obtain ⟨us, e1, w1, b1⟩ := key
  refine ⟨.mk ⟨(a.toNat : Nat), [a], pa⟩ us pb, ?_, ?_, rfl, ?_⟩
  · simp only [flats, Tree.flat, List.append_nil]
    rw [if_pos hc0, e1, sign_val hab, hab]
    simp
  · simp only [WFs, Tree.WF]; exact ⟨⟨hca, fun h => absurd h hc0, w1⟩, trivial⟩
  · intro N hN pre post fin
    obtain ⟨ys, q1, q2⟩ := b1 N (by simp only [manys, Tree.many] at hN; omega) (.mk ⟨(a.toNat : Nat), [a], pa⟩ us pb) rfl
    refine ⟨ys, pa, ?_, q2⟩
    unfold Rdr.bracket
    rw [take_mid (t := .mk ⟨(a.toNat : Nat), [a], pa⟩ us pb) (k := (a.toNat : Nat)) rfl]
    simp only [q1]
    have hok : (at_ (pre ++ [Tree.mk ⟨(a.toNat : Nat), [a], pa⟩ us pb]) post fin 0).ok = true := rfl
    rw [if_pos hok]
    have hcl : (at_ us [] pb 0).close = at_ us [] pb 0 := by unfold Rdr.close; rw [if_neg]; simp [at_]
    simp only [Rdr.under, Tree.fin, hcl, Tree.tok]
    rfl
end
end Go.Am

/-
  Nodes are read back.
-/
namespace Go.Am
theorem head_of {us : List Tree} {s : Sh} {r : List Sh} (h0 : us ≠ []) (h : (flats us).map Tok.sh = s :: r) : ∃ t ts, us = t :: ts ∧ t.tok.kind = s.1 := by
  cases us with
  | nil => exact absurd rfl h0
  | cons t ts =>
    refine ⟨t, ts, rfl, ?_⟩
    have e : flats (t :: ts) = flats [t] ++ flats ts := flats_append [t] ts
    rw [e, flats_one] at h
    simp only [List.cons_append, List.map_cons, List.cons.injEq] at h
    rw [← h.1]; rfl
theorem sees_head {pre us post : List Tree} {fin k : Int} {s : Sh} {r : List Sh} {toks : List Tok} (h0 : us ≠ []) (hf : flats us = toks) (h : toks.map Tok.sh = s :: r) : (at_ pre (us ++ post) fin 0).sees k = decide (s.1 = k) := by
  obtain ⟨t, ts, rfl, hk⟩ := head_of h0 (by rw [hf]; exact h)
  rw [List.cons_append, sees_mid, hk]
theorem many_pos {us : List Tree} (h : us ≠ []) : 1 ≤ manys us := by
  cases us with
  | nil => exact absurd rfl h
  | cons t ts => simp only [manys]; omega
/-- A sign's tree. -/
theorem sign_tree {c : UInt8} (h : (decide (closing (c.toNat : Nat) = 0) && !closesZ (c.toNat : Nat)) = true) {toks : List Tok} (ht : toks.map Tok.sh = [sgn c]) : ∃ T : Tree, flats [T] = toks ∧ WFs [T] ∧ T.tok.kind = (c.toNat : Nat) := by
  simp only [Bool.and_eq_true, decide_eq_true_eq, Bool.not_eq_true'] at h
  obtain ⟨p, rfl⟩ := sh_sign ht
  obtain ⟨f1, f2⟩ := leaf_tree (t := ⟨(c.toNat : Nat), [c], p⟩) h.1 h.2
  exact ⟨_, f1, f2, rfl⟩
theorem wshp_S (ws : List Word) : wshp ws = commaS (ws.map fun w => [nmS w.text]) := rfl
theorem words_back {ws : List Word} {toks : List Tok} (ht : toks.map Tok.sh = [sgn 123] ++ wshp ws ++ [sgn 125]) :
    ∃ T : Tree, flats [T] = toks ∧ WFs [T] ∧ T.tok.kind = 123 ∧ ∀ (pre post : List Tree) (fin : Int), ∃ ys p, (at_ pre (T :: post) fin 0).words true = ((ys, p), at_ (pre ++ [T]) post fin 0) ∧ sameW ys ws = true := by
  obtain ⟨T, h1, h2, h3, h4⟩ := bracket_back (one := fun _ => Rdr.word) (sm := wSame) (S := fun w => [nmS w.text]) (a := 123) (b := 125) (e := true) (xs := ws) (by decide) (by decide) (by decide) (fun w _ => word_back w) (fun _ => rfl) ht
  refine ⟨T, h1, h2, h3, fun pre post fin => ?_⟩
  obtain ⟨ys, p, q1, q2⟩ := h4 (manys [T]) (by omega) pre post fin
  rw [all2_sameW] at q2
  exact ⟨ys, p, q1, q2⟩
theorem nodes_back {one : Nat → Rdr → Nd × Rdr} {a b : UInt8} {e : Bool} {ks : List Nd} (hab : (decide (closing (a.toNat : Nat) = (b.toNat : Nat)) && decide ((b.toNat : Int) ≠ 0) && !closesZ (a.toNat : Nat)) = true) (h : ∀ y ∈ ks, Back one Nd.sameQ y y.shp) (he : ks = [] → e = true) {toks : List Tok}
    (ht : toks.map Tok.sh = [sgn a] ++ commaS (shps ks) ++ [sgn b]) :
    ∃ T : Tree, flats [T] = toks ∧ WFs [T] ∧ T.tok.kind = (a.toNat : Nat) ∧ ∀ N, manys [T] ≤ N + 1 → ∀ (pre post : List Tree) (fin : Int),
      ∃ ys p, (at_ pre (T :: post) fin 0).nodes (one N) (a.toNat : Nat) e = ((ys, p), at_ (pre ++ [T]) post fin 0) ∧ samesQ ys ks = true := by
  simp only [Bool.and_eq_true, decide_eq_true_eq, Bool.not_eq_true'] at hab
  rw [shps_map] at ht
  obtain ⟨T, h1, h2, h3, h4⟩ := bracket_back (one := one) (sm := Nd.sameQ) (S := Nd.shp) (e := e) hab.1.1 hab.1.2 hab.2 h he ht
  refine ⟨T, h1, h2, h3, fun N hN pre post fin => ?_⟩
  obtain ⟨ys, p, q1, q2⟩ := h4 N hN pre post fin
  rw [all2_samesQ] at q2
  exact ⟨ys, p, q1, q2⟩
theorem rule_back {n : Nd} (h : n.ruleQ = true) : Back (fun _ => Rdr.rule) Nd.sameQ n n.shp := by
  obtain ⟨k, h1, h2, h3⟩ := rule_spec h
  intro toks ht
  have e : n.shp = [nmS n.text] ++ [sgn 58] ++ ([sgn 123] ++ wshp n.names ++ [sgn 125]) := by rw [Nd.shp_eq, k]; rfl
  rw [e] at ht
  obtain ⟨t1, t3, rfl, a1, a3⟩ := List.map_eq_append_iff.1 ht
  obtain ⟨tw, tc, rfl, aw, ac⟩ := List.map_eq_append_iff.1 a1
  obtain ⟨uw, n1, f1, w1, b1⟩ := word_back ⟨n.text, 0⟩ tw aw
  obtain ⟨C, f2, w2, c2⟩ := sign_tree (by decide) ac
  obtain ⟨T, f3, w3, c3, b3⟩ := words_back a3
  refine ⟨uw ++ [C] ++ [T], by simp, by rw [flats_append, flats_append, f1, f2, f3], by rw [WFs_append, WFs_append]; exact ⟨⟨w1, w2⟩, w3⟩, fun N hN pre post fin => ?_⟩
  obtain ⟨y, q1, q2⟩ := b1 (manys uw) (Nat.le_refl _) pre ([C] ++ [T] ++ post) fin
  obtain ⟨ys, p, q3, q4⟩ := b3 (pre ++ uw ++ [C]) post fin
  have q5 := take_mid (pre := pre ++ uw) (post := [T] ++ post) (t := C) (fin := fin) (k := 58) c2
  refine ⟨.mk 6 y.pos y.text ys [], ?_, ?_⟩
  · have es : uw ++ [C] ++ [T] ++ post = uw ++ ([C] ++ [T] ++ post) := by simp
    have q1' : (at_ pre (uw ++ ([C] ++ [T] ++ post)) fin 0).word = (y, at_ (pre ++ uw) ([C] ++ [T] ++ post) fin 0) := q1
    have q5' : (at_ (pre ++ uw) ([C] ++ [T] ++ post) fin 0).take 58 = (C, at_ (pre ++ uw ++ [C]) (T :: post) fin 0) := q5
    simp only [es, Rdr.rule, q1', q5', q3]
    simp
  · simp only [wSame, decide_eq_true_eq] at q2
    exact sameQ_of k.symm q2 q4 (show samesQ [] n.kids = true by rw [h3]; simp [samesQ])
theorem const_back : ∀ (k : Nat) (n : Nd), n.wt ≤ k → n.constQ = true → Back Rdr.constant Nd.sameQ n n.shp := by
  intro k
  induction k with
  | zero => intro n h _; cases n; simp only [Nd.wt] at h; omega
  | succ k ih =>
    intro n hk h toks ht
    rcases const_spec h with ⟨h1, h2⟩ | ⟨h1, h2, h3, h4⟩ | ⟨h1, h2, h3, h4, h5⟩ | ⟨h1, h2, h3, h4⟩
    · have e : n.shp = [nmS n.text] := by rw [Nd.shp_eq, h1]; rfl
      rw [e] at ht
      obtain ⟨us, n1, f1, w1, b1⟩ := leaf_back h1 h2 toks ht
      refine ⟨us, n1, f1, w1, fun N hN pre post fin => ?_⟩
      have hp := many_pos n1
      obtain ⟨N, rfl⟩ : ∃ m, N = m + 1 := ⟨N - 1, by omega⟩
      obtain ⟨y, q1, q2⟩ := b1 _ hN pre post fin
      refine ⟨y, ?_, q2⟩
      have s1 := sees_head (pre := pre) (post := post) (fin := fin) (k := 123) n1 f1 ht
      have s2 := sees_head (pre := pre) (post := post) (fin := fin) (k := 40) n1 f1 ht
      have s3 := sees_head (pre := pre) (post := post) (fin := fin) (k := 91) n1 f1 ht
      rw [Rdr.constant, s1, s2, s3]
      exact q1
    · have e : n.shp = [sgn 123] ++ wshp n.names ++ [sgn 125] := by rw [Nd.shp_eq, h1]; rfl
      rw [e] at ht
      obtain ⟨T, f1, w1, c1, b1⟩ := words_back ht
      refine ⟨[T], by simp, f1, w1, fun N hN pre post fin => ?_⟩
      have hp := many_pos (us := [T]) (by simp)
      obtain ⟨N, rfl⟩ : ∃ m, N = m + 1 := ⟨N - 1, by omega⟩
      obtain ⟨ys, p, q1, q2⟩ := b1 pre post fin
      refine ⟨.mk 3 p [] ys [], ?_, sameQ_of h1.symm h2.symm q2 (show samesQ [] n.kids = true by rw [h4]; simp [samesQ])⟩
      rw [List.singleton_append, Rdr.constant, if_pos (by rw [sees_mid, c1]; rfl), q1]
    · have e : n.shp = [sgn 40] ++ commaS (shps n.kids) ++ [sgn 41] := by rw [Nd.shp_eq, h1]; rfl
      rw [e] at ht
      obtain ⟨T, f1, w1, c1, b1⟩ := nodes_back (one := Rdr.constant) (e := false) (by decide) (fun m hm => ih m (by have := kidw hm; omega) (h5 m hm)) (fun h => absurd h h4) ht
      refine ⟨[T], by simp, f1, w1, fun N hN pre post fin => ?_⟩
      have hp := many_pos (us := [T]) (by simp)
      obtain ⟨N, rfl⟩ : ∃ m, N = m + 1 := ⟨N - 1, by omega⟩
      obtain ⟨ys, p, q1, q2⟩ := b1 N hN pre post fin
      refine ⟨.mk 4 p [] [] ys, ?_, sameQ_of h1.symm h2.symm (show sameW [] n.names = true by rw [h3]; rfl) q2⟩
      have q1' : (at_ pre (T :: post) fin 0).nodes (Rdr.constant N) 40 false = ((ys, p), at_ (pre ++ [T]) post fin 0) := q1
      rw [List.singleton_append, Rdr.constant, if_neg (by rw [sees_mid, c1]; decide), if_pos (by rw [sees_mid, c1]; rfl), q1']
    · have e : n.shp = [sgn 91] ++ commaS (shps n.kids) ++ [sgn 93] := by rw [Nd.shp_eq, h1]; rfl
      rw [e] at ht
      obtain ⟨T, f1, w1, c1, b1⟩ := nodes_back (one := fun _ => Rdr.rule) (e := true) (by decide) (fun m hm => rule_back (h4 m hm)) (fun _ => rfl) ht
      refine ⟨[T], by simp, f1, w1, fun N hN pre post fin => ?_⟩
      have hp := many_pos (us := [T]) (by simp)
      obtain ⟨N, rfl⟩ : ∃ m, N = m + 1 := ⟨N - 1, by omega⟩
      obtain ⟨ys, p, q1, q2⟩ := b1 N hN pre post fin
      refine ⟨.mk 5 p [] [] ys, ?_, sameQ_of h1.symm h2.symm (show sameW [] n.names = true by rw [h3]; rfl) q2⟩
      have q1' : (at_ pre (T :: post) fin 0).nodes Rdr.rule 91 true = ((ys, p), at_ (pre ++ [T]) post fin 0) := q1
      rw [List.singleton_append, Rdr.constant, if_neg (by rw [sees_mid, c1]; decide), if_neg (by rw [sees_mid, c1]; decide), if_pos (by rw [sees_mid, c1]; rfl), q1']
theorem atom_back {n : Nd} (h : n.labelQ = true) (hk : n.kind = 1 ∨ n.kind = 7) : Back Rdr.atom Nd.sameQ n n.shp := by
  intro toks ht
  rcases label_spec h with ⟨h1, h2⟩ | ⟨h1, h2, h3, c, h4, h5⟩ | ⟨h1, _⟩
  · have e : n.shp = [nmS n.text] := by rw [Nd.shp_eq, h1]; rfl
    rw [e] at ht
    obtain ⟨us, n1, f1, w1, b1⟩ := leaf_back h1 h2 toks ht
    refine ⟨us, n1, f1, w1, fun N hN pre post fin => ?_⟩
    obtain ⟨y, q1, q2⟩ := b1 _ hN pre post fin
    refine ⟨y, ?_, q2⟩
    have s1 := sees_head (pre := pre) (post := post) (fin := fin) (k := 35) n1 f1 ht
    rw [Rdr.atom, s1]
    exact q1
  · have e : n.shp = [sgn 35] ++ c.shp := by rw [Nd.shp_eq, h1, h4]; rfl
    rw [e] at ht
    obtain ⟨t1, t2, rfl, a1, a2⟩ := List.map_eq_append_iff.1 ht
    obtain ⟨C, f2, w2, c2⟩ := sign_tree (by decide) a1
    obtain ⟨us, n1, f1, w1, b1⟩ := const_back _ c (Nat.le_refl _) h5 t2 a2
    refine ⟨[C] ++ us, by simp, by rw [flats_append, f1, f2], by rw [WFs_append]; exact ⟨w2, w1⟩, fun N hN pre post fin => ?_⟩
    rw [manys_append] at hN
    obtain ⟨y, q1, q2⟩ := b1 N (by omega) (pre ++ [C]) post fin
    have q5 := take_mid (pre := pre) (post := us ++ post) (t := C) (fin := fin) (k := 35) c2
    refine ⟨.mk 7 C.tok.pos [] [] [y], ?_, sameQ_of h1.symm h2.symm (show sameW [] n.names = true by rw [h3]; rfl) (show samesQ [y] n.kids = true by rw [h4]; simp [samesQ, q2])⟩
    rw [List.append_assoc, List.singleton_append, Rdr.atom, if_pos (by rw [sees_mid, c2]; rfl), q5]
    simp only [q1]
    simp
  · omega
theorem label_back : ∀ (k : Nat) (n : Nd), n.wt ≤ k → n.labelQ = true → Back Rdr.label Nd.sameQ n n.shp := by
  intro k
  induction k with
  | zero => intro n h _; cases n; simp only [Nd.wt] at h; omega
  | succ k ih =>
    intro n hk h toks ht
    by_cases hat : n.kind = 1 ∨ n.kind = 7
    · obtain ⟨us, n1, f1, w1, b1⟩ := atom_back h hat toks ht
      refine ⟨us, n1, f1, w1, fun N hN pre post fin => ?_⟩
      have hp := many_pos n1
      obtain ⟨N, rfl⟩ : ∃ m, N = m + 1 := ⟨N - 1, by omega⟩
      obtain ⟨y, q1, q2⟩ := b1 _ hN pre post fin
      refine ⟨y, ?_, q2⟩
      obtain ⟨s, r, hs, h43, h38⟩ : ∃ s r, toks.map Tok.sh = s :: r ∧ s.1 ≠ 43 ∧ s.1 ≠ 38 := by
        rw [ht, Nd.shp_eq]
        rcases hat with e | e <;> rw [e]
        · exact ⟨_, _, rfl, (by decide : (97 : Int) ≠ 43), (by decide : (97 : Int) ≠ 38)⟩
        · exact ⟨_, _, rfl, (by decide : (35 : Int) ≠ 43), (by decide : (35 : Int) ≠ 38)⟩
      have s1 := sees_head (pre := pre) (post := post) (fin := fin) (k := 43) n1 f1 hs
      have s2 := sees_head (pre := pre) (post := post) (fin := fin) (k := 38) n1 f1 hs
      rw [decide_eq_false h43] at s1
      rw [decide_eq_false h38] at s2
      rw [Rdr.label, s1, s2]
      exact q1
    · rcases label_spec h with ⟨h1, _⟩ | ⟨h1, _⟩ | ⟨h1, h2, h3, h4, h5⟩
      · omega
      · omega
      have hkids := fun m hm => ih m (by have := kidw hm; omega) (h5 m hm)
      rcases h1 with h1 | h1
      · have e : n.shp = [sgn 43] ++ ([sgn 40] ++ commaS (shps n.kids) ++ [sgn 41]) := by rw [Nd.shp_eq, h1]; rfl
        rw [e] at ht
        obtain ⟨t1, t2, rfl, a1, a2⟩ := List.map_eq_append_iff.1 ht
        obtain ⟨C, f2, w2, c2⟩ := sign_tree (by decide) a1
        obtain ⟨T, f1, w1, c1, b1⟩ := nodes_back (one := Rdr.label) (e := false) (by decide) hkids (fun h => absurd h h4) a2
        refine ⟨[C] ++ [T], by simp, by rw [flats_append, f1, f2], by rw [WFs_append]; exact ⟨w2, w1⟩, fun N hN pre post fin => ?_⟩
        rw [manys_append] at hN
        have hp := many_pos (us := [C]) (by simp)
        obtain ⟨N, rfl⟩ : ∃ m, N = m + 1 := ⟨N - 1, by omega⟩
        obtain ⟨ys, p, q1, q2⟩ := b1 N (by omega) (pre ++ [C]) post fin
        have q5 := take_mid (pre := pre) (post := T :: post) (t := C) (fin := fin) (k := 43) c2
        refine ⟨.mk 8 C.tok.pos [] [] ys, ?_, sameQ_of h1.symm h2.symm (show sameW [] n.names = true by rw [h3]; rfl) q2⟩
        have q1' : (at_ (pre ++ [C]) (T :: post) fin 0).nodes (Rdr.label N) 40 false = ((ys, p), at_ (pre ++ [C] ++ [T]) post fin 0) := q1
        rw [List.append_assoc, List.singleton_append, List.singleton_append, Rdr.label, if_pos (by rw [sees_mid, c2]; rfl), q5]
        simp only [q1']
        simp
      · have e : n.shp = [sgn 38] ++ ([sgn 40] ++ commaS (shps n.kids) ++ [sgn 41]) := by rw [Nd.shp_eq, h1]; rfl
        rw [e] at ht
        obtain ⟨t1, t2, rfl, a1, a2⟩ := List.map_eq_append_iff.1 ht
        obtain ⟨C, f2, w2, c2⟩ := sign_tree (by decide) a1
        obtain ⟨T, f1, w1, c1, b1⟩ := nodes_back (one := Rdr.label) (e := false) (by decide) hkids (fun h => absurd h h4) a2
        refine ⟨[C] ++ [T], by simp, by rw [flats_append, f1, f2], by rw [WFs_append]; exact ⟨w2, w1⟩, fun N hN pre post fin => ?_⟩
        rw [manys_append] at hN
        have hp := many_pos (us := [C]) (by simp)
        obtain ⟨N, rfl⟩ : ∃ m, N = m + 1 := ⟨N - 1, by omega⟩
        obtain ⟨ys, p, q1, q2⟩ := b1 N (by omega) (pre ++ [C]) post fin
        have q5 := take_mid (pre := pre) (post := T :: post) (t := C) (fin := fin) (k := 38) c2
        refine ⟨.mk 9 C.tok.pos [] [] ys, ?_, sameQ_of h1.symm h2.symm (show sameW [] n.names = true by rw [h3]; rfl) q2⟩
        have q1' : (at_ (pre ++ [C]) (T :: post) fin 0).nodes (Rdr.label N) 40 false = ((ys, p), at_ (pre ++ [C] ++ [T]) post fin 0) := q1
        rw [List.append_assoc, List.singleton_append, List.singleton_append, Rdr.label, if_neg (by rw [sees_mid, c2]; decide), if_pos (by rw [sees_mid, c2]; rfl), q5]
        simp only [q1']
        simp
theorem field_back {n : Nd} (h : n.fieldQ = true) : Back Rdr.field Nd.sameQ n n.shp := by
  obtain ⟨k, h1, h2, c, h3, h4⟩ := field_spec h
  intro toks ht
  have e : n.shp = [nmS n.text] ++ [sgn 61] ++ c.shp := by rw [Nd.shp_eq, k, h3]; rfl
  rw [e] at ht
  obtain ⟨t1, t3, rfl, a1, a3⟩ := List.map_eq_append_iff.1 ht
  obtain ⟨tw, tc, rfl, aw, ac⟩ := List.map_eq_append_iff.1 a1
  obtain ⟨uw, n1, f1, w1, b1⟩ := word_back ⟨n.text, 0⟩ tw aw
  obtain ⟨C, f2, w2, c2⟩ := sign_tree (by decide) ac
  have hc : c.kind = 1 ∨ c.kind = 7 := by simp only [Nd.atomQ, Bool.and_eq_true, Bool.or_eq_true, decide_eq_true_eq] at h4; exact h4.1
  obtain ⟨ua, n3, f3, w3, b3⟩ := atom_back (atom_label h4) hc t3 a3
  refine ⟨uw ++ [C] ++ ua, by simp, by rw [flats_append, flats_append, f1, f2, f3], by rw [WFs_append, WFs_append]; exact ⟨⟨w1, w2⟩, w3⟩, fun N hN pre post fin => ?_⟩
  rw [manys_append] at hN
  obtain ⟨y, q1, q2⟩ := b1 (manys uw) (Nat.le_refl _) pre ([C] ++ ua ++ post) fin
  obtain ⟨z, q3, q4⟩ := b3 N (by omega) (pre ++ uw ++ [C]) post fin
  have q5 := take_mid (pre := pre ++ uw) (post := ua ++ post) (t := C) (fin := fin) (k := 61) c2
  refine ⟨.mk 11 y.pos y.text [] [z], ?_, ?_⟩
  · have es : uw ++ [C] ++ ua ++ post = uw ++ ([C] ++ ua ++ post) := by simp
    have q1' : (at_ pre (uw ++ ([C] ++ ua ++ post)) fin 0).word = (y, at_ (pre ++ uw) ([C] ++ ua ++ post) fin 0) := q1
    have q5' : (at_ (pre ++ uw) ([C] ++ ua ++ post) fin 0).take 61 = (C, at_ (pre ++ uw ++ [C]) (ua ++ post) fin 0) := q5
    simp only [es, Rdr.field, q1', q5', q3]
    simp
  · simp only [wSame, decide_eq_true_eq] at q2
    exact sameQ_of k.symm q2 (show sameW [] n.names = true by rw [h2]; rfl) (show samesQ [z] n.kids = true by rw [h3]; simp [samesQ, q4])
end Go.Am

/-
  Rows are read back; the whole.
-/
namespace Go.Am
theorem inner_at (T : Tree) : T.inner = at_ [] T.kids T.fin 0 := by simp [Tree.inner, at_]
theorem close_end {us : List Tree} {fin : Int} : (at_ us [] fin 0).close = at_ us [] fin 0 := by unfold Rdr.close; rw [if_neg]; simp [at_]
theorem field_head {n : Nd} (h : n.fieldQ = true) : ∃ r, n.shp = nmS n.text :: r := by
  obtain ⟨k, _, _, c, h3, _⟩ := field_spec h
  exact ⟨[sgn 61] ++ c.shp, by rw [Nd.shp_eq, k, h3]; rfl⟩
/-- What stands in a row's bracket. -/
theorem rowOf_back {n : Nd} (hn : n.names = [] ∨ ∃ w, n.names = [w] ∧ nameR w.text = true) (hf : ∀ x ∈ n.kids, x.fieldQ = true) {toks : List Tok}
    (ht : toks.map Tok.sh = commaS (shps n.kids) ++ (if 0 < n.names.length then [sgn 124] ++ wshp n.names else [])) :
    ∃ us : List Tree, flats us = toks ∧ WFs us ∧ ∀ N, manys us ≤ N → ∀ T : Tree, T.kids = us → ∃ ws ks, Rdr.rowOf N T = ((at_ us [] T.fin 0, ks), ws) ∧ sameW ws n.names = true ∧ samesQ ks n.kids = true := by
  obtain ⟨t1, t2, rfl, a1, a2⟩ := List.map_eq_append_iff.1 ht
  have nameside : (n.names = [] ∧ t2 = []) ∨ (∃ w C uw, n.names = [w] ∧ uw ≠ [] ∧ flats ([C] ++ uw) = t2 ∧ WFs ([C] ++ uw) ∧ C.tok.kind = 124 ∧ ∀ (pre post : List Tree) (fin : Int), ∃ y, (at_ pre (uw ++ post) fin 0).word = (y, at_ (pre ++ uw) post fin 0) ∧ wSame y w = true) := by
    rcases hn with hn | ⟨w, hn, hw⟩
    · left
      rw [hn] at a2
      exact ⟨hn, by simpa using a2⟩
    · right
      have e : (if 0 < n.names.length then [sgn 124] ++ wshp n.names else []) = [sgn 124] ++ [nmS w.text] := by rw [hn]; simp [wshp, commaS]
      rw [e] at a2
      obtain ⟨tc, tw, rfl, ac, aw⟩ := List.map_eq_append_iff.1 a2
      obtain ⟨C, f2, w2, c2⟩ := sign_tree (by decide) ac
      obtain ⟨uw, n1, f1, w1, b1⟩ := word_back w tw aw
      exact ⟨w, C, uw, hn, n1, by rw [flats_append, f1, f2], by rw [WFs_append]; exact ⟨w2, w1⟩, c2, fun pre post fin => b1 _ (Nat.le_refl _) pre post fin⟩
  have tail : ∀ (pre : List Tree) (us' : List Tree) (fin : Int) (ks : List Nd), (n.names = [] ∧ us' = [] ∨ ∃ w C uw, n.names = [w] ∧ us' = [C] ++ uw ∧ C.tok.kind = 124 ∧ ∀ (pre post : List Tree) (fin : Int), ∃ y, (at_ pre (uw ++ post) fin 0).word = (y, at_ (pre ++ uw) post fin 0) ∧ wSame y w = true) →
      ∃ ws, (if (at_ pre us' fin 0).sees 124 = true then (((((at_ pre us' fin 0).take 124).2.word.2, ks), [((at_ pre us' fin 0).take 124).2.word.1]) : (Rdr × List Nd) × List Word) else ((at_ pre us' fin 0, ks), [])) = ((at_ (pre ++ us') [] fin 0, ks), ws) ∧ sameW ws n.names = true := by
    intro pre us' fin ks h
    rcases h with ⟨h1, rfl⟩ | ⟨w, C, uw, h1, rfl, h3, h4⟩
    · rw [sees_end]
      exact ⟨[], by simp, by rw [h1]; rfl⟩
    · obtain ⟨y, q1, q2⟩ := h4 (pre ++ [C]) [] fin
      rw [List.append_nil] at q1
      refine ⟨[y], ?_, by rw [h1]; simpa [sameW, wSame] using q2⟩
      rw [List.singleton_append, sees_mid, h3, if_pos (by decide), take_mid h3, q1]
      simp
  cases hk : n.kids with
  | nil =>
    rw [hk] at a1
    have : t1 = [] := by simpa [shps, commaS] using a1
    subst this
    rcases nameside with ⟨h1, rfl⟩ | ⟨w, C, uw, h1, h0, h2, h3, h4, h5⟩
    · refine ⟨[], rfl, trivial, fun N _ T hT => ⟨[], [], ?_, by rw [h1]; rfl, by simp [samesQ]⟩⟩
      rw [Rdr.rowOf, if_pos (by rw [hT]; rfl), inner_at, hT]
    · refine ⟨[C] ++ uw, by simpa using h2, h3, fun N _ T hT => ?_⟩
      obtain ⟨ws, q1, q2⟩ := tail [] ([C] ++ uw) T.fin [] (.inr ⟨w, C, uw, h1, rfl, h4, h5⟩)
      refine ⟨ws, [], ?_, q2, by simp [samesQ]⟩
      rw [Rdr.rowOf, if_neg (by rw [hT]; simp), inner_at, hT, Rdr.rowIn]
      have hs : (at_ [] ([C] ++ uw) T.fin 0).sees 124 = true := by rw [List.singleton_append, sees_mid, h4]; rfl
      simp only [hs, if_true] at q1 ⊢
      rw [q1]; simp
  | cons x xs =>
    rw [hk, shps_map] at a1
    obtain ⟨us, n1, f1, w1, b1⟩ := some_back (one := Rdr.field) (sm := Nd.sameQ) (S := Nd.shp) (x := x) (xs := xs) (fun y hy => field_back (hf y (by rw [hk]; exact hy))) a1
    obtain ⟨r, hr⟩ := field_head (hf x (by rw [hk]; simp))
    have hhead : t1.map Tok.sh = nmS x.text :: (r ++ (xs.map Nd.shp).flatMap fun y => sgn 44 :: y) := by rw [a1]; simp [commaS, hr]
    have go : ∀ (us' : List Tree), NoComma us' → (n.names = [] ∧ us' = [] ∨ ∃ w C uw, n.names = [w] ∧ us' = [C] ++ uw ∧ C.tok.kind = 124 ∧ ∀ (pre post : List Tree) (fin : Int), ∃ y, (at_ pre (uw ++ post) fin 0).word = (y, at_ (pre ++ uw) post fin 0) ∧ wSame y w = true) →
        ∀ N, manys (us ++ us') ≤ N → ∀ T : Tree, T.kids = us ++ us' → ∃ ws ks, Rdr.rowOf N T = ((at_ (us ++ us') [] T.fin 0, ks), ws) ∧ sameW ws n.names = true ∧ samesQ ks (x :: xs) = true := by
      intro us' hnc hq N hN T hT
      rw [manys_append] at hN
      obtain ⟨ks, q1, q2⟩ := b1 N (by omega) [] us' T.fin hnc
      obtain ⟨ws, q3, q4⟩ := tail us us' T.fin ks hq
      rw [all2_samesQ] at q2
      refine ⟨ws, ks, ?_, q4, q2⟩
      rw [Rdr.rowOf, if_neg (by rw [hT]; intro h; rw [List.length_append] at h; exact n1 (List.length_eq_zero_iff.1 (by omega))), inner_at, hT, Rdr.rowIn]
      have hs : (at_ [] (us ++ us') T.fin 0).sees 124 = false := by rw [sees_head n1 f1 hhead]; rfl
      rw [List.nil_append] at q1
      simp only [hs, Bool.false_eq_true, if_false, q1]
      exact q3
    rcases nameside with ⟨h1, rfl⟩ | ⟨w, C, uw, h1, h0, h2, h3, h4, h5⟩
    · refine ⟨us ++ [], by simpa using f1, by simpa using w1, go [] (fun t r h => by simp at h) (.inl ⟨h1, rfl⟩)⟩
    · refine ⟨us ++ ([C] ++ uw), by rw [flats_append, f1, h2], by rw [WFs_append]; exact ⟨w1, h3⟩, go ([C] ++ uw) (fun t r h => ?_) (.inr ⟨w, C, uw, h1, rfl, h4, h5⟩)⟩
      simp only [List.singleton_append, List.cons.injEq] at h
      rw [← h.1, h4]; decide
theorem row_back {n : Nd} (h : n.rowQ = true) : Back Rdr.row Nd.sameQ n n.shp := by
  intro toks ht
  rcases row_spec h with ⟨k, h2, hn, hf⟩ | ⟨k, h⟩
  · have e : n.shp = [sgn 91] ++ (commaS (shps n.kids) ++ (if 0 < n.names.length then [sgn 124] ++ wshp n.names else [])) ++ [sgn 93] := by rw [Nd.shp_eq, k]; rfl
    rw [e] at ht
    obtain ⟨t1, t3, rfl, h1, h3⟩ := List.map_eq_append_iff.1 ht
    obtain ⟨ta, t2, rfl, ha, hin⟩ := List.map_eq_append_iff.1 h1
    obtain ⟨pa, rfl⟩ := sh_sign ha
    obtain ⟨pb, rfl⟩ := sh_sign h3
    obtain ⟨us, f1, w1, b1⟩ := rowOf_back hn hf hin
    generalize hT : Tree.mk ⟨((91 : UInt8).toNat : Nat), [91], pa⟩ us pb = T
    have hTk : T.tok.kind = 91 := by rw [← hT]; rfl
    have hTks : T.kids = us := by rw [← hT]; rfl
    have hTm : manys [T] = 1 + manys us := by simp only [manys, many_eq, hTks]; omega
    refine ⟨[T], by simp, ?_, ?_, fun N hN pre post fin => ?_⟩
    · rw [← hT]
      have hc : closing ((91 : UInt8).toNat : Nat) ≠ 0 := by decide
      simp only [flats, Tree.flat, List.append_nil]
      rw [if_pos hc, f1]
      simp; decide +kernel
    · rw [← hT]; simp only [WFs, Tree.WF]; exact ⟨⟨rfl, fun h => absurd h (by decide), w1⟩, trivial⟩
    · obtain ⟨ws, ks, q1, q2, q3⟩ := b1 N (by omega) T hTks
      refine ⟨.mk 10 T.tok.pos [] ws ks, ?_, sameQ_of k.symm h2.symm q2 q3⟩
      have q5 := take_mid (pre := pre) (post := post) (t := T) (fin := fin) (k := 91) hTk
      rw [List.singleton_append, Rdr.row, if_pos (by rw [sees_mid, hTk]; rfl), q5]
      simp only [q1, Rdr.under, close_end]
      rfl
  · have e : n.shp = [nmS n.text] := by rw [Nd.shp_eq, k]; rfl
    have hl : n.leafQ = true := by
      rcases label_spec h with ⟨_, h2⟩ | ⟨h1, _⟩ | ⟨h1, _⟩
      · exact h2
      · omega
      · omega
    rw [e] at ht
    obtain ⟨us, n1, f1, w1, b1⟩ := leaf_back k hl toks ht
    refine ⟨us, n1, f1, w1, fun N hN pre post fin => ?_⟩
    obtain ⟨y, q1, q2⟩ := b1 _ hN pre post fin
    refine ⟨y, ?_, q2⟩
    have s1 := sees_head (pre := pre) (post := post) (fin := fin) (k := 91) n1 f1 ht
    rw [Rdr.row, s1]
    exact q1
/-- A node that might have been read is read back of its text, if that is not too deep. -/
theorem read_back {one : Nat → Rdr → Nd × Rdr} {n : Nd} (hx : Lx n) (hb : Back one Nd.sameQ n n.shp) :
    (lexR n.txt).2 = none ∧ ((treeR (lexR n.txt).1).2 = none → ∀ N, manys (treeR (lexR n.txt).1).1 ≤ N → ∀ fin : Int,
      (readAt (one N) (treeR (lexR n.txt).1).1 0 fin).2.2 = none ∧ (readAt (one N) (treeR (lexR n.txt).1).1 0 fin).2.1 = ((treeR (lexR n.txt).1).1.length : Nat) ∧ (readAt (one N) (treeR (lexR n.txt).1).1 0 fin).1.sameQ n = true) := by
  obtain ⟨h1, h2⟩ := lex_node hx
  refine ⟨h1, fun hd N hN fin => ?_⟩
  obtain ⟨us, n1, f1, w1, b1⟩ := hb _ h2
  have ht : (treeR (lexR n.txt).1).1 = us := by rw [← f1] at hd ⊢; exact tree_back w1 hd
  rw [ht] at hN ⊢
  obtain ⟨y, q1, q2⟩ := b1 N hN [] [] fin
  have q1' : one N ⟨us, 0, fin, none⟩ = (y, at_ us [] fin 0) := by
    have : (⟨us, 0, fin, none⟩ : Rdr) = at_ [] (us ++ []) fin 0 := by simp [at_]
    rw [this, q1]; rfl
  unfold readAt
  rw [q1']
  simp only [at_, List.append_nil, Nat.add_zero]
  exact ⟨trivial, trivial, q2⟩
end Go.Am

/-
  The law of what is read back, walked.
-/
namespace Go.Proofs.Try
open Go.Am
set_option maxRecDepth 4000
set_option maxHeartbeats 4000000

def badLC (b : Option Int) : Int := match b with | some _ => 1 | none => 0
theorem badL_eq (b : Option Int) : badL b = .agg [.int .i64 (badLC b), .int .i64 (badA b)] := rfl
theorem termBack_calls (n : Nd) (σ : Store) (hw : n.wt + 1 ≤ big) (hw2 : 26 * n.wt + 4 ≤ big) : PCalls prog 6 [.agg n.enc] σ fun v σ' => v = .bool true ∧ σ' = σ := by
  have hb : PCalls prog 22 [.sl .full 5 [n.enc]] σ fun v σ' => v = .bool (bigQ [n]) ∧ σ' = σ := big_calls (τ := .full) [n] σ (by simp [big]) (by intro x hx; rw [List.mem_singleton.1 hx]; omega)
  have htl := txt_lens [n] n (by simp)
  refine fn6.calls ?_
  simp only [slots, ac6, am, amo, amc, Nat.reduceAdd, decide_true, decide_false, Tree.rec_, Nd.rec_, Word.rec_, Got.rec_, Nd.fl]
  refine (hb).mono ?_
  rintro v σ ⟨rfl, rfl⟩
  simp only [am, amo, amc, Nat.reduceAdd, encs_length, List.length_map, decide_true, decide_false, Tree.rec_, Nd.rec_, Word.rec_, Got.rec_, Nd.fl]
  refine vcIf_split ?_ ?_
  · intro _
    simp only [am, amo, amc, Nat.reduceAdd, encs_length, List.length_map, decide_true, decide_false, Tree.rec_, Nd.rec_, Word.rec_, Got.rec_, Nd.fl]
    refine (alive_calls σ).mono ?_
    rintro v σ ⟨rfl, rfl⟩
    simp only [am, amo, amc, Nat.reduceAdd, encs_length, List.length_map, decide_true, decide_false, Tree.rec_, Nd.rec_, Word.rec_, Got.rec_, Nd.fl]
    refine retK_intro rfl (Store.sub_refl _) ⟨?_, rfl⟩
    simp [V.erase, eraseL]
  intro _
  simp only [am, amo, amc, Nat.reduceAdd, encs_length, List.length_map, decide_true, decide_false, Tree.rec_, Nd.rec_, Word.rec_, Got.rec_, Nd.fl]
  refine (text_calls _ n σ (Nat.le_refl _) (by omega)).mono ?_
  rintro v σ ⟨rfl, rfl⟩
  simp only [am, amo, amc, Nat.reduceAdd, encs_length, List.length_map, decide_true, decide_false, Tree.rec_, Nd.rec_, Word.rec_, Got.rec_, Nd.fl]
  refine (lex_calls n.txt σ (by omega)).mono ?_
  rintro v σ ⟨rfl, rfl⟩
  simp only [am, amo, amc, Nat.reduceAdd, encs_length, List.length_map, decide_true, decide_false, Tree.rec_, Nd.rec_, Word.rec_, Got.rec_, Nd.fl, badL_eq]
  have hll := lexR_len n.txt
  refine (tree_calls (lexR n.txt).1 σ (by omega)).mono ?_
  rintro v σ ⟨rfl, rfl⟩
  simp only [am, amo, amc, Nat.reduceAdd, encs_length, List.length_map, decide_true, decide_false, Tree.rec_, Nd.rec_, Word.rec_, Got.rec_, Nd.fl, fenc]
  have RC := fun h : n.constQ = true => read_back (lx_const _ n (Nat.le_refl _) h) (const_back _ n (Nat.le_refl _) h)
  have RL := fun h : n.labelQ = true => read_back (lx_label _ n (Nat.le_refl _) h) (label_back _ n (Nat.le_refl _) h)
  have RR := fun h : n.rowQ = true => read_back (lx_row h) (row_back h)
  have hgood := line_good n.txt
  have hmany := line_many n.txt
  generalize lexR n.txt = L at RC RL RR hgood hmany ⊢
  generalize treeR L.1 = T at RC RL RR hgood hmany ⊢
  have hbig : szs T.1 + 4 ≤ big := by simp only [szs]; omega
  have hm1 : manys T.1 + 1 ≤ big := by omega
  have Q1 := fun σ => const_is_calls _ n σ (Nat.le_refl _) (by omega)
  have Q2 := fun σ => label_is_calls _ n σ (Nat.le_refl _) (by omega)
  have Q3 := fun σ => row_is_calls n σ (by omega)
  have C1 := fun σ => Const_calls (n := manys T.1) (l := T.1) (at_ := 0) (fin := n.txt.length) (σ := σ) (Nat.le_refl _) hm1
  have C2 := fun σ => Label_calls (n := manys T.1) (l := T.1) (at_ := 0) (fin := n.txt.length) (σ := σ) (Nat.le_refl _) hm1
  have C3 := fun σ => Row_calls (n := manys T.1) (l := T.1) (at_ := 0) (fin := n.txt.length) (σ := σ) (Nat.le_refl _) hm1
  have W1 := (rd_of (constant_sound (manys T.1)) hgood hbig (fin := n.txt.length)).w
  have W2 := (rd_of (label_sound (manys T.1)) hgood hbig (fin := n.txt.length)).w
  have W3 := (rd_of (row_sound (manys T.1)) hgood hbig (fin := n.txt.length)).w
  rcases hf : L.2 with _ | p
  case' some =>
    have q1 : n.constQ = false := by cases h : n.constQ with
      | false => rfl
      | true => have := (RC h).1; rw [hf] at this; simp at this
    have q2 : n.labelQ = false := by cases h : n.labelQ with
      | false => rfl
      | true => have := (RL h).1; rw [hf] at this; simp at this
    have q3 : n.rowQ = false := by cases h : n.rowQ with
      | false => rfl
      | true => have := (RR h).1; rw [hf] at this; simp at this
    have hbc : decide (badLC (some p) = 0) = false := rfl
    simp only [am, amo, amc, Nat.reduceAdd, encs_length, List.length_map, decide_true, decide_false, Tree.rec_, Nd.rec_, Word.rec_, Got.rec_, Nd.fl, hbc, Bool.false_and, Bool.not_false]
    refine (Q1 σ).mono ?_
    rintro v σ ⟨rfl, rfl⟩
    simp only [am, amo, amc, Nat.reduceAdd, encs_length, List.length_map, decide_true, decide_false, Tree.rec_, Nd.rec_, Word.rec_, Got.rec_, Nd.fl, q1]
    refine (Q2 σ).mono ?_
    rintro v σ ⟨rfl, rfl⟩
    simp only [am, amo, amc, Nat.reduceAdd, encs_length, List.length_map, decide_true, decide_false, Tree.rec_, Nd.rec_, Word.rec_, Got.rec_, Nd.fl, q2]
    refine (Q3 σ).mono ?_
    rintro v σ ⟨rfl, rfl⟩
    simp only [am, amo, amc, Nat.reduceAdd, encs_length, List.length_map, decide_true, decide_false, Tree.rec_, Nd.rec_, Word.rec_, Got.rec_, Nd.fl, q3]
    refine (alive_calls σ).mono ?_
    rintro v σ ⟨rfl, rfl⟩
    simp only [am, amo, amc, Nat.reduceAdd, encs_length, List.length_map, decide_true, decide_false, Tree.rec_, Nd.rec_, Word.rec_, Got.rec_, Nd.fl]
    refine retK_intro rfl (Store.sub_refl _) ⟨?_, rfl⟩
    simp [V.erase, eraseL]
  have hbc : decide (badLC none = 0) = true := rfl
  have hba : decide (badA none = 0) = true := rfl
  rcases hg : T.2 with _ | p
  case' some =>
    have hbd : decide (badC (some p) = 0) = false := rfl
    simp only [am, amo, amc, Nat.reduceAdd, encs_length, List.length_map, decide_true, decide_false, Tree.rec_, Nd.rec_, Word.rec_, Got.rec_, Nd.fl, hbc, hba, hbd, Bool.false_and, Bool.not_false, Bool.true_and, Bool.not_true]
    refine (alive_calls σ).mono ?_
    rintro v σ ⟨rfl, rfl⟩
    simp only [am, amo, amc, Nat.reduceAdd, encs_length, List.length_map, decide_true, decide_false, Tree.rec_, Nd.rec_, Word.rec_, Got.rec_, Nd.fl]
    refine retK_intro rfl (Store.sub_refl _) ⟨?_, rfl⟩
    simp [V.erase, eraseL]
  have hbd : decide (badC none = 0) = true := rfl
  have RC := fun h => (RC h).2 hg _ (Nat.le_refl _) n.txt.length
  have RL := fun h => (RL h).2 hg _ (Nat.le_refl _) n.txt.length
  have RR := fun h => (RR h).2 hg _ (Nat.le_refl _) n.txt.length
  generalize readAt (Rdr.constant (manys T.1)) T.1 0 n.txt.length = o1 at C1 RC W1
  generalize readAt (Rdr.label (manys T.1)) T.1 0 n.txt.length = o2 at C2 RL W2
  generalize readAt (Rdr.row (manys T.1)) T.1 0 n.txt.length = o3 at C3 RR W3
  simp only [am, amo, amc, Nat.reduceAdd, encs_length, List.length_map, decide_true, decide_false, Tree.rec_, Nd.rec_, Word.rec_, Got.rec_, Nd.fl, hbc, hba, hbd, Bool.false_and, Bool.not_false, Bool.true_and, Bool.not_true]
  refine (Q1 σ).mono ?_
  rintro v σ ⟨rfl, rfl⟩
  simp only [am, amo, amc, Nat.reduceAdd, encs_length, List.length_map, decide_true, decide_false, Tree.rec_, Nd.rec_, Word.rec_, Got.rec_, Nd.fl]
  cases hq1 : n.constQ
  case' true =>
    obtain ⟨u1, v1, w1⟩ := RC hq1
    simp only [am, amo, amc, Nat.reduceAdd, encs_length, List.length_map, decide_true, decide_false, Tree.rec_, Nd.rec_, Word.rec_, Got.rec_, Nd.fl]
    refine (C1 σ).mono ?_
    rintro v σ ⟨rfl, rfl⟩
    simp only [am, amo, amc, Nat.reduceAdd, encs_length, List.length_map, decide_true, decide_false, Tree.rec_, Nd.rec_, Word.rec_, Got.rec_, Nd.fl, fenc, Nd.r_ov, u1, v1, hbc, hba, hbd, Bool.true_and, Bool.not_true]
    refine (same24_calls _ o1.1 n σ (Nat.le_refl _) W1).mono ?_
    rintro v σ ⟨rfl, rfl⟩
    simp only [am, amo, amc, Nat.reduceAdd, encs_length, List.length_map, decide_true, decide_false, Tree.rec_, Nd.rec_, Word.rec_, Got.rec_, Nd.fl, w1]
  case' false =>
    simp only [am, amo, amc, Nat.reduceAdd, encs_length, List.length_map, decide_true, decide_false, Tree.rec_, Nd.rec_, Word.rec_, Got.rec_, Nd.fl]
  all_goals
    refine (Q2 σ).mono ?_
    rintro v σ ⟨rfl, rfl⟩
    simp only [am, amo, amc, Nat.reduceAdd, encs_length, List.length_map, decide_true, decide_false, Tree.rec_, Nd.rec_, Word.rec_, Got.rec_, Nd.fl]
    cases hq2 : n.labelQ
    case' true =>
      obtain ⟨u2, v2, w2⟩ := RL hq2
      simp only [am, amo, amc, Nat.reduceAdd, encs_length, List.length_map, decide_true, decide_false, Tree.rec_, Nd.rec_, Word.rec_, Got.rec_, Nd.fl]
      refine (C2 σ).mono ?_
      rintro v σ ⟨rfl, rfl⟩
      simp only [am, amo, amc, Nat.reduceAdd, encs_length, List.length_map, decide_true, decide_false, Tree.rec_, Nd.rec_, Word.rec_, Got.rec_, Nd.fl, fenc, Nd.r_ov, u2, v2, hbc, hba, hbd, Bool.true_and, Bool.not_true]
      refine (same24_calls _ o2.1 n σ (Nat.le_refl _) W2).mono ?_
      rintro v σ ⟨rfl, rfl⟩
      simp only [am, amo, amc, Nat.reduceAdd, encs_length, List.length_map, decide_true, decide_false, Tree.rec_, Nd.rec_, Word.rec_, Got.rec_, Nd.fl, w2]
    case' false =>
      simp only [am, amo, amc, Nat.reduceAdd, encs_length, List.length_map, decide_true, decide_false, Tree.rec_, Nd.rec_, Word.rec_, Got.rec_, Nd.fl]
  all_goals
    refine (Q3 σ).mono ?_
    rintro v σ ⟨rfl, rfl⟩
    simp only [am, amo, amc, Nat.reduceAdd, encs_length, List.length_map, decide_true, decide_false, Tree.rec_, Nd.rec_, Word.rec_, Got.rec_, Nd.fl]
    cases hq3 : n.rowQ
    case' true =>
      obtain ⟨u3, v3, w3⟩ := RR hq3
      simp only [am, amo, amc, Nat.reduceAdd, encs_length, List.length_map, decide_true, decide_false, Tree.rec_, Nd.rec_, Word.rec_, Got.rec_, Nd.fl]
      refine (C3 σ).mono ?_
      rintro v σ ⟨rfl, rfl⟩
      simp only [am, amo, amc, Nat.reduceAdd, encs_length, List.length_map, decide_true, decide_false, Tree.rec_, Nd.rec_, Word.rec_, Got.rec_, Nd.fl, fenc, Nd.r_ov, u3, v3, hbc, hba, hbd, Bool.true_and, Bool.not_true]
      refine (same24_calls _ o3.1 n σ (Nat.le_refl _) W3).mono ?_
      rintro v σ ⟨rfl, rfl⟩
      simp only [am, amo, amc, Nat.reduceAdd, encs_length, List.length_map, decide_true, decide_false, Tree.rec_, Nd.rec_, Word.rec_, Got.rec_, Nd.fl, w3]
    case' false =>
      simp only [am, amo, amc, Nat.reduceAdd, encs_length, List.length_map, decide_true, decide_false, Tree.rec_, Nd.rec_, Word.rec_, Got.rec_, Nd.fl]
  all_goals
    refine (alive_calls σ).mono ?_
    rintro v σ ⟨rfl, rfl⟩
    simp only [am, amo, amc, Nat.reduceAdd, encs_length, List.length_map, decide_true, decide_false, Tree.rec_, Nd.rec_, Word.rec_, Got.rec_, Nd.fl]
    refine retK_intro rfl (Store.sub_refl _) ⟨?_, rfl⟩
    simp [V.erase, eraseL]
end Go.Proofs.Try

/-
  What comes in, told in the logic's words; what is left, read again.
-/
namespace Go.Am
open Go.ChangeShapes Go.WideShapes Go.ChangeAt Go.RowKit

/-- A measure of readings. -/
structure BulkFn {H : Type} (B : DataW H → Nat) (BA : List (DataW H) → Nat) : Prop where
  str : ∀ b, B (.lit (.string b)) = b.length + 1
  int : ∀ k n, B (.lit (.int k n)) = 1
  bool : ∀ b, B (.lit (.bool b)) = 1
  nil : B .nil = 1
  slice : ∀ e s, B (.slice e s) = BA e + BA s + 1
  agg : ∀ p, B (.agg p) = BA p + 1
  no : BA [] = 0
  cons : ∀ d r, BA (d :: r) = B d + BA r

/-- All memory is as it came. -/
def envOf (W : World) : Env := ⟨W, fun _ => .const, fun _ => none, fun _ => none⟩
def noStore : Store := ⟨fun _ => none, fun _ => none⟩
theorem envOf_ok (W : World) : (envOf W).ok noStore := ⟨fun _ _ h => by simp [noStore] at h, fun _ _ h => by simp [noStore] at h, fun _ _ => rfl, ⟨0, fun _ _ => rfl⟩⟩

section
variable {H : Type} {enc : TypeId × Value → H} {P : Program} {W : World} {sp : Nat → Bool} {B : DataW H → Nat} {BA : List (DataW H) → Nat}

theorem rd_int {t : TypeId} {k : IntKind} {n : Nat} {cs : List Value} {x : DataW H × List MemPlace} (ht : P.underlying t = some (.int k)) (hB : BulkFn B BA) (h : DataW.trod enc P W 0 sp true n t cs = some x) :
    ∃ i : Int, RL (envOf W) [.int k i] cs ∧ (∀ v ∈ cs, v.oneCell' = true) ∧ B x.1 = 1 ∧ (Lit.int k i).wf = true := by
  obtain ⟨i, rfl, rfl, hw⟩ := DataW.trod_int ht h
  exact ⟨i, by simp [RL, R], by simp [Value.oneCell'], hB.int _ _, hw⟩
theorem rd_bool {t : TypeId} {n : Nat} {cs : List Value} {x : DataW H × List MemPlace} (ht : P.underlying t = some .bool) (hB : BulkFn B BA) (h : DataW.trod enc P W 0 sp true n t cs = some x) :
    ∃ i : Bool, RL (envOf W) [.bool i] cs ∧ (∀ v ∈ cs, v.oneCell' = true) ∧ B x.1 = 1 := by
  obtain ⟨i, rfl, rfl⟩ := DataW.trod_bool ht h
  exact ⟨i, by simp [RL, R], by simp [Value.oneCell'], hB.bool _⟩
theorem rd_str {t : TypeId} {n : Nat} {cs : List Value} {x : DataW H × List MemPlace} (ht : P.underlying t = some .string) (hB : BulkFn B BA) (h : DataW.trod enc P W 0 sp true n t cs = some x) :
    ∃ s : List UInt8, RL (envOf W) [.str s] cs ∧ (∀ v ∈ cs, v.oneCell' = true) ∧ s.length + 1 = B x.1 := by
  obtain ⟨s, rfl, rfl, _⟩ := DataW.trod_string ht h
  exact ⟨s.data.toList, by simp [RL, R], by simp [Value.oneCell'], (hB.str _).symm⟩

theorem rd_rows {α : Type} (ea : α → List V) (sz : α → Nat) {e : TypeId} {k n : Nat} (hB : BulkFn B BA) (hk : P.cellsOf e = k) (hlen : ∀ y, (ea y).length = k)
    (hel : ∀ cs x, DataW.trod enc P W 0 sp true n e cs = some x → ∃ y : α, RL (envOf W) (ea y) cs ∧ (∀ v ∈ cs, v.oneCell' = true) ∧ sz y ≤ B x.1) {b o : Nat} :
    ∀ (els : List (DataW H × List MemPlace)) (i : Nat), (∀ j, j < els.length → (W.cells? 0 (Addr.add ⟨b, o, none⟩ ((i + j) * k)) k).bind (DataW.trod enc P W 0 sp true n e) = els[j]?) →
      ∃ l : List α, l.length = els.length ∧ REs (envOf W).nl k (l.map ea) b (o + i * k) ∧ (l.map sz).sum ≤ BA (els.map (·.1))
  | [], i, _ => ⟨[], rfl, by simp [REs], by simp⟩
  | x :: els, i, h => by
    obtain ⟨l, h1, h2, h3⟩ := rd_rows ea sz hB hk hlen hel els (i + 1) fun j hj => by
      have := h (j + 1) (by simp; omega)
      rw [show i + (j + 1) = i + 1 + j by omega] at this
      simpa using this
    have h0 := h 0 (by simp)
    simp only [Nat.add_zero, List.getElem?_cons_zero] at h0
    obtain ⟨cs, hc, hr⟩ := Option.bind_eq_some_iff.1 h0
    obtain ⟨y, k1, k2, k3⟩ := hel cs x hr
    obtain ⟨_, hl, hcell⟩ := World.cells?_some hc
    refine ⟨y :: l, by simp [h1], ?_, ?_⟩
    · simp only [List.map_cons, REs]
      refine ⟨hlen y, RAs_mk k1 k2 (fun j v hv => ?_) (fun _ _ => trivial), by rw [show o + i * k + k = o + (i + 1) * k by rw [Nat.add_mul]; omega]; exact h2⟩
      have hj : j < k := by have := (List.getElem?_eq_some_iff.1 hv).1; omega
      have := hcell j hj
      rw [addr_add, addr_add] at this
      show W.cell? _ = _
      rw [this, hv]
    · simp only [List.map_cons, List.sum_cons, hB.cons]; omega

theorem rd_slice {α : Type} (ea : α → List V) (sz : α → Nat) {t e : TypeId} {k fuel : Nat} (hB : BulkFn B BA) (ht : P.underlying t = some (.slice e)) (hk : P.cellsOf e = k) (hpos : 0 < k) (hlen : ∀ y, (ea y).length = k)
    (hel : ∀ n, n < fuel → ∀ cs x, DataW.trod enc P W 0 sp true n e cs = some x → ∃ y : α, RL (envOf W) (ea y) cs ∧ (∀ v ∈ cs, v.oneCell' = true) ∧ sz y ≤ B x.1)
    {cs : List Value} {x : DataW H × List MemPlace} (h : DataW.trod enc P W 0 sp true fuel t cs = some x) :
    ∃ l : List α, RL (envOf W) [.sl .no k (l.map ea)] cs ∧ (∀ v ∈ cs, v.oneCell' = true) ∧ (l.map sz).sum + 1 ≤ B x.1 := by
  rcases DataW.trod_slice ht h with ⟨rfl, rfl⟩ | ⟨a, len, cap, elems, rest, n, rfl, rfl, rfl, _, hle, _, hl, hels, _, _⟩
  · refine ⟨[], ?_, by simp [Value.oneCell'], by simp [hB.nil]⟩
    simp only [RL, R, List.map_nil, and_true]
    exact ⟨none, 0, rfl, by simp, by simp, trivial⟩
  · have ha : elems = [] ∨ ∃ b o, a = ⟨b, o, none⟩ := by
      cases elems with
      | nil => exact .inl rfl
      | cons y ys =>
        right
        have h0 := hels 0 (by rw [← hl]; simp)
        simp only [List.getElem?_cons_zero] at h0
        obtain ⟨cs', hc, _⟩ := Option.bind_eq_some_iff.1 h0
        obtain ⟨_, hl', hcell⟩ := World.cells?_some hc
        have h1 := hcell 0 (by rw [hk]; exact hpos)
        have h2 : cs'[0]? = some (cs'[0]'(by rw [hl', hk]; exact hpos)) := List.getElem?_eq_getElem _
        rw [h2] at h1
        obtain ⟨b, o, s⟩ := a
        refine ⟨b, o, ?_⟩
        simp only [World.cell?] at h1
        cases s with
        | none => rfl
        | some s =>
          split at h1
          · simp [Addr.add] at h1
          · simp at h1
    rcases ha with rfl | ⟨b, o, rfl⟩
    · refine ⟨[], ?_, by simp [Value.oneCell'], by simp [hB.slice]⟩
      simp only [List.length_nil] at hl
      subst hl
      simp only [RL, R, List.map_nil, and_true]
      exact ⟨some a, cap, rfl, by simp, by simp, trivial⟩
    · obtain ⟨l, h1, h2, h3⟩ := rd_rows (B := B) (BA := BA) (sp := sp) (enc := enc) (P := P) (W := W) (n := n) ea sz hB hk hlen (hel n (Nat.lt_succ_self n)) elems 0 (fun j hj => by
        have := hels j (by omega)
        rw [hk] at this
        rw [Nat.zero_add]; exact this)
      refine ⟨l, ?_, by simp [Value.oneCell'], ?_⟩
      · simp only [RL, R, List.length_map, and_true]
        exact ⟨some ⟨b, o, none⟩, cap, by rw [h1, hl], by omega, .inr ⟨b, o, rfl, by simpa using h2⟩, trivial⟩
      · rw [hB.slice]; omega
end

/-- What a call leaves behind is read as it was. -/
theorem post_am {H : Type} {enc : TypeId × Value → H} {P : Program} {f : Func} {s : ChangeSpec} {W : World} {args : Array Value} {ds : List (DataW H)} {before : List MemPlace} {tb : TypeId}
    (hl : laidOutB P = true) (hm : mapsRowed P = true) (hz : ((List.range P.types.size).all fun t => match P.underlying t with | some (.slice e) => decide (0 < P.cellsOf e) | _ => true) = true)
    (hres : f.resultTypes = #[tb]) (htb : P.underlying tb = some .bool) (hpar : ∀ t ∈ f.params.toList, t < P.types.size) (hvars : s.vars = []) (hfn : (s.fn H ds).results = [.lit (.bool true)] ∧ (s.fn H ds).args = ds ∧ (s.fn H ds).vars = [])
    (hW : DataW.Whole enc P f.params.toList s.vars false W args.toList ds [] before) {E' : Env} (hfr : Fr (envOf W) E') :
    s.post enc P f false true false false W args (.bool true) E'.w := by
  have hW' := hW
  obtain ⟨p, q, hA, hV, rfl, hfz, hnd⟩ := hW
  rw [hvars] at hV
  obtain ⟨_, rfl⟩ := trodVars_none hV
  have hsame : ∀ b, b < W.heap.size → E'.w.heap[b]? = W.heap[b]? := fun b hb => (hfr.same b hb (.inl rfl)).1
  have hkept : W.keptBut E'.w (fun _ => False) := by
    refine ⟨hfr.os, hfr.output, fun i hi => ?_⟩
    rw [hsame i hi]
    cases W.heap[i]? with
    | none => rfl
    | some ob => cases ob <;> simp
  simp only [List.append_nil] at hW'
  have hds : s.fn H (ds ++ []) = s.fn H ds := by rw [List.append_nil]
  refine post_of_same (pa := p) (pv := []) hW' (fun b sp' hd => ?_) (fun sp' hs => ?_) (fun sp' hs => ?_) (by simp) (World.keptBut_mono (fun _ h => h.elim) hkept) ?_ (ok_one hres rfl (okWide_bool_mk htb _))
  · rw [hds, hfn.1, hres]
    exact trodAll_cons_mk (shut_bool htb _) trodAll_mk0
  · rw [hds, hfn.2.1]
    have hlt := DataW.TrodAll.lt hA
    have key : ∀ (ts : List TypeId) (vs : List Value) (ds : List (DataW H)) (ps : List MemPlace), (∀ t ∈ ts, t < P.types.size) → DataW.TrodAll enc P W 0 (fun _ => true) true ts vs ds ps → (∀ x ∈ ps, x.block < W.heap.size) → (∀ x ∈ ps, sp' x.block = true) → DataW.TrodAll enc P E'.w 0 sp' true ts vs ds ps := by
      intro ts
      induction ts with
      | nil => intro vs ds ps _ h _ _; cases vs <;> cases ds <;> first | exact h | exact h.elim
      | cons t ts ih =>
        intro vs ds ps hT h hlt hs
        cases vs with
        | nil => exact h.elim
        | cons v vs =>
          cases ds with
          | nil => exact h.elim
          | cons d ds =>
            obtain ⟨p, q, ⟨n, h1⟩, h2, rfl⟩ := h
            refine ⟨p, q, ⟨n, ?_⟩, ih vs ds q (fun t ht => hT t (by simp [ht])) h2 (fun x hx => hlt x (by simp [hx])) (fun x hx => hs x (by simp [hx])), rfl⟩
            refine DataW.trod_stays (kids_rows hl hm) (fun {t e} ht he => slices_full_of P hz t e ht he) (by simp) (hT t (by simp)) h1 (fun x hx => ?_) (fun x hx => hs x (by simp [hx]))
            have hb := hlt x (by simp [hx])
            cases x with
            | cell b off => exact cell_same (hsame b hb)
            | map b => exact hsame b hb
    exact key _ _ _ _ hpar hA (fun x hx => hlt x hx) (fun x hx => hs x (by simpa using hx))
  · rw [hds, hfn.2.2, hvars]
    rfl
  · exact hfr.frz

section
variable {P : Program} {W : World} {r : Reach} {b : Nat} {t : TypeId} {v : Value} {E : Env}
theorem val_slice {e : TypeId} {x : V} (ht : P.underlying t = some (.slice e)) (hv : Value.okWide P W r b t v) (h : RL E [x] v.cells.toList) : R E x v := by
  obtain ⟨a, len, cap, rfl⟩ := okWide_slice ht hv
  simpa [Value.cells, RL] using h
theorem val_int {k : IntKind} {x : V} (ht : P.underlying t = some (.int k)) (hv : Value.okWide P W r b t v) (h : RL E [x] v.cells.toList) : R E x v := by
  obtain ⟨a, rfl⟩ := okWide_int ht hv
  simpa [Value.cells, RL] using h
theorem val_bool {x : V} (ht : P.underlying t = some .bool) (hv : Value.okWide P W r b t v) (h : RL E [x] v.cells.toList) : R E x v := by
  obtain ⟨a, rfl⟩ := okWide_bool ht hv
  simpa [Value.cells, RL] using h
theorem val_string {x : V} (ht : P.underlying t = some .string) (hv : Value.okWide P W r b t v) (h : RL E [x] v.cells.toList) : R E x v := by
  obtain ⟨a, rfl⟩ := okWide_string ht hv
  simpa [Value.cells, RL] using h
theorem val_struct {fs : Array Field} {xs : List V} (ht : P.underlying t = some (.struct fs)) (hv : Value.okWide P W r b t v) (h : RL E xs v.cells.toList) : R E (.agg xs) v := by
  obtain ⟨cs, rfl, _⟩ := okWide_struct ht hv
  simp only [R]
  exact ⟨cs, rfl, by simpa [Value.cells] using h⟩
end
/-- A law that was walked: what its statement asks. -/
theorem law_calls {H : Type} {enc : TypeId × Value → H} {P : Program} {n : FuncId} {f : Func} {s : ChangeSpec} {W : World} {args : Array Value} {vs : List V} {ds : List (DataW H)} {before : List MemPlace} {tb : TypeId}
    (hP : PCalls P n vs noStore fun v σ' => v = .bool true ∧ σ' = noStore) (hR : RL (envOf W) vs args.toList)
    (hl : laidOutB P = true) (hm : mapsRowed P = true) (hz : ((List.range P.types.size).all fun t => match P.underlying t with | some (.slice e) => decide (0 < P.cellsOf e) | _ => true) = true)
    (hres : f.resultTypes = #[tb]) (htb : P.underlying tb = some .bool) (hpar : ∀ t ∈ f.params.toList, t < P.types.size) (hvars : s.vars = []) (hfn : (s.fn H ds).results = [.lit (.bool true)] ∧ (s.fn H ds).args = ds ∧ (s.fn H ds).vars = [])
    (hW : DataW.Whole enc P f.params.toList s.vars false W args.toList ds [] before) :
    Calls P n args W fun e W' => ∃ v, e = .returned v ∧ s.post enc P f false true false false W args v W' := by
  refine (hP.2 (envOf W) args (fun _ => rfl) (envOf_ok W) hR).mono ?_
  rintro e w' ⟨v, x, E', σ', rfl, rfl, _, _, hRv, hfr, rfl, _⟩
  simp only [R] at hRv
  subst hRv
  exact ⟨_, rfl, post_am hl hm hz hres htb hpar hvars hfn hW hfr⟩
end Go.Am

/-
  The data of the terms, as they come in.
-/
namespace Go.Proofs.Try
open Go.Am Go.ChangeShapes Go.WideShapes Go.ChangeAt Go.RowKit
open Go.Proofs.Ytdggjnhfjimneaa (Rows.uptoBulk Rows.uptoBulkAll Rows.uptoSmall)

theorem bulkFn (H : Type) : BulkFn (H := H) Rows.uptoBulk Rows.uptoBulkAll :=
  ⟨fun _ => by simp only [Rows.uptoBulk], fun _ _ => by simp only [Rows.uptoBulk], fun _ => by simp only [Rows.uptoBulk], by simp only [Rows.uptoBulk], fun _ _ => by simp only [Rows.uptoBulk], fun _ => by simp only [Rows.uptoBulk], by simp only [Rows.uptoBulkAll], fun _ _ => by simp only [Rows.uptoBulkAll]⟩
theorem laid : laidOutB prog = true := by kernel_rfl
theorem rowed : mapsRowed prog = true := by kernel_rfl
theorem fulls : ((List.range prog.types.size).all fun t => match prog.underlying t with | some (.slice e) => decide (0 < prog.cellsOf e) | _ => true) = true := by kernel_rfl
theorem own : ownKnob prog.godebug = none := by kernel_rfl
theorem c55 : prog.cellsOf 55 = 3 := by kernel_rfl
theorem c57 : prog.cellsOf 57 = 5 := by kernel_rfl
theorem c22 : prog.cellsOf 22 = 1 := by kernel_rfl
theorem c3 : prog.cellsOf 3 = 1 := by kernel_rfl
theorem c5 : prog.cellsOf 5 = 1 := by kernel_rfl
theorem c9 : prog.cellsOf 9 = 1 := by kernel_rfl

theorem len3 {α : Type} {l : List α} (h : l.length = 3) : ∃ a b c, l = [a, b, c] := by
  match l, h with
  | [a, b, c], _ => exact ⟨a, b, c, rfl⟩
theorem len5 {α : Type} {l : List α} (h : l.length = 5) : ∃ a b c d e, l = [a, b, c, d, e] := by
  match l, h with
  | [a, b, c, d, e], _ => exact ⟨a, b, c, d, e, rfl⟩

section
variable {H : Type} {enc : TypeId × Value → H} {W : World} {sp : Nat → Bool}
theorem RL_one {E : Env} {x : V} {v : Value} : RL E [x] [v] ↔ R E x v := by simp [RL]
theorem rd_tok {n : Nat} {cs : List Value} {x : DataW H × List MemPlace} (h : DataW.trod enc prog W 0 sp true n 55 cs = some x) :
    ∃ t : Tok, RL (envOf W) [.int .u8 t.kind, .str t.text, .int .i64 t.pos] cs ∧ (∀ v ∈ cs, v.oneCell' = true) ∧ t.text.length + 3 ≤ Rows.uptoBulk x.1 := by
  obtain ⟨xs, m, rfl, rfl, hl, hx, hf⟩ := DataW.trod_struct underlying55 h
  rw [c55] at hl
  obtain ⟨a, b, c, rfl⟩ := len3 hl
  obtain ⟨x0, x1, x2, rfl⟩ := len3 hx
  have h0 : DataW.trod enc prog W 0 sp true m 5 ((([a, b, c] : List Value).drop 0).take (prog.cellsOf 5)) = some x0 := hf 0 _ rfl
  have h1 : DataW.trod enc prog W 0 sp true m 9 ((([a, b, c] : List Value).drop 1).take (prog.cellsOf 9)) = some x1 := hf 1 _ rfl
  have h2 : DataW.trod enc prog W 0 sp true m 3 ((([a, b, c] : List Value).drop 2).take (prog.cellsOf 3)) = some x2 := hf 2 _ rfl
  rw [c5] at h0; rw [c9] at h1; rw [c3] at h2
  obtain ⟨i, r0, o0, b0, _⟩ := rd_int underlying5 (bulkFn H) h0
  obtain ⟨s, r1, o1, b1⟩ := rd_str underlying9 (bulkFn H) h1
  obtain ⟨j, r2, o2, b2, _⟩ := rd_int underlying3 (bulkFn H) h2
  simp only [List.drop_zero, List.drop_succ_cons, List.take_succ_cons, List.take_zero, RL_one] at r0 r1 r2 o0 o1 o2
  refine ⟨⟨i, s, j⟩, ?_, ?_, ?_⟩
  · simp only [RL]; exact ⟨r0, r1, r2, trivial⟩
  · intro v hv
    simp only [List.mem_cons, List.not_mem_nil, or_false] at hv o0 o1 o2
    rcases hv with rfl | rfl | rfl
    · exact o0 _ rfl
    · exact o1 _ rfl
    · exact o2 _ rfl
  · simp only [List.map_cons, List.map_nil, Rows.uptoBulk, Rows.uptoBulkAll]; omega
theorem sum_manys : ∀ l : List Tree, (l.map fun t => 1 + t.many).sum = manys l
  | [] => rfl
  | t :: ts => by simp only [List.map_cons, List.sum_cons, sum_manys ts, manys]
theorem rd_trees : ∀ (n : Nat) (cs : List Value) (x : DataW H × List MemPlace), DataW.trod enc prog W 0 sp true n 22 cs = some x →
    ∃ l : List Tree, RL (envOf W) [.sl .no 5 (encs l)] cs ∧ (∀ v ∈ cs, v.oneCell' = true) ∧ manys l + 1 ≤ Rows.uptoBulk x.1 := by
  intro n
  induction n using Nat.strongRecOn with
  | ind n ih =>
  intro cs x h
  have := rd_slice (α := Tree) Tree.enc (fun t => 1 + t.many) (bulkFn H) underlying22 c57 (by omega) (fun t => Tree.r_len) (fun m hm cs x h => ?_) h
  · obtain ⟨l, h1, h2, h3⟩ := this
    rw [sum_manys] at h3
    exact ⟨l, by rw [encs_map]; exact h1, h2, h3⟩
  obtain ⟨xs, m, rfl, rfl, hl, hx, hf⟩ := DataW.trod_struct underlying57 h
  rw [c57] at hl
  obtain ⟨a, b, c, d, e, rfl⟩ := len5 hl
  obtain ⟨x0, x1, x2, rfl⟩ := len3 hx
  have h0 : DataW.trod enc prog W 0 sp true m 55 ((([a, b, c, d, e] : List Value).drop 0).take (prog.cellsOf 55)) = some x0 := hf 0 _ rfl
  have h1 : DataW.trod enc prog W 0 sp true m 22 ((([a, b, c, d, e] : List Value).drop 3).take (prog.cellsOf 22)) = some x1 := hf 1 _ rfl
  have h2 : DataW.trod enc prog W 0 sp true m 3 ((([a, b, c, d, e] : List Value).drop 4).take (prog.cellsOf 3)) = some x2 := hf 2 _ rfl
  rw [c55] at h0; rw [c22] at h1; rw [c3] at h2
  obtain ⟨t, r0, o0, b0⟩ := rd_tok h0
  obtain ⟨ks, r1, o1, b1⟩ := ih m (by omega) _ _ h1
  obtain ⟨j, r2, o2, b2, _⟩ := rd_int underlying3 (bulkFn H) h2
  simp only [List.drop_zero, List.drop_succ_cons, List.take_succ_cons, List.take_zero, RL_one] at r0 r1 r2 o0 o1 o2
  refine ⟨.mk t ks j, ?_, ?_, ?_⟩
  · simp only [RL] at r0
    simp only [Tree.enc, RL]; exact ⟨r0.1, r0.2.1, r0.2.2.1, r1, r2, trivial⟩
  · intro v hv
    simp only [List.mem_cons, List.not_mem_nil, or_false] at hv o0 o1 o2
    rcases hv with rfl | rfl | rfl | rfl | rfl
    · exact o0 _ (.inl rfl)
    · exact o0 _ (.inr (.inl rfl))
    · exact o0 _ (.inr (.inr rfl))
    · exact o1 _ rfl
    · exact o2 _ rfl
  · simp only [List.map_cons, List.map_nil, Rows.uptoBulk, Rows.uptoBulkAll, Tree.many]; omega
end
end Go.Proofs.Try

/-
  The data of the nodes, as they come in.
-/
namespace Go.Proofs.Try
open Go.Am Go.ChangeShapes Go.WideShapes Go.ChangeAt Go.RowKit
open Go.Proofs.Ytdggjnhfjimneaa (Rows.uptoBulk Rows.uptoBulkAll Rows.uptoSmall)

theorem c69 : prog.cellsOf 69 = 2 := by kernel_rfl
theorem c32 : prog.cellsOf 32 = 5 := by kernel_rfl
theorem c25 : prog.cellsOf 25 = 1 := by kernel_rfl
theorem c30 : prog.cellsOf 30 = 1 := by kernel_rfl
theorem len2 {α : Type} {l : List α} (h : l.length = 2) : ∃ a b, l = [a, b] := by
  match l, h with
  | [a, b], _ => exact ⟨a, b, rfl⟩

section
variable {H : Type} {enc : TypeId × Value → H} {W : World} {sp : Nat → Bool}
theorem rd_words : ∀ (n : Nat) (cs : List Value) (x : DataW H × List MemPlace), DataW.trod enc prog W 0 sp true n 25 cs = some x →
    ∃ l : List Word, RL (envOf W) [.sl .no 2 (l.map Word.enc)] cs ∧ (∀ v ∈ cs, v.oneCell' = true) ∧ wsum l + 1 ≤ Rows.uptoBulk x.1 := by
  intro n cs x h
  refine rd_slice (α := Word) Word.enc (fun w => w.text.length + 1) (bulkFn H) underlying25 c69 (by omega) (fun t => Word.r_len) (fun m hm cs x h => ?_) h
  obtain ⟨xs, m, rfl, rfl, hl, hx, hf⟩ := DataW.trod_struct underlying69 h
  rw [c69] at hl
  obtain ⟨a, b, rfl⟩ := len2 hl
  obtain ⟨x0, x1, rfl⟩ := len2 hx
  have h0 : DataW.trod enc prog W 0 sp true m 9 ((([a, b] : List Value).drop 0).take (prog.cellsOf 9)) = some x0 := hf 0 _ rfl
  have h1 : DataW.trod enc prog W 0 sp true m 3 ((([a, b] : List Value).drop 1).take (prog.cellsOf 3)) = some x1 := hf 1 _ rfl
  rw [c9] at h0; rw [c3] at h1
  obtain ⟨s, r0, o0, b0⟩ := rd_str underlying9 (bulkFn H) h0
  obtain ⟨j, r1, o1, b1, _⟩ := rd_int underlying3 (bulkFn H) h1
  simp only [List.drop_zero, List.drop_succ_cons, List.take_succ_cons, List.take_zero, RL_one] at r0 r1 o0 o1
  refine ⟨⟨s, j⟩, ?_, ?_, ?_⟩
  · simp only [Word.enc, RL]; exact ⟨r0, r1, trivial⟩
  · intro v hv
    simp only [List.mem_cons, List.not_mem_nil, or_false] at hv o0 o1
    rcases hv with rfl | rfl
    · exact o0 _ rfl
    · exact o1 _ rfl
  · simp only [List.map_cons, List.map_nil, Rows.uptoBulk, Rows.uptoBulkAll]; omega
theorem rd_node : ∀ (n : Nat) (cs : List Value) (x : DataW H × List MemPlace), DataW.trod enc prog W 0 sp true n 32 cs = some x →
    ∃ y : Nd, RL (envOf W) y.enc cs ∧ (∀ v ∈ cs, v.oneCell' = true) ∧ y.wt + 1 ≤ Rows.uptoBulk x.1 := by
  intro n
  induction n using Nat.strongRecOn with
  | ind n ih =>
  intro cs x h
  obtain ⟨xs, m, hnm, rfl, hl, hx, hf⟩ := DataW.trod_struct underlying32 h
  rw [c32] at hl
  obtain ⟨a, b, c, d, e, rfl⟩ := len5 hl
  obtain ⟨x0, x1, x2, x3, x4, rfl⟩ := len5 hx
  have h0 : DataW.trod enc prog W 0 sp true m 3 ((([a, b, c, d, e] : List Value).drop 0).take (prog.cellsOf 3)) = some x0 := hf 0 _ rfl
  have h1 : DataW.trod enc prog W 0 sp true m 3 ((([a, b, c, d, e] : List Value).drop 1).take (prog.cellsOf 3)) = some x1 := hf 1 _ rfl
  have h2 : DataW.trod enc prog W 0 sp true m 9 ((([a, b, c, d, e] : List Value).drop 2).take (prog.cellsOf 9)) = some x2 := hf 2 _ rfl
  have h3 : DataW.trod enc prog W 0 sp true m 25 ((([a, b, c, d, e] : List Value).drop 3).take (prog.cellsOf 25)) = some x3 := hf 3 _ rfl
  have h4 : DataW.trod enc prog W 0 sp true m 30 ((([a, b, c, d, e] : List Value).drop 4).take (prog.cellsOf 30)) = some x4 := hf 4 _ rfl
  rw [c3] at h0 h1; rw [c9] at h2; rw [c25] at h3; rw [c30] at h4
  obtain ⟨i, r0, o0, b0, _⟩ := rd_int underlying3 (bulkFn H) h0
  obtain ⟨j, r1, o1, b1, _⟩ := rd_int underlying3 (bulkFn H) h1
  obtain ⟨s, r2, o2, b2⟩ := rd_str underlying9 (bulkFn H) h2
  obtain ⟨ws, r3, o3, b3⟩ := rd_words _ _ _ h3
  obtain ⟨ks, r4, o4, b4⟩ := rd_slice (α := Nd) Nd.enc (fun n => n.wt + 1) (bulkFn H) underlying30 c32 (by omega) (fun t => Nd.r_len) (fun p hp cs x h => ih p (by omega) cs x h) h4
  rw [← wts_map] at b4
  simp only [List.drop_zero, List.drop_succ_cons, List.take_succ_cons, List.take_zero, RL_one] at r0 r1 r2 r3 r4 o0 o1 o2 o3 o4
  refine ⟨.mk i j s ws ks, ?_, ?_, ?_⟩
  · rw [Nd.enc_eq]; simp only [RL]; exact ⟨r0, r1, r2, r3, r4, trivial⟩
  · intro v hv
    simp only [List.mem_cons, List.not_mem_nil, or_false] at hv o0 o1 o2 o3 o4
    rcases hv with rfl | rfl | rfl | rfl | rfl
    · exact o0 _ rfl
    · exact o1 _ rfl
    · exact o2 _ rfl
    · exact o3 _ rfl
    · exact o4 _ rfl
  · simp only [List.map_cons, List.map_nil, Rows.uptoBulk, Rows.uptoBulkAll, Nd.wt]; omega
end
end Go.Proofs.Try

/-
  For any node: the law of what is read back of its text holds (TermBack), where what comes in is of bulk at most 1048576.
-/
namespace Go.Proofs.Try
open Go.Am Go.ChangeShapes Go.WideShapes Go.ChangeAt Go.RowKit
open Go.Proofs.Ytdggjnhfjimneaa

theorem termBack_contract (H : Type) (enc : TypeId × Value → H) (W : World) (base : Nat) (args : Array Value) (ds gs : List (DataW H)) (before : List MemPlace)
    (hval : ∀ (j : Nat) t v, f6.params[j]? = some t → args[j]? = some v → Value.okWide prog W .any base t v)
    (hW : DataW.Whole enc prog f6.params.toList Rows.termBackSpec.vars false W args.toList ds gs before) (hk : Rows.uptoSmall H (ds ++ gs) = true) :
    Calls prog 6 args W fun e W' => ∃ v, e = .returned v ∧ Rows.termBackSpec.post enc prog f6 false true false false W args v W' := by
  have hW' := hW
  obtain ⟨p, q, hA0, hV, rfl, hfz, hnd⟩ := hW
  have hA : DataW.TrodAll enc prog W 0 (fun _ => true) true f6.params.toList args.toList ds p := hA0
  rw [params6] at hA hval
  obtain ⟨v0, vs0, d0, ds0, p0, q0, hargs, rfl, rfl, ⟨n0, h0⟩, r0⟩ := trodAll_cons hA
  obtain ⟨rfl, rfl, rfl⟩ := trodAll_nil r0
  obtain rfl : args = #[v0] := by cases args; simp_all
  obtain ⟨rfl, rfl⟩ := trodVars_none hV
  obtain ⟨y0, a0, _, b0⟩ := rd_node n0 _ _ h0
  have hb : Rows.uptoBulkAll [d0] ≤ 1048576 := by have := of_decide_eq_true hk; simpa using this
  simp only [Rows.uptoBulkAll] at hb
  have k0 : y0.wt + 1 ≤ big := by simp only at b0; simp only [big]; omega
  have k1 : 26 * y0.wt + 4 ≤ big := by simp only at b0; simp only [big]; omega
  simp only [List.append_nil] at hW'
  refine law_calls (termBack_calls y0 noStore k0 k1) ?_ laid rowed fulls rfl underlying4 (by rw [params6]; decide +kernel) rfl ⟨rfl, rfl, rfl⟩ hW'
  simp only [RL, and_true]
  exact val_struct underlying32 (hval 0 32 v0 rfl rfl) a0

set_option maxRecDepth 100000 in
theorem termBack_lifted (os : Os) (started : os.Started) (H : Type) (enc : TypeId × Value → H) (F : Stop.Interp) :
    ReturnsInHanded {} checked os 6 .any ((Rows.OpenSpec.upto Rows.termBackSpec).pre6 enc prog f6 Rows.termBackUptoRow.domain false) (((Rows.OpenSpec.upto Rows.termBackSpec).at F).post enc prog f6 false true false false) := by
  refine returnsInHanded_of_cond (C := checked) (s := Rows.OpenSpec.upto Rows.termBackSpec) (k := Rows.uptoSmall) rfl own started (by kernel_rfl) func6
    (OpenSpec.witness (enc := enc) (C := checked) (s := Rows.OpenSpec.upto Rows.termBackSpec) (k := Rows.uptoSmall) rfl false ⟨#[], #[.agg #[.int .i64 0, .int .i64 0, .string ⟨#[]⟩, .slice none 0 0, .slice none 0 0]], []⟩ 8 (by kernel_rfl) (by kernel_rfl) (by kernel_rfl)
      (x := ([.agg [.lit (.int .i64 0), .lit (.int .i64 0), .lit (.string []), .nil, .nil]], [], [])) (by kernel_rfl) rfl (by kernel_rfl)) ?_
  intro W base args ds gs before hval hW _ hk _
  exact termBack_contract H enc W base args ds gs before hval hW hk

theorem termBack_proved : Rows.TermBackUptoSaid :=
  OpenClaim.holds_of_cond 6 f6 rfl rfl rfl rfl rfl rfl rfl ⟨rfl, rfl, rfl, rfl, rfl⟩ rfl rfl rfl rfl rfl (by kernel_rfl) func6 (by kernel_rfl)
    (of_decide_eq_true (by kernel_rfl)) (by unfold Func.isWrapper; first | (rw [if_pos (by decide +kernel)]; kernel_rfl) | (rw [if_neg (by decide +kernel)]; exact ⟨rfl, rfl⟩))
    (fun os started H enc _ F => termBack_lifted os started H enc F)
end Go.Proofs.Try

namespace Go.Proofs.Ytdggjnhfjimneaa
/-- For any node: the law of what is read back of its text holds (TermBack), where what comes in is of bulk at most 1048576. -/
theorem termBack_proved_holds : Rows.TermBackUptoSaid := Go.Proofs.Try.termBack_proved
end Go.Proofs.Ytdggjnhfjimneaa
