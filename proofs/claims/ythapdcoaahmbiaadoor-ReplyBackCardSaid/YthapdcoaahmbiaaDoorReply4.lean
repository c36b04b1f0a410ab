/-
  Part 4 of the proof of Reply: a logic over the model, the forms of the functions that the law reaches, and what they compute.
-/
import Derived.Test.YthapdcoaahmbiaaDoorReply3
set_option linter.unusedVariables false
set_option linter.unusedSimpArgs false
set_option linter.defProp false
set_option linter.unusedSectionVars false

namespace Go.Am
def delta (l : List Tok) (i : Nat) : Int := (if closing (kindAt l i) ≠ 0 then 1 else 0) - (if closesZ (kindAt l i) = true then 1 else 0)
theorem partnerF_succ {l : List Tok} {x n i : Nat} {d : Int} : partnerF l x (n + 1) i d = if d + delta l i = 0 then i else partnerF l x n (i + 1) (d + delta l i) := by
  simp only [partnerF, delta]
  have e : d + (if closing (kindAt l i) ≠ 0 then 1 else 0) - (if closesZ (kindAt l i) = true then 1 else 0) = d + ((if closing (kindAt l i) ≠ 0 then 1 else 0) - (if closesZ (kindAt l i) = true then 1 else 0)) := by omega
  rw [e]
  rfl
theorem delta_ge (l : List Tok) (i : Nat) : -1 ≤ delta l i := by unfold delta; split <;> split <;> omega
theorem delta_open {l : List Tok} {i : Nat} (h : closing (kindAt l i) ≠ 0) : delta l i = 1 := by
  unfold delta
  have : closesZ (kindAt l i) = false := by
    unfold closing at h
    unfold closesZ
    split at h
    · rename_i hk; rw [hk]; decide
    · split at h
      · rename_i hk; rcases hk with hk | hk <;> rw [hk] <;> decide
      · exact absurd rfl h
  rw [this, if_pos h]; simp
theorem partnerF_rng {l : List Tok} {x : Nat} : ∀ (n i : Nat) (d : Int), partnerF l x n i d = x ∨ i ≤ partnerF l x n i d
  | 0, _, _ => .inl rfl
  | n + 1, i, d => by
    rw [partnerF_succ]
    split
    · exact .inr (Nat.le_refl _)
    · rcases partnerF_rng n (i + 1) (d + delta l i) with h | h
      · exact .inl h
      · exact .inr (by omega)
theorem scan {l : List Tok} {x j : Nat} : ∀ (n i : Nat) (d : Int), i + n = l.length → 1 ≤ d → x < i → i ≤ j → j < partnerF l x n i d → ∃ d', 1 ≤ d' ∧ partnerF l x n i d = partnerF l x (l.length - j) j d'
  | 0, i, d, _, _, hx, hj, h => by simp only [partnerF] at h; omega
  | n + 1, i, d, hl, hd, hx, hj, h => by
    by_cases hij : i = j
    · subst hij
      exact ⟨d, hd, by rw [show l.length - i = n + 1 by omega]⟩
    rw [partnerF_succ] at h ⊢
    split at h
    · omega
    · rename_i he
      rw [if_neg he]
      have := delta_ge l i
      exact scan n (i + 1) _ (by omega) (by omega) (by omega) (by omega) h
theorem less {l : List Tok} {x y : Nat} : ∀ (n p : Nat) (a b : Int), 1 ≤ a → a < b → y < p → x < p → p ≤ partnerF l x n p b → partnerF l y n p a < partnerF l x n p b
  | 0, p, a, b, _, _, _, hx, h => by simp only [partnerF] at h; omega
  | n + 1, p, a, b, ha, hb, hy, hx, h => by
    have hd := delta_ge l p
    simp only [partnerF_succ] at h ⊢
    rw [if_neg (show ¬ b + delta l p = 0 by omega)] at h ⊢
    have h2 : p + 1 ≤ partnerF l x n (p + 1) (b + delta l p) := by rcases partnerF_rng (l := l) (x := x) n (p + 1) (b + delta l p) with e | e <;> omega
    split
    · omega
    · exact less n (p + 1) _ _ (by omega) (by omega) (by omega) (by omega) h2
theorem nest {l : List Tok} {i j : Nat} (hi : closing (kindAt l i) ≠ 0) (hj : closing (kindAt l j) ≠ 0) (h1 : i < j) (h2 : j < partner l i) (hl : i < l.length) : partner l j < partner l i := by
  have hp := partner_ge hl
  have e : partner l i = partnerF l i (l.length - i - 1) (i + 1) 1 := by
    unfold partner
    rw [show l.length - i = (l.length - i - 1) + 1 by omega, partnerF_succ, delta_open hi]
    simp
  rw [e] at h2
  obtain ⟨d, hd, e2⟩ := scan (l.length - i - 1) (i + 1) 1 (by omega) (by omega) (by omega) (by omega) h2
  have e3 : partnerF l i (l.length - j) j d = partnerF l i (l.length - j - 1) (j + 1) (d + 1) := by
    rw [show l.length - j = (l.length - j - 1) + 1 by omega, partnerF_succ, delta_open hj, if_neg (by omega)]
    simp
  have e4 : partner l j = partnerF l j (l.length - j - 1) (j + 1) 1 := by
    unfold partner
    rw [show l.length - j = (l.length - j - 1) + 1 by omega, partnerF_succ, delta_open hj]
    simp
  rw [e, e2, e3, e4]
  rw [e2, e3] at h2
  exact less _ _ _ _ (by omega) (by omega) (by omega) (by omega) (by rcases partnerF_rng (l := l) (x := i) (l.length - j - 1) (j + 1) (d + 1) with e | e <;> omega)
def Within (l : List Tok) (i to : Nat) : Prop := ∀ j, i ≤ j → j < to → closing (kindAt l j) ≠ 0 → partner l j < to
theorem treesF_many {l : List Tok} : ∀ (n i to : Nat), to ≤ l.length → Within l i to → manys (treesF l n i to) ≤ to - i
  | 0, _, _, _, _ => by simp [treesF, manys]
  | n + 1, i, to, hl, hw => by
    rw [treesF]
    split
    · rename_i hi
      split
      · rename_i hc
        have hp := partner_ge (l := l) (i := i) (by omega)
        have hq := hw i (Nat.le_refl _) hi hc
        have h1 := treesF_many n (i + 1) (partner l i) (by omega) fun j a b c => nest hc c (by omega) b (by omega)
        have h2 := treesF_many n (partner l i + 1) to hl fun j a b c => hw j (by omega) b c
        simp only [manys, Tree.many]; omega
      · have h2 := treesF_many n (i + 1) to hl fun j a b c => hw j (by omega) b c
        simp only [manys, Tree.many]; omega
    · simp [manys]
def TokOk (t : Tok) : Prop := (t.kind = 97 ∧ nameR t.text = true) ∨ (t.kind ≠ 97 ∧ t.text = [UInt8.ofNat t.kind.toNat])
theorem lexF_ok : ∀ (n p : Nat) (r : List UInt8) (acc : List Tok), (∀ t ∈ acc, TokOk t) → ∀ t ∈ (lexF n p r acc).1, TokOk t
  | 0, _, r, acc, h => by cases r <;> simpa [lexF] using h
  | n + 1, p, [], acc, h => by simpa [lexF] using h
  | n + 1, p, c :: r, acc, h => by
    simp only [lexF]
    split
    · exact h
    · split
      · rename_i hr
        refine lexF_ok n _ _ _ fun t ht => ?_
        rcases List.mem_append.1 ht with ht | ht
        · exact h t ht
        · rw [List.mem_singleton.1 ht]; exact .inl ⟨rfl, hr.2⟩
      · split
        · rename_i hs
          refine lexF_ok n _ _ _ fun t ht => ?_
          rcases List.mem_append.1 ht with ht | ht
          · exact h t ht
          · rw [List.mem_singleton.1 ht]
            refine .inr ⟨fun e => ?_, ?_⟩
            · simp only at e
              rw [e] at hs
              revert hs; decide
            · simp
        · split
          · exact lexF_ok n _ _ _ h
          · simp
mutual
def Tree.Good : Tree → Prop
  | .mk t ks _ => TokOk t ∧ (closing t.kind = 0 → ks = []) ∧ Goods ks
def Goods : List Tree → Prop
  | [] => True
  | t :: ts => t.Good ∧ Goods ts
end
theorem goods_append : ∀ {a b : List Tree}, Goods (a ++ b) ↔ Goods a ∧ Goods b
  | [], b => by simp [Goods]
  | t :: ts, b => by simp only [List.cons_append, Goods, goods_append (a := ts), and_assoc]
theorem good_eq (t : Tree) : t.Good ↔ TokOk t.tok ∧ (closing t.tok.kind = 0 → t.kids = []) ∧ Goods t.kids := by cases t; simp only [Tree.Good, Tree.tok, Tree.kids]
theorem treesF_good {l : List Tok} (h : ∀ t ∈ l, TokOk t) : ∀ (n i to : Nat), to ≤ l.length → Goods (treesF l n i to)
  | 0, _, _, _ => by simp [treesF, Goods]
  | n + 1, i, to, hl => by
    rw [treesF]
    split
    · rename_i hi
      have ht : TokOk (tokN l i) := by
        have e : tokN l i = l[i] := by simp [tokN, List.getElem?_eq_getElem (show i < l.length by omega)]
        rw [e]; exact h _ (List.getElem_mem _)
      have hk : (tokN l i).kind = kindAt l i := by simp only [tokN, kindAt]; split <;> rfl
      split
      · rename_i hc
        have hp := partner_ge (l := l) (i := i) (by omega)
        simp only [Goods, Tree.Good]
        exact ⟨⟨ht, fun e => absurd (hk ▸ e) hc, treesF_good h n _ _ (by omega)⟩, treesF_good h n _ _ hl⟩
      · simp only [Goods, Tree.Good]
        exact ⟨⟨ht, fun _ => trivial, trivial⟩, treesF_good h n _ _ hl⟩
    · exact trivial
theorem line_good (s : List UInt8) : Goods (treeR (lexR s).1).1 := by
  unfold treeR
  split
  · exact trivial
  · exact treesF_good (lexF_ok _ _ _ _ (by simp)) _ _ _ (Nat.le_refl _)
theorem line_many (s : List UInt8) : manys (treeR (lexR s).1).1 ≤ s.length := by
  have hl := lexR_len s
  unfold treeR
  split
  · simp [manys]
  · have := treesF_many (l := (lexR s).1) (lexR s).1.length 0 (lexR s).1.length (Nat.le_refl _) fun j _ hj _ => (partner_ge hj).2
    simp only; omega
theorem tok_len {t : Tok} (h : TokOk t) : t.text.length ≤ 16 := by
  rcases h with ⟨_, h⟩ | ⟨_, h⟩
  · unfold nameR at h; simp only [Bool.and_eq_true, decide_eq_true_eq] at h; exact h.1
  · rw [h]; simp
end Go.Am

namespace Go.Am
structure Eats (r r' : Rdr) (seg : List Tree) : Prop where
  ex : ∃ pre post, r.l = pre ++ seg ++ post ∧ r.at_ = (pre.length : Nat) ∧ r'.at_ = ((pre ++ seg).length : Nat)
  l : r'.l = r.l
  b : r.bad = none
  b' : r'.bad = none
theorem Eats.trans {r r' r'' : Rdr} {a b : List Tree} (h : Eats r r' a) (k : Eats r' r'' b) : Eats r r'' (a ++ b) := by
  obtain ⟨pre, post, e1, e2, e3⟩ := h.ex
  obtain ⟨pre', post', f1, f2, f3⟩ := k.ex
  refine ⟨⟨pre, post', ?_, e2, ?_⟩, k.l.trans h.l, h.b, k.b'⟩
  · have hl : (pre ++ a).length = pre'.length := by omega
    have : pre ++ a ++ post = pre' ++ (b ++ post') := by rw [← e1, ← h.l, f1, List.append_assoc]
    obtain ⟨g1, g2⟩ := List.append_inj this hl
    rw [e1, g2]; simp
  · rw [f3]
    have hl : (pre ++ a).length = pre'.length := by omega
    simp only [List.length_append] at hl ⊢
    omega
theorem Eats.good {r r' : Rdr} {a : List Tree} (h : Eats r r' a) (hg : Goods r.l) : Goods a := by
  obtain ⟨pre, post, e1, _, _⟩ := h.ex
  rw [e1, goods_append, goods_append] at hg
  exact hg.1.2
theorem take_eats {r : Rdr} {k : Int} (h : (r.take k).2.bad = none) : Eats r (r.take k).2 [(r.take k).1] ∧ (r.take k).1.tok.kind = k := by
  rcases r.take_at k with ⟨hs, h1, h2, h3, h4⟩ | ⟨_, _, h1⟩
  · have hs' := hs
    simp only [Rdr.sees, Rdr.ok, isK, Bool.and_eq_true, decide_eq_true_eq, Option.isNone_iff_eq_none] at hs'
    have hlt : r.at_.toNat < r.l.length := by omega
    have e : (r.take k).1 = r.l[r.at_.toNat] := by simp [Rdr.take, hs, List.getD, List.getElem?_eq_getElem hlt]
    refine ⟨⟨⟨r.l.take r.at_.toNat, r.l.drop (r.at_.toNat + 1), ?_, ?_, ?_⟩, r.take_l k, hs'.1, h2⟩, ?_⟩
    · rw [e, List.append_assoc, List.singleton_append, ← List.drop_eq_getElem_cons hlt, List.take_append_drop]
    · rw [List.length_take]; omega
    · rw [h1, List.length_append, List.length_take, List.length_singleton]; omega
    · rw [e]
      have := hs'.2.2
      rw [List.getElem?_eq_getElem hlt] at this
      simpa using this
  · exact absurd h h1
def szs (l : List Tree) : Nat := 26 * manys l
theorem szs_append (a b : List Tree) : szs (a ++ b) = szs a + szs b := by simp only [szs, manys_append]; omega
theorem szs_one (t : Tree) : szs [t] = 26 + szs t.kids := by simp only [szs, manys, many_eq]; omega
theorem textF_sign {t : Tok} (ht : t.kind ≠ 97) : ∀ (a : List Tok) (k : Option Int) (b : List Tok), textF k (a ++ t :: b) = textF k a ++ t.text ++ textF none b
  | [], k, b => by
    simp only [List.nil_append, textF, ht, and_false, if_false]
    cases b with
    | nil => rfl
    | cons u us => simp only [textF, Option.some.injEq, ht, false_and, if_false, reduceCtorEq]
  | x :: xs, k, b => by simp only [List.cons_append, textF, textF_sign ht xs (some x.kind) b, List.append_assoc]
theorem textR_sign {t : Tok} (ht : t.kind ≠ 97) (a b : List Tok) : textR (a ++ t :: b) = textR a ++ t.text ++ textR b := textF_sign ht a none b
theorem flats_append : ∀ a b : List Tree, flats (a ++ b) = flats a ++ flats b
  | [], b => rfl
  | t :: ts, b => by simp only [List.cons_append, flats, flats_append ts b, List.append_assoc]
theorem flats_one (t : Tree) : flats [t] = t.tok :: (if closing t.tok.kind ≠ 0 then flats t.kids ++ [⟨closing t.tok.kind, [UInt8.ofNat (closing t.tok.kind).toNat], t.fin⟩] else []) := by
  cases t; simp only [flats, Tree.flat, List.append_nil, Tree.tok, Tree.kids, Tree.fin]
  rfl
theorem text_mid {t : Tree} (hk : t.tok.kind ≠ 97) (hc : closing t.tok.kind = 0) (a b : List Tree) : textR (flats (a ++ [t] ++ b)) = textR (flats a) ++ t.tok.text ++ textR (flats b) := by
  rw [flats_append, flats_append, flats_one, hc]
  simp only [ne_eq, not_true_eq_false, if_false, List.append_assoc, List.singleton_append]
  rw [← List.append_assoc (textR (flats a))]
  exact textR_sign hk _ _
theorem text_name {t : Tree} (hk : t.tok.kind = 97) : textR (flats [t]) = t.tok.text := by
  rw [flats_one, hk, show closing 97 = 0 from rfl]
  simp [textR, textF]
theorem text_in {t : Tree} (hc : closing t.tok.kind ≠ 0) : textR (flats [t]) = t.tok.text ++ textR (flats t.kids) ++ [UInt8.ofNat (closing t.tok.kind).toNat] := by
  have hk : t.tok.kind ≠ 97 := fun e => hc (by rw [e]; rfl)
  have hk2 : closing t.tok.kind ≠ 97 := by unfold closing; split; omega; split; omega; omega
  rw [flats_one, if_pos hc]
  have h1 := textR_sign hk [] (flats t.kids ++ [⟨closing t.tok.kind, [UInt8.ofNat (closing t.tok.kind).toNat], t.fin⟩])
  rw [List.nil_append] at h1
  rw [h1, textR_sign hk2]
  simp [textR, textF]
theorem text_snoc {t : Tree} (hc : closing t.tok.kind ≠ 0) (a : List Tree) : textR (flats (a ++ [t])) = textR (flats a) ++ textR (flats [t]) := by
  have hk : t.tok.kind ≠ 97 := fun e => hc (by rw [e]; rfl)
  rw [flats_append, flats_one]
  have h1 := textR_sign hk [] (if closing t.tok.kind ≠ 0 then flats t.kids ++ [⟨closing t.tok.kind, [UInt8.ofNat (closing t.tok.kind).toNat], t.fin⟩] else [])
  rw [List.nil_append] at h1
  rw [textR_sign hk, h1, List.append_assoc]; rfl
def Sound {β : Type} (one : Rdr → β × Rdr) (T : β → List UInt8) (Q : β → Prop) (S : β → Nat) : Prop :=
  ∀ r, Goods r.l → (one r).2.bad = none → ∃ seg, Eats r (one r).2 seg ∧ textR (flats seg) = T (one r).1 ∧ Q (one r).1 ∧ S (one r).1 ≤ szs seg
theorem goG_bad {β : Type} {step : Rdr × List β → Rdr × List β} : ∀ {n : Nat} {a : Rdr × List β}, (goG step n a).1.bad = none → a.1.bad = none
  | 0, a, h => h
  | n + 1, a, h => by
    rw [goG] at h
    split at h
    · rename_i hs
      simp only [Rdr.sees, Rdr.ok, Bool.and_eq_true, Option.isNone_iff_eq_none] at hs
      exact hs.1
    · exact h
section
variable {β : Type} {one : Rdr → β × Rdr} {T : β → List UInt8} {Q : β → Prop} {S : β → Nat}
structure Has (T : β → List UInt8) (Q : β → Prop) (S : β → Nat) (seg : List Tree) (xs : List β) : Prop where
  t : textR (flats seg) = joinC (xs.map T)
  q : ∀ x ∈ xs, Q x
  s : (xs.map S).sum ≤ szs seg
  n : 0 < xs.length
theorem goG_sound (hs : Sound one T Q S) {r : Rdr} (hg : Goods r.l) : ∀ {n : Nat} {a : Rdr × List β} {seg : List Tree}, Eats r a.1 seg → Has T Q S seg a.2 → (goG (oStep one) n a).1.bad = none →
    ∃ seg', Eats r (goG (oStep one) n a).1 seg' ∧ Has T Q S seg' (goG (oStep one) n a).2
  | 0, a, seg, h, k, _ => ⟨seg, h, k⟩
  | n + 1, a, seg, h, k, hb => by
    rw [goG] at hb ⊢
    split
    · rename_i hsee
      rw [if_pos hsee] at hb
      have hb1 := goG_bad hb
      have hgl : Goods (a.1.take 44).2.l := by rw [Rdr.take_l, h.l]; exact hg
      obtain ⟨sg, e1, e2, e3, e4⟩ := hs (a.1.take 44).2 hgl hb1
      obtain ⟨t1, t2⟩ := take_eats e1.b
      refine goG_sound hs hg (seg := seg ++ [(a.1.take 44).1] ++ sg) ?_ ?_ hb
      · exact (h.trans t1).trans e1
      · have hgood : Goods [(a.1.take 44).1] := t1.good (by rw [h.l]; exact hg)
        have hok := ((good_eq _).1 hgood.1).1
        have htx : (a.1.take 44).1.tok.text = [44] := by
          rcases hok with ⟨h1, _⟩ | ⟨_, h1⟩
          · omega
          · rw [h1, t2]; rfl
        refine ⟨?_, ?_, ?_, ?_⟩
        · rw [text_mid (by rw [t2]; decide) (by rw [t2]; rfl), k.t, e2, htx]
          simp only [oStep, List.map_append, List.map_cons, List.map_nil]
          rw [joinC_snoc, if_pos (by simpa using k.n)]
        · intro x hx
          rcases List.mem_append.1 hx with hx | hx
          · exact k.q x hx
          · rw [List.mem_singleton.1 hx]; exact e3
        · have := k.s
          simp only [oStep, List.map_append, List.map_cons, List.map_nil, List.sum_append, List.sum_cons, List.sum_nil, szs_append]
          omega
        · simp [oStep]
    · exact ⟨seg, h, k⟩
theorem some_sound (hs : Sound one T Q S) {r : Rdr} (hg : Goods r.l) (hb : (someG (oStep one) r).1.bad = none) : ∃ seg, Eats r (someG (oStep one) r).1 seg ∧ Has T Q S seg (someG (oStep one) r).2 := by
  unfold someG at hb ⊢
  have hb1 := goG_bad hb
  obtain ⟨sg, e1, e2, e3, e4⟩ := hs r hg hb1
  refine goG_sound hs hg e1 ?_ hb
  refine ⟨?_, ?_, ?_, ?_⟩
  · simp only [oStep, List.nil_append, List.map_cons, List.map_nil, joinC, List.flatMap_nil, List.append_nil]; exact e2
  · intro x hx
    simp only [oStep, List.nil_append, List.mem_singleton] at hx
    rw [hx]; exact e3
  · simp only [oStep, List.nil_append, List.map_cons, List.map_nil, List.sum_cons, List.sum_nil]; omega
  · simp [oStep]
theorem close_ok {i : Rdr} (h : i.close.bad = none) : i.bad = none ∧ ¬ i.at_ < i.l.length := by
  unfold Rdr.close at h
  split at h
  · exact absurd h i.fail_ok
  · rename_i hc
    refine ⟨h, fun hl => hc ⟨by simp [Rdr.ok, h], hl⟩⟩
theorem all_in {t : Tree} {i : Rdr} {seg : List Tree} (h : Eats t.inner i seg) (hc : i.close.bad = none) : seg = t.kids := by
  obtain ⟨pre, post, e1, e2, e3⟩ := h.ex
  obtain ⟨_, h2⟩ := close_ok hc
  have hp : pre = [] := by
    have : t.inner.at_ = 0 := rfl
    rw [this] at e2
    exact List.length_eq_zero_iff.1 (by omega)
  subst hp
  have hq : post = [] := by
    rw [h.l, e3, e1] at h2
    simp only [List.nil_append, List.length_append] at h2
    exact List.length_eq_zero_iff.1 (by omega)
  subst hq
  simpa [Tree.inner] using e1.symm
theorem bracket_sound (hs : Sound one T Q S) {k : Int} {e : Bool} {r : Rdr} (hg : Goods r.l) (hb : (r.bracket (oStep one) k e).2.bad = none) :
    ∃ t, Eats r (r.bracket (oStep one) k e).2 [t] ∧ t.tok.kind = k ∧ textR (flats t.kids) = joinC ((r.bracket (oStep one) k e).1.1.map T) ∧ (∀ x ∈ (r.bracket (oStep one) k e).1.1, Q x) ∧ ((r.bracket (oStep one) k e).1.1.map S).sum ≤ szs t.kids ∧
      (e = false → 0 < (r.bracket (oStep one) k e).1.1.length) := by
  unfold Rdr.bracket at hb ⊢
  split
  · rename_i hok
    rw [if_pos hok] at hb
    have hb1 : (r.take k).2.bad = none := by simpa [Rdr.ok] using hok
    obtain ⟨t1, t2⟩ := take_eats hb1
    have hgood : (r.take k).1.Good := (t1.good hg).1
    have hgk : Goods (r.take k).1.kids := ((good_eq _).1 hgood).2.2
    have hb2 : (Rdr.inside (oStep one) e (r.take k).1).1.close.bad = none := hb
    refine ⟨(r.take k).1, ⟨t1.ex, t1.l, t1.b, hb⟩, t2, ?_⟩
    simp only
    generalize (r.take k).1 = t at *
    unfold Rdr.inside at hb2 ⊢
    split
    · rename_i he
      have hk : t.kids = [] := List.length_eq_zero_iff.1 he.2
      rw [hk]
      refine ⟨rfl, by simp, by simp, fun h => ?_⟩
      rw [h] at he; simp at he
    · rename_i he
      rw [if_neg he] at hb2
      obtain ⟨seg, e1, e2⟩ := some_sound hs (r := t.inner) hgk (close_ok hb2).1
      have hseg := all_in e1 hb2
      subst hseg
      exact ⟨e2.t, e2.q, e2.s, fun _ => e2.n⟩
  · rename_i hok
    rw [if_neg hok] at hb
    exact absurd hb (by simpa [Rdr.ok] using hok)
end
end Go.Am

namespace Go.Am
theorem q_set {p : Int} {ws : List Word} (h : rightW ws = true) : (Nd.mk 3 p [] ws []).constQ = true := by
  rw [Nd.constQ_eq]; simp [Nd.kind, Nd.text, Nd.names, Nd.kids, h]
theorem q_tuple {p : Int} {ks : List Nd} (h : ∀ x ∈ ks, x.constQ = true) (h0 : 0 < ks.length) : (Nd.mk 4 p [] [] ks).constQ = true := by
  rw [Nd.constQ_eq]; simp [Nd.bareQ, Nd.kind, Nd.text, Nd.names, Nd.kids]
  exact ⟨h0, h⟩
theorem q_grid {p : Int} {ks : List Nd} (h : ∀ x ∈ ks, x.ruleQ = true) : (Nd.mk 5 p [] [] ks).constQ = true := by
  rw [Nd.constQ_eq]; simp [Nd.bareQ, Nd.kind, Nd.text, Nd.names, Nd.kids]
  exact h
theorem q_point {n : Nd} (hk : n.kind = 2) (h : n.leafQ = true) : n.constQ = true := by rw [Nd.constQ_eq, if_pos hk]; exact h
theorem q_var {n : Nd} (hk : n.kind = 1) (h : n.leafQ = true) : n.labelQ = true := by rw [Nd.labelQ_eq, if_pos hk]; exact h
theorem q_const {p : Int} {c : Nd} (h : c.constQ = true) : (Nd.mk 7 p [] [] [c]).labelQ = true := by
  rw [Nd.labelQ_eq]; simp [Nd.bareQ, Nd.kind, Nd.text, Nd.names, Nd.kids, headQ, h]
theorem q_join {k p : Int} {ks : List Nd} (hk : k = 8 ∨ k = 9) (h : ∀ x ∈ ks, x.labelQ = true) (h0 : 0 < ks.length) : (Nd.mk k p [] [] ks).labelQ = true := by
  rw [Nd.labelQ_eq]
  rcases hk with rfl | rfl
  all_goals
    simp [Nd.bareQ, Nd.kind, Nd.text, Nd.names, Nd.kids]
    exact ⟨h0, h⟩
theorem sign_text {t : Tree} {k : Int} (hg : t.Good) (hk : t.tok.kind = k) (h97 : k ≠ 97) : t.tok.text = [UInt8.ofNat k.toNat] := by
  rcases ((good_eq _).1 hg).1 with ⟨h, _⟩ | ⟨_, h⟩
  · omega
  · rw [h, hk]
theorem tree_len {t : Tree} (hg : t.Good) : t.tok.text.length ≤ 16 := tok_len ((good_eq _).1 hg).1
def SW (w : Word) : Nat := w.text.length + 1
def SN (n : Nd) : Nat := n.wt + 1
theorem word_sound : Sound Rdr.word Word.text (fun w => nameR w.text = true) SW := by
  intro r hg hb
  obtain ⟨t1, t2⟩ := take_eats (show (r.take 97).2.bad = none from hb)
  have hgood := (t1.good hg).1
  refine ⟨[(r.take 97).1], t1, text_name t2, ?_, ?_⟩
  · rcases ((good_eq _).1 hgood).1 with ⟨_, h⟩ | ⟨h, _⟩
    · exact h
    · exact absurd t2 h
  · have := tree_len hgood
    rw [szs_one]; simp only [SW, Rdr.word]; omega
theorem leaf_sound {k : Int} (hk : k = 1 ∨ k = 2) : Sound (Rdr.leaf k) Nd.txt (fun n => n.kind = k ∧ n.leafQ = true) SN := by
  intro r hg hb
  obtain ⟨seg, e1, e2, e3, e4⟩ := word_sound r hg hb
  refine ⟨seg, e1, ?_, ⟨rfl, ?_⟩, ?_⟩
  · rw [e2]; simp only [Rdr.leaf]; rw [Nd.txt, if_pos hk]
  · simp only [Rdr.leaf, Nd.leafQ, Nd.text, Nd.names, Nd.kids]; rw [e3]; rfl
  · simp only [SW] at e4
    simp only [Rdr.leaf, SN, Nd.wt, wsum, wts, List.map_nil, List.sum_nil]
    obtain ⟨t1, t2⟩ := take_eats (show (r.take 97).2.bad = none from hb)
    have hl := tree_len (t1.good hg).1
    have h0 : 26 ≤ szs seg := by
      obtain ⟨pre, post, q1, q2, q3⟩ := e1.ex
      rcases seg with _ | ⟨t, ts⟩
      · exfalso
        obtain ⟨p, q, r1, r2, r3⟩ := t1.ex
        have : r.word.2.at_ = (r.take 97).2.at_ := rfl
        simp only [List.length_append, List.length_nil, List.length_singleton] at q3 r3
        omega
      · simp only [szs, manys]; omega
    have : r.word.1.text.length ≤ 16 := hl
    omega
theorem wsum_S (l : List Word) : (l.map SW).sum = wsum l := rfl
theorem wts_S (l : List Nd) : (l.map SN).sum = wts l := by rw [wts_map]; rfl
theorem rightW_of {l : List Word} (h : ∀ w ∈ l, nameR w.text = true) : rightW l = true := List.all_eq_true.2 h
theorem words_sound {e : Bool} {r : Rdr} (hg : Goods r.l) (hb : (r.words e).2.bad = none) :
    ∃ t, Eats r (r.words e).2 [t] ∧ t.Good ∧ textR (flats [t]) = [123] ++ wtext (r.words e).1.1 ++ [125] ∧ rightW (r.words e).1.1 = true ∧ wsum (r.words e).1.1 + 26 ≤ szs [t] := by
  obtain ⟨t, h1, h2, h3, h4, h5, _⟩ := bracket_sound (one := Rdr.word) word_sound (k := 123) (e := e) hg hb
  have hgood := (h1.good hg).1
  refine ⟨t, h1, hgood, ?_, rightW_of h4, ?_⟩
  · rw [text_in (by rw [h2]; decide), h3, sign_text hgood h2 (by decide), h2]; rfl
  · rw [wsum_S] at h5
    rw [szs_one]
    have e : wsum (r.words e).1.1 = wsum (r.bracket (oStep Rdr.word) 123 e).1.1 := rfl
    omega
theorem nodes_sound {one : Rdr → Nd × Rdr} {Q : Nd → Prop} (hs : Sound one Nd.txt Q SN) {k : Int} (hk : k = 40 ∨ k = 91) {e : Bool} {r : Rdr} (hg : Goods r.l) (hb : (r.nodes one k e).2.bad = none) :
    ∃ t, Eats r (r.nodes one k e).2 [t] ∧ t.Good ∧ textR (flats [t]) = [UInt8.ofNat k.toNat] ++ joinC (txts (r.nodes one k e).1.1) ++ [UInt8.ofNat (closing k).toNat] ∧ (∀ x ∈ (r.nodes one k e).1.1, Q x) ∧ wts (r.nodes one k e).1.1 + 26 ≤ szs [t] ∧
      (e = false → 0 < (r.nodes one k e).1.1.length) := by
  obtain ⟨t, h1, h2, h3, h4, h5, h6⟩ := bracket_sound hs (k := k) (e := e) hg hb
  have hgood := (h1.good hg).1
  refine ⟨t, h1, hgood, ?_, h4, ?_, h6⟩
  · rw [text_in (by rw [h2]; rcases hk with rfl | rfl <;> decide), h3, sign_text hgood h2 (by omega), h2, txts_map]; rfl
  · rw [wts_S] at h5
    rw [szs_one]
    have e : wts (r.nodes one k e).1.1 = wts (r.bracket (oStep one) k e).1.1 := rfl
    omega
theorem rule_sound : Sound Rdr.rule Nd.txt (fun n => n.ruleQ = true) SN := by
  intro r hg hb
  have hb' : ((r.word.2.take 58).2.words true).2.bad = none := hb
  have l1 : r.word.2.l = r.l := r.take_l 97
  have l2 : (r.word.2.take 58).2.l = r.l := (Rdr.take_l _ 58).trans l1
  obtain ⟨t, h1, h2, h3, h4, h5⟩ := words_sound (by rw [l2]; exact hg) hb'
  obtain ⟨c1, c2⟩ := take_eats h1.b
  obtain ⟨seg, e1, e2, e3, e4⟩ := word_sound r hg c1.b
  have hgc := (c1.good (by rw [l1]; exact hg)).1
  refine ⟨seg ++ [(r.word.2.take 58).1] ++ [t], (e1.trans c1).trans h1, ?_, ?_, ?_⟩
  · rw [text_mid (by rw [c2]; decide) (by rw [c2]; rfl), e2, h3, sign_text hgc c2 (by decide)]
    simp only [Rdr.rule]
    rw [Nd.txt]; simp
  · simp only [Rdr.rule, Nd.ruleQ, Nd.kind, Nd.text, Nd.names, Nd.kids]
    rw [e3, h4]; rfl
  · simp only [Rdr.rule, SN, Nd.wt, wts, szs_append, szs_one]
    simp only [SW] at e4
    simp only [szs_one] at h5
    omega
theorem constant_sound : ∀ n, Sound (Rdr.constant n) Nd.txt (fun m => m.constQ = true) SN
  | 0 => fun r hg hb => by
    obtain ⟨seg, e1, e2, ⟨e3, e5⟩, e4⟩ := leaf_sound (.inr rfl) r hg hb
    refine ⟨seg, e1, e2, ?_, e4⟩
    exact q_point e3 e5
  | n + 1 => fun r hg hb => by
    simp only [Rdr.constant] at hb ⊢
    split
    · rename_i hs
      rw [if_pos hs] at hb
      obtain ⟨t, h1, h2, h3, h4, h5⟩ := words_sound hg hb
      refine ⟨[t], h1, ?_, ?_, ?_⟩
      · rw [h3, Nd.txt]; simp
      · exact q_set h4
      · simp only [SN, Nd.wt, wts, List.length_nil]; omega
    · rename_i hs
      rw [if_neg hs] at hb
      split
      · rename_i hs
        rw [if_pos hs] at hb
        obtain ⟨t, h1, h2, h3, h4, h5, h6⟩ := nodes_sound (constant_sound n) (.inl rfl) hg hb
        refine ⟨[t], h1, ?_, ?_, ?_⟩
        · rw [h3, Nd.txt]; simp only [show (closing 40).toNat = 41 from rfl]; rfl
        · exact q_tuple h4 (h6 rfl)
        · simp only [SN, Nd.wt, wsum, List.map_nil, List.sum_nil, List.length_nil]; omega
      · rename_i hs
        rw [if_neg hs] at hb
        split
        · rename_i hs
          rw [if_pos hs] at hb
          obtain ⟨t, h1, h2, h3, h4, h5, h6⟩ := nodes_sound rule_sound (.inr rfl) hg hb
          refine ⟨[t], h1, ?_, ?_, ?_⟩
          · rw [h3, Nd.txt]; simp only [show (closing 91).toNat = 93 from rfl]; rfl
          · exact q_grid h4
          · simp only [SN, Nd.wt, wsum, List.map_nil, List.sum_nil, List.length_nil]; omega
        · rename_i hs
          rw [if_neg hs] at hb
          obtain ⟨seg, e1, e2, ⟨e3, e5⟩, e4⟩ := leaf_sound (.inr rfl) r hg hb
          refine ⟨seg, e1, e2, ?_, e4⟩
          exact q_point e3 e5
theorem atom_sound (n : Nat) : Sound (Rdr.atom n) Nd.txt (fun m => m.atomQ = true) SN := by
  intro r hg hb
  simp only [Rdr.atom] at hb ⊢
  split
  · rename_i hs
    rw [if_pos hs] at hb
    have l1 : (r.take 35).2.l = r.l := r.take_l 35
    obtain ⟨seg, e1, e2, e3, e4⟩ := constant_sound n (r.take 35).2 (by rw [l1]; exact hg) hb
    obtain ⟨c1, c2⟩ := take_eats e1.b
    have hgc := (c1.good hg).1
    refine ⟨[(r.take 35).1] ++ seg, c1.trans e1, ?_, ?_, ?_⟩
    · have := text_mid (t := (r.take 35).1) (by rw [c2]; decide) (by rw [c2]; rfl) [] seg
      rw [List.nil_append] at this
      rw [this, sign_text hgc c2 (by decide), e2, Nd.txt]; simp [flats, textR, textF, txts, headT]
    · simp only [Nd.atomQ, q_const e3, Nd.kind]; rfl
    · simp only [SN, Nd.wt, wsum, wts, List.map_nil, List.sum_nil, List.length_nil, szs_append, szs_one] at e4 ⊢; omega
  · rename_i hs
    rw [if_neg hs] at hb
    obtain ⟨seg, e1, e2, ⟨e3, e5⟩, e4⟩ := leaf_sound (.inl rfl) r hg hb
    refine ⟨seg, e1, e2, ?_, e4⟩
    simp only [Nd.atomQ, q_var e3 e5, e3]; rfl
theorem atom_label {n : Nd} (h : n.atomQ = true) : n.labelQ = true := by simp only [Nd.atomQ, Bool.and_eq_true] at h; exact h.2
theorem label_sound : ∀ n, Sound (Rdr.label n) Nd.txt (fun m => m.labelQ = true) SN
  | 0 => fun r hg hb => by
    obtain ⟨seg, e1, e2, ⟨e3, e5⟩, e4⟩ := leaf_sound (.inl rfl) r hg hb
    refine ⟨seg, e1, e2, ?_, e4⟩
    exact q_var e3 e5
  | n + 1 => fun r hg hb => by
    simp only [Rdr.label] at hb ⊢
    split
    · rename_i hs
      rw [if_pos hs] at hb
      have l1 : (r.take 43).2.l = r.l := r.take_l 43
      obtain ⟨t, h1, h2, h3, h4, h5, h6⟩ := nodes_sound (label_sound n) (.inl rfl) (by rw [l1]; exact hg) hb
      obtain ⟨c1, c2⟩ := take_eats h1.b
      have hgc := (c1.good hg).1
      refine ⟨[(r.take 43).1] ++ [t], c1.trans h1, ?_, ?_, ?_⟩
      · have := text_mid (t := (r.take 43).1) (by rw [c2]; decide) (by rw [c2]; rfl) [] [t]
        rw [List.nil_append] at this
        rw [this, sign_text hgc c2 (by decide), h3, Nd.txt]; simp only [show (closing 40).toNat = 41 from rfl]; rfl
      · exact q_join (.inl rfl) h4 (h6 rfl)
      · simp only [SN, Nd.wt, wsum, List.map_nil, List.sum_nil, List.length_nil, szs_append, szs_one] at h5 ⊢; omega
    · rename_i hs
      rw [if_neg hs] at hb
      split
      · rename_i hs
        rw [if_pos hs] at hb
        have l1 : (r.take 38).2.l = r.l := r.take_l 38
        obtain ⟨t, h1, h2, h3, h4, h5, h6⟩ := nodes_sound (label_sound n) (.inl rfl) (by rw [l1]; exact hg) hb
        obtain ⟨c1, c2⟩ := take_eats h1.b
        have hgc := (c1.good hg).1
        refine ⟨[(r.take 38).1] ++ [t], c1.trans h1, ?_, ?_, ?_⟩
        · have := text_mid (t := (r.take 38).1) (by rw [c2]; decide) (by rw [c2]; rfl) [] [t]
          rw [List.nil_append] at this
          rw [this, sign_text hgc c2 (by decide), h3, Nd.txt]; simp only [show (closing 40).toNat = 41 from rfl]; rfl
        · exact q_join (.inr rfl) h4 (h6 rfl)
        · simp only [SN, Nd.wt, wsum, List.map_nil, List.sum_nil, List.length_nil, szs_append, szs_one] at h5 ⊢; omega
      · rename_i hs
        rw [if_neg hs] at hb
        obtain ⟨seg, e1, e2, e3, e4⟩ := atom_sound (n + 1) r hg hb
        exact ⟨seg, e1, e2, atom_label e3, e4⟩
theorem field_sound (n : Nat) : Sound (Rdr.field n) Nd.txt (fun m => m.fieldQ = true) SN := by
  intro r hg hb
  have hb' : ((r.word.2.take 61).2.atom n).2.bad = none := hb
  have l1 : r.word.2.l = r.l := r.take_l 97
  have l2 : (r.word.2.take 61).2.l = r.l := (Rdr.take_l _ 61).trans l1
  obtain ⟨sg, h1, h2, h3, h4⟩ := atom_sound n (r.word.2.take 61).2 (by rw [l2]; exact hg) hb'
  obtain ⟨c1, c2⟩ := take_eats h1.b
  obtain ⟨seg, e1, e2, e3, e4⟩ := word_sound r hg c1.b
  have hgc := (c1.good (by rw [l1]; exact hg)).1
  refine ⟨seg ++ [(r.word.2.take 61).1] ++ sg, (e1.trans c1).trans h1, ?_, ?_, ?_⟩
  · rw [text_mid (by rw [c2]; decide) (by rw [c2]; rfl), e2, h2, sign_text hgc c2 (by decide)]
    simp only [Rdr.field]
    rw [Nd.txt]; simp [txts, headT]
  · simp only [Rdr.field, Nd.fieldQ, Nd.kind, Nd.text, Nd.names, Nd.kids, headQ]
    rw [e3, h3]; rfl
  · simp only [Rdr.field, SN, Nd.wt, wts, wsum, List.map_nil, List.sum_nil, szs_append, szs_one] at h4 ⊢
    simp only [SW] at e4
    omega
end Go.Am

namespace Go.Am
theorem q_row {p : Int} {ws : List Word} {ks : List Nd} (h1 : ws.length ≤ 1) (h2 : rightW ws = true) (h3 : ∀ x ∈ ks, x.fieldQ = true) : (Nd.mk 10 p [] ws ks).rowQ = true := by
  unfold Nd.rowQ
  simp [Nd.kind, Nd.text, Nd.names, Nd.kids, h2]
  exact ⟨decide_eq_true (by omega), h3⟩
theorem inner_none (t : Tree) : Eats t.inner t.inner [] := ⟨⟨[], t.kids, rfl, rfl, rfl⟩, rfl, rfl, rfl⟩
theorem fields_in {n : Nat} {t : Tree} (hg : Goods t.kids) {a : Rdr × List Nd} (ha : a = if t.inner.sees 124 = true then (t.inner, []) else someG (oStep (Rdr.field n)) t.inner) (hb : a.1.bad = none) :
    ∃ seg, Eats t.inner a.1 seg ∧ textR (flats seg) = joinC (txts a.2) ∧ (∀ x ∈ a.2, x.fieldQ = true) ∧ wts a.2 ≤ szs seg := by
  split at ha
  · subst ha
    exact ⟨[], inner_none t, rfl, by simp, by simp [wts]⟩
  · subst ha
    obtain ⟨seg, e1, e2⟩ := some_sound (field_sound n) (r := t.inner) hg hb
    refine ⟨seg, e1, ?_, e2.q, ?_⟩
    · rw [e2.t, txts_map]
    · have := e2.s; rwa [wts_S] at this
theorem rowIn_sound {n : Nat} {t : Tree} (hg : Goods t.kids) (hb : (Rdr.rowOf n t).1.1.bad = none) :
    ∃ seg, Eats t.inner (Rdr.rowOf n t).1.1 seg ∧ textR (flats seg) = joinC (txts (Rdr.rowOf n t).1.2) ++ (if 0 < (Rdr.rowOf n t).2.length then [124] ++ wtext (Rdr.rowOf n t).2 else []) ∧
      (∀ x ∈ (Rdr.rowOf n t).1.2, x.fieldQ = true) ∧ (Rdr.rowOf n t).2.length ≤ 1 ∧ rightW (Rdr.rowOf n t).2 = true ∧ wts (Rdr.rowOf n t).1.2 + wsum (Rdr.rowOf n t).2 ≤ szs seg := by
  unfold Rdr.rowOf at hb ⊢
  split
  · exact ⟨[], inner_none t, rfl, by simp, by simp, rfl, by simp [wts, wsum]⟩
  rename_i hne
  rw [if_neg hne] at hb
  unfold Rdr.rowIn at hb ⊢
  simp only at hb ⊢
  generalize ha : (if t.inner.sees 124 = true then (t.inner, []) else someG (oStep (Rdr.field n)) t.inner) = a at hb ⊢
  split
  · rename_i hs
    rw [if_pos hs] at hb
    have hba : a.1.bad = none := by
      simp only [Rdr.sees, Rdr.ok, Bool.and_eq_true, Option.isNone_iff_eq_none] at hs
      exact hs.1
    obtain ⟨seg, e1, e2, e3, e4⟩ := fields_in hg ha.symm hba
    have l1 : a.1.l = t.inner.l := e1.l
    have l2 : (a.1.take 124).2.l = t.inner.l := (Rdr.take_l _ 124).trans l1
    obtain ⟨sw, w1, w2, w3, w4⟩ := word_sound (a.1.take 124).2 (by rw [l2]; exact hg) hb
    obtain ⟨c1, c2⟩ := take_eats w1.b
    have hgc := (c1.good (by rw [l1]; exact hg)).1
    refine ⟨seg ++ [(a.1.take 124).1] ++ sw, (e1.trans c1).trans w1, ?_, e3, by simp, ?_, ?_⟩
    · rw [text_mid (by rw [c2]; decide) (by rw [c2]; rfl), e2, sign_text hgc c2 (by decide), w2]
      simp [wtext, joinC]
    · simp only [rightW, List.all_cons, List.all_nil, Bool.and_true]; exact w3
    · simp only [szs_append, szs_one, wsum, List.map_cons, List.map_nil, List.sum_cons, List.sum_nil]
      simp only [SW] at w4
      omega
  · rename_i hs
    rw [if_neg hs] at hb
    obtain ⟨seg, e1, e2, e3, e4⟩ := fields_in hg ha.symm hb
    exact ⟨seg, e1, by simpa using e2, e3, by simp, rfl, by simpa [wsum] using e4⟩
theorem row_sound (n : Nat) : Sound (Rdr.row n) Nd.txt (fun m => m.rowQ = true) SN := by
  intro r hg hb
  simp only [Rdr.row] at hb ⊢
  split
  · rename_i hs
    rw [if_pos hs] at hb
    have hb1 : (r.take 91).2.bad = none := by
      rcases r.take_at 91 with ⟨_, _, h, _⟩ | ⟨h, _⟩
      · exact h
      · rw [hs] at h; simp at h
    obtain ⟨c1, c2⟩ := take_eats hb1
    have hgc := (c1.good hg).1
    have hgk : Goods (r.take 91).1.kids := ((good_eq _).1 hgc).2.2
    have hb2 : (Rdr.rowOf n (r.take 91).1).1.1.close.bad = none := hb
    obtain ⟨seg, e1, e2, e3, e4, e5, e6⟩ := rowIn_sound (n := n) hgk (close_ok hb2).1
    have hseg := all_in e1 hb2
    subst hseg
    refine ⟨[(r.take 91).1], ⟨c1.ex, c1.l, c1.b, hb⟩, ?_, q_row e4 e5 e3, ?_⟩
    · rw [text_in (by rw [c2]; decide), sign_text hgc c2 (by decide), c2, e2, Nd.txt]
      simp only [show (closing 91).toNat = 93 from rfl]
      simp
    · simp only [SN, Nd.wt, szs_one, List.length_nil]; omega
  · rename_i hs
    rw [if_neg hs] at hb
    obtain ⟨seg, e1, e2, ⟨e3, e5⟩, e4⟩ := leaf_sound (.inl rfl) r hg hb
    refine ⟨seg, e1, e2, ?_, e4⟩
    have := q_var e3 e5
    show (r.leaf 1).1.rowQ = true
    unfold Nd.rowQ
    rw [e3, this]; rfl
theorem read_sound {one : Rdr → Nd × Rdr} {Q : Nd → Bool} (hs : Sound one Nd.txt (fun m => Q m = true) SN) {l : List Tree} (hg : Goods l) {fin : Int} (hn : (readAt one l 0 fin).2.2 = none) :
    ∃ k : Nat, (readAt one l 0 fin).2.1 = (k : Nat) ∧ 1 ≤ k ∧ k ≤ l.length ∧ (readAt one l 0 fin).1.txt = textR (flats (l.take k)) ∧ Q (readAt one l 0 fin).1 = true ∧ (readAt one l 0 fin).1.wt ≤ szs l := by
  unfold readAt at hn ⊢
  cases hb : (one ⟨l, 0, fin, none⟩).2.bad with
  | some b => rw [hb] at hn; simp at hn
  | none =>
    simp only
    obtain ⟨seg, e1, e2, e3, e4⟩ := hs ⟨l, 0, fin, none⟩ hg hb
    obtain ⟨pre, post, f1, f2, f3⟩ := e1.ex
    have hp : pre = [] := List.length_eq_zero_iff.1 (by simp only at f2; omega)
    subst hp
    simp only [List.nil_append] at f1 f3
    have hpos : 1 ≤ seg.length := by
      rcases seg with _ | ⟨t, ts⟩
      · simp [SN, szs, manys] at e4
      · simp
    have ht : l.take seg.length = seg := by rw [f1, List.take_left]
    refine ⟨seg.length, f3, hpos, by rw [f1, List.length_append]; omega, by rw [ht, e2], e3, ?_⟩
    have : szs seg ≤ szs l := by rw [f1, szs_append]; omega
    simp only [SN] at e4; omega
end Go.Am

namespace Go.Am
abbrev Sh := Int × List UInt8
def Tok.sh (t : Tok) : Sh := (t.kind, t.text)
def sgn (c : UInt8) : Sh := ((c.toNat : Nat), [c])
def nmS (t : List UInt8) : Sh := (97, t)
def commaS : List (List Sh) → List Sh
  | [] => []
  | x :: xs => x ++ xs.flatMap fun y => sgn 44 :: y
def headS : List (List Sh) → List Sh
  | [] => []
  | x :: _ => x
def wshp (ws : List Word) : List Sh := commaS (ws.map fun w => [nmS w.text])
mutual
def Nd.shp : Nd → List Sh
  | .mk k _ t ws ks =>
    if k = 1 ∨ k = 2 then [nmS t]
    else if k = 3 then [sgn 123] ++ wshp ws ++ [sgn 125]
    else if k = 4 then [sgn 40] ++ commaS (shps ks) ++ [sgn 41]
    else if k = 5 then [sgn 91] ++ commaS (shps ks) ++ [sgn 93]
    else if k = 6 then [nmS t] ++ [sgn 58] ++ ([sgn 123] ++ wshp ws ++ [sgn 125])
    else if k = 7 then [sgn 35] ++ headS (shps ks)
    else if k = 8 then [sgn 43] ++ ([sgn 40] ++ commaS (shps ks) ++ [sgn 41])
    else if k = 9 then [sgn 38] ++ ([sgn 40] ++ commaS (shps ks) ++ [sgn 41])
    else if k = 10 then [sgn 91] ++ (commaS (shps ks) ++ (if 0 < ws.length then [sgn 124] ++ wshp ws else [])) ++ [sgn 93]
    else if k = 11 then [nmS t] ++ [sgn 61] ++ headS (shps ks)
    else []
def shps : List Nd → List (List Sh)
  | [] => []
  | n :: ns => n.shp :: shps ns
end
theorem shps_map : ∀ l, shps l = l.map Nd.shp
  | [] => rfl
  | n :: ns => by simp [shps, shps_map ns]
def LexTo (s : List UInt8) (ks : List Sh) : Prop := ∀ (n p : Nat) (acc : List Tok), s.length ≤ n → ∃ toks, lexF n p s acc = (acc ++ toks, none) ∧ toks.map Tok.sh = ks
def Stop : List UInt8 → Prop
  | [] => True
  | c :: _ => goesB c = false
theorem lex_nil : LexTo [] [] := fun n p acc _ => ⟨[], by cases n <;> simp [lexF], rfl⟩
theorem runR_no {c : UInt8} {s : List UInt8} (h : goesB c = false) : runR (c :: s) = [] := by simp [runR, List.takeWhile_cons, h]
theorem lex_sign {c : UInt8} (h1 : signZ (c.toNat : Nat) = true) (h2 : goesB c = false) (h3 : c.toNat ≠ 45) {s : List UInt8} {ks : List Sh} (h : LexTo s ks) : LexTo ([c] ++ s) ([sgn c] ++ ks) := by
  intro n p acc hn
  rcases n with _ | n
  · simp at hn
  obtain ⟨toks, e1, e2⟩ := h n (p + 1) (acc ++ [⟨(c.toNat : Nat), [c], p⟩]) (by simpa using hn)
  refine ⟨⟨(c.toNat : Nat), [c], p⟩ :: toks, ?_, by simp [Tok.sh, sgn, e2]⟩
  rw [List.singleton_append, lexF]
  rw [if_neg (fun h => h3 h.1), runR_no h2, if_neg (by simp), if_pos h1, e1]
  simp
theorem takeWhile_all {α : Type} {f : α → Bool} : ∀ {t s : List α}, t.all f = true → (∀ c r, s = c :: r → f c = false) → (t ++ s).takeWhile f = t
  | [], s, _, h => by
    cases s with
    | nil => rfl
    | cons c r => simp [List.takeWhile_cons, h c r rfl]
  | x :: t, s, ht, h => by
    simp only [List.all_cons, Bool.and_eq_true] at ht
    simp [List.takeWhile_cons, ht.1, takeWhile_all ht.2 h]
theorem name_all {t : List UInt8} (h : nameR t = true) : t.all goesB = true ∧ (∃ c r, t = c :: r ∧ letB c = true) := by
  unfold nameR at h
  rcases t with _ | ⟨c, r⟩
  · simp at h
  · simp only [Bool.and_eq_true] at h
    refine ⟨?_, c, r, rfl, h.2.1⟩
    simp only [List.all_cons, Bool.and_eq_true]
    refine ⟨?_, h.2.2⟩
    have := h.2.1
    simp only [letB, goesB, letZ, goesZ] at this ⊢
    simp_all
theorem lex_name {t : List UInt8} (ht : nameR t = true) {s : List UInt8} {ks : List Sh} (hs : Stop s) (h : LexTo s ks) : LexTo (t ++ s) ([nmS t] ++ ks) := by
  intro n p acc hn
  obtain ⟨hall, c, r, rfl, hc⟩ := name_all ht
  rcases n with _ | n
  · simp at hn
  have hrun : runR (c :: r ++ s) = c :: r := takeWhile_all hall fun c' r' e => by subst e; exact hs
  obtain ⟨toks, e1, e2⟩ := h n (p + (c :: r).length) (acc ++ [⟨97, c :: r, p⟩]) (by simp at hn ⊢; omega)
  refine ⟨⟨97, c :: r, p⟩ :: toks, ?_, by simp [Tok.sh, nmS, e2]⟩
  have h45 : c.toNat ≠ 45 := fun e => by
    simp only [letB, letZ, e] at hc
    revert hc; decide
  rw [List.cons_append] at hrun ⊢
  rw [lexF, if_neg (fun h => h45 h.1), hrun, if_pos ⟨by simp, ht⟩]
  rw [show (c :: (r ++ s)).drop (c :: r).length = s by rw [← List.cons_append, List.drop_left], e1]
  simp
def LexN (tx : List UInt8) (sh : List Sh) : Prop := ∀ s ks, Stop s → LexTo s ks → LexTo (tx ++ s) (sh ++ ks)
def LexS (tx : List UInt8) (sh : List Sh) : Prop := ∀ s ks, LexTo s ks → LexTo (tx ++ s) (sh ++ ks)
theorem LexS.n {t : List UInt8} {k : List Sh} (h : LexS t k) : LexN t k := fun s ks _ hl => h s ks hl
theorem lexS (c : UInt8) (h : (signZ (c.toNat : Nat) && !goesB c && decide (c.toNat ≠ 45)) = true) : LexS [c] [sgn c] := fun _ _ hl => by
  simp only [Bool.and_eq_true, Bool.not_eq_true', decide_eq_true_eq] at h
  exact lex_sign h.1.1 h.1.2 h.2 hl
theorem lexN {t : List UInt8} (h : nameR t = true) : LexN t [nmS t] := fun _ _ hs hl => lex_name h hs hl
theorem LexS.app {a b : List UInt8} {x y : List Sh} (h : LexS a x) (k : LexS b y) : LexS (a ++ b) (x ++ y) := fun s ks hl => by
  rw [List.append_assoc, List.append_assoc]; exact h _ _ (k _ _ hl)
theorem LexN.sign {a : List UInt8} {c : UInt8} {x : List Sh} (h : LexN a x) (hc : (signZ (c.toNat : Nat) && !goesB c && decide (c.toNat ≠ 45)) = true) : LexS (a ++ [c]) (x ++ [sgn c]) := fun s ks hl => by
  rw [List.append_assoc, List.append_assoc]
  have := hc
  simp only [Bool.and_eq_true, Bool.not_eq_true', decide_eq_true_eq] at this
  exact h _ _ this.1.2 (lexS c hc _ _ hl)
theorem LexS.nn {a b : List UInt8} {x y : List Sh} (h : LexS a x) (k : LexN b y) : LexN (a ++ b) (x ++ y) := fun s ks hs hl => by
  rw [List.append_assoc, List.append_assoc]; exact h _ _ (k _ _ hs hl)
theorem lex_tail {β : Type} {T : β → List UInt8} {S : β → List Sh} : ∀ {l : List β}, (∀ x ∈ l, LexN (T x) (S x)) → ∀ s ks, Stop s → LexTo s ks → Stop ((l.map T).flatMap (fun y => 44 :: y) ++ s) ∧ LexTo ((l.map T).flatMap (fun y => 44 :: y) ++ s) ((l.map S).flatMap (fun y => sgn 44 :: y) ++ ks)
  | [], _, s, ks, hs, hl => ⟨hs, hl⟩
  | x :: xs, h, s, ks, hs, hl => by
    obtain ⟨h1, h2⟩ := lex_tail (l := xs) (fun y hy => h y (by simp [hy])) s ks hs hl
    simp only [List.map_cons, List.flatMap_cons, List.append_assoc, List.cons_append]
    refine ⟨rfl, ?_⟩
    exact lexS 44 (by decide) _ _ (h x (by simp) _ _ h1 h2)
theorem lex_comma {β : Type} {T : β → List UInt8} {S : β → List Sh} {l : List β} (h : ∀ x ∈ l, LexN (T x) (S x)) : LexN (joinC (l.map T)) (commaS (l.map S)) := by
  intro s ks hs hl
  cases l with
  | nil => exact hl
  | cons x xs =>
    obtain ⟨h1, h2⟩ := lex_tail (l := xs) (fun y hy => h y (by simp [hy])) s ks hs hl
    simp only [List.map_cons, joinC, commaS, List.append_assoc]
    exact h x (by simp) _ _ h1 h2
theorem lex_words {ws : List Word} (h : rightW ws = true) : LexN (wtext ws) (wshp ws) := lex_comma (T := Word.text) (S := fun w => [nmS w.text]) fun w hw => lexN (List.all_eq_true.1 h w hw)
theorem lex_set {ws : List Word} (h : rightW ws = true) : LexS ([123] ++ wtext ws ++ [125]) ([sgn 123] ++ wshp ws ++ [sgn 125]) := LexN.sign ((lexS 123 (by decide)).nn (lex_words h)) (by decide)
theorem lex_in {a b : UInt8} {ks : List Nd} (ha : (signZ (a.toNat : Nat) && !goesB a && decide (a.toNat ≠ 45)) = true) (hb : (signZ (b.toNat : Nat) && !goesB b && decide (b.toNat ≠ 45)) = true) (h : ∀ n ∈ ks, LexN n.txt n.shp) :
    LexS ([a] ++ joinC (txts ks) ++ [b]) ([sgn a] ++ commaS (shps ks) ++ [sgn b]) := by
  rw [txts_map, shps_map]
  exact LexN.sign ((lexS a ha).nn (lex_comma h)) hb
end Go.Am

namespace Go.Am
theorem Nd.txt_eq (n : Nd) : n.txt = if n.kind = 1 ∨ n.kind = 2 then n.text else if n.kind = 3 then [123] ++ wtext n.names ++ [125] else if n.kind = 4 then [40] ++ joinC (txts n.kids) ++ [41] else if n.kind = 5 then [91] ++ joinC (txts n.kids) ++ [93]
    else if n.kind = 6 then n.text ++ [58, 123] ++ wtext n.names ++ [125] else if n.kind = 7 then [35] ++ headT (txts n.kids) else if n.kind = 8 then [43, 40] ++ joinC (txts n.kids) ++ [41] else if n.kind = 9 then [38, 40] ++ joinC (txts n.kids) ++ [41]
    else if n.kind = 10 then ([91] ++ joinC (txts n.kids)) ++ (if 0 < n.names.length then [124] ++ wtext n.names else []) ++ [93] else if n.kind = 11 then n.text ++ [61] ++ headT (txts n.kids) else [] := by cases n; rw [Nd.txt]; rfl
theorem Nd.shp_eq (n : Nd) : n.shp = if n.kind = 1 ∨ n.kind = 2 then [nmS n.text] else if n.kind = 3 then [sgn 123] ++ wshp n.names ++ [sgn 125] else if n.kind = 4 then [sgn 40] ++ commaS (shps n.kids) ++ [sgn 41] else if n.kind = 5 then [sgn 91] ++ commaS (shps n.kids) ++ [sgn 93]
    else if n.kind = 6 then [nmS n.text] ++ [sgn 58] ++ ([sgn 123] ++ wshp n.names ++ [sgn 125]) else if n.kind = 7 then [sgn 35] ++ headS (shps n.kids) else if n.kind = 8 then [sgn 43] ++ ([sgn 40] ++ commaS (shps n.kids) ++ [sgn 41]) else if n.kind = 9 then [sgn 38] ++ ([sgn 40] ++ commaS (shps n.kids) ++ [sgn 41])
    else if n.kind = 10 then [sgn 91] ++ (commaS (shps n.kids) ++ (if 0 < n.names.length then [sgn 124] ++ wshp n.names else [])) ++ [sgn 93] else if n.kind = 11 then [nmS n.text] ++ [sgn 61] ++ headS (shps n.kids) else [] := by cases n; rw [Nd.shp]; rfl
theorem kidw {n m : Nd} (hm : m ∈ n.kids) : m.wt + 5 ≤ n.wt := by
  have h1 := wt_mem hm
  have h2 : wts n.kids + 4 ≤ n.wt := by cases n; simp only [Nd.wt, Nd.kids]; omega
  omega
def Lx (n : Nd) : Prop := LexN n.txt n.shp
theorem lx_leaf {n : Nd} (hk : n.kind = 1 ∨ n.kind = 2) (h : n.leafQ = true) : Lx n := by
  unfold Lx
  rw [Nd.txt_eq, Nd.shp_eq, if_pos hk, if_pos hk]
  simp only [Nd.leafQ, Bool.and_eq_true] at h
  exact lexN h.1
theorem rule_spec {n : Nd} (h : n.ruleQ = true) : n.kind = 6 ∧ nameR n.text = true ∧ rightW n.names = true ∧ n.kids = [] := by
  simp only [Nd.ruleQ, Bool.and_eq_true, decide_eq_true_eq] at h
  exact ⟨h.1.1.1, h.1.1.2, h.1.2, List.length_eq_zero_iff.1 (by omega)⟩
theorem lx_rule {n : Nd} (h : n.ruleQ = true) : Lx n := by
  obtain ⟨k, h1, h2, _⟩ := rule_spec h
  unfold Lx
  rw [Nd.txt_eq, Nd.shp_eq]
  simp only [k, show ¬ ((6 : Int) = 1 ∨ (6 : Int) = 2) by omega, show ¬ (6 : Int) = 3 by omega, show ¬ (6 : Int) = 4 by omega, show ¬ (6 : Int) = 5 by omega, if_false, if_true]
  have e : n.text ++ [58, 123] ++ wtext n.names ++ [125] = (n.text ++ [58]) ++ ([123] ++ wtext n.names ++ [125]) := by simp
  rw [e]
  exact (((lexN h1).sign (by decide)).app (lex_set h2)).n
theorem const_spec {n : Nd} (h : n.constQ = true) : (n.kind = 2 ∧ n.leafQ = true) ∨ (n.kind = 3 ∧ n.text = [] ∧ rightW n.names = true ∧ n.kids = []) ∨ (n.kind = 4 ∧ n.text = [] ∧ n.names = [] ∧ n.kids ≠ [] ∧ ∀ x ∈ n.kids, x.constQ = true) ∨ (n.kind = 5 ∧ n.text = [] ∧ n.names = [] ∧ ∀ x ∈ n.kids, x.ruleQ = true) := by
  rw [Nd.constQ_eq] at h
  split at h
  · rename_i k; exact .inl ⟨k, h⟩
  split at h
  · rename_i k
    simp only [Bool.and_eq_true, decide_eq_true_eq] at h
    exact .inr (.inl ⟨k, h.1.1, h.1.2, List.length_eq_zero_iff.1 (by omega)⟩)
  split at h
  · rename_i k
    simp only [Nd.bareQ, Bool.and_eq_true, decide_eq_true_eq] at h
    exact .inr (.inr (.inl ⟨k, h.1.1.1, List.length_eq_zero_iff.1 (by omega), fun e => by rw [e] at h; simp at h, List.all_eq_true.1 h.2⟩))
  split at h
  · rename_i k
    simp only [Nd.bareQ, Bool.and_eq_true, decide_eq_true_eq] at h
    exact .inr (.inr (.inr ⟨k, h.1.1, List.length_eq_zero_iff.1 (by omega), List.all_eq_true.1 h.2⟩))
  · simp at h
theorem lx_const : ∀ (k : Nat) (n : Nd), n.wt ≤ k → n.constQ = true → Lx n := by
  intro k
  induction k with
  | zero => intro n h _; cases n; simp only [Nd.wt] at h; omega
  | succ k ih =>
    intro n hk h
    rcases const_spec h with ⟨h1, h2⟩ | ⟨h1, _, h2, _⟩ | ⟨h1, _, _, _, h2⟩ | ⟨h1, _, _, h2⟩
    · exact lx_leaf (.inr h1) h2
    · unfold Lx
      rw [Nd.txt_eq, Nd.shp_eq, h1]
      exact (lex_set h2).n
    · unfold Lx
      rw [Nd.txt_eq, Nd.shp_eq, h1]
      exact (lex_in (by decide) (by decide) fun m hm => ih m (by have := kidw hm; omega) (h2 m hm)).n
    · unfold Lx
      rw [Nd.txt_eq, Nd.shp_eq, h1]
      exact (lex_in (by decide) (by decide) fun m hm => lx_rule (h2 m hm)).n
theorem label_spec {n : Nd} (h : n.labelQ = true) : (n.kind = 1 ∧ n.leafQ = true) ∨ (n.kind = 7 ∧ n.text = [] ∧ n.names = [] ∧ ∃ c, n.kids = [c] ∧ c.constQ = true) ∨ ((n.kind = 8 ∨ n.kind = 9) ∧ n.text = [] ∧ n.names = [] ∧ n.kids ≠ [] ∧ ∀ x ∈ n.kids, x.labelQ = true) := by
  rw [Nd.labelQ_eq] at h
  split at h
  · rename_i k; exact .inl ⟨k, h⟩
  split at h
  · rename_i k
    simp only [Nd.bareQ, Bool.and_eq_true, decide_eq_true_eq] at h
    refine .inr (.inl ⟨k, h.1.1.1, List.length_eq_zero_iff.1 (by omega), ?_⟩)
    match hq : n.kids, h.1.2 with
    | [c], _ => exact ⟨c, rfl, by have := h.2; rw [hq] at this; exact this⟩
    | [], e => simp at e
    | _ :: _ :: _, e => simp at e; omega
  split at h
  · rename_i k
    simp only [Nd.bareQ, Bool.and_eq_true, decide_eq_true_eq] at h
    exact .inr (.inr ⟨k, h.1.1.1, List.length_eq_zero_iff.1 (by omega), fun e => by rw [e] at h; simp at h, List.all_eq_true.1 h.2⟩)
  · simp at h
theorem lx_label : ∀ (k : Nat) (n : Nd), n.wt ≤ k → n.labelQ = true → Lx n := by
  intro k
  induction k with
  | zero => intro n h _; cases n; simp only [Nd.wt] at h; omega
  | succ k ih =>
    intro n hk h
    rcases label_spec h with ⟨h1, h2⟩ | ⟨h1, _, _, c, h2, h3⟩ | ⟨h1, _, _, _, h2⟩
    · exact lx_leaf (.inl h1) h2
    · unfold Lx
      rw [Nd.txt_eq, Nd.shp_eq, h1, h2]
      exact (lexS 35 (by decide)).nn (lx_const _ c (Nat.le_refl _) h3)
    · have hin := lex_in (a := 40) (b := 41) (by decide) (by decide) fun m hm => ih m (by have := kidw hm; omega) (h2 m hm)
      unfold Lx
      rw [Nd.txt_eq, Nd.shp_eq]
      rcases h1 with h1 | h1
      · rw [h1]
        exact ((lexS 43 (by decide)).app hin).n
      · rw [h1]
        exact ((lexS 38 (by decide)).app hin).n
theorem field_spec {n : Nd} (h : n.fieldQ = true) : n.kind = 11 ∧ nameR n.text = true ∧ n.names = [] ∧ ∃ c, n.kids = [c] ∧ c.atomQ = true := by
  simp only [Nd.fieldQ, Bool.and_eq_true, decide_eq_true_eq] at h
  refine ⟨h.1.1.1.1, h.1.1.1.2, List.length_eq_zero_iff.1 (by omega), ?_⟩
  match hq : n.kids, h.1.2 with
  | [c], _ => exact ⟨c, rfl, by have := h.2; rw [hq] at this; exact this⟩
  | [], e => simp at e
  | _ :: _ :: _, e => simp at e; omega
theorem lx_field {n : Nd} (h : n.fieldQ = true) : Lx n := by
  obtain ⟨k, h1, _, c, h2, h3⟩ := field_spec h
  unfold Lx
  rw [Nd.txt_eq, Nd.shp_eq, k, h2]
  exact ((lexN h1).sign (by decide)).nn (lx_label _ c (Nat.le_refl _) (atom_label h3))
theorem row_spec {n : Nd} (h : n.rowQ = true) : (n.kind = 10 ∧ n.text = [] ∧ (n.names = [] ∨ ∃ w, n.names = [w] ∧ nameR w.text = true) ∧ ∀ x ∈ n.kids, x.fieldQ = true) ∨ (n.kind = 1 ∧ n.labelQ = true) := by
  unfold Nd.rowQ at h
  split at h
  · rename_i k
    simp only [Bool.and_eq_true, decide_eq_true_eq] at h
    refine .inl ⟨k, h.1.1.1, ?_, List.all_eq_true.1 h.2⟩
    match hq : n.names, h.1.1.2 with
    | [], _ => exact .inl rfl
    | [w], _ => exact .inr ⟨w, rfl, by have := h.1.2; rw [hq] at this; simpa [rightW] using this⟩
    | _ :: _ :: _, e => simp at e; omega
  · simp only [Bool.and_eq_true, decide_eq_true_eq] at h
    exact .inr h
theorem lx_row {n : Nd} (h : n.rowQ = true) : Lx n := by
  rcases row_spec h with ⟨k, _, hn, hf⟩ | ⟨_, h⟩
  · have hk : LexN (joinC (txts n.kids)) (commaS (shps n.kids)) := by rw [txts_map, shps_map]; exact lex_comma fun m hm => lx_field (hf m hm)
    unfold Lx
    rw [Nd.txt_eq, Nd.shp_eq, k]
    rcases hn with hn | ⟨w, hn, hw⟩
    · rw [hn]
      have e1 : ([91] : List UInt8) ++ joinC (txts n.kids) ++ [] = [91] ++ joinC (txts n.kids) := by simp
      have e2 : [sgn 91] ++ (commaS (shps n.kids) ++ []) ++ [sgn 93] = [sgn 91] ++ commaS (shps n.kids) ++ [sgn 93] := by simp
      show LexN (([91] ++ joinC (txts n.kids)) ++ [] ++ [93]) ([sgn 91] ++ (commaS (shps n.kids) ++ []) ++ [sgn 93])
      rw [e1, e2]
      exact (((lexS 91 (by decide)).nn hk).sign (by decide)).n
    · rw [hn]
      have e1 : (([91] : List UInt8) ++ joinC (txts n.kids)) ++ ([124] ++ wtext [w]) ++ [93] = (([91] ++ joinC (txts n.kids)) ++ [124]) ++ (wtext [w] ++ [93]) := by simp
      have e2 : [sgn 91] ++ (commaS (shps n.kids) ++ ([sgn 124] ++ wshp [w])) ++ [sgn 93] = (([sgn 91] ++ commaS (shps n.kids)) ++ [sgn 124]) ++ (wshp [w] ++ [sgn 93]) := by simp
      show LexN (([91] ++ joinC (txts n.kids)) ++ ([124] ++ wtext [w]) ++ [93]) ([sgn 91] ++ (commaS (shps n.kids) ++ ([sgn 124] ++ wshp [w])) ++ [sgn 93])
      rw [e1, e2]
      exact ((((lexS 91 (by decide)).nn hk).sign (by decide)).app ((lex_words (by simp [rightW, hw])).sign (by decide))).n
  · exact lx_label _ n (Nat.le_refl _) h
theorem lex_node {n : Nd} (h : Lx n) : (lexR n.txt).2 = none ∧ (lexR n.txt).1.map Tok.sh = n.shp := by
  have := h [] [] trivial lex_nil
  rw [List.append_nil, List.append_nil] at this
  obtain ⟨toks, e1, e2⟩ := this n.txt.length 0 [] (Nat.le_refl _)
  unfold lexR
  rw [e1]
  exact ⟨rfl, by simpa using e2⟩
end Go.Am

namespace Go.Am
mutual
def Tree.WF : Tree → Prop
  | .mk t ks e => closesZ t.kind = false ∧ (closing t.kind = 0 → ks = [] ∧ e = t.pos) ∧ WFs ks
def WFs : List Tree → Prop
  | [] => True
  | t :: ts => t.WF ∧ WFs ts
end
theorem WFs_append : ∀ {a b : List Tree}, WFs (a ++ b) ↔ WFs a ∧ WFs b
  | [], b => by simp [WFs]
  | t :: ts, b => by simp only [List.cons_append, WFs, WFs_append (a := ts), and_assoc]
theorem kindAt_mid {a r : List Tok} {t : Tok} : kindAt (a ++ t :: r) a.length = t.kind := by simp [kindAt]
theorem tokN_mid {a r : List Tok} {t : Tok} : tokN (a ++ t :: r) a.length = t := by simp [tokN]
theorem posAt_mid {a r : List Tok} {t : Tok} : posAt (a ++ t :: r) a.length = t.pos := by simp [posAt]
theorem closing_close {c : Int} (h : closing c ≠ 0) : closesZ (closing c) = true ∧ closing (closing c) = 0 := by
  have : c = 40 ∨ c = 123 ∨ c = 91 := by
    unfold closing at h
    split at h
    · rename_i k; exact .inl k
    · split at h
      · rename_i k; exact .inr k
      · exact absurd rfl h
  rcases this with rfl | rfl | rfl <;> decide
theorem flats_cons (t : Tree) (ts : List Tree) : flats (t :: ts) = t.flat ++ flats ts := rfl
theorem bal {l : List Tok} {x : Nat} : ∀ (k : Nat) (us : List Tree) (a b : List Tok) (n : Nat) (d : Int), manys us ≤ k → WFs us → l = a ++ flats us ++ b → 1 ≤ d → partnerF l x (n + (flats us).length) a.length d = partnerF l x n (a ++ flats us).length d
  | _, [], a, b, n, d, _, _, _, _ => by simp [flats]
  | 0, t :: ts, a, b, n, d, h, _, _, _ => by simp [manys] at h
  | k + 1, .mk t ks e :: ts, a, b, n, d, h, hw, hl, hd => by
    simp only [manys, Tree.many] at h
    obtain ⟨⟨w1, w2, w3⟩, w4⟩ := hw
    rw [flats_cons] at hl ⊢
    by_cases hc : closing t.kind = 0
    · have ef : (Tree.mk t ks e).flat = [t] := by simp [Tree.flat, hc]
      rw [ef] at hl ⊢
      have hk : kindAt l a.length = t.kind := by rw [hl]; simp only [List.append_assoc, List.singleton_append, List.cons_append]; exact kindAt_mid
      have hd0 : delta l a.length = 0 := by unfold delta; rw [hk, hc, w1]; simp
      rw [show n + ([t] ++ flats ts).length = (n + (flats ts).length) + 1 by simp; omega, partnerF_succ, hd0, if_neg (by omega), Int.add_zero]
      have := bal (l := l) (x := x) k ts (a ++ [t]) b n d (by omega) w4 (by rw [hl]; simp) hd
      rw [show (a ++ [t]).length = a.length + 1 by simp] at this
      rw [this]
      simp
    · have ef : (Tree.mk t ks e).flat = t :: (flats ks ++ [⟨closing t.kind, [UInt8.ofNat (closing t.kind).toNat], e⟩]) := by simp [Tree.flat, hc]
      generalize hcl : (⟨closing t.kind, [UInt8.ofNat (closing t.kind).toNat], e⟩ : Tok) = c at ef
      have hck : c.kind = closing t.kind := by rw [← hcl]
      obtain ⟨c1, c2⟩ := closing_close hc
      rw [ef] at hl ⊢
      have hk : kindAt l a.length = t.kind := by rw [hl]; simp only [List.append_assoc, List.cons_append]; exact kindAt_mid
      have hd1 : delta l a.length = 1 := delta_open (by rw [hk]; exact hc)
      have hk2 : kindAt l (a ++ [t] ++ flats ks).length = c.kind := by
        rw [hl]
        have : a ++ (t :: (flats ks ++ [c]) ++ flats ts) ++ b = (a ++ [t] ++ flats ks) ++ c :: (flats ts ++ b) := by simp
        rw [this]; exact kindAt_mid
      have hd2 : delta l (a ++ [t] ++ flats ks).length = -1 := by unfold delta; rw [hk2, hck, c2, c1]; simp
      rw [show n + (t :: (flats ks ++ [c]) ++ flats ts).length = ((n + (flats ts).length + 1) + (flats ks).length) + 1 by simp; omega, partnerF_succ, hd1, if_neg (by omega)]
      have h1 := bal (l := l) (x := x) k ks (a ++ [t]) ([c] ++ flats ts ++ b) (n + (flats ts).length + 1) (d + 1) (by omega) w3 (by rw [hl]; simp) (by omega)
      rw [show (a ++ [t]).length = a.length + 1 by simp] at h1
      rw [h1, partnerF_succ, hd2, if_neg (by omega), show d + 1 + -1 = d by omega]
      have h2 := bal (l := l) (x := x) k ts (a ++ [t] ++ flats ks ++ [c]) b n d (by omega) w4 (by rw [hl]; simp) hd
      rw [show (a ++ [t] ++ flats ks ++ [c]).length = (a ++ [t] ++ flats ks).length + 1 by simp; omega] at h2
      rw [h2]
      simp
theorem partner_at {l : List Tok} {t c : Tok} {ks : List Tree} {a b : List Tok} (hl : l = a ++ [t] ++ flats ks ++ c :: b) (hw : WFs ks) (hc : closing t.kind ≠ 0) (hck : c.kind = closing t.kind) : partner l a.length = (a ++ [t] ++ flats ks).length := by
  obtain ⟨c1, c2⟩ := closing_close hc
  have hk : kindAt l a.length = t.kind := by rw [hl]; simp only [List.append_assoc, List.singleton_append]; exact kindAt_mid
  have hd1 : delta l a.length = 1 := delta_open (by rw [hk]; exact hc)
  have hk2 : kindAt l (a ++ [t] ++ flats ks).length = c.kind := by rw [hl]; exact kindAt_mid
  have hd2 : delta l (a ++ [t] ++ flats ks).length = -1 := by unfold delta; rw [hk2, hck, c2, c1]; simp
  unfold partner
  rw [show l.length - a.length = ((b.length + 1) + (flats ks).length) + 1 by rw [hl]; simp; omega, partnerF_succ, hd1, if_neg (by omega)]
  have h1 := bal (l := l) (x := a.length) _ ks (a ++ [t]) (c :: b) (b.length + 1) (0 + 1) (Nat.le_refl _) hw hl (by omega)
  rw [show (a ++ [t]).length = a.length + 1 by simp] at h1
  rw [h1, partnerF_succ, hd2, if_pos (by omega)]
theorem treesF_flats {l : List Tok} : ∀ (k : Nat) (us : List Tree) (a b : List Tok) (n : Nat), manys us ≤ k → WFs us → l = a ++ flats us ++ b → (flats us).length ≤ n → treesF l n a.length (a.length + (flats us).length) = us
  | _, [], a, b, n, _, _, _, _ => by cases n <;> simp [flats, treesF]
  | 0, t :: ts, a, b, n, h, _, _, _ => by simp [manys] at h
  | k + 1, .mk t ks e :: ts, a, b, n, h, hw, hl, hn => by
    simp only [manys, Tree.many] at h
    obtain ⟨⟨w1, w2, w3⟩, w4⟩ := hw
    rw [flats_cons] at hl hn ⊢
    by_cases hc : closing t.kind = 0
    · have ef : (Tree.mk t ks e).flat = [t] := by simp [Tree.flat, hc]
      obtain ⟨w5, w6⟩ := w2 hc
      rw [ef] at hl hn ⊢
      have hl' : l = a ++ t :: (flats ts ++ b) := by rw [hl]; simp
      have hk : kindAt l a.length = t.kind := by rw [hl']; exact kindAt_mid
      have ht : tokN l a.length = t := by rw [hl']; exact tokN_mid
      have hp : posAt l a.length = t.pos := by rw [hl']; exact posAt_mid
      simp only [List.length_append, List.length_singleton] at hn ⊢
      obtain ⟨m, rfl⟩ : ∃ m, n = m + 1 := ⟨n - 1, by omega⟩
      rw [treesF, if_pos (by omega), if_neg (by rw [hk]; simpa using hc), ht, hp]
      have := treesF_flats (l := l) k ts (a ++ [t]) b m (by omega) w4 (by rw [hl]; simp) (by omega)
      rw [show (a ++ [t]).length = a.length + 1 by simp, show a.length + 1 + (flats ts).length = a.length + (1 + (flats ts).length) by omega] at this
      rw [this, w5, w6]
    · have ef : (Tree.mk t ks e).flat = t :: (flats ks ++ [⟨closing t.kind, [UInt8.ofNat (closing t.kind).toNat], e⟩]) := by simp [Tree.flat, hc]
      generalize hcl : (⟨closing t.kind, [UInt8.ofNat (closing t.kind).toNat], e⟩ : Tok) = c at ef
      have hck : c.kind = closing t.kind := by rw [← hcl]
      have hce : c.pos = e := by rw [← hcl]
      rw [ef] at hl hn ⊢
      have hl1 : l = a ++ t :: (flats ks ++ [c] ++ flats ts ++ b) := by rw [hl]; simp
      have hl2 : l = a ++ [t] ++ flats ks ++ c :: (flats ts ++ b) := by rw [hl]; simp
      have hk : kindAt l a.length = t.kind := by rw [hl1]; exact kindAt_mid
      have ht : tokN l a.length = t := by rw [hl1]; exact tokN_mid
      have hpa := partner_at hl2 w3 hc hck
      have hp : posAt l (a ++ [t] ++ flats ks).length = e := by rw [← hce]; conv => lhs; rw [hl2]
                                                                exact posAt_mid
      simp only [List.length_append, List.length_singleton, List.length_cons, List.length_nil] at hn
      obtain ⟨m, rfl⟩ : ∃ m, n = m + 1 := ⟨n - 1, by omega⟩
      rw [treesF, if_pos (by simp), if_pos (by rw [hk]; exact hc), ht, hpa, hp]
      have h1 := treesF_flats (l := l) k ks (a ++ [t]) (c :: (flats ts ++ b)) m (by omega) w3 hl2 (by omega)
      have h2 := treesF_flats (l := l) k ts (a ++ [t] ++ flats ks ++ [c]) b m (by omega) w4 (by rw [hl]; simp) (by omega)
      have e1 : (a ++ [t] ++ flats ks).length = (a ++ [t]).length + (flats ks).length := List.length_append
      have e2 : a.length + 1 = (a ++ [t]).length := by simp
      have e3 : (a ++ [t]).length + (flats ks).length + 1 = (a ++ [t] ++ flats ks ++ [c]).length := by simp only [List.length_append, List.length_singleton]
      have e4 : a.length + (t :: (flats ks ++ [c]) ++ flats ts).length = (a ++ [t] ++ flats ks ++ [c]).length + (flats ts).length := by simp only [List.length_append, List.length_cons, List.length_nil]; omega
      rw [e1, e2, h1, e3, e4, h2]
theorem tree_back {us : List Tree} (hw : WFs us) (h : (treeR (flats us)).2 = none) : (treeR (flats us)).1 = us := by
  unfold treeR at h ⊢
  split
  · rename_i h0; rw [if_pos h0] at h; simp at h
  · have := treesF_flats (l := flats us) _ us [] [] (flats us).length (Nat.le_refl _) hw (by simp) (Nat.le_refl _)
    simpa using this
end Go.Am

namespace Go.Am
def treeP : List Tok → List (Tok × List Tree) → List Tree → List Tree × Option Int
  | [], op, row => match op.getLast? with | some (t, _) => ([], some t.pos) | none => (row, none)
  | t :: ts, op, row =>
    if closing t.kind ≠ 0 then (if 24 ≤ op.length then ([], some t.pos) else treeP ts (op ++ [(t, row)]) [])
    else if closesZ t.kind = true then
      match op.getLast? with
      | none => ([], some t.pos)
      | some (u, ahead) => if closing u.kind = t.kind then treeP ts op.dropLast (ahead ++ [.mk u row t.pos]) else ([], some t.pos)
    else treeP ts op (row ++ [.mk t [] t.pos])
def Tk.ok (σ0 σ : Store) (n : Nat) : Tk → Prop
  | .full => True
  | .tk τ => σ0.tip τ = none ∧ σ.tip τ = some n
  | .no => False
def Tk.name : Tk → Option Nat
  | .tk τ => some τ
  | _ => none
def Toks (σ0 σ : Store) (L : List (Tk × Nat)) : Prop := σ0.sub σ ∧ (∀ p ∈ L, p.1.ok σ0 σ p.2) ∧ (L.filterMap fun p => p.1.name).Nodup
theorem Toks.init {σ : Store} {L : List (Tk × Nat)} (h : ∀ p ∈ L, p.1 = .full) : Toks σ σ L := by
  refine ⟨Store.sub_refl σ, fun p hp => by rw [h p hp]; trivial, ?_⟩
  have : L.filterMap (fun p => p.1.name) = [] := by
    rw [List.filterMap_eq_nil_iff]; intro p hp; rw [h p hp]; rfl
  rw [this]; exact List.nodup_nil
theorem Toks.perm {σ0 σ : Store} {L L' : List (Tk × Nat)} (h : Toks σ0 σ L) (hp : L.Perm L') : Toks σ0 σ L' :=
  ⟨h.1, fun p hm => h.2.1 p (hp.mem_iff.2 hm), (hp.filterMap _).nodup_iff.1 h.2.2⟩
theorem Toks.tail {σ0 σ : Store} {p : Tk × Nat} {L : List (Tk × Nat)} (h : Toks σ0 σ (p :: L)) : Toks σ0 σ L := by
  refine ⟨h.1, fun q hq => h.2.1 q (by simp [hq]), ?_⟩
  have := h.2.2
  simp only [List.filterMap_cons] at this
  split at this
  · exact this
  · exact (List.nodup_cons.1 this).2
theorem Toks.full {σ0 σ : Store} {n : Nat} {L : List (Tk × Nat)} (h : Toks σ0 σ L) : Toks σ0 σ ((.full, n) :: L) :=
  ⟨h.1, fun q hq => by rcases List.mem_cons.1 hq with rfl | hq; exact trivial; exact h.2.1 q hq, by simpa [List.filterMap_cons, Tk.name] using h.2.2⟩
theorem Toks.put {σ0 σ : Store} {tk : Tk} {n m τ : Nat} {L : List (Tk × Nat)} (h : Toks σ0 σ ((tk, n) :: L)) (h0 : σ0.tip τ = none) (ht : tk = .tk τ ∨ σ.tip τ = none) : Toks σ0 (σ.setTip τ m) ((.tk τ, m) :: L) := by
  have hnm : τ ∉ L.filterMap fun p => p.1.name := fun hm => by
    obtain ⟨⟨t, k⟩, hq, hn⟩ := List.mem_filterMap.1 hm
    cases t with
    | no => simp [Tk.name] at hn
    | full => simp [Tk.name] at hn
    | tk υ =>
      simp only [Tk.name, Option.some.injEq] at hn
      subst hn
      rcases ht with rfl | ht
      · have := h.2.2
        simp only [List.filterMap_cons, Tk.name] at this
        exact (List.nodup_cons.1 this).1 hm
      · have := (h.2.1 (.tk υ, k) (by simp [hq])).2
        rw [ht] at this; simp at this
  refine ⟨⟨h.1.1, fun t k hk => ?_⟩, fun p hp => ?_, ?_⟩
  · have hne : t ≠ τ := by rintro rfl; rw [h0] at hk; simp at hk
    simp only [Store.setTip, if_neg hne]
    exact h.1.2 t k hk
  · rcases List.mem_cons.1 hp with rfl | hp2
    · exact ⟨h0, by simp [Store.setTip]⟩
    · have := h.2.1 p (by simp [hp2])
      obtain ⟨t, k⟩ := p
      cases t with
      | no => exact this
      | full => trivial
      | tk υ =>
        have hne : υ ≠ τ := by rintro rfl; exact hnm (List.mem_filterMap.2 ⟨(.tk υ, k), hp2, rfl⟩)
        exact ⟨this.1, by simp only [Store.setTip, if_neg hne]; exact this.2⟩
  · simp only [List.filterMap_cons, Tk.name]
    exact List.nodup_cons.2 ⟨hnm, h.tail.2.2⟩
theorem Toks.fresh {σ0 σ : Store} {L : List (Tk × Nat)} (h : Toks σ0 σ L) {τ : Nat} (ht : σ.tip τ = none) : σ0.tip τ = none := by
  cases hq : σ0.tip τ with
  | none => rfl
  | some n => rw [h.1.2 τ n hq] at ht; simp at ht
theorem app_any {σ0 σ : Store} {tk u : Tk} {k : Nat} {m n : List (List V)} {K : V → Store → Prop} {L : List (Tk × Nat)} (h : Toks σ0 σ ((tk, m.length) :: L)) (hb : m.length + n.length ≤ big)
    (hk : ∀ τ, Toks σ0 (σ.setTip τ (m.length + n.length)) ((.tk τ, m.length + n.length) :: L) → K (.sl (.tk τ) k (m ++ n)) (σ.setTip τ (m.length + n.length))) : AppOk σ k (.sl tk k m) (.sl u k n) K := by
  have hh := h.2.1 (tk, m.length) (by simp)
  cases tk with
  | no => exact hh.elim
  | full => exact app_full hb fun τ hτ => hk τ (h.put (h.fresh hτ) (.inr hτ))
  | tk τ => exact app_tk hb hh.2 (hk τ (h.put hh.1 (.inl rfl)))
theorem own_keep {σ : Store} {H : V → Store → Prop} {k : Nat} {cs : List V} : OQ.sem σ H (.keep k) [.agg cs] = (cs.length = k ∧ nolL cs = true ∧ oneL cs = true ∧ H (.sl .full k [cs]) σ) := by
  simp only [OQ.sem, keepOk, keepV, V.wd, V.cells, Option.some.injEq]
  by_cases h : cs.length = k ∧ nolL cs = true ∧ oneL cs = true
  · rw [if_pos h]; simp [h]
  · rw [if_neg h]; simp; intro h1 h2 h3; exact absurd ⟨h1, h2, h3⟩ h
theorem slcL_full {k : Nat} {τ : Tk} {m : List (List V)} {j j' : IntKind} {b : Nat} {H : V → Prop} (h2 : b ≤ m.length) (h : H (.sl .full k (m.take b))) : slcL k (.sl τ k m) none (some (.int j b)) (some (.int j' b)) H := ⟨τ, m, 0, b, rfl, Nat.zero_le _, h2, rfl, ⟨j, rfl⟩, ⟨j', rfl⟩, h⟩
end Go.Am
