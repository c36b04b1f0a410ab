/-
  Part 4 of the proof of CommandReadsUptoCardSaid: a logic over the model, the forms of the functions that the law reaches, and what they compute.
-/
import Derived.Test.YthncngbmelgmaaaDoorReads3
set_option linter.unusedVariables false
set_option linter.unusedSimpArgs false
set_option linter.defProp false
set_option linter.unusedSectionVars false

namespace Go.Am
theorem sees_eq (l : List Tree) (a fin k : Int) : (⟨l, a, fin, none⟩ : Rdr).sees k = isK l a k := by simp [Rdr.sees, Rdr.ok]
theorem spot_eq (l : List Tree) (a fin : Int) (b : Option Int) : (⟨l, a, fin, b⟩ : Rdr).spot = spotOf l a fin := rfl
theorem take_yes {l : List Tree} {a fin k : Int} (h : isK l a k = true) : (⟨l, a, fin, none⟩ : Rdr).take k = (treeAt l a, ⟨l, a + 1, fin, none⟩) := by
  obtain ⟨j, t, rfl, hj, _, hl⟩ := isK_spec h
  simp [Rdr.take, sees_eq, h, treeAt, hj, List.getD]
theorem take_no {l : List Tree} {a fin k : Int} (h : isK l a k = false) : (⟨l, a, fin, none⟩ : Rdr).take k = (.zero, ⟨l, a, fin, some (spotOf l a fin)⟩) := by
  simp [Rdr.take, sees_eq, h, Rdr.fail, spot_eq]
theorem tokAt_eq {l : List Tree} {a k : Int} (h : isK l a k = true) : (treeAt l a).tok = tokAt l a := by
  obtain ⟨j, t, rfl, hj, _, _⟩ := isK_spec h
  simp [treeAt, tokAt, hj]
theorem goG_badP {β : Type} {step : Rdr × List β → Rdr × List β} {a : Rdr × List β} (h : a.1.bad ≠ none) : ∀ n, goG step n a = a
  | 0 => rfl
  | n + 1 => by
    have : a.1.sees 44 = false := by
      simp only [Rdr.sees, Rdr.ok]
      cases hb : a.1.bad with
      | none => exact absurd hb h
      | some _ => simp
    simp [goG, this]
theorem goG_no {β : Type} {step : Rdr × List β → Rdr × List β} {a : Rdr × List β} (h : a.1.sees 44 = false) : ∀ n, goG step n a = a
  | 0 => rfl
  | n + 1 => by simp [goG, h]
theorem nameAt_yes {l : List Tree} {a fin : Int} (h : isK l a 97 = true) : nameAt l a fin = ⟨.mk 0 (tokAt l a).pos (tokAt l a).text [] [], a + 1, false, 0⟩ := by simp [nameAt, h]
theorem nameAt_no {l : List Tree} {a fin : Int} (h : isK l a 97 = false) : nameAt l a fin = wrongAt l a fin := by simp [nameAt, h]
theorem some_words (l : List Tree) (fin : Int) : ∀ (m n : Nat) (a : Nat) (out : List Nd) (ws : List Word), ws = wordsOf out → l.length + 1 ≤ m + a → l.length ≤ n + a → a ≤ l.length →
    (someAt (fun i => nameAt l i fin) l m a out).2.bad = true ∧ (goG wStep n (wStep (⟨l, a, fin, none⟩, ws))).1.bad = some (someAt (fun i => nameAt l i fin) l m a out).2.pos ∨
    (someAt (fun i => nameAt l i fin) l m a out).2.bad = false ∧ goG wStep n (wStep (⟨l, a, fin, none⟩, ws)) = (⟨l, (someAt (fun i => nameAt l i fin) l m a out).2.next, fin, none⟩, wordsOf (someAt (fun i => nameAt l i fin) l m a out).1)
  | 0, n, a, out, ws, hws, hm, hn, ha => by omega
  | m + 1, n, a, out, ws, hws, hm, hn, ha => by
    cases hk : isK l a 97
    · left
      have e : wStep (⟨l, a, fin, none⟩, ws) = (⟨l, a, fin, some (spotOf l a fin)⟩, ws ++ [⟨[], 0⟩]) := by simp [wStep, Rdr.word, take_no hk, Tree.zero, Tree.tok]
      rw [e, goG_badP (by simp)]
      simp [someAt, nameAt_no hk, wrongAt]
    · obtain ⟨j, t, hj, _, _, hl⟩ := isK_spec hk
      have e : wStep (⟨l, a, fin, none⟩, ws) = (⟨l, (a : Int) + 1, fin, none⟩, ws ++ [⟨(tokAt l a).text, (tokAt l a).pos⟩]) := by simp [wStep, Rdr.word, take_yes hk, tokAt_eq hk]
      rw [e]
      simp only [someAt, nameAt_yes hk, Bool.false_eq_true, if_false]
      cases h44 : isK l ((a : Int) + 1) 44
      · right
        rw [goG_no (by simp [sees_eq, h44])]
        simp [hws, wordsOf, Nd.text, Nd.pos]
      · obtain ⟨j2, t2, hj2, _, _, hl2⟩ := isK_spec h44
        obtain ⟨n, rfl⟩ : ∃ k, n = k + 1 := ⟨n - 1, by omega⟩
        simp only [goG, sees_eq, h44, if_true, take_yes h44]
        have ih := some_words l fin m n (a + 2) (out ++ [.mk 0 (tokAt l a).pos (tokAt l a).text [] []]) (ws ++ [⟨(tokAt l a).text, (tokAt l a).pos⟩]) (by simp [hws, wordsOf, Nd.text, Nd.pos]) (by omega) (by omega) (by omega)
        rw [show (a : Int) + 1 + 1 = ((a + 2 : Nat) : Int) by omega]
        exact ih
theorem words_law (l : List Tree) (a fin : Int) :
    (refWords l a fin).2.bad = true ∧ wordsAt l a fin = ([], some (refWords l a fin).2.pos) ∨ (refWords l a fin).2.bad = false ∧ wordsAt l a fin = ((refWords l a fin).1, none) := by
  cases h : isK l a 123
  · left
    have e : (⟨l, a, fin, none⟩ : Rdr).words false = (([], 0), ⟨l, a, fin, some (spotOf l a fin)⟩) := by
      simp [Rdr.words, Rdr.bracket, take_no h, Rdr.ok]
    simp [refWords, h, wrongAt, wordsAt, e]
  · have ht : ∃ t, treeAt l a = t := ⟨_, rfl⟩
    obtain ⟨t, ht⟩ := ht
    have hw : (⟨l, a, fin, none⟩ : Rdr).words false = (((someG wStep t.inner).2, t.tok.pos), (⟨l, a + 1, fin, none⟩ : Rdr).under (someG wStep t.inner).1) := by
      simp [Rdr.words, Rdr.bracket, take_yes h, Rdr.ok, Rdr.inside, ht]
    have hs := some_words t.kids t.fin (t.kids.length + 1) t.kids.length 0 [] [] rfl (by omega) (by omega) (by omega)
    have hg : someG wStep t.inner = goG wStep t.kids.length (wStep (⟨t.kids, ((0 : Nat) : Int), t.fin, none⟩, [])) := rfl
    rw [← hg] at hs
    have hr : refWords l a fin = (wordsOf (wholeAt nameAt t false).1, (wholeAt nameAt t false).2) := by simp [refWords, h, ht]
    have hwh : wholeAt nameAt t false = if (someAt (fun i => nameAt t.kids i t.fin) t.kids (t.kids.length + 1) ((0 : Nat) : Int) []).2.bad = false ∧ (someAt (fun i => nameAt t.kids i t.fin) t.kids (t.kids.length + 1) ((0 : Nat) : Int) []).2.next < t.kids.length then ([], wrongAt t.kids (someAt (fun i => nameAt t.kids i t.fin) t.kids (t.kids.length + 1) ((0 : Nat) : Int) []).2.next t.fin)
        else someAt (fun i => nameAt t.kids i t.fin) t.kids (t.kids.length + 1) ((0 : Nat) : Int) [] := by simp [wholeAt]
    generalize someAt (fun i => nameAt t.kids i t.fin) t.kids (t.kids.length + 1) ((0 : Nat) : Int) [] = S at hs hwh
    generalize someG wStep t.inner = G at hs hw
    rcases hs with ⟨h1, h2⟩ | ⟨h1, h2⟩
    · left
      rw [h1] at hwh
      simp only [Bool.true_eq_false, false_and, if_false] at hwh
      refine ⟨by rw [hr, hwh]; exact h1, ?_⟩
      rw [hr, hwh]
      have hc : G.1.close = G.1 := by simp [Rdr.close, Rdr.ok, h2]
      simp [wordsAt, hw, Rdr.under, hc, h2]
    · rw [h1] at hwh
      simp only [true_and] at hwh
      rw [h2] at hw
      by_cases hn : S.2.next < t.kids.length
      · left
        rw [if_pos hn] at hwh
        refine ⟨by rw [hr, hwh]; rfl, ?_⟩
        rw [hr, hwh]
        simp [wordsAt, hw, Rdr.under, Rdr.close, Rdr.ok, hn, Rdr.fail, spot_eq, wrongAt]
      · right
        rw [if_neg hn] at hwh
        refine ⟨by rw [hr, hwh]; exact h1, ?_⟩
        rw [hr, hwh]
        simp [wordsAt, hw, Rdr.under, Rdr.close, hn]
end Go.Am

namespace Go.Am
def Alike (one : Rdr → Nd × Rdr) (g : List Tree → Int → Int → Got) : Prop := ∀ (l : List Tree) (a fin : Int),
  (g l a fin).bad = true ∧ (one ⟨l, a, fin, none⟩).2.bad = some (g l a fin).pos ∨ (g l a fin).bad = false ∧ one ⟨l, a, fin, none⟩ = ((g l a fin).node, ⟨l, (g l a fin).next, fin, none⟩)
theorem some_alike {one : Rdr → Nd × Rdr} {g : List Tree → Int → Int → Got} (H : Alike one g) (hadv : Adv g) (l : List Tree) (fin : Int) : ∀ (m n : Nat) (a : Nat) (out : List Nd), l.length + 1 ≤ m + a → l.length ≤ n + a → a ≤ l.length →
    (someAt (fun i => g l i fin) l m a out).2.bad = true ∧ (goG (oStep one) n (oStep one (⟨l, a, fin, none⟩, out))).1.bad = some (someAt (fun i => g l i fin) l m a out).2.pos ∨
    (someAt (fun i => g l i fin) l m a out).2.bad = false ∧ goG (oStep one) n (oStep one (⟨l, a, fin, none⟩, out)) = (⟨l, (someAt (fun i => g l i fin) l m a out).2.next, fin, none⟩, (someAt (fun i => g l i fin) l m a out).1)
  | 0, n, a, out, hm, hn, ha => by omega
  | m + 1, n, a, out, hm, hn, ha => by
    rcases H l a fin with ⟨h1, h2⟩ | ⟨h1, h2⟩
    · left
      have e : (oStep one (⟨l, a, fin, none⟩, out)).1.bad = some (g l a fin).pos := h2
      rw [goG_badP (by rw [e]; simp)]
      simp only [someAt, h1, if_true]
      exact ⟨trivial, e⟩
    · have hA := hadv l a fin h1
      have e : oStep one (⟨l, a, fin, none⟩, out) = (⟨l, (g l a fin).next, fin, none⟩, out ++ [(g l a fin).node]) := by simp [oStep, h2]
      rw [e]
      simp only [someAt, h1, Bool.false_eq_true, if_false]
      cases h44 : isK l (g l a fin).next 44
      · right
        rw [goG_no (by simp [sees_eq, h44])]
        simp [h1]
      · obtain ⟨b, hb⟩ := Int.eq_ofNat_of_zero_le (show 0 ≤ (g l a fin).next by omega)
        obtain ⟨j2, t2, hj2, _, _, hl2⟩ := isK_spec h44
        obtain ⟨n, rfl⟩ : ∃ k, n = k + 1 := ⟨n - 1, by omega⟩
        simp only [goG, sees_eq, h44, if_true, take_yes h44]
        have ih := some_alike H hadv l fin m n (b + 1) (out ++ [(g l a fin).node]) (by omega) (by omega) (by omega)
        rw [show (g l a fin).next + 1 = ((b + 1 : Nat) : Int) by omega]
        exact ih
theorem whole_eq {g : List Tree → Int → Int → Got} (t : Tree) (empty : Bool) (h : ¬(empty = true ∧ t.kids.length = 0)) : wholeAt g t empty = if (someAt (fun i => g t.kids i t.fin) t.kids (t.kids.length + 1) ((0 : Nat) : Int) []).2.bad = false ∧ (someAt (fun i => g t.kids i t.fin) t.kids (t.kids.length + 1) ((0 : Nat) : Int) []).2.next < t.kids.length then ([], wrongAt t.kids (someAt (fun i => g t.kids i t.fin) t.kids (t.kids.length + 1) ((0 : Nat) : Int) []).2.next t.fin)
        else someAt (fun i => g t.kids i t.fin) t.kids (t.kids.length + 1) ((0 : Nat) : Int) [] := by
  unfold wholeAt; rw [if_neg h]; simp
theorem bracket_alike {β : Type} {step : Rdr × List β → Rdr × List β} {conv : List Nd → List β} {g : List Tree → Int → Int → Got} (hc : conv [] = []) {l : List Tree} {a fin : Int} {kind : Int} (hk : isK l a kind = true) (empty : Bool)
    (hs : ∀ t : Tree, (someAt (fun i => g t.kids i t.fin) t.kids (t.kids.length + 1) ((0 : Nat) : Int) []).2.bad = true ∧ (someG step t.inner).1.bad = some (someAt (fun i => g t.kids i t.fin) t.kids (t.kids.length + 1) ((0 : Nat) : Int) []).2.pos ∨
      (someAt (fun i => g t.kids i t.fin) t.kids (t.kids.length + 1) ((0 : Nat) : Int) []).2.bad = false ∧ someG step t.inner = (⟨t.kids, (someAt (fun i => g t.kids i t.fin) t.kids (t.kids.length + 1) ((0 : Nat) : Int) []).2.next, t.fin, none⟩, conv (someAt (fun i => g t.kids i t.fin) t.kids (t.kids.length + 1) ((0 : Nat) : Int) []).1)) :
    (wholeAt g (treeAt l a) empty).2.bad = true ∧ ((⟨l, a, fin, none⟩ : Rdr).bracket step kind empty).2.bad = some (wholeAt g (treeAt l a) empty).2.pos ∨
    (wholeAt g (treeAt l a) empty).2.bad = false ∧ (⟨l, a, fin, none⟩ : Rdr).bracket step kind empty = ((conv (wholeAt g (treeAt l a) empty).1, (tokAt l a).pos), ⟨l, a + 1, fin, none⟩) := by
  have htk : (treeAt l a).tok = tokAt l a := tokAt_eq hk
  have hb : (⟨l, a, fin, none⟩ : Rdr).bracket step kind empty = (((Rdr.inside step empty (treeAt l a)).2, (tokAt l a).pos), (⟨l, a + 1, fin, none⟩ : Rdr).under (Rdr.inside step empty (treeAt l a)).1) := by
    simp [Rdr.bracket, take_yes hk, Rdr.ok, htk]
  rw [hb]
  have hs := hs (treeAt l a)
  generalize treeAt l a = t at hs ⊢
  by_cases he : empty = true ∧ t.kids.length = 0
  · right
    have e1 : Rdr.inside step empty t = (t.inner, []) := by unfold Rdr.inside; rw [if_pos he]
    have e2 : wholeAt g t empty = ([], ⟨.zero, 0, false, 0⟩) := by unfold wholeAt; rw [if_pos he]
    rw [e1, e2]
    refine ⟨rfl, ?_⟩
    simp [Rdr.under, Rdr.close, Tree.inner, he.2, hc]
  · have e1 : Rdr.inside step empty t = someG step t.inner := by unfold Rdr.inside; rw [if_neg he]
    rw [e1]
    have hwh := whole_eq (g := g) t empty he
    generalize someAt (fun i => g t.kids i t.fin) t.kids (t.kids.length + 1) ((0 : Nat) : Int) [] = S at hs hwh
    generalize someG step t.inner = G at hs ⊢
    rcases hs with ⟨h1, h2⟩ | ⟨h1, h2⟩
    · left
      rw [h1] at hwh
      simp only [Bool.true_eq_false, false_and, if_false] at hwh
      rw [hwh]
      have hc : G.1.close = G.1 := by simp [Rdr.close, Rdr.ok, h2]
      exact ⟨h1, by simp [Rdr.under, hc, h2]⟩
    · rw [h1] at hwh
      simp only [true_and] at hwh
      rw [h2]
      by_cases hn : S.2.next < t.kids.length
      · left
        rw [if_pos hn] at hwh
        rw [hwh]
        exact ⟨rfl, by simp [Rdr.under, Rdr.close, Rdr.ok, hn, Rdr.fail, spot_eq, wrongAt]⟩
      · right
        rw [if_neg hn] at hwh
        rw [hwh]
        exact ⟨h1, by simp [Rdr.under, Rdr.close, hn]⟩
theorem nodes_alike {one : Rdr → Nd × Rdr} {g : List Tree → Int → Int → Got} (H : Alike one g) (hadv : Adv g) {l : List Tree} {a fin kind : Int} (hk : isK l a kind = true) (empty : Bool) :
    (wholeAt g (treeAt l a) empty).2.bad = true ∧ ((⟨l, a, fin, none⟩ : Rdr).nodes one kind empty).2.bad = some (wholeAt g (treeAt l a) empty).2.pos ∨
    (wholeAt g (treeAt l a) empty).2.bad = false ∧ (⟨l, a, fin, none⟩ : Rdr).nodes one kind empty = (((wholeAt g (treeAt l a) empty).1, (tokAt l a).pos), ⟨l, a + 1, fin, none⟩) :=
  bracket_alike (conv := id) rfl hk empty fun t => some_alike H hadv t.kids t.fin (t.kids.length + 1) t.kids.length 0 [] (by omega) (by omega) (by omega)
theorem words_alike {l : List Tree} {a fin : Int} (hk : isK l a 123 = true) (empty : Bool) :
    (wholeAt nameAt (treeAt l a) empty).2.bad = true ∧ ((⟨l, a, fin, none⟩ : Rdr).words empty).2.bad = some (wholeAt nameAt (treeAt l a) empty).2.pos ∨
    (wholeAt nameAt (treeAt l a) empty).2.bad = false ∧ (⟨l, a, fin, none⟩ : Rdr).words empty = ((wordsOf (wholeAt nameAt (treeAt l a) empty).1, (tokAt l a).pos), ⟨l, a + 1, fin, none⟩) :=
  bracket_alike (conv := wordsOf) rfl hk empty fun t => some_words t.kids t.fin (t.kids.length + 1) t.kids.length 0 [] [] rfl (by omega) (by omega) (by omega)
theorem leaf_alike (k : Int) : Alike (Rdr.leaf k) (leafG k) := fun l a fin => by
  unfold leafG
  cases h : isK l a 97
  · left
    simp [Rdr.leaf, Rdr.word, take_no h, wrongAt]
  · right
    simp [Rdr.leaf, Rdr.word, take_yes h, tokAt_eq h]
theorem rule_alike : Alike Rdr.rule ruleG := fun l a fin => by
  unfold ruleG Rdr.rule
  cases h : isK l a 97
  · left
    have hb : ∀ r : Rdr, r.bad ≠ none → ((r.take 58).2.words true).2.bad = r.bad := fun r hr => by
      obtain ⟨x, hx⟩ : ∃ x, r.bad = some x := by cases hq : r.bad with | none => exact absurd hq hr | some x => exact ⟨x, rfl⟩
      have e : r.take 58 = (.zero, r) := by simp [Rdr.take, Rdr.sees, Rdr.ok, hx, Rdr.fail]
      have e2 : r.take 123 = (.zero, r) := by simp [Rdr.take, Rdr.sees, Rdr.ok, hx, Rdr.fail]
      simp [e, Rdr.words, Rdr.bracket, e2, Rdr.ok, hx]
    simp only [Rdr.word, take_no h, if_true]
    exact ⟨rfl, hb _ (by simp)⟩
  simp only [Rdr.word, take_yes h, Bool.true_eq_false, if_false]
  cases h2 : isK l (a + 1) 58
  · left
    simp only [take_no h2, if_true]
    refine ⟨rfl, ?_⟩
    simp [Rdr.words, Rdr.bracket, Rdr.take, Rdr.sees, Rdr.ok, Rdr.fail, wrongAt]
  simp only [take_yes h2, Bool.true_eq_false, if_false]
  have e2 : a + 1 + 1 = a + 2 := by omega
  rw [e2]
  cases h3 : isK l (a + 2) 123
  · left
    simp only [if_true]
    refine ⟨rfl, ?_⟩
    simp [Rdr.words, Rdr.bracket, take_no h3, Rdr.ok, wrongAt]
  simp only [Bool.true_eq_false, if_false]
  rcases words_alike (fin := fin) h3 true with ⟨p1, p2⟩ | ⟨p1, p2⟩
  · left
    rw [if_pos p1]; exact ⟨p1, p2⟩
  · right
    rw [p1]
    simp only [Bool.false_eq_true, if_false]
    refine ⟨trivial, ?_⟩
    rw [p2]
    simp [tokAt_eq h]; omega
theorem isK_one {l : List Tree} {a k k' : Int} (h : isK l a k = true) (hne : k ≠ k') : isK l a k' = false := by
  cases hq : isK l a k' with
  | false => rfl
  | true =>
    obtain ⟨j, t, rfl, hj, hk, _⟩ := isK_spec h
    obtain ⟨j', t', e, hj', hk', _⟩ := isK_spec hq
    obtain rfl : j' = j := by omega
    rw [hj] at hj'; simp only [Option.some.injEq] at hj'; subst hj'
    exact absurd (hk.symm.trans hk') hne
theorem const_alike : ∀ n, Alike (Rdr.constant n) (constG n)
  | 0 => leaf_alike 2
  | n + 1 => fun l a fin => by
    simp only [constG, Rdr.constant, sees_eq]
    cases h97 : isK l a 97
    case true =>
      simp only [isK_one h97 (show (97 : Int) ≠ 123 by decide), isK_one h97 (show (97 : Int) ≠ 40 by decide), isK_one h97 (show (97 : Int) ≠ 91 by decide), Bool.false_eq_true, if_false, if_true]
      exact leaf_alike 2 l a fin
    simp only [Bool.false_eq_true, if_false]
    cases h123 : isK l a 123
    case true =>
      simp only [if_true]
      rcases words_alike (fin := fin) h123 true with ⟨p1, p2⟩ | ⟨p1, p2⟩
      · left; unfold inG; rw [if_pos p1]; exact ⟨p1, p2⟩
      · right; unfold inG; rw [p1, p2]; exact ⟨rfl, rfl⟩
    simp only [Bool.false_eq_true, if_false]
    cases h40 : isK l a 40
    case true =>
      simp only [if_true]
      rcases nodes_alike (const_alike n) (adv_const n) (fin := fin) h40 false with ⟨p1, p2⟩ | ⟨p1, p2⟩
      · left; unfold inG; rw [if_pos p1]; exact ⟨p1, p2⟩
      · right; unfold inG; rw [p1, p2]; exact ⟨rfl, rfl⟩
    simp only [Bool.false_eq_true, if_false]
    cases h91 : isK l a 91
    case true =>
      simp only [if_true]
      rcases nodes_alike rule_alike adv_rule (fin := fin) h91 true with ⟨p1, p2⟩ | ⟨p1, p2⟩
      · left; unfold inG; rw [if_pos p1]; exact ⟨p1, p2⟩
      · right; unfold inG; rw [p1, p2]; exact ⟨rfl, rfl⟩
    simp only [Bool.false_eq_true, if_false]
    left
    simp [Rdr.leaf, Rdr.word, take_no h97, wrongAt]
end Go.Am

namespace Go.Am
theorem bracket_no {β : Type} {step : Rdr × List β → Rdr × List β} {l : List Tree} {a fin kind : Int} {e : Bool} (h : isK l a kind = false) : (⟨l, a, fin, none⟩ : Rdr).bracket step kind e = (([], 0), ⟨l, a, fin, some (spotOf l a fin)⟩) := by
  simp [Rdr.bracket, take_no h, Rdr.ok]
theorem const_put {n : Nat} {l : List Tree} {a fin : Int} (f : Nd → Nd) :
    ((constG n l a fin).put f).bad = true ∧ (Rdr.constant n ⟨l, a, fin, none⟩).2.bad = some ((constG n l a fin).put f).pos ∨ ((constG n l a fin).put f).bad = false ∧ (f (Rdr.constant n ⟨l, a, fin, none⟩).1, (Rdr.constant n ⟨l, a, fin, none⟩).2) = (((constG n l a fin).put f).node, ⟨l, ((constG n l a fin).put f).next, fin, none⟩) := by
  unfold Got.put
  rcases const_alike n l a fin with ⟨p1, p2⟩ | ⟨p1, p2⟩
  · left; rw [if_pos p1]; exact ⟨p1, p2⟩
  · right; rw [p1, p2]; exact ⟨rfl, rfl⟩
def atG (n : Nat) (l : List Tree) (a fin : Int) : Got := if isK l a 35 = true then (constG n l (a + 1) fin).put fun m => .mk 7 (tokAt l a).pos [] [] [m] else leafG 1 l a fin
theorem at_alike (n : Nat) : Alike (Rdr.atom n) (atG n) := fun l a fin => by
  unfold atG
  simp only [Rdr.atom, sees_eq]
  cases h35 : isK l a 35
  · simp only [Bool.false_eq_true, if_false]
    exact leaf_alike 1 l a fin
  · simp only [if_true, take_yes h35, tokAt_eq h35]
    rcases const_put (n := n) (l := l) (a := a + 1) (fin := fin) (fun m => .mk 7 (tokAt l a).pos [] [] [m]) with ⟨p1, p2⟩ | ⟨p1, p2⟩
    · exact .inl ⟨p1, p2⟩
    · exact .inr ⟨p1, p2⟩
theorem label_alike : ∀ n, Alike (Rdr.label n) (labelG n)
  | 0 => leaf_alike 1
  | n + 1 => fun l a fin => by
    have sign : ∀ (k : Int), isK l a k = true → ∀ kd, (kd = 8 ∨ kd = 9) →
        let x : Nd × Rdr := (.mk kd ((⟨l, a, fin, none⟩ : Rdr).take k).1.tok.pos [] [] (((⟨l, a, fin, none⟩ : Rdr).take k).2.nodes (Rdr.label n) 40 false).1.1, (((⟨l, a, fin, none⟩ : Rdr).take k).2.nodes (Rdr.label n) 40 false).2)
        let g := if isK l (a + 1) 40 = false then wrongAt l (a + 1) fin else inG (wholeAt (labelG n) (treeAt l (a + 1)) false) (fun ks => .mk kd (tokAt l a).pos [] [] ks) (a + 2)
        g.bad = true ∧ x.2.bad = some g.pos ∨ g.bad = false ∧ x = (g.node, ⟨l, g.next, fin, none⟩) := fun k hk kd _ => by
      simp only [take_yes hk, tokAt_eq hk]
      cases h40 : isK l (a + 1) 40
      · left
        simp only [if_true]
        unfold Rdr.nodes
        rw [bracket_no h40]
        exact ⟨rfl, rfl⟩
      · simp only [Bool.true_eq_false, if_false]
        have e2 : a + 1 + 1 = a + 2 := by omega
        rcases nodes_alike (label_alike n) (adv_label n) (fin := fin) h40 false with ⟨p1, p2⟩ | ⟨p1, p2⟩
        · left; unfold inG; rw [if_pos p1]; exact ⟨p1, p2⟩
        · right; unfold inG; rw [p1, p2, e2]; exact ⟨rfl, rfl⟩
    simp only [labelG, Rdr.label, sees_eq]
    cases h97 : isK l a 97
    case true =>
      simp only [isK_one h97 (show (97 : Int) ≠ 43 by decide), isK_one h97 (show (97 : Int) ≠ 38 by decide), Bool.false_eq_true, if_false, if_true]
      have := at_alike (n + 1) l a fin
      unfold atG at this
      rw [isK_one h97 (show (97 : Int) ≠ 35 by decide)] at this
      exact this
    simp only [Bool.false_eq_true, if_false]
    cases h35 : isK l a 35
    case true =>
      simp only [isK_one h35 (show (35 : Int) ≠ 43 by decide), isK_one h35 (show (35 : Int) ≠ 38 by decide), Bool.false_eq_true, if_false, if_true]
      have := at_alike (n + 1) l a fin
      unfold atG at this
      rw [if_pos h35] at this
      exact this
    simp only [Bool.false_eq_true, if_false]
    cases h43 : isK l a 43
    case true =>
      simp only [Bool.true_eq_false, false_and, if_false, if_true, isK_one h43 (show (43 : Int) ≠ 38 by decide), Bool.false_eq_true]
      exact sign 43 h43 8 (.inl rfl)
    simp only [Bool.false_eq_true, if_false, true_and]
    cases h38 : isK l a 38
    case true =>
      simp only [Bool.true_eq_false, if_false, if_true]
      exact sign 38 h38 9 (.inr rfl)
    simp only [Bool.false_eq_true, if_false, if_true]
    left
    refine ⟨rfl, ?_⟩
    simp [Rdr.atom, sees_eq, h35, Rdr.leaf, Rdr.word, take_no h97, wrongAt]
theorem atom_alike (n : Nat) (l : List Tree) (a fin : Int) : (atomG n l a fin).bad = true ∧ (Rdr.atom n ⟨l, a, fin, none⟩).2.bad = some (atomG n l a fin).pos ∨ (atomG n l a fin).bad = false ∧ Rdr.atom n ⟨l, a, fin, none⟩ = ((atomG n l a fin).node, ⟨l, (atomG n l a fin).next, fin, none⟩) ∨ n = 0 ∧ isK l a 35 = true := by
  cases n with
  | zero =>
    cases h35 : isK l a 35
    · unfold atomG labelG
      by_cases h : isK l a 43 = true ∨ isK l a 38 = true
      · left
        rw [if_pos h]
        have h97 : isK l a 97 = false := by rcases h with h | h <;> exact isK_one h (by decide)
        exact ⟨rfl, by simp [Rdr.atom, sees_eq, h35, Rdr.leaf, Rdr.word, take_no h97, wrongAt]⟩
      · rw [if_neg h]
        have := leaf_alike 1 l a fin
        simp only [Rdr.atom, sees_eq, h35, Bool.false_eq_true, if_false]
        rcases this with h | h
        · exact .inl h
        · exact .inr (.inl h)
    · exact .inr (.inr ⟨rfl, rfl⟩)
  | succ n =>
    unfold atomG
    by_cases h : isK l a 43 = true ∨ isK l a 38 = true
    · left
      rw [if_pos h]
      have h97 : isK l a 97 = false := by rcases h with h | h <;> exact isK_one h (by decide)
      have h35 : isK l a 35 = false := by rcases h with h | h <;> exact isK_one h (by decide)
      exact ⟨rfl, by simp [Rdr.atom, sees_eq, h35, Rdr.leaf, Rdr.word, take_no h97, wrongAt]⟩
    · rw [if_neg h]
      have h43 : isK l a 43 = false := by cases hq : isK l a 43 with | false => rfl | true => exact absurd (.inl hq) h
      have h38 : isK l a 38 = false := by cases hq : isK l a 38 with | false => rfl | true => exact absurd (.inr hq) h
      have := label_alike (n + 1) l a fin
      simp only [Rdr.label, sees_eq, h43, h38, Bool.false_eq_true, if_false] at this
      rcases this with h | h
      · exact .inl h
      · exact .inr (.inl h)
end Go.Am

namespace Go.Am
theorem field_alike (n : Nat) : Alike (Rdr.field (n + 1)) (fieldG (n + 1)) := fun l a fin => by
  have hat : ∀ (b : Int), ∀ r : Rdr, r.bad = some b → ∀ m, (Rdr.atom m r).2.bad = some b := fun b r hr m => by
    have e : ∀ k, r.sees k = false := fun k => by simp [Rdr.sees, Rdr.ok, hr]
    have e2 : r.take 97 = (.zero, r) := by simp [Rdr.take, e, Rdr.fail, hr]
    simp [Rdr.atom, e, Rdr.leaf, Rdr.word, e2, hr]
  unfold fieldG Rdr.field
  cases h : isK l a 97
  · left
    simp only [Rdr.word, take_no h, if_true]
    refine ⟨rfl, hat _ _ ?_ _⟩
    simp [Rdr.take, Rdr.sees, Rdr.ok, Rdr.fail, wrongAt]
  simp only [Rdr.word, take_yes h, Bool.true_eq_false, if_false]
  cases h2 : isK l (a + 1) 61
  · left
    simp only [take_no h2, if_true]
    exact ⟨rfl, hat _ _ rfl _⟩
  simp only [take_yes h2, Bool.true_eq_false, if_false]
  have e2 : a + 1 + 1 = a + 2 := by omega
  rw [e2]
  unfold Got.put
  rcases atom_alike (n + 1) l (a + 2) fin with ⟨p1, p2⟩ | ⟨p1, p2⟩ | ⟨h0, _⟩
  · left; rw [if_pos p1]; exact ⟨p1, p2⟩
  · right; rw [p1, p2, tokAt_eq h]; exact ⟨rfl, rfl⟩
  · omega
theorem row_end {l : List Tree} {a fin : Int} {ks : List Nd} {nx : Int} {X : (Rdr × List Nd) × List Word} (r1 : Rdr) (hr : r1 = ⟨(treeAt l a).kids, nx, (treeAt l a).fin, none⟩)
    (hX : X = if r1.sees 124 = true then (((r1.take 124).2.word.2, ks), [(r1.take 124).2.word.1]) else ((r1, ks), [])) :
    (rowG2 l a ks nx).bad = true ∧ ((⟨l, a + 1, fin, none⟩ : Rdr).under X.1.1).bad = some (rowG2 l a ks nx).pos ∨
    (rowG2 l a ks nx).bad = false ∧ ((Nd.mk 10 (tokAt l a).pos [] X.2 X.1.2, (⟨l, a + 1, fin, none⟩ : Rdr).under X.1.1) : Nd × Rdr) = ((rowG2 l a ks nx).node, ⟨l, (rowG2 l a ks nx).next, fin, none⟩) := by
  subst hr
  unfold rowG2
  simp only [sees_eq] at hX
  cases h124 : isK (treeAt l a).kids nx 124
  · rw [h124] at hX
    simp only [Bool.false_eq_true, if_false] at hX ⊢
    subst hX
    unfold rowG3
    by_cases hn : nx < (treeAt l a).kids.length
    · left
      rw [if_pos hn]
      exact ⟨rfl, by simp [Rdr.under, Rdr.close, Rdr.ok, hn, Rdr.fail, spot_eq, wrongAt]⟩
    · right
      rw [if_neg hn]
      exact ⟨rfl, by simp [Rdr.under, Rdr.close, hn]⟩
  · rw [h124] at hX
    simp only [if_true, take_yes h124] at hX ⊢
    cases h97 : isK (treeAt l a).kids (nx + 1) 97
    · left
      have e : nameAt (treeAt l a).kids (nx + 1) (treeAt l a).fin = wrongAt (treeAt l a).kids (nx + 1) (treeAt l a).fin := nameAt_no h97
      rw [e]
      simp only [wrongAt, if_true]
      subst hX
      exact ⟨trivial, by simp [Rdr.word, take_no h97, Rdr.under, Rdr.close, Rdr.ok]⟩
    · rw [nameAt_yes h97]
      simp only [Bool.false_eq_true, if_false]
      have hw : (⟨(treeAt l a).kids, nx + 1, (treeAt l a).fin, none⟩ : Rdr).word = (⟨(tokAt (treeAt l a).kids (nx + 1)).text, (tokAt (treeAt l a).kids (nx + 1)).pos⟩, ⟨(treeAt l a).kids, nx + 1 + 1, (treeAt l a).fin, none⟩) := by
        simp [Rdr.word, take_yes h97, tokAt_eq h97]
      rw [hw] at hX
      subst hX
      unfold rowG3
      by_cases hn : nx + 1 + 1 < (treeAt l a).kids.length
      · left
        rw [if_pos hn]
        exact ⟨rfl, by simp [Rdr.under, Rdr.close, Rdr.ok, hn, Rdr.fail, spot_eq, wrongAt]⟩
      · right
        rw [if_neg hn]
        exact ⟨rfl, by simp [Rdr.under, Rdr.close, hn, wordsOf, Nd.text, Nd.pos]⟩
theorem row_alike (n : Nat) : Alike (Rdr.row (n + 1)) (rowG (n + 1)) := fun l a fin => by
  unfold rowG
  simp only [Rdr.row, sees_eq]
  cases h97 : isK l a 97
  case true =>
    simp only [isK_one h97 (show (97 : Int) ≠ 91 by decide), Bool.false_eq_true, if_false, if_true]
    have := leaf_alike 1 l a fin
    simp only [labelG, h97, if_true]
    exact this
  simp only [Bool.false_eq_true, if_false]
  cases h91 : isK l a 91
  case false =>
    left
    simp only [Bool.false_eq_true, if_false, if_true]
    exact ⟨rfl, by simp [Rdr.leaf, Rdr.word, take_no h97, wrongAt]⟩
  simp only [Bool.true_eq_false, if_false, if_true, take_yes h91, tokAt_eq h91]
  have hin : (treeAt l a).inner = ⟨(treeAt l a).kids, 0, (treeAt l a).fin, none⟩ := rfl
  by_cases hpos : 0 < (treeAt l a).kids.length ∧ isK (treeAt l a).kids 0 124 = false
  · rw [if_pos hpos]
    have hX : Rdr.rowOf (n + 1) (treeAt l a) = if (someG (oStep (Rdr.field (n + 1))) (treeAt l a).inner).1.sees 124 = true then ((((someG (oStep (Rdr.field (n + 1))) (treeAt l a).inner).1.take 124).2.word.2, (someG (oStep (Rdr.field (n + 1))) (treeAt l a).inner).2), [((someG (oStep (Rdr.field (n + 1))) (treeAt l a).inner).1.take 124).2.word.1]) else (someG (oStep (Rdr.field (n + 1))) (treeAt l a).inner, []) := by
      unfold Rdr.rowOf Rdr.rowIn
      rw [if_neg (by omega)]
      have : (treeAt l a).inner.sees 124 = false := by rw [hin, sees_eq]; exact hpos.2
      simp [this]
    have hs : (rowS (n + 1) l a).2.bad = true ∧ (someG (oStep (Rdr.field (n + 1))) (treeAt l a).inner).1.bad = some (rowS (n + 1) l a).2.pos ∨ (rowS (n + 1) l a).2.bad = false ∧ someG (oStep (Rdr.field (n + 1))) (treeAt l a).inner = (⟨(treeAt l a).kids, (rowS (n + 1) l a).2.next, (treeAt l a).fin, none⟩, (rowS (n + 1) l a).1) :=
      some_alike (field_alike n) (adv_field (n + 1)) (treeAt l a).kids (treeAt l a).fin ((treeAt l a).kids.length + 1) (treeAt l a).kids.length 0 [] (by omega) (by omega) (by omega)
    generalize someG (oStep (Rdr.field (n + 1))) (treeAt l a).inner = G at hX hs
    generalize rowS (n + 1) l a = S at hs ⊢
    rcases hs with ⟨p1, p2⟩ | ⟨p1, p2⟩
    · left
      rw [if_pos p1]
      have hns : G.1.sees 124 = false := by simp [Rdr.sees, Rdr.ok, p2]
      rw [hX, hns]
      simp only [Bool.false_eq_true, if_false]
      have hc : G.1.close = G.1 := by simp [Rdr.close, Rdr.ok, p2]
      exact ⟨p1, by simp [Rdr.under, hc, p2]⟩
    · rw [p1]
      simp only [Bool.false_eq_true, if_false]
      rw [p2] at hX
      exact row_end _ rfl hX
  · rw [if_neg hpos]
    refine row_end (ks := []) (nx := 0) (treeAt l a).inner hin ?_
    unfold Rdr.rowOf Rdr.rowIn
    by_cases hk : (treeAt l a).kids.length = 0
    · rw [if_pos hk]
      have : (treeAt l a).inner.sees 124 = false := by rw [hin, sees_eq]; simp [List.length_eq_zero_iff.1 hk, isK]
      rw [this]; simp
    · rw [if_neg hk]
      have h0 : isK (treeAt l a).kids 0 124 = true := by
        cases hq : isK (treeAt l a).kids 0 124 with
        | true => rfl
        | false => exact absurd ⟨by omega, hq⟩ hpos
      have : (treeAt l a).inner.sees 124 = true := by rw [hin, sees_eq]; exact h0
      simp only [this, if_true]
theorem readAt_got {one : Rdr → Nd × Rdr} {g : List Tree → Int → Int → Got} (H : Alike one g) (l : List Tree) (a fin : Int) :
    (g l a fin).bad = true ∧ readAt one l a fin = (.zero, 0, some (g l a fin).pos) ∨ (g l a fin).bad = false ∧ readAt one l a fin = ((g l a fin).node, (g l a fin).next, none) := by
  unfold readAt
  rcases H l a fin with ⟨p1, p2⟩ | ⟨p1, p2⟩
  · left; rw [p2]; exact ⟨p1, rfl⟩
  · right; rw [p2]; exact ⟨p1, rfl⟩
end Go.Am

namespace Go.Am
theorem word_yes {l : List Tree} {a fin : Int} (h : isK l a 97 = true) : (⟨l, a, fin, none⟩ : Rdr).word = (wordAt l a, ⟨l, a + 1, fin, none⟩) := by
  simp [Rdr.word, take_yes h, tokAt_eq h, wordAt]
theorem word_no {l : List Tree} {a fin : Int} (h : isK l a 97 = false) : (⟨l, a, fin, none⟩ : Rdr).word = (⟨[], 0⟩, ⟨l, a, fin, some (spotOf l a fin)⟩) := by
  simp [Rdr.word, take_no h, Tree.zero, Tree.tok]
theorem take_bad {l : List Tree} {a fin b k : Int} : (⟨l, a, fin, some b⟩ : Rdr).take k = (.zero, ⟨l, a, fin, some b⟩) := by
  simp [Rdr.take, Rdr.sees, Rdr.ok, Rdr.fail]
theorem word_bad {l : List Tree} {a fin b : Int} : (⟨l, a, fin, some b⟩ : Rdr).word = (⟨[], 0⟩, ⟨l, a, fin, some b⟩) := by
  simp [Rdr.word, take_bad, Tree.zero, Tree.tok]
theorem pairsG_bad {i : Rdr} {b : Int} (h : i.bad = some b) : ∀ n acc, (Rdr.pairsG n i acc).1.bad = some b
  | 0, _ => h
  | n + 1, _ => by simp [Rdr.pairsG, h]
section
variable {N : Int} (h0 : 0 ≤ N)
include h0
theorem pairs_alike {l : List Tree} {fin : Int} (hl : AOk N l) (hf : In N fin) : ∀ (n a : Nat) (acc : List (Word × Word)), l.length < n + a → a ≤ l.length →
    (pairsF l fin n a acc).2 = -1 ∧ (Rdr.pairsG n ⟨l, a, fin, none⟩ acc).1.bad = none ∧ (Rdr.pairsG n ⟨l, a, fin, none⟩ acc).2 = (pairsF l fin n a acc).1 ∨
    In N (pairsF l fin n a acc).2 ∧ (Rdr.pairsG n ⟨l, a, fin, none⟩ acc).1.bad = some (pairsF l fin n a acc).2
  | 0, a, acc, hn, ha => by omega
  | n + 1, a, acc, hn, ha => by
    simp only [Rdr.pairsG, pairsF, ne_eq, not_true_eq_false, if_false]
    cases h1 : isK l (a : Nat) 97
    · right
      simp only [if_true, word_no h1, take_bad, word_bad]
      refine ⟨spot_in h0 hl hf, ?_⟩
      split
      · rfl
      · exact pairsG_bad rfl _ _
    simp only [word_yes h1, Bool.true_eq_false, if_false]
    cases h2 : isK l ((a + 1 : Nat) : Int) 60
    · right
      have h2' : isK l ((a : Int) + 1) 60 = false := h2
      simp only [if_true, take_no h2', word_bad, take_bad]
      refine ⟨spot_in h0 hl hf, ?_⟩
      split
      · rfl
      · exact pairsG_bad rfl _ _
    have h2' : isK l ((a : Int) + 1) 60 = true := h2
    simp only [take_yes h2', Bool.true_eq_false, if_false]
    rw [show (a : Int) + 1 + 1 = ((a + 2 : Nat) : Int) by omega]
    cases h3 : isK l ((a + 2 : Nat) : Int) 97
    · right
      simp only [if_true, word_no h3, take_bad]
      refine ⟨spot_in h0 hl hf, ?_⟩
      split
      · rfl
      · exact pairsG_bad rfl _ _
    have hl2 := (isK_lt h3).2
    simp only [word_yes h3, Bool.true_eq_false, if_false]
    rw [show ((a + 2 : Nat) : Int) + 1 = ((a + 3 : Nat) : Int) by omega]
    by_cases hend : a + 3 = l.length
    · left
      rw [if_pos hend, if_pos (show ((a + 3 : Nat) : Int) = (l.length : Int) by omega)]
      exact ⟨rfl, rfl, rfl⟩
    rw [if_neg hend, if_neg (show ¬ ((a + 3 : Nat) : Int) = (l.length : Int) by omega)]
    cases h4 : isK l ((a + 3 : Nat) : Int) 44
    · right
      simp only [if_true, take_no h4]
      exact ⟨spot_in h0 hl hf, pairsG_bad rfl _ _⟩
    simp only [take_yes h4, Bool.true_eq_false, if_false]
    rw [show ((a + 3 : Nat) : Int) + 1 = ((a + 4 : Nat) : Int) by omega]
    exact pairs_alike hl hf n (a + 4) _ (by omega) (by omega)
def PA (l : List Tree) (fin : Int) (P : Rdr × Cmd) (R : Cmd × Int × Int) : Prop :=
  0 ≤ R.2.2 ∧ P.1.bad = some R.2.2 ∨ R.2.2 < 0 ∧ P = (⟨l, R.2.1, fin, none⟩, R.1)
def lettersOk (ks : List UInt8) : Prop := ∀ k ∈ ks, k = 110 ∨ k = 102 ∨ k = 119 ∨ k = 112 ∨ k = 116 ∨ k = 114
theorem part_alike {l : List Tree} {fin : Int} (hl : AOk N l) (hf : In N fin) (hm : 0 < manys l) {k : UInt8} (c : Cmd) (a : Nat) (hk : k = 110 ∨ k = 102 ∨ k = 119 ∨ k = 112 ∨ k = 116 ∨ k = 114) (hp : k = 112 → c.pairs = []) :
    PA l fin (partP k (⟨l, a, fin, none⟩, c)) (partR k c l a fin) := by
  have hs : ∀ b, In N (spotOf l b fin) := fun b => spot_in h0 hl hf
  rcases hk with rfl | rfl | rfl | rfl | rfl | rfl
  · simp only [partP, partR]
    cases h : isK l (a : Nat) 97
    · left; simp [word_no h]; exact (hs _).1
    · right; simp [word_yes h]
  · simp only [partP, partR]
    cases h : isK l (a : Nat) 97
    · left; simp [word_no h]; exact (hs _).1
    · right; simp [word_yes h]
  · have hi := words_in h0 (a := (a : Nat)) hl hf
    rcases words_law l (a : Nat) fin with ⟨p1, p2⟩ | ⟨p1, p2⟩
    · left; simp [partP, partR, p1, p2]; exact hi.1
    · right; simp [partP, partR, p1, p2]
  · have hp := hp rfl
    cases h : isK l (a : Nat) 123
    · left; simp [partP, partR, pairsP, take_no h, h]; exact (hs _).1
    · obtain ⟨hk, hf2⟩ := treeAt_in h0 (a := (a : Nat)) hl
      have ha := pairs_alike h0 hk hf2 ((treeAt l (a : Nat)).kids.length + 1) 0 [] (by omega) (by omega)
      have hin : (treeAt l (a : Nat)).inner = ⟨(treeAt l (a : Nat)).kids, ((0 : Nat) : Int), (treeAt l (a : Nat)).fin, none⟩ := rfl
      by_cases hz : (treeAt l (a : Nat)).kids.length = 0
      · right
        simp only [partP, partR, pairsP, take_yes h, h, pairsR]
        simp [hz, hp]
      · simp only [partP, partR, pairsP, take_yes h, h, pairsR, hin]
        generalize Rdr.pairsG ((treeAt l (a : Nat)).kids.length + 1) ⟨(treeAt l (a : Nat)).kids, ((0 : Nat) : Int), (treeAt l (a : Nat)).fin, none⟩ [] = G at ha ⊢
        generalize pairsF (treeAt l (a : Nat)).kids (treeAt l (a : Nat)).fin ((treeAt l (a : Nat)).kids.length + 1) 0 [] = F at ha ⊢
        rcases ha with ⟨p1, p2, p3⟩ | ⟨p1, p2⟩
        · right
          simp [hz, p1, p2, p3, Rdr.bads]
        · left
          have := p1.1
          simp [hz, p2, Rdr.bads]
          exact this
  · have hi := label_in h0 (manys l) l (a : Nat) fin hl hf
    obtain ⟨m, hm⟩ : ∃ m, manys l = m + 1 := ⟨manys l - 1, by omega⟩
    rw [hm] at hi
    have e1 : partR 116 c l (a : Nat) fin = if (labelG (manys l) l (a : Nat) fin).bad = true then (c, (a : Int), (labelG (manys l) l (a : Nat) fin).pos) else (if c.left.kind = 0 then { c with left := (labelG (manys l) l (a : Nat) fin).node } else { c with right := (labelG (manys l) l (a : Nat) fin).node }, (labelG (manys l) l (a : Nat) fin).next, -1) := rfl
    have e2 : partP 116 (⟨l, a, fin, none⟩, c) = nodeP ⟨l, a, fin, none⟩ c (readAt (Rdr.label (manys l)) l (a : Nat) fin) := rfl
    rw [e1, e2, hm]
    have ha := readAt_got (label_alike (m + 1)) l (a : Nat) fin
    generalize readAt (Rdr.label (m + 1)) l (a : Nat) fin = T at ha ⊢
    generalize labelG (m + 1) l (a : Nat) fin = g at ha hi ⊢
    rcases ha with ⟨p1, p2⟩ | ⟨p1, p2⟩
    · left
      rw [if_pos p1, p2]
      exact ⟨hi.1, rfl⟩
    · right
      rw [if_neg (by simp [p1]), p2]
      exact ⟨show (-1 : Int) < 0 by decide, rfl⟩
  · have hi := row_in h0 (manys l) l (a : Nat) fin hl hf
    obtain ⟨m, hm⟩ : ∃ m, manys l = m + 1 := ⟨manys l - 1, by omega⟩
    rw [hm] at hi
    have e1 : partR 114 c l (a : Nat) fin = if (rowG (manys l) l (a : Nat) fin).bad = true then (c, (a : Int), (rowG (manys l) l (a : Nat) fin).pos) else (if c.left.kind = 0 then { c with left := (rowG (manys l) l (a : Nat) fin).node } else { c with right := (rowG (manys l) l (a : Nat) fin).node }, (rowG (manys l) l (a : Nat) fin).next, -1) := rfl
    have e2 : partP 114 (⟨l, a, fin, none⟩, c) = nodeP ⟨l, a, fin, none⟩ c (readAt (Rdr.row (manys l)) l (a : Nat) fin) := rfl
    rw [e1, e2, hm]
    have ha := readAt_got (row_alike m) l (a : Nat) fin
    generalize readAt (Rdr.row (m + 1)) l (a : Nat) fin = T at ha ⊢
    generalize rowG (m + 1) l (a : Nat) fin = g at ha hi ⊢
    rcases ha with ⟨p1, p2⟩ | ⟨p1, p2⟩
    · left
      rw [if_pos p1, p2]
      exact ⟨hi.1, rfl⟩
    · right
      rw [if_neg (by simp [p1]), p2]
      exact ⟨show (-1 : Int) < 0 by decide, rfl⟩
theorem partsP_bad {b : Int} : ∀ (ks : List UInt8) (x : Rdr × Cmd), x.1.bad = some b → (partsP ks x).1.bad = some b
  | [], _, h => h
  | k :: ks, x, h => by
    simp only [partsP]
    exact partsP_bad ks _ (by simp [partP, h])
theorem partR_pairs {k : UInt8} {c : Cmd} {l : List Tree} {a fin : Int} (hk : k ≠ 112) : (partR k c l a fin).1.pairs = c.pairs := by
  unfold partR
  split
  · split
    · split <;> rfl
    · rfl
  split
  · split <;> rfl
  generalize (if k = 114 then rowG (manys l) l a fin else labelG (manys l) l a fin) = g
  simp only [hk, if_false]
  cases g.bad
  · simp only [Bool.false_eq_true, if_false]; split <;> rfl
  · rfl
theorem parts_alike {l : List Tree} {fin : Int} (hl : AOk N l) (hf : In N fin) (hm : 0 < manys l) : ∀ (ks : List UInt8) (c : Cmd) (a : Nat), lettersOk ks → ks.count 112 ≤ 1 → (112 ∈ ks → c.pairs = []) →
    PA l fin (partsP ks (⟨l, a, fin, none⟩, c)) (partsR l fin ks c a)
  | [], c, a, _, _, _ => .inr ⟨by simp [partsR], rfl⟩
  | k :: ks, c, a, hk, hc, hp => by
    have h1 := part_alike h0 hl hf hm c a (hk k (by simp)) (fun h => hp (by simp [h]))
    obtain ⟨a', ha', _⟩ := partR_next k c l a fin
    have hpp := partR_pairs h0 (k := k) (c := c) (l := l) (a := (a : Nat)) (fin := fin)
    simp only [partsP, partsR]
    generalize partR k c l (a : Nat) fin = R at h1 ha' hpp ⊢
    rcases h1 with ⟨p1, p2⟩ | ⟨p1, p2⟩
    · rw [if_pos p1]
      exact .inl ⟨p1, partsP_bad h0 ks _ p2⟩
    · rw [if_neg (by omega), p2, ha']
      by_cases e : k = 112
      · have hn : ks.count 112 = 0 := by rw [e] at hc; rw [List.count_cons_self] at hc; omega
        exact parts_alike hl hf hm ks _ a' (fun k h => hk k (by simp [h])) (by omega) (fun h => absurd h (List.count_eq_zero.1 hn))
      · refine parts_alike hl hf hm ks _ a' (fun k h => hk k (by simp [h])) ?_ (fun h => ?_)
        · rw [List.count_cons_of_ne e] at hc; exact hc
        · rw [hpp e]; exact hp (by simp [h])
end
theorem numF_no {w : List UInt8} : ∀ n op, (∀ k : Nat, op ≤ k → k < op + n → 0 < k → (formOf k).1 ≠ w) → numF w n op = 0
  | 0, _, _ => rfl
  | n + 1, op, h => by
    simp only [numF]
    rw [if_neg (fun ⟨x, y⟩ => h op (by omega) (by omega) x y)]
    exact numF_no n (op + 1) fun k a b c => h k (by omega) (by omega) c
theorem opF_no {w : List UInt8} (r : Int) : ∀ n op, (∀ k : Nat, op ≤ k → k < op + n → (formOf k).1 ≠ w) → opF w n op r = r
  | 0, _, _ => rfl
  | n + 1, op, h => by
    simp only [opF]
    rw [if_neg (fun e => h op (by omega) (by omega) e.symm)]
    exact opF_no r n (op + 1) fun k a b => h k (by omega) (by omega)
theorem number_op (w : List UInt8) : numberP w = opF w 15 1 0 := by
  by_cases h : ∃ k : Nat, k < 16 ∧ 0 < k ∧ (formOf k).1 = w
  · obtain ⟨k, h1, h2, rfl⟩ := h
    have key : ∀ k : Nat, k < 16 → 0 < k → numF (formOf k).1 16 0 = opF (formOf k).1 15 1 0 := by decide +kernel
    exact key k h1 h2
  · have hn : ∀ k : Nat, k < 16 → 0 < k → (formOf k).1 ≠ w := fun k h1 h2 e => h ⟨k, h1, h2, e⟩
    unfold numberP
    rw [numF_no 16 0 (fun k _ h1 h2 => hn k (by omega) h2), opF_no 0 15 1 (fun k h1 h2 => hn k (by omega) (by omega))]
theorem form_letters (op : Int) : lettersOk (formOf op).2 ∧ (formOf op).2.count 112 ≤ 1 := by
  unfold formOf lettersOk
  split
  · rename_i h1
    have hlt : op.toNat < 16 := by omega
    generalize op.toNat = n at hlt ⊢
    have key : ∀ n < 16, (∀ k ∈ (formT.getD n ([], [])).2, k = 110 ∨ k = 102 ∨ k = 119 ∨ k = 112 ∨ k = 116 ∨ k = 114) ∧ (formT.getD n ([], [])).2.count 112 ≤ 1 := by decide +kernel
    exact key n hlt
  · simp
theorem cmd_law {N : Int} (h0 : 0 ≤ N) {l : List Tree} {fin : Int} (hl : AOk N l) (hf : In N fin) : cmdP l fin = cmdR l fin := by
  cases l with
  | nil => rfl
  | cons t ts =>
    have hm : 0 < manys (t :: ts) := by have := manys_ge (t :: ts); simp at this; omega
    have hk : isK (t :: ts) ((0 : Nat) : Int) 97 = decide (t.tok.kind = 97) := by simp [isK]
    unfold cmdP cmdR
    simp only
    by_cases h97 : t.tok.kind = 97
    · have hk1 : isK (t :: ts) 0 97 = true := by have := hk; simp only [h97, decide_true] at this; exact this
      have hw : (⟨t :: ts, 0, fin, none⟩ : Rdr).word = (⟨t.tok.text, t.tok.pos⟩, ⟨t :: ts, ((1 : Nat) : Int), fin, none⟩) := by
        rw [word_yes hk1]; rfl
      simp only [hw, if_pos h97, ← number_op]
      generalize numberP t.tok.text = op
      by_cases hz : op = 0
      · rw [if_pos hz, if_pos hz]
      · rw [if_neg hz, if_neg hz]
        obtain ⟨f1, f2⟩ := form_letters op
        have hpa := parts_alike h0 hl hf hm (formOf op).2 { Cmd.zero with op := op, pos := t.tok.pos } 1 f1 f2 (fun _ => rfl)
        rw [show ((1 : Nat) : Int) = 1 from rfl] at hpa ⊢
        generalize partsR (t :: ts) fin (formOf op).2 { Cmd.zero with op := op, pos := t.tok.pos } 1 = R at hpa ⊢
        rcases hpa with ⟨p1, p2⟩ | ⟨p1, p2⟩
        · rw [if_pos p1]
          unfold endP
          simp [p2]
        · rw [if_neg (by omega), p2]
          unfold endP
          by_cases hend : R.2.1 < ((t :: ts).length : Int)
          · rw [if_pos hend]
            simp only [true_and, if_pos hend, Rdr.fail, spot_eq]
          · rw [if_neg hend]
            simp only [true_and, if_neg hend]
    · have hk1 : isK (t :: ts) 0 97 = false := by have := hk; simp only [h97, decide_false] at this; exact this
      rw [word_no hk1, if_neg h97]
      have : numberP [] = 0 := by decide +kernel
      simp only [this, if_true]
theorem readP_readR (s : List UInt8) : readP s = readR s := by
  unfold readP readR
  rw [treeP_line]
  have h := (lineTrees_in s).1
  rw [cmd_law (N := s.length) (by omega) h ⟨by omega, by omega⟩]
  all_goals rcases (lexR s).2 with _ | a <;> first | rfl | (cases (treeR (lexR s).1).2 <;> rfl)
end Go.Am

namespace Go.Am
structure CB (B : Nat) (c : Cmd) : Prop where
  ns : wsum c.names ≤ B
  ps : c.pairs.length ≤ B
  l : c.left.wt ≤ B
  r : c.right.wt ≤ B
theorem eats_le {r r' : Rdr} {seg : List Tree} (h : Eats r r' seg) : szs seg ≤ szs r.l := by
  obtain ⟨pre, post, e, _, _⟩ := h.ex
  rw [e, szs_append, szs_append]; omega
theorem word_le {r : Rdr} (hg : Goods r.l) (hb : r.bad = none) : r.word.1.text.length ≤ 16 := by
  cases h : (r.take 97).2.bad with
  | none => exact tree_len ((take_eats h).1.good hg).1
  | some b =>
    have : (r.take 97).1 = .zero := by
      unfold Rdr.take at h ⊢
      split
      · rename_i hs; rw [if_pos hs] at h; simp [hb] at h
      · rfl
    simp [Rdr.word, this, Tree.zero, Tree.tok]
theorem pairsG_len : ∀ (n : Nat) (i : Rdr) (acc : List (Word × Word)), (Rdr.pairsG n i acc).2.length ≤ acc.length + n
  | 0, _, _ => by simp [Rdr.pairsG]
  | n + 1, i, acc => by
    simp only [Rdr.pairsG]
    split
    · simp only; omega
    · split
      · simp
      · have := pairsG_len n (((i.word.2.take 60).2.word).2.take 44).2 (acc ++ [(i.word.1, ((i.word.2.take 60).2.word).1)])
        simp only [List.length_append, List.length_cons, List.length_nil] at this; omega
theorem node_cb {B : Nat} {c : Cmd} (h : CB B c) {r : Rdr} {g : Nd × Int × Option Int} (hg : g.1.wt ≤ B) : CB B (nodeP r c g).2 := by
  unfold nodeP
  cases g.2.2 with
  | some a => exact h
  | none =>
    simp only
    split
    · exact ⟨h.ns, h.ps, hg, h.r⟩
    · exact ⟨h.ns, h.ps, h.l, hg⟩
theorem readAt_wt {one : Rdr → Nd × Rdr} {Q : Nd → Prop} (hs : Sound one Nd.txt Q SN) {l : List Tree} (hg : Goods l) (a fin : Int) : (readAt one l a fin).1.wt ≤ szs l + 4 := by
  unfold readAt
  cases hb : (one ⟨l, a, fin, none⟩).2.bad with
  | some b => simp only [zero_wt]; omega
  | none =>
    obtain ⟨seg, e1, _, _, e4⟩ := hs ⟨l, a, fin, none⟩ hg hb
    have := eats_le e1
    simp only [SN] at e4 this ⊢
    omega
theorem part_cb {B : Nat} {k : UInt8} {x : Rdr × Cmd} (hg : Goods x.1.l) (hB : szs x.1.l + 20 ≤ B) (h : CB B x.2) : CB B (partP k x).2 := by
  obtain ⟨r, c⟩ := x
  simp only at hg hB h
  unfold partP
  simp only
  split
  · exact h
  rename_i hb
  have hb : r.bad = none := by simpa using hb
  split
  · exact ⟨h.ns, h.ps, h.l, h.r⟩
  split
  · refine ⟨?_, h.ps, h.l, h.r⟩
    have := word_le hg hb
    simp [wsum]; omega
  split
  · refine ⟨?_, h.ps, h.l, h.r⟩
    show wsum (wordsAt r.l r.at_ r.fin).1 ≤ B
    unfold wordsAt
    cases hw : ((⟨r.l, r.at_, r.fin, none⟩ : Rdr).words false).2.bad with
    | some b => simp [wsum]
    | none =>
      obtain ⟨t, e1, _, _, _, e5⟩ := words_sound (r := ⟨r.l, r.at_, r.fin, none⟩) hg hw
      have := eats_le e1
      simp only at this ⊢
      omega
  split
  · unfold pairsP
    simp only
    split
    · exact ⟨h.ns, h.ps, h.l, h.r⟩
    · refine ⟨h.ns, ?_, h.l, h.r⟩
      have h1 := pairsG_len ((r.take 123).1.kids.length + 1) (r.take 123).1.inner []
      have h2 := manys_ge (r.take 123).1.kids
      have h3 := (r.take_many 123).1
      simp only [szs, List.length_nil] at hB h1 ⊢
      omega
  split
  · exact node_cb h (by have := readAt_wt (label_sound (manys r.l)) hg r.at_ r.fin; omega)
  split
  · exact node_cb h (by have := readAt_wt (row_sound (manys r.l)) hg r.at_ r.fin; omega)
  · exact h
theorem parts_cb {B : Nat} {l : List Tree} {fin : Int} (hg : Goods l) (hB : szs l + 20 ≤ B) : ∀ (ks : List UInt8) (x : Rdr × Cmd), PInv l fin x → CB B x.2 → CB B (partsP ks x).2
  | [], _, _, h => h
  | k :: ks, x, hi, h => parts_cb hg hB ks _ (partP_inv hi k) (part_cb (by rw [hi.hl]; exact hg) (by rw [hi.hl]; exact hB) h)
theorem zero_cb {B : Nat} (h : 4 ≤ B) : CB B Cmd.zero := ⟨by simp [Cmd.zero, wsum], by simp [Cmd.zero], by simp only [Cmd.zero, zero_wt]; omega, by simp only [Cmd.zero, zero_wt]; omega⟩
theorem end_cb {B : Nat} {x : Rdr × Cmd} (h4 : 4 ≤ B) (h : CB B x.2) : CB B (endP x).1 := by
  unfold endP
  split
  · exact zero_cb h4
  · exact h
theorem cmd_cb {B : Nat} {l : List Tree} {fin : Int} (hg : Goods l) (hB : szs l + 20 ≤ B) : CB B (cmdP l fin).1 := by
  unfold cmdP
  split
  · exact zero_cb (by omega)
  · rename_i t ts
    simp only
    split
    · exact zero_cb (by omega)
    · refine end_cb (by omega) (parts_cb hg hB _ _ (fin := fin) ?_ ?_)
      · exact PInv.goes (x := (⟨t :: ts, 0, fin, none⟩, Cmd.zero)) ⟨rfl, rfl, by simp, by simp only; omega, fun _ => by simp only; omega⟩ rfl (goes_word _) (take_fin _ 97)
      · have h := zero_cb (B := B) (by omega)
        exact ⟨h.ns, h.ps, h.l, h.r⟩
theorem read_cb (s : List UInt8) : CB (26 * s.length + 20) (readP s).1 := by
  unfold readP
  rw [treeP_line]
  split
  · exact zero_cb (by omega)
  · split
    · exact zero_cb (by omega)
    · refine cmd_cb (line_good s) ?_
      have := line_many s
      simp only [szs]; omega
end Go.Am
