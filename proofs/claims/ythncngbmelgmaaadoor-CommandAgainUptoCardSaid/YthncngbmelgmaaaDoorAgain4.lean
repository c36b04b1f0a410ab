/-
  Part 4 of the proof of CommandAgainUptoCardSaid: a logic over the model, the forms of the functions that the law reaches, and what they compute.
-/
import Derived.Test.YthncngbmelgmaaaDoorAgain3
set_option linter.unusedVariables false
set_option linter.unusedSimpArgs false
set_option linter.defProp false
set_option linter.unusedSectionVars false

namespace Go.Am
theorem adv_row (n : Nat) : Adv (rowG n) := fun l a fin h => by
  have h3 : ∀ ks ws next, (rowG3 l a ks ws next).bad = false → (rowG3 l a ks ws next).next = a + 1 := fun ks ws next h => by
    unfold rowG3 at h ⊢
    split
    · rename_i hk; rw [if_pos hk] at h; simp [wrongAt] at h
    · rfl
  have h2 : ∀ ks next, (rowG2 l a ks next).bad = false → (rowG2 l a ks next).next = a + 1 := fun ks next h => by
    unfold rowG2 at h ⊢
    split
    · rename_i hk; rw [if_pos hk] at h
      split
      · rename_i hb; rw [if_pos hb, hb] at h; simp at h
      · rename_i hb; rw [if_neg hb] at h; exact h3 _ _ _ h
    · rename_i hk; rw [if_neg hk] at h; exact h3 _ _ _ h
  unfold rowG at h ⊢
  split
  · rename_i hk; rw [if_pos hk] at h; exact adv_label n l a fin h
  rename_i h1; rw [if_neg h1] at h
  split
  · rename_i hk; rw [if_pos hk] at h; simp [wrongAt] at h
  rename_i h4; rw [if_neg h4] at h
  have hk := isK_lt (by simpa using h4 : isK l a 91 = true)
  split
  · rename_i h5; rw [if_pos h5] at h
    split
    · rename_i hb; rw [if_pos hb, hb] at h; simp at h
    · rename_i hb; rw [if_neg hb] at h; rw [h2 _ _ h]; omega
  · rename_i h5; rw [if_neg h5] at h; rw [h2 _ _ h]; omega
theorem partR_next (k : UInt8) (c : Cmd) (l : List Tree) (a : Nat) (fin : Int) : ∃ a' : Nat, (partR k c l a fin).2.1 = (a' : Nat) ∧ (a ≤ l.length → a' ≤ l.length) := by
  have hup : ∀ kind, isK l (a : Nat) kind = true → ∃ a' : Nat, ((a : Int) + 1) = (a' : Nat) ∧ (a ≤ l.length → a' ≤ l.length) := fun kind hk => by
    have := isK_lt hk
    exact ⟨a + 1, rfl, fun _ => by omega⟩
  have hst : ∃ a' : Nat, (a : Int) = (a' : Nat) ∧ (a ≤ l.length → a' ≤ l.length) := ⟨a, rfl, id⟩
  unfold partR
  split
  · split
    · rename_i hk; exact hup _ hk
    · exact hst
  split
  · split
    · exact hst
    · rename_i hb
      have hk : isK l (a : Nat) 123 = true := by
        by_cases hk : isK l (a : Nat) 123 = true
        · exact hk
        · unfold refWords at hb; rw [if_neg hk] at hb; simp [wrongAt] at hb
      exact hup _ hk
  split
  · split
    · rename_i hk; exact hup _ hk
    · exact hst
  have hg : Adv (if k = 114 then rowG (manys l) else labelG (manys l)) := by split; exact adv_row _; exact adv_label _
  have hgl := hg l (a : Nat) fin
  rw [show (if k = 114 then rowG (manys l) else labelG (manys l)) l (a : Nat) fin = (if k = 114 then rowG (manys l) l (a : Nat) fin else labelG (manys l) l (a : Nat) fin) by split <;> rfl] at hgl
  generalize (if k = 114 then rowG (manys l) l (a : Nat) fin else labelG (manys l) l (a : Nat) fin) = g at hgl ⊢
  cases hb : g.bad
  · obtain ⟨_, h1, h2⟩ := hgl hb
    simp only [hb, Bool.false_eq_true, if_false]
    exact ⟨g.next.toNat, by omega, fun _ => by omega⟩
  · simp only [hb, if_true]
    exact hst
def In (N p : Int) : Prop := 0 ≤ p ∧ p ≤ N
inductive TOk (N : Int) : Tree → Prop
  | mk (t : Tok) (ks : List Tree) (e : Int) : In N t.pos → In N e → (∀ k ∈ ks, TOk N k) → TOk N (.mk t ks e)
theorem TOk.fin {N : Int} {t : Tree} (h : TOk N t) : In N t.fin := by cases h; assumption
theorem TOk.pos {N : Int} {t : Tree} (h : TOk N t) : In N t.tok.pos := by cases h; assumption
theorem TOk.kids {N : Int} {t : Tree} (h : TOk N t) : ∀ k ∈ t.kids, TOk N k := by cases h; assumption
def AOk (N : Int) (l : List Tree) : Prop := ∀ k ∈ l, TOk N k
section
variable {N : Int} (h0 : 0 ≤ N)
include h0
theorem in0 : In N 0 := ⟨by omega, h0⟩
theorem spot_in {l : List Tree} {a fin : Int} (hl : AOk N l) (hf : In N fin) : In N (spotOf l a fin) := by
  unfold spotOf
  split
  · cases h : l[a.toNat]? with
    | none => exact hf
    | some t => exact (hl t (List.mem_of_getElem? h)).pos
  · exact hf
theorem wrong_in {l : List Tree} {a fin : Int} (hl : AOk N l) (hf : In N fin) : In N (wrongAt l a fin).pos := spot_in h0 hl hf
theorem treeAt_in {l : List Tree} {a : Int} (hl : AOk N l) : AOk N (treeAt l a).kids ∧ In N (treeAt l a).fin := by
  unfold treeAt
  cases h : l[a.toNat]? with
  | none => exact ⟨by simp [AOk, Tree.zero, Tree.kids], by exact in0 h0⟩
  | some t => exact ⟨(hl t (List.mem_of_getElem? h)).kids, (hl t (List.mem_of_getElem? h)).fin⟩
def POk (N : Int) (g : List Tree → Int → Int → Got) : Prop := ∀ l a fin, AOk N l → In N fin → In N (g l a fin).pos
theorem leaf_in (k : Int) : POk N (leafG k) := fun l a fin hl hf => by
  unfold leafG; split; exact in0 h0; exact wrong_in h0 hl hf
theorem name_in : POk N nameAt := fun l a fin hl hf => by
  unfold nameAt; split; exact in0 h0; exact wrong_in h0 hl hf
theorem some_in {one : Int → Got} {l : List Tree} (h : ∀ a, In N (one a).pos) : ∀ n a out, In N (someAt one l n a out).2.pos
  | 0, _, _ => in0 h0
  | n + 1, a, out => by
    simp only [someAt]
    split
    · exact h a
    · split
      · exact some_in h n _ _
      · exact h a
theorem whole_in {g : List Tree → Int → Int → Got} (hg : POk N g) {l : List Tree} {a : Int} (hl : AOk N l) (e : Bool) : In N (wholeAt g (treeAt l a) e).2.pos := by
  obtain ⟨hk, hf⟩ := treeAt_in h0 (a := a) hl
  unfold wholeAt
  split
  · exact in0 h0
  · simp only
    split
    · exact wrong_in h0 hk hf
    · exact some_in h0 (fun a => hg _ a _ hk hf) _ _ _
theorem in_in {w : List Nd × Got} {mk : List Nd → Nd} {next : Int} (h : In N w.2.pos) : In N (inG w mk next).pos := by
  unfold inG; split; exact h; exact in0 h0
theorem put_in {g : Got} {f : Nd → Nd} (h : In N g.pos) : In N (g.put f).pos := by
  unfold Got.put; split <;> exact h
theorem rule_in : POk N ruleG := fun l a fin hl hf => by
  unfold ruleG
  split
  · exact wrong_in h0 hl hf
  split
  · exact wrong_in h0 hl hf
  split
  · exact wrong_in h0 hl hf
  split
  · exact whole_in h0 (name_in h0) hl _
  · exact in0 h0
theorem const_in : ∀ n, POk N (constG n)
  | 0 => leaf_in h0 2
  | n + 1 => fun l a fin hl hf => by
    unfold constG
    split
    · exact leaf_in h0 2 l a fin hl hf
    split
    · exact in_in h0 (whole_in h0 (name_in h0) hl _)
    split
    · exact in_in h0 (whole_in h0 (const_in n) hl _)
    split
    · exact in_in h0 (whole_in h0 (rule_in h0) hl _)
    · exact wrong_in h0 hl hf
theorem label_in : ∀ n, POk N (labelG n)
  | 0 => leaf_in h0 1
  | n + 1 => fun l a fin hl hf => by
    unfold labelG
    split
    · exact leaf_in h0 1 l a fin hl hf
    split
    · exact put_in h0 (const_in h0 _ _ _ _ hl hf)
    split
    · exact wrong_in h0 hl hf
    split
    · exact wrong_in h0 hl hf
    · exact in_in h0 (whole_in h0 (label_in n) hl _)
theorem atom_in (n : Nat) : POk N (atomG n) := fun l a fin hl hf => by
  unfold atomG; split; exact wrong_in h0 hl hf; exact label_in h0 n l a fin hl hf
theorem field_in (n : Nat) : POk N (fieldG n) := fun l a fin hl hf => by
  unfold fieldG
  split
  · exact wrong_in h0 hl hf
  split
  · exact wrong_in h0 hl hf
  · exact put_in h0 (atom_in h0 n _ _ _ hl hf)
theorem row_in (n : Nat) : POk N (rowG n) := fun l a fin hl hf => by
  obtain ⟨hk, hf2⟩ := treeAt_in h0 (a := a) hl
  have h3 : ∀ ks ws next, In N (rowG3 l a ks ws next).pos := fun ks ws next => by
    unfold rowG3; split; exact wrong_in h0 hk hf2; exact in0 h0
  have h2 : ∀ ks next, In N (rowG2 l a ks next).pos := fun ks next => by
    unfold rowG2
    split
    · split
      · exact name_in h0 _ _ _ hk hf2
      · exact h3 _ _ _
    · exact h3 _ _ _
  unfold rowG
  split
  · exact label_in h0 n l a fin hl hf
  split
  · exact wrong_in h0 hl hf
  split
  · split
    · exact some_in h0 (fun i => field_in h0 n _ i _ hk hf2) _ _ _
    · exact h2 _ _
  · exact h2 _ _
theorem words_in {l : List Tree} {a fin : Int} (hl : AOk N l) (hf : In N fin) : In N (refWords l a fin).2.pos := by
  unfold refWords; split; exact whole_in h0 (name_in h0) hl _; exact wrong_in h0 hl hf
def InB (N p : Int) : Prop := p = -1 ∨ In N p
theorem pairsF_in {l : List Tree} {fin : Int} (hl : AOk N l) (hf : In N fin) : ∀ n a acc, InB N (pairsF l fin n a acc).2
  | 0, _, _ => .inl rfl
  | n + 1, a, acc => by
    simp only [pairsF]
    split
    · refine Or.inr ?_; simp only; exact spot_in h0 hl hf
    split
    · refine Or.inr ?_; simp only; exact spot_in h0 hl hf
    split
    · refine Or.inr ?_; simp only; exact spot_in h0 hl hf
    split
    · exact .inl rfl
    split
    · refine Or.inr ?_; simp only; exact spot_in h0 hl hf
    · exact pairsF_in hl hf n _ _
theorem pairsR_in {l : List Tree} {a : Int} (hl : AOk N l) : InB N (pairsR (treeAt l a)).2 := by
  obtain ⟨hk, hf⟩ := treeAt_in h0 (a := a) hl
  unfold pairsR
  split
  · exact .inl rfl
  · exact pairsF_in h0 hk hf _ _ _
theorem treesF_in {l : List Tok} (hl : ∀ t ∈ l, In N t.pos) : ∀ n i to, AOk N (treesF l n i to) := by
  have hp : ∀ i, In N (posAt l i) := fun i => by
    unfold posAt
    cases h : l[i]? with
    | none => exact in0 h0
    | some t => exact hl t (List.mem_of_getElem? h)
  have ht : ∀ i, In N (tokN l i).pos := fun i => by
    unfold tokN
    cases h : l[i]? with
    | none => exact in0 h0
    | some t => exact hl t (List.mem_of_getElem? h)
  intro n
  induction n with
  | zero => intro i to; simp [treesF, AOk]
  | succ n ih =>
    intro i to
    simp only [treesF]
    split
    · split
      · intro k hk
        rcases List.mem_cons.1 hk with rfl | hk
        · exact .mk _ _ _ (ht i) (hp _) (ih _ _)
        · exact ih _ _ k hk
      · intro k hk
        rcases List.mem_cons.1 hk with rfl | hk
        · exact .mk _ _ _ (ht i) (hp _) (by simp)
        · exact ih _ _ k hk
    · simp [AOk]
end
theorem lexF_in {N : Int} : ∀ n (p : Nat) (s : List UInt8) (acc : List Tok), (p : Int) + s.length ≤ N → (∀ t ∈ acc, In N t.pos) → (∀ t ∈ (lexF n p s acc).1, In N t.pos) ∧ ∀ a, (lexF n p s acc).2 = some a → In N a
  | 0, _, _, acc, _, h => ⟨by simpa [lexF] using h, by simp [lexF]⟩
  | n + 1, _, [], acc, _, h => ⟨by simpa [lexF] using h, by simp [lexF]⟩
  | n + 1, p, c :: r, acc, hp, h => by
    simp only [List.length_cons] at hp
    simp only [lexF]
    split
    · exact ⟨h, by simp⟩
    split
    · rename_i hr
      have hle : (runR (c :: r)).length ≤ (c :: r).length := (List.takeWhile_sublist _).length_le
      refine lexF_in n _ _ _ ?_ ?_
      · rw [List.length_drop]; simp only [List.length_cons] at hle ⊢; omega
      · intro t ht
        rcases List.mem_append.1 ht with ht | ht
        · exact h t ht
        · rw [List.mem_singleton] at ht; subst ht; constructor <;> simp only <;> omega
    split
    · refine lexF_in n _ _ _ (by omega) ?_
      intro t ht
      rcases List.mem_append.1 ht with ht | ht
      · exact h t ht
      · rw [List.mem_singleton] at ht; subst ht; constructor <;> simp only <;> omega
    split
    · exact lexF_in n _ _ _ (by omega) h
    · refine ⟨by simp, fun a ha => ?_⟩
      simp only [Option.some.injEq] at ha
      subst ha
      constructor <;> omega
theorem lexR_in (s : List UInt8) : (∀ t ∈ (lexR s).1, In s.length t.pos) ∧ ∀ a, (lexR s).2 = some a → In s.length a := lexF_in _ _ _ _ (by simp) (by simp)
theorem lineTrees_in (s : List UInt8) : AOk s.length (treeR (lexR s).1).1 ∧ ∀ a, (treeR (lexR s).1).2 = some a → In s.length a := by
  have h0 : (0 : Int) ≤ s.length := by omega
  have h := (lexR_in s).1
  unfold treeR
  split
  · refine ⟨by simp [AOk], fun a ha => ?_⟩
    simp only [Option.some.injEq] at ha
    subst ha
    unfold posAt
    cases hq : (lexR s).1[(faultF (lexR s).1 (lexR s).1.length 0 []).toNat]? with
    | none => exact in0 h0
    | some t => exact h t (List.mem_of_getElem? hq)
  · exact ⟨treesF_in h0 h _ _ _, by simp⟩
end Go.Am

namespace Go.Am
def joinS (sep : List UInt8) : List (List UInt8) → List UInt8
  | [] => []
  | x :: xs => x ++ xs.flatMap fun y => sep ++ y
theorem joinS_snoc (sep : List UInt8) (l : List (List UInt8)) (y : List UInt8) : joinS sep (l ++ [y]) = joinS sep l ++ (if 0 < l.length then sep else []) ++ y := by
  cases l with
  | nil => simp [joinS]
  | cons x xs => simp [joinS]
theorem joinS_C (l : List (List UInt8)) : joinS [44] l = joinC l := by cases l <;> rfl
theorem joinS_take {sep : List UInt8} {l : List (List UInt8)} {i : Nat} (h : i < l.length) : joinS sep (l.take (i + 1)) = joinS sep (l.take i) ++ (if 0 < i then sep else []) ++ l[i] := by
  rw [List.take_succ_eq_append_getElem h, joinS_snoc, List.length_take, Nat.min_eq_left (Nat.le_of_lt h)]
theorem joinS_le {sep : List UInt8} {l : List (List UInt8)} {i : Nat} : (joinS sep (l.take i)).length ≤ (joinS sep l).length := by
  have key : ∀ a b : List (List UInt8), (joinS sep a).length ≤ (joinS sep (a ++ b)).length := fun a b => by
    cases a with
    | nil => simp [joinS]
    | cons x xs => simp [joinS, List.flatMap_append]
  have := key (l.take i) (l.drop i)
  rwa [List.take_append_drop] at this
def pairT (p : Word × Word) : List UInt8 := p.1.text ++ [60] ++ p.2.text
def braceT (l : List (List UInt8)) : List UInt8 := [123] ++ joinC l ++ [125]
def pieceT (k : UInt8) (c : Cmd) (n : Nd) : List UInt8 :=
  if k = 110 then c.name.text
  else if k = 102 then joinC (c.names.map Word.text)
  else if k = 119 then braceT (c.names.map Word.text)
  else if k = 112 then braceT (c.pairs.map pairT)
  else n.txt
def isTerm (k : UInt8) : Bool := k ≠ 110 && k ≠ 102 && k ≠ 119 && k ≠ 112
def stepC (c : Cmd) (x : List (List UInt8) × List Nd) (k : UInt8) : List (List UInt8) × List Nd := (x.1 ++ [pieceT k c (x.2.headD .zero)], if isTerm k = true then x.2.tail else x.2)
def piecesT (c : Cmd) (ks : List UInt8) : List (List UInt8) × List Nd := ks.foldl (stepC c) ([(formOf c.op).1], [c.left, c.right])
def textC (c : Cmd) : List UInt8 := joinS [32] (piecesT c (formOf c.op).2).1
theorem piecesT_snoc (c : Cmd) (ks : List UInt8) (k : UInt8) : piecesT c (ks ++ [k]) = stepC c (piecesT c ks) k := by simp [piecesT, List.foldl_append]
def psum (l : List (Word × Word)) : Nat := (l.map fun p => p.1.text.length + p.2.text.length + 2).sum
theorem psum_at {l : List (Word × Word)} {i : Nat} (h : i < l.length) : l[i].1.text.length + l[i].2.text.length + 2 ≤ psum l := by
  induction l generalizing i with
  | nil => simp at h
  | cons p ps ih =>
    cases i with
    | zero => simp [psum]
    | succ i =>
      have := ih (i := i) (by simp at h; omega)
      simp only [psum, List.map_cons, List.sum_cons, List.getElem_cons_succ] at this ⊢
      omega
theorem psum_len (l : List (Word × Word)) : (joinC (l.map pairT)).length ≤ psum l ∧ l.length ≤ psum l := by
  induction l with
  | nil => simp [joinC, psum]
  | cons p ps ih =>
    have key : ∀ qs : List (Word × Word), ((qs.map pairT).flatMap fun y => 44 :: y).length ≤ psum qs := fun qs => by
      induction qs with
      | nil => simp
      | cons q qs ih => simp [pairT, psum] at ih ⊢; omega
    have := key ps
    have := ih.2
    simp [joinC, pairT, psum] at *
    omega
def Cmd.wt (c : Cmd) : Nat := c.name.text.length + wsum c.names + psum c.pairs + c.left.wt + c.right.wt
theorem psum_word (l : List Word) : (joinC (l.map Word.text)).length ≤ wsum l ∧ l.length ≤ wsum l := ⟨wtext_len l, by
  induction l with
  | nil => simp
  | cons w ws ih => simp [wsum] at ih ⊢; omega⟩
theorem piece_len {k : UInt8} {c : Cmd} {n : Nd} (h : n.wt ≤ c.wt) : (pieceT k c n).length ≤ c.wt + 2 := by
  have h1 := (psum_word c.names).1
  have h2 := (psum_len c.pairs).1
  have h3 := txt_len n
  have h4 : c.wt = c.name.text.length + wsum c.names + psum c.pairs + c.left.wt + c.right.wt := rfl
  unfold pieceT braceT
  split
  · omega
  split
  · omega
  split
  · simp; omega
  split
  · simp; omega
  · omega
theorem word_len (op : Int) : (formOf op).1.length ≤ 8 := by
  unfold formOf
  split
  · rename_i h1
    have hlt : op.toNat < 16 := by omega
    generalize op.toNat = n at hlt ⊢
    have key : ∀ n < 16, (formT.getD n ([], [])).1.length ≤ 8 := by decide
    exact key n hlt
  · simp
theorem zero_wt : Nd.zero.wt = 4 := by simp [Nd.zero, Nd.wt, wsum, wts]
theorem wt_four (n : Nd) : 4 ≤ n.wt := by cases n; simp only [Nd.wt]; omega
theorem pieces_ok (c : Cmd) (ks : List UInt8) : (∀ x ∈ (piecesT c ks).1, x.length ≤ c.wt + 8) ∧ (∀ n ∈ (piecesT c ks).2, n.wt ≤ c.wt) ∧ (piecesT c ks).1.length = ks.length + 1 ∧ (piecesT c ks).2 = [c.left, c.right].drop (ks.filter isTerm).length := by
  have hc : c.wt = c.name.text.length + wsum c.names + psum c.pairs + c.left.wt + c.right.wt := rfl
  rcases List.eq_nil_or_concat ks with rfl | ⟨ys, k, rfl⟩
  · have := word_len c.op
    refine ⟨?_, ?_, rfl, rfl⟩
    · intro x hx; simp [piecesT] at hx; subst hx; omega
    · intro n hn; simp [piecesT] at hn; rcases hn with rfl | rfl <;> omega
  · obtain ⟨i1, i2, i3, i4⟩ := pieces_ok c ys
    rw [List.concat_eq_append, piecesT_snoc]
    have hz : ((piecesT c ys).2.headD .zero).wt ≤ c.wt := by
      cases hq : (piecesT c ys).2 with
      | nil => have := wt_four c.left; simp [zero_wt]; omega
      | cons n ns => exact i2 n (by rw [hq]; simp)
    refine ⟨?_, ?_, ?_, ?_⟩
    · intro x hx
      rcases List.mem_append.1 hx with hx | hx
      · exact i1 x hx
      · rw [List.mem_singleton] at hx; subst hx; have := piece_len (k := k) hz; omega
    · intro n hn
      simp only [stepC] at hn
      split at hn
      · exact i2 n (List.mem_of_mem_tail hn)
      · exact i2 n hn
    · simp [stepC, i3]
    · simp only [stepC, i4]
      cases h : isTerm k
      · simp [h]
      · simp [h]
termination_by ks.length
decreasing_by subst_vars; simp
theorem joinS_len {B : Nat} : ∀ (l : List (List UInt8)), (∀ x ∈ l, x.length ≤ B) → (joinS [32] l).length ≤ l.length * (B + 1)
  | [], _ => by simp [joinS]
  | x :: xs, h => by
    have hx := h x (by simp)
    have key : ∀ ys : List (List UInt8), (∀ x ∈ ys, x.length ≤ B) → (ys.flatMap fun y => [32] ++ y).length ≤ ys.length * (B + 1) := fun ys => by
      induction ys with
      | nil => simp
      | cons y ys ih =>
        intro h
        have h1 := h y (by simp)
        have h2 := ih fun x hx => h x (by simp [hx])
        simp only [List.flatMap_cons, List.length_append, List.length_cons, List.length_nil, Nat.add_mul] at h2 ⊢
        omega
    have := key xs fun x hx => h x (by simp [hx])
    simp only [joinS, List.length_append, List.length_cons, Nat.add_mul] at this ⊢
    omega
theorem form_terms (op : Int) : ∀ i < (formOf op).2.length, ∀ k, (formOf op).2[i]? = some k → isTerm k = true → (((formOf op).2.take i).filter isTerm).length < 2 := by
  unfold formOf
  split
  · rename_i h1
    have hlt : op.toNat < 16 := by omega
    generalize op.toNat = n at hlt ⊢
    have key : ∀ n < 16, ∀ i < (formT.getD n ([], [])).2.length, ∀ k ∈ (formT.getD n ([], [])).2[i]?, isTerm k = true → (((formT.getD n ([], [])).2.take i).filter isTerm).length < 2 := by decide
    intro i hi k hk
    exact key n hlt i hi k hk
  · simp
end Go.Am

namespace Go.Am
theorem sees_eq (l : List Tree) (a fin k : Int) : (⟨l, a, fin, none⟩ : Rdr).sees k = isK l a k := by simp [Rdr.sees, Rdr.ok]
theorem spot_eq (l : List Tree) (a fin : Int) (b : Option Int) : (⟨l, a, fin, b⟩ : Rdr).spot = spotOf l a fin := rfl
theorem take_yes {l : List Tree} {a fin k : Int} (h : isK l a k = true) : (⟨l, a, fin, none⟩ : Rdr).take k = (treeAt l a, ⟨l, a + 1, fin, none⟩) := by
  obtain ⟨j, t, rfl, hj, _, hl⟩ := isK_spec h
  simp [Rdr.take, sees_eq, h, treeAt, hj, List.getD]
theorem take_no {l : List Tree} {a fin k : Int} (h : isK l a k = false) : (⟨l, a, fin, none⟩ : Rdr).take k = (.zero, ⟨l, a, fin, some (spotOf l a fin)⟩) := by
  simp [Rdr.take, sees_eq, h, Rdr.fail, spot_eq]
theorem tokAt_eq {l : List Tree} {a k : Int} (h : isK l a k = true) : (treeAt l a).tok = tokAt l a := by
  obtain ⟨j, t, rfl, hj, _, _⟩ := isK_spec h
  simp [treeAt, tokAt, hj]
theorem goG_badP {β : Type} {step : Rdr × List β → Rdr × List β} {a : Rdr × List β} (h : a.1.bad ≠ none) : ∀ n, goG step n a = a
  | 0 => rfl
  | n + 1 => by
    have : a.1.sees 44 = false := by
      simp only [Rdr.sees, Rdr.ok]
      cases hb : a.1.bad with
      | none => exact absurd hb h
      | some _ => simp
    simp [goG, this]
theorem goG_no {β : Type} {step : Rdr × List β → Rdr × List β} {a : Rdr × List β} (h : a.1.sees 44 = false) : ∀ n, goG step n a = a
  | 0 => rfl
  | n + 1 => by simp [goG, h]
theorem nameAt_yes {l : List Tree} {a fin : Int} (h : isK l a 97 = true) : nameAt l a fin = ⟨.mk 0 (tokAt l a).pos (tokAt l a).text [] [], a + 1, false, 0⟩ := by simp [nameAt, h]
theorem nameAt_no {l : List Tree} {a fin : Int} (h : isK l a 97 = false) : nameAt l a fin = wrongAt l a fin := by simp [nameAt, h]
theorem some_words (l : List Tree) (fin : Int) : ∀ (m n : Nat) (a : Nat) (out : List Nd) (ws : List Word), ws = wordsOf out → l.length + 1 ≤ m + a → l.length ≤ n + a → a ≤ l.length →
    (someAt (fun i => nameAt l i fin) l m a out).2.bad = true ∧ (goG wStep n (wStep (⟨l, a, fin, none⟩, ws))).1.bad = some (someAt (fun i => nameAt l i fin) l m a out).2.pos ∨
    (someAt (fun i => nameAt l i fin) l m a out).2.bad = false ∧ goG wStep n (wStep (⟨l, a, fin, none⟩, ws)) = (⟨l, (someAt (fun i => nameAt l i fin) l m a out).2.next, fin, none⟩, wordsOf (someAt (fun i => nameAt l i fin) l m a out).1)
  | 0, n, a, out, ws, hws, hm, hn, ha => by omega
  | m + 1, n, a, out, ws, hws, hm, hn, ha => by
    cases hk : isK l a 97
    · left
      have e : wStep (⟨l, a, fin, none⟩, ws) = (⟨l, a, fin, some (spotOf l a fin)⟩, ws ++ [⟨[], 0⟩]) := by simp [wStep, Rdr.word, take_no hk, Tree.zero, Tree.tok]
      rw [e, goG_badP (by simp)]
      simp [someAt, nameAt_no hk, wrongAt]
    · obtain ⟨j, t, hj, _, _, hl⟩ := isK_spec hk
      have e : wStep (⟨l, a, fin, none⟩, ws) = (⟨l, (a : Int) + 1, fin, none⟩, ws ++ [⟨(tokAt l a).text, (tokAt l a).pos⟩]) := by simp [wStep, Rdr.word, take_yes hk, tokAt_eq hk]
      rw [e]
      simp only [someAt, nameAt_yes hk, Bool.false_eq_true, if_false]
      cases h44 : isK l ((a : Int) + 1) 44
      · right
        rw [goG_no (by simp [sees_eq, h44])]
        simp [hws, wordsOf, Nd.text, Nd.pos]
      · obtain ⟨j2, t2, hj2, _, _, hl2⟩ := isK_spec h44
        obtain ⟨n, rfl⟩ : ∃ k, n = k + 1 := ⟨n - 1, by omega⟩
        simp only [goG, sees_eq, h44, if_true, take_yes h44]
        have ih := some_words l fin m n (a + 2) (out ++ [.mk 0 (tokAt l a).pos (tokAt l a).text [] []]) (ws ++ [⟨(tokAt l a).text, (tokAt l a).pos⟩]) (by simp [hws, wordsOf, Nd.text, Nd.pos]) (by omega) (by omega) (by omega)
        rw [show (a : Int) + 1 + 1 = ((a + 2 : Nat) : Int) by omega]
        exact ih
theorem words_law (l : List Tree) (a fin : Int) :
    (refWords l a fin).2.bad = true ∧ wordsAt l a fin = ([], some (refWords l a fin).2.pos) ∨ (refWords l a fin).2.bad = false ∧ wordsAt l a fin = ((refWords l a fin).1, none) := by
  cases h : isK l a 123
  · left
    have e : (⟨l, a, fin, none⟩ : Rdr).words false = (([], 0), ⟨l, a, fin, some (spotOf l a fin)⟩) := by
      simp [Rdr.words, Rdr.bracket, take_no h, Rdr.ok]
    simp [refWords, h, wrongAt, wordsAt, e]
  · have ht : ∃ t, treeAt l a = t := ⟨_, rfl⟩
    obtain ⟨t, ht⟩ := ht
    have hw : (⟨l, a, fin, none⟩ : Rdr).words false = (((someG wStep t.inner).2, t.tok.pos), (⟨l, a + 1, fin, none⟩ : Rdr).under (someG wStep t.inner).1) := by
      simp [Rdr.words, Rdr.bracket, take_yes h, Rdr.ok, Rdr.inside, ht]
    have hs := some_words t.kids t.fin (t.kids.length + 1) t.kids.length 0 [] [] rfl (by omega) (by omega) (by omega)
    have hg : someG wStep t.inner = goG wStep t.kids.length (wStep (⟨t.kids, ((0 : Nat) : Int), t.fin, none⟩, [])) := rfl
    rw [← hg] at hs
    have hr : refWords l a fin = (wordsOf (wholeAt nameAt t false).1, (wholeAt nameAt t false).2) := by simp [refWords, h, ht]
    have hwh : wholeAt nameAt t false = if (someAt (fun i => nameAt t.kids i t.fin) t.kids (t.kids.length + 1) ((0 : Nat) : Int) []).2.bad = false ∧ (someAt (fun i => nameAt t.kids i t.fin) t.kids (t.kids.length + 1) ((0 : Nat) : Int) []).2.next < t.kids.length then ([], wrongAt t.kids (someAt (fun i => nameAt t.kids i t.fin) t.kids (t.kids.length + 1) ((0 : Nat) : Int) []).2.next t.fin)
        else someAt (fun i => nameAt t.kids i t.fin) t.kids (t.kids.length + 1) ((0 : Nat) : Int) [] := by simp [wholeAt]
    generalize someAt (fun i => nameAt t.kids i t.fin) t.kids (t.kids.length + 1) ((0 : Nat) : Int) [] = S at hs hwh
    generalize someG wStep t.inner = G at hs hw
    rcases hs with ⟨h1, h2⟩ | ⟨h1, h2⟩
    · left
      rw [h1] at hwh
      simp only [Bool.true_eq_false, false_and, if_false] at hwh
      refine ⟨by rw [hr, hwh]; exact h1, ?_⟩
      rw [hr, hwh]
      have hc : G.1.close = G.1 := by simp [Rdr.close, Rdr.ok, h2]
      simp [wordsAt, hw, Rdr.under, hc, h2]
    · rw [h1] at hwh
      simp only [true_and] at hwh
      rw [h2] at hw
      by_cases hn : S.2.next < t.kids.length
      · left
        rw [if_pos hn] at hwh
        refine ⟨by rw [hr, hwh]; rfl, ?_⟩
        rw [hr, hwh]
        simp [wordsAt, hw, Rdr.under, Rdr.close, Rdr.ok, hn, Rdr.fail, spot_eq, wrongAt]
      · right
        rw [if_neg hn] at hwh
        refine ⟨by rw [hr, hwh]; exact h1, ?_⟩
        rw [hr, hwh]
        simp [wordsAt, hw, Rdr.under, Rdr.close, hn]
end Go.Am

namespace Go.Am
def Alike (one : Rdr → Nd × Rdr) (g : List Tree → Int → Int → Got) : Prop := ∀ (l : List Tree) (a fin : Int),
  (g l a fin).bad = true ∧ (one ⟨l, a, fin, none⟩).2.bad = some (g l a fin).pos ∨ (g l a fin).bad = false ∧ one ⟨l, a, fin, none⟩ = ((g l a fin).node, ⟨l, (g l a fin).next, fin, none⟩)
theorem some_alike {one : Rdr → Nd × Rdr} {g : List Tree → Int → Int → Got} (H : Alike one g) (hadv : Adv g) (l : List Tree) (fin : Int) : ∀ (m n : Nat) (a : Nat) (out : List Nd), l.length + 1 ≤ m + a → l.length ≤ n + a → a ≤ l.length →
    (someAt (fun i => g l i fin) l m a out).2.bad = true ∧ (goG (oStep one) n (oStep one (⟨l, a, fin, none⟩, out))).1.bad = some (someAt (fun i => g l i fin) l m a out).2.pos ∨
    (someAt (fun i => g l i fin) l m a out).2.bad = false ∧ goG (oStep one) n (oStep one (⟨l, a, fin, none⟩, out)) = (⟨l, (someAt (fun i => g l i fin) l m a out).2.next, fin, none⟩, (someAt (fun i => g l i fin) l m a out).1)
  | 0, n, a, out, hm, hn, ha => by omega
  | m + 1, n, a, out, hm, hn, ha => by
    rcases H l a fin with ⟨h1, h2⟩ | ⟨h1, h2⟩
    · left
      have e : (oStep one (⟨l, a, fin, none⟩, out)).1.bad = some (g l a fin).pos := h2
      rw [goG_badP (by rw [e]; simp)]
      simp only [someAt, h1, if_true]
      exact ⟨trivial, e⟩
    · have hA := hadv l a fin h1
      have e : oStep one (⟨l, a, fin, none⟩, out) = (⟨l, (g l a fin).next, fin, none⟩, out ++ [(g l a fin).node]) := by simp [oStep, h2]
      rw [e]
      simp only [someAt, h1, Bool.false_eq_true, if_false]
      cases h44 : isK l (g l a fin).next 44
      · right
        rw [goG_no (by simp [sees_eq, h44])]
        simp [h1]
      · obtain ⟨b, hb⟩ := Int.eq_ofNat_of_zero_le (show 0 ≤ (g l a fin).next by omega)
        obtain ⟨j2, t2, hj2, _, _, hl2⟩ := isK_spec h44
        obtain ⟨n, rfl⟩ : ∃ k, n = k + 1 := ⟨n - 1, by omega⟩
        simp only [goG, sees_eq, h44, if_true, take_yes h44]
        have ih := some_alike H hadv l fin m n (b + 1) (out ++ [(g l a fin).node]) (by omega) (by omega) (by omega)
        rw [show (g l a fin).next + 1 = ((b + 1 : Nat) : Int) by omega]
        exact ih
theorem whole_eq {g : List Tree → Int → Int → Got} (t : Tree) (empty : Bool) (h : ¬(empty = true ∧ t.kids.length = 0)) : wholeAt g t empty = if (someAt (fun i => g t.kids i t.fin) t.kids (t.kids.length + 1) ((0 : Nat) : Int) []).2.bad = false ∧ (someAt (fun i => g t.kids i t.fin) t.kids (t.kids.length + 1) ((0 : Nat) : Int) []).2.next < t.kids.length then ([], wrongAt t.kids (someAt (fun i => g t.kids i t.fin) t.kids (t.kids.length + 1) ((0 : Nat) : Int) []).2.next t.fin)
        else someAt (fun i => g t.kids i t.fin) t.kids (t.kids.length + 1) ((0 : Nat) : Int) [] := by
  unfold wholeAt; rw [if_neg h]; simp
theorem bracket_alike {β : Type} {step : Rdr × List β → Rdr × List β} {conv : List Nd → List β} {g : List Tree → Int → Int → Got} (hc : conv [] = []) {l : List Tree} {a fin : Int} {kind : Int} (hk : isK l a kind = true) (empty : Bool)
    (hs : ∀ t : Tree, (someAt (fun i => g t.kids i t.fin) t.kids (t.kids.length + 1) ((0 : Nat) : Int) []).2.bad = true ∧ (someG step t.inner).1.bad = some (someAt (fun i => g t.kids i t.fin) t.kids (t.kids.length + 1) ((0 : Nat) : Int) []).2.pos ∨
      (someAt (fun i => g t.kids i t.fin) t.kids (t.kids.length + 1) ((0 : Nat) : Int) []).2.bad = false ∧ someG step t.inner = (⟨t.kids, (someAt (fun i => g t.kids i t.fin) t.kids (t.kids.length + 1) ((0 : Nat) : Int) []).2.next, t.fin, none⟩, conv (someAt (fun i => g t.kids i t.fin) t.kids (t.kids.length + 1) ((0 : Nat) : Int) []).1)) :
    (wholeAt g (treeAt l a) empty).2.bad = true ∧ ((⟨l, a, fin, none⟩ : Rdr).bracket step kind empty).2.bad = some (wholeAt g (treeAt l a) empty).2.pos ∨
    (wholeAt g (treeAt l a) empty).2.bad = false ∧ (⟨l, a, fin, none⟩ : Rdr).bracket step kind empty = ((conv (wholeAt g (treeAt l a) empty).1, (tokAt l a).pos), ⟨l, a + 1, fin, none⟩) := by
  have htk : (treeAt l a).tok = tokAt l a := tokAt_eq hk
  have hb : (⟨l, a, fin, none⟩ : Rdr).bracket step kind empty = (((Rdr.inside step empty (treeAt l a)).2, (tokAt l a).pos), (⟨l, a + 1, fin, none⟩ : Rdr).under (Rdr.inside step empty (treeAt l a)).1) := by
    simp [Rdr.bracket, take_yes hk, Rdr.ok, htk]
  rw [hb]
  have hs := hs (treeAt l a)
  generalize treeAt l a = t at hs ⊢
  by_cases he : empty = true ∧ t.kids.length = 0
  · right
    have e1 : Rdr.inside step empty t = (t.inner, []) := by unfold Rdr.inside; rw [if_pos he]
    have e2 : wholeAt g t empty = ([], ⟨.zero, 0, false, 0⟩) := by unfold wholeAt; rw [if_pos he]
    rw [e1, e2]
    refine ⟨rfl, ?_⟩
    simp [Rdr.under, Rdr.close, Tree.inner, he.2, hc]
  · have e1 : Rdr.inside step empty t = someG step t.inner := by unfold Rdr.inside; rw [if_neg he]
    rw [e1]
    have hwh := whole_eq (g := g) t empty he
    generalize someAt (fun i => g t.kids i t.fin) t.kids (t.kids.length + 1) ((0 : Nat) : Int) [] = S at hs hwh
    generalize someG step t.inner = G at hs ⊢
    rcases hs with ⟨h1, h2⟩ | ⟨h1, h2⟩
    · left
      rw [h1] at hwh
      simp only [Bool.true_eq_false, false_and, if_false] at hwh
      rw [hwh]
      have hc : G.1.close = G.1 := by simp [Rdr.close, Rdr.ok, h2]
      exact ⟨h1, by simp [Rdr.under, hc, h2]⟩
    · rw [h1] at hwh
      simp only [true_and] at hwh
      rw [h2]
      by_cases hn : S.2.next < t.kids.length
      · left
        rw [if_pos hn] at hwh
        rw [hwh]
        exact ⟨rfl, by simp [Rdr.under, Rdr.close, Rdr.ok, hn, Rdr.fail, spot_eq, wrongAt]⟩
      · right
        rw [if_neg hn] at hwh
        rw [hwh]
        exact ⟨h1, by simp [Rdr.under, Rdr.close, hn]⟩
theorem nodes_alike {one : Rdr → Nd × Rdr} {g : List Tree → Int → Int → Got} (H : Alike one g) (hadv : Adv g) {l : List Tree} {a fin kind : Int} (hk : isK l a kind = true) (empty : Bool) :
    (wholeAt g (treeAt l a) empty).2.bad = true ∧ ((⟨l, a, fin, none⟩ : Rdr).nodes one kind empty).2.bad = some (wholeAt g (treeAt l a) empty).2.pos ∨
    (wholeAt g (treeAt l a) empty).2.bad = false ∧ (⟨l, a, fin, none⟩ : Rdr).nodes one kind empty = (((wholeAt g (treeAt l a) empty).1, (tokAt l a).pos), ⟨l, a + 1, fin, none⟩) :=
  bracket_alike (conv := id) rfl hk empty fun t => some_alike H hadv t.kids t.fin (t.kids.length + 1) t.kids.length 0 [] (by omega) (by omega) (by omega)
theorem words_alike {l : List Tree} {a fin : Int} (hk : isK l a 123 = true) (empty : Bool) :
    (wholeAt nameAt (treeAt l a) empty).2.bad = true ∧ ((⟨l, a, fin, none⟩ : Rdr).words empty).2.bad = some (wholeAt nameAt (treeAt l a) empty).2.pos ∨
    (wholeAt nameAt (treeAt l a) empty).2.bad = false ∧ (⟨l, a, fin, none⟩ : Rdr).words empty = ((wordsOf (wholeAt nameAt (treeAt l a) empty).1, (tokAt l a).pos), ⟨l, a + 1, fin, none⟩) :=
  bracket_alike (conv := wordsOf) rfl hk empty fun t => some_words t.kids t.fin (t.kids.length + 1) t.kids.length 0 [] [] rfl (by omega) (by omega) (by omega)
theorem leaf_alike (k : Int) : Alike (Rdr.leaf k) (leafG k) := fun l a fin => by
  unfold leafG
  cases h : isK l a 97
  · left
    simp [Rdr.leaf, Rdr.word, take_no h, wrongAt]
  · right
    simp [Rdr.leaf, Rdr.word, take_yes h, tokAt_eq h]
theorem rule_alike : Alike Rdr.rule ruleG := fun l a fin => by
  unfold ruleG Rdr.rule
  cases h : isK l a 97
  · left
    have hb : ∀ r : Rdr, r.bad ≠ none → ((r.take 58).2.words true).2.bad = r.bad := fun r hr => by
      obtain ⟨x, hx⟩ : ∃ x, r.bad = some x := by cases hq : r.bad with | none => exact absurd hq hr | some x => exact ⟨x, rfl⟩
      have e : r.take 58 = (.zero, r) := by simp [Rdr.take, Rdr.sees, Rdr.ok, hx, Rdr.fail]
      have e2 : r.take 123 = (.zero, r) := by simp [Rdr.take, Rdr.sees, Rdr.ok, hx, Rdr.fail]
      simp [e, Rdr.words, Rdr.bracket, e2, Rdr.ok, hx]
    simp only [Rdr.word, take_no h, if_true]
    exact ⟨rfl, hb _ (by simp)⟩
  simp only [Rdr.word, take_yes h, Bool.true_eq_false, if_false]
  cases h2 : isK l (a + 1) 58
  · left
    simp only [take_no h2, if_true]
    refine ⟨rfl, ?_⟩
    simp [Rdr.words, Rdr.bracket, Rdr.take, Rdr.sees, Rdr.ok, Rdr.fail, wrongAt]
  simp only [take_yes h2, Bool.true_eq_false, if_false]
  have e2 : a + 1 + 1 = a + 2 := by omega
  rw [e2]
  cases h3 : isK l (a + 2) 123
  · left
    simp only [if_true]
    refine ⟨rfl, ?_⟩
    simp [Rdr.words, Rdr.bracket, take_no h3, Rdr.ok, wrongAt]
  simp only [Bool.true_eq_false, if_false]
  rcases words_alike (fin := fin) h3 true with ⟨p1, p2⟩ | ⟨p1, p2⟩
  · left
    rw [if_pos p1]; exact ⟨p1, p2⟩
  · right
    rw [p1]
    simp only [Bool.false_eq_true, if_false]
    refine ⟨trivial, ?_⟩
    rw [p2]
    simp [tokAt_eq h]; omega
theorem isK_one {l : List Tree} {a k k' : Int} (h : isK l a k = true) (hne : k ≠ k') : isK l a k' = false := by
  cases hq : isK l a k' with
  | false => rfl
  | true =>
    obtain ⟨j, t, rfl, hj, hk, _⟩ := isK_spec h
    obtain ⟨j', t', e, hj', hk', _⟩ := isK_spec hq
    obtain rfl : j' = j := by omega
    rw [hj] at hj'; simp only [Option.some.injEq] at hj'; subst hj'
    exact absurd (hk.symm.trans hk') hne
theorem const_alike : ∀ n, Alike (Rdr.constant n) (constG n)
  | 0 => leaf_alike 2
  | n + 1 => fun l a fin => by
    simp only [constG, Rdr.constant, sees_eq]
    cases h97 : isK l a 97
    case true =>
      simp only [isK_one h97 (show (97 : Int) ≠ 123 by decide), isK_one h97 (show (97 : Int) ≠ 40 by decide), isK_one h97 (show (97 : Int) ≠ 91 by decide), Bool.false_eq_true, if_false, if_true]
      exact leaf_alike 2 l a fin
    simp only [Bool.false_eq_true, if_false]
    cases h123 : isK l a 123
    case true =>
      simp only [if_true]
      rcases words_alike (fin := fin) h123 true with ⟨p1, p2⟩ | ⟨p1, p2⟩
      · left; unfold inG; rw [if_pos p1]; exact ⟨p1, p2⟩
      · right; unfold inG; rw [p1, p2]; exact ⟨rfl, rfl⟩
    simp only [Bool.false_eq_true, if_false]
    cases h40 : isK l a 40
    case true =>
      simp only [if_true]
      rcases nodes_alike (const_alike n) (adv_const n) (fin := fin) h40 false with ⟨p1, p2⟩ | ⟨p1, p2⟩
      · left; unfold inG; rw [if_pos p1]; exact ⟨p1, p2⟩
      · right; unfold inG; rw [p1, p2]; exact ⟨rfl, rfl⟩
    simp only [Bool.false_eq_true, if_false]
    cases h91 : isK l a 91
    case true =>
      simp only [if_true]
      rcases nodes_alike rule_alike adv_rule (fin := fin) h91 true with ⟨p1, p2⟩ | ⟨p1, p2⟩
      · left; unfold inG; rw [if_pos p1]; exact ⟨p1, p2⟩
      · right; unfold inG; rw [p1, p2]; exact ⟨rfl, rfl⟩
    simp only [Bool.false_eq_true, if_false]
    left
    simp [Rdr.leaf, Rdr.word, take_no h97, wrongAt]
end Go.Am

namespace Go.Am
theorem bracket_no {β : Type} {step : Rdr × List β → Rdr × List β} {l : List Tree} {a fin kind : Int} {e : Bool} (h : isK l a kind = false) : (⟨l, a, fin, none⟩ : Rdr).bracket step kind e = (([], 0), ⟨l, a, fin, some (spotOf l a fin)⟩) := by
  simp [Rdr.bracket, take_no h, Rdr.ok]
theorem const_put {n : Nat} {l : List Tree} {a fin : Int} (f : Nd → Nd) :
    ((constG n l a fin).put f).bad = true ∧ (Rdr.constant n ⟨l, a, fin, none⟩).2.bad = some ((constG n l a fin).put f).pos ∨ ((constG n l a fin).put f).bad = false ∧ (f (Rdr.constant n ⟨l, a, fin, none⟩).1, (Rdr.constant n ⟨l, a, fin, none⟩).2) = (((constG n l a fin).put f).node, ⟨l, ((constG n l a fin).put f).next, fin, none⟩) := by
  unfold Got.put
  rcases const_alike n l a fin with ⟨p1, p2⟩ | ⟨p1, p2⟩
  · left; rw [if_pos p1]; exact ⟨p1, p2⟩
  · right; rw [p1, p2]; exact ⟨rfl, rfl⟩
def atG (n : Nat) (l : List Tree) (a fin : Int) : Got := if isK l a 35 = true then (constG n l (a + 1) fin).put fun m => .mk 7 (tokAt l a).pos [] [] [m] else leafG 1 l a fin
theorem at_alike (n : Nat) : Alike (Rdr.atom n) (atG n) := fun l a fin => by
  unfold atG
  simp only [Rdr.atom, sees_eq]
  cases h35 : isK l a 35
  · simp only [Bool.false_eq_true, if_false]
    exact leaf_alike 1 l a fin
  · simp only [if_true, take_yes h35, tokAt_eq h35]
    rcases const_put (n := n) (l := l) (a := a + 1) (fin := fin) (fun m => .mk 7 (tokAt l a).pos [] [] [m]) with ⟨p1, p2⟩ | ⟨p1, p2⟩
    · exact .inl ⟨p1, p2⟩
    · exact .inr ⟨p1, p2⟩
theorem label_alike : ∀ n, Alike (Rdr.label n) (labelG n)
  | 0 => leaf_alike 1
  | n + 1 => fun l a fin => by
    have sign : ∀ (k : Int), isK l a k = true → ∀ kd, (kd = 8 ∨ kd = 9) →
        let x : Nd × Rdr := (.mk kd ((⟨l, a, fin, none⟩ : Rdr).take k).1.tok.pos [] [] (((⟨l, a, fin, none⟩ : Rdr).take k).2.nodes (Rdr.label n) 40 false).1.1, (((⟨l, a, fin, none⟩ : Rdr).take k).2.nodes (Rdr.label n) 40 false).2)
        let g := if isK l (a + 1) 40 = false then wrongAt l (a + 1) fin else inG (wholeAt (labelG n) (treeAt l (a + 1)) false) (fun ks => .mk kd (tokAt l a).pos [] [] ks) (a + 2)
        g.bad = true ∧ x.2.bad = some g.pos ∨ g.bad = false ∧ x = (g.node, ⟨l, g.next, fin, none⟩) := fun k hk kd _ => by
      simp only [take_yes hk, tokAt_eq hk]
      cases h40 : isK l (a + 1) 40
      · left
        simp only [if_true]
        unfold Rdr.nodes
        rw [bracket_no h40]
        exact ⟨rfl, rfl⟩
      · simp only [Bool.true_eq_false, if_false]
        have e2 : a + 1 + 1 = a + 2 := by omega
        rcases nodes_alike (label_alike n) (adv_label n) (fin := fin) h40 false with ⟨p1, p2⟩ | ⟨p1, p2⟩
        · left; unfold inG; rw [if_pos p1]; exact ⟨p1, p2⟩
        · right; unfold inG; rw [p1, p2, e2]; exact ⟨rfl, rfl⟩
    simp only [labelG, Rdr.label, sees_eq]
    cases h97 : isK l a 97
    case true =>
      simp only [isK_one h97 (show (97 : Int) ≠ 43 by decide), isK_one h97 (show (97 : Int) ≠ 38 by decide), Bool.false_eq_true, if_false, if_true]
      have := at_alike (n + 1) l a fin
      unfold atG at this
      rw [isK_one h97 (show (97 : Int) ≠ 35 by decide)] at this
      exact this
    simp only [Bool.false_eq_true, if_false]
    cases h35 : isK l a 35
    case true =>
      simp only [isK_one h35 (show (35 : Int) ≠ 43 by decide), isK_one h35 (show (35 : Int) ≠ 38 by decide), Bool.false_eq_true, if_false, if_true]
      have := at_alike (n + 1) l a fin
      unfold atG at this
      rw [if_pos h35] at this
      exact this
    simp only [Bool.false_eq_true, if_false]
    cases h43 : isK l a 43
    case true =>
      simp only [Bool.true_eq_false, false_and, if_false, if_true, isK_one h43 (show (43 : Int) ≠ 38 by decide), Bool.false_eq_true]
      exact sign 43 h43 8 (.inl rfl)
    simp only [Bool.false_eq_true, if_false, true_and]
    cases h38 : isK l a 38
    case true =>
      simp only [Bool.true_eq_false, if_false, if_true]
      exact sign 38 h38 9 (.inr rfl)
    simp only [Bool.false_eq_true, if_false, if_true]
    left
    refine ⟨rfl, ?_⟩
    simp [Rdr.atom, sees_eq, h35, Rdr.leaf, Rdr.word, take_no h97, wrongAt]
theorem atom_alike (n : Nat) (l : List Tree) (a fin : Int) : (atomG n l a fin).bad = true ∧ (Rdr.atom n ⟨l, a, fin, none⟩).2.bad = some (atomG n l a fin).pos ∨ (atomG n l a fin).bad = false ∧ Rdr.atom n ⟨l, a, fin, none⟩ = ((atomG n l a fin).node, ⟨l, (atomG n l a fin).next, fin, none⟩) ∨ n = 0 ∧ isK l a 35 = true := by
  cases n with
  | zero =>
    cases h35 : isK l a 35
    · unfold atomG labelG
      by_cases h : isK l a 43 = true ∨ isK l a 38 = true
      · left
        rw [if_pos h]
        have h97 : isK l a 97 = false := by rcases h with h | h <;> exact isK_one h (by decide)
        exact ⟨rfl, by simp [Rdr.atom, sees_eq, h35, Rdr.leaf, Rdr.word, take_no h97, wrongAt]⟩
      · rw [if_neg h]
        have := leaf_alike 1 l a fin
        simp only [Rdr.atom, sees_eq, h35, Bool.false_eq_true, if_false]
        rcases this with h | h
        · exact .inl h
        · exact .inr (.inl h)
    · exact .inr (.inr ⟨rfl, rfl⟩)
  | succ n =>
    unfold atomG
    by_cases h : isK l a 43 = true ∨ isK l a 38 = true
    · left
      rw [if_pos h]
      have h97 : isK l a 97 = false := by rcases h with h | h <;> exact isK_one h (by decide)
      have h35 : isK l a 35 = false := by rcases h with h | h <;> exact isK_one h (by decide)
      exact ⟨rfl, by simp [Rdr.atom, sees_eq, h35, Rdr.leaf, Rdr.word, take_no h97, wrongAt]⟩
    · rw [if_neg h]
      have h43 : isK l a 43 = false := by cases hq : isK l a 43 with | false => rfl | true => exact absurd (.inl hq) h
      have h38 : isK l a 38 = false := by cases hq : isK l a 38 with | false => rfl | true => exact absurd (.inr hq) h
      have := label_alike (n + 1) l a fin
      simp only [Rdr.label, sees_eq, h43, h38, Bool.false_eq_true, if_false] at this
      rcases this with h | h
      · exact .inl h
      · exact .inr (.inl h)
end Go.Am

namespace Go.Am
theorem field_alike (n : Nat) : Alike (Rdr.field (n + 1)) (fieldG (n + 1)) := fun l a fin => by
  have hat : ∀ (b : Int), ∀ r : Rdr, r.bad = some b → ∀ m, (Rdr.atom m r).2.bad = some b := fun b r hr m => by
    have e : ∀ k, r.sees k = false := fun k => by simp [Rdr.sees, Rdr.ok, hr]
    have e2 : r.take 97 = (.zero, r) := by simp [Rdr.take, e, Rdr.fail, hr]
    simp [Rdr.atom, e, Rdr.leaf, Rdr.word, e2, hr]
  unfold fieldG Rdr.field
  cases h : isK l a 97
  · left
    simp only [Rdr.word, take_no h, if_true]
    refine ⟨rfl, hat _ _ ?_ _⟩
    simp [Rdr.take, Rdr.sees, Rdr.ok, Rdr.fail, wrongAt]
  simp only [Rdr.word, take_yes h, Bool.true_eq_false, if_false]
  cases h2 : isK l (a + 1) 61
  · left
    simp only [take_no h2, if_true]
    exact ⟨rfl, hat _ _ rfl _⟩
  simp only [take_yes h2, Bool.true_eq_false, if_false]
  have e2 : a + 1 + 1 = a + 2 := by omega
  rw [e2]
  unfold Got.put
  rcases atom_alike (n + 1) l (a + 2) fin with ⟨p1, p2⟩ | ⟨p1, p2⟩ | ⟨h0, _⟩
  · left; rw [if_pos p1]; exact ⟨p1, p2⟩
  · right; rw [p1, p2, tokAt_eq h]; exact ⟨rfl, rfl⟩
  · omega
theorem row_end {l : List Tree} {a fin : Int} {ks : List Nd} {nx : Int} {X : (Rdr × List Nd) × List Word} (r1 : Rdr) (hr : r1 = ⟨(treeAt l a).kids, nx, (treeAt l a).fin, none⟩)
    (hX : X = if r1.sees 124 = true then (((r1.take 124).2.word.2, ks), [(r1.take 124).2.word.1]) else ((r1, ks), [])) :
    (rowG2 l a ks nx).bad = true ∧ ((⟨l, a + 1, fin, none⟩ : Rdr).under X.1.1).bad = some (rowG2 l a ks nx).pos ∨
    (rowG2 l a ks nx).bad = false ∧ ((Nd.mk 10 (tokAt l a).pos [] X.2 X.1.2, (⟨l, a + 1, fin, none⟩ : Rdr).under X.1.1) : Nd × Rdr) = ((rowG2 l a ks nx).node, ⟨l, (rowG2 l a ks nx).next, fin, none⟩) := by
  subst hr
  unfold rowG2
  simp only [sees_eq] at hX
  cases h124 : isK (treeAt l a).kids nx 124
  · rw [h124] at hX
    simp only [Bool.false_eq_true, if_false] at hX ⊢
    subst hX
    unfold rowG3
    by_cases hn : nx < (treeAt l a).kids.length
    · left
      rw [if_pos hn]
      exact ⟨rfl, by simp [Rdr.under, Rdr.close, Rdr.ok, hn, Rdr.fail, spot_eq, wrongAt]⟩
    · right
      rw [if_neg hn]
      exact ⟨rfl, by simp [Rdr.under, Rdr.close, hn]⟩
  · rw [h124] at hX
    simp only [if_true, take_yes h124] at hX ⊢
    cases h97 : isK (treeAt l a).kids (nx + 1) 97
    · left
      have e : nameAt (treeAt l a).kids (nx + 1) (treeAt l a).fin = wrongAt (treeAt l a).kids (nx + 1) (treeAt l a).fin := nameAt_no h97
      rw [e]
      simp only [wrongAt, if_true]
      subst hX
      exact ⟨trivial, by simp [Rdr.word, take_no h97, Rdr.under, Rdr.close, Rdr.ok]⟩
    · rw [nameAt_yes h97]
      simp only [Bool.false_eq_true, if_false]
      have hw : (⟨(treeAt l a).kids, nx + 1, (treeAt l a).fin, none⟩ : Rdr).word = (⟨(tokAt (treeAt l a).kids (nx + 1)).text, (tokAt (treeAt l a).kids (nx + 1)).pos⟩, ⟨(treeAt l a).kids, nx + 1 + 1, (treeAt l a).fin, none⟩) := by
        simp [Rdr.word, take_yes h97, tokAt_eq h97]
      rw [hw] at hX
      subst hX
      unfold rowG3
      by_cases hn : nx + 1 + 1 < (treeAt l a).kids.length
      · left
        rw [if_pos hn]
        exact ⟨rfl, by simp [Rdr.under, Rdr.close, Rdr.ok, hn, Rdr.fail, spot_eq, wrongAt]⟩
      · right
        rw [if_neg hn]
        exact ⟨rfl, by simp [Rdr.under, Rdr.close, hn, wordsOf, Nd.text, Nd.pos]⟩
theorem row_alike (n : Nat) : Alike (Rdr.row (n + 1)) (rowG (n + 1)) := fun l a fin => by
  unfold rowG
  simp only [Rdr.row, sees_eq]
  cases h97 : isK l a 97
  case true =>
    simp only [isK_one h97 (show (97 : Int) ≠ 91 by decide), Bool.false_eq_true, if_false, if_true]
    have := leaf_alike 1 l a fin
    simp only [labelG, h97, if_true]
    exact this
  simp only [Bool.false_eq_true, if_false]
  cases h91 : isK l a 91
  case false =>
    left
    simp only [Bool.false_eq_true, if_false, if_true]
    exact ⟨rfl, by simp [Rdr.leaf, Rdr.word, take_no h97, wrongAt]⟩
  simp only [Bool.true_eq_false, if_false, if_true, take_yes h91, tokAt_eq h91]
  have hin : (treeAt l a).inner = ⟨(treeAt l a).kids, 0, (treeAt l a).fin, none⟩ := rfl
  by_cases hpos : 0 < (treeAt l a).kids.length ∧ isK (treeAt l a).kids 0 124 = false
  · rw [if_pos hpos]
    have hX : Rdr.rowOf (n + 1) (treeAt l a) = if (someG (oStep (Rdr.field (n + 1))) (treeAt l a).inner).1.sees 124 = true then ((((someG (oStep (Rdr.field (n + 1))) (treeAt l a).inner).1.take 124).2.word.2, (someG (oStep (Rdr.field (n + 1))) (treeAt l a).inner).2), [((someG (oStep (Rdr.field (n + 1))) (treeAt l a).inner).1.take 124).2.word.1]) else (someG (oStep (Rdr.field (n + 1))) (treeAt l a).inner, []) := by
      unfold Rdr.rowOf Rdr.rowIn
      rw [if_neg (by omega)]
      have : (treeAt l a).inner.sees 124 = false := by rw [hin, sees_eq]; exact hpos.2
      simp [this]
    have hs : (rowS (n + 1) l a).2.bad = true ∧ (someG (oStep (Rdr.field (n + 1))) (treeAt l a).inner).1.bad = some (rowS (n + 1) l a).2.pos ∨ (rowS (n + 1) l a).2.bad = false ∧ someG (oStep (Rdr.field (n + 1))) (treeAt l a).inner = (⟨(treeAt l a).kids, (rowS (n + 1) l a).2.next, (treeAt l a).fin, none⟩, (rowS (n + 1) l a).1) :=
      some_alike (field_alike n) (adv_field (n + 1)) (treeAt l a).kids (treeAt l a).fin ((treeAt l a).kids.length + 1) (treeAt l a).kids.length 0 [] (by omega) (by omega) (by omega)
    generalize someG (oStep (Rdr.field (n + 1))) (treeAt l a).inner = G at hX hs
    generalize rowS (n + 1) l a = S at hs ⊢
    rcases hs with ⟨p1, p2⟩ | ⟨p1, p2⟩
    · left
      rw [if_pos p1]
      have hns : G.1.sees 124 = false := by simp [Rdr.sees, Rdr.ok, p2]
      rw [hX, hns]
      simp only [Bool.false_eq_true, if_false]
      have hc : G.1.close = G.1 := by simp [Rdr.close, Rdr.ok, p2]
      exact ⟨p1, by simp [Rdr.under, hc, p2]⟩
    · rw [p1]
      simp only [Bool.false_eq_true, if_false]
      rw [p2] at hX
      exact row_end _ rfl hX
  · rw [if_neg hpos]
    refine row_end (ks := []) (nx := 0) (treeAt l a).inner hin ?_
    unfold Rdr.rowOf Rdr.rowIn
    by_cases hk : (treeAt l a).kids.length = 0
    · rw [if_pos hk]
      have : (treeAt l a).inner.sees 124 = false := by rw [hin, sees_eq]; simp [List.length_eq_zero_iff.1 hk, isK]
      rw [this]; simp
    · rw [if_neg hk]
      have h0 : isK (treeAt l a).kids 0 124 = true := by
        cases hq : isK (treeAt l a).kids 0 124 with
        | true => rfl
        | false => exact absurd ⟨by omega, hq⟩ hpos
      have : (treeAt l a).inner.sees 124 = true := by rw [hin, sees_eq]; exact h0
      simp only [this, if_true]
theorem readAt_got {one : Rdr → Nd × Rdr} {g : List Tree → Int → Int → Got} (H : Alike one g) (l : List Tree) (a fin : Int) :
    (g l a fin).bad = true ∧ readAt one l a fin = (.zero, 0, some (g l a fin).pos) ∨ (g l a fin).bad = false ∧ readAt one l a fin = ((g l a fin).node, (g l a fin).next, none) := by
  unfold readAt
  rcases H l a fin with ⟨p1, p2⟩ | ⟨p1, p2⟩
  · left; rw [p2]; exact ⟨p1, rfl⟩
  · right; rw [p2]; exact ⟨p1, rfl⟩
end Go.Am

namespace Go.Am
theorem word_yes {l : List Tree} {a fin : Int} (h : isK l a 97 = true) : (⟨l, a, fin, none⟩ : Rdr).word = (wordAt l a, ⟨l, a + 1, fin, none⟩) := by
  simp [Rdr.word, take_yes h, tokAt_eq h, wordAt]
theorem word_no {l : List Tree} {a fin : Int} (h : isK l a 97 = false) : (⟨l, a, fin, none⟩ : Rdr).word = (⟨[], 0⟩, ⟨l, a, fin, some (spotOf l a fin)⟩) := by
  simp [Rdr.word, take_no h, Tree.zero, Tree.tok]
theorem take_bad {l : List Tree} {a fin b k : Int} : (⟨l, a, fin, some b⟩ : Rdr).take k = (.zero, ⟨l, a, fin, some b⟩) := by
  simp [Rdr.take, Rdr.sees, Rdr.ok, Rdr.fail]
theorem word_bad {l : List Tree} {a fin b : Int} : (⟨l, a, fin, some b⟩ : Rdr).word = (⟨[], 0⟩, ⟨l, a, fin, some b⟩) := by
  simp [Rdr.word, take_bad, Tree.zero, Tree.tok]
theorem pairsG_bad {i : Rdr} {b : Int} (h : i.bad = some b) : ∀ n acc, (Rdr.pairsG n i acc).1.bad = some b
  | 0, _ => h
  | n + 1, _ => by simp [Rdr.pairsG, h]
section
variable {N : Int} (h0 : 0 ≤ N)
include h0
theorem pairs_alike {l : List Tree} {fin : Int} (hl : AOk N l) (hf : In N fin) : ∀ (n a : Nat) (acc : List (Word × Word)), l.length < n + a → a ≤ l.length →
    (pairsF l fin n a acc).2 = -1 ∧ (Rdr.pairsG n ⟨l, a, fin, none⟩ acc).1.bad = none ∧ (Rdr.pairsG n ⟨l, a, fin, none⟩ acc).2 = (pairsF l fin n a acc).1 ∨
    In N (pairsF l fin n a acc).2 ∧ (Rdr.pairsG n ⟨l, a, fin, none⟩ acc).1.bad = some (pairsF l fin n a acc).2
  | 0, a, acc, hn, ha => by omega
  | n + 1, a, acc, hn, ha => by
    simp only [Rdr.pairsG, pairsF, ne_eq, not_true_eq_false, if_false]
    cases h1 : isK l (a : Nat) 97
    · right
      simp only [if_true, word_no h1, take_bad, word_bad]
      refine ⟨spot_in h0 hl hf, ?_⟩
      split
      · rfl
      · exact pairsG_bad rfl _ _
    simp only [word_yes h1, Bool.true_eq_false, if_false]
    cases h2 : isK l ((a + 1 : Nat) : Int) 60
    · right
      have h2' : isK l ((a : Int) + 1) 60 = false := h2
      simp only [if_true, take_no h2', word_bad, take_bad]
      refine ⟨spot_in h0 hl hf, ?_⟩
      split
      · rfl
      · exact pairsG_bad rfl _ _
    have h2' : isK l ((a : Int) + 1) 60 = true := h2
    simp only [take_yes h2', Bool.true_eq_false, if_false]
    rw [show (a : Int) + 1 + 1 = ((a + 2 : Nat) : Int) by omega]
    cases h3 : isK l ((a + 2 : Nat) : Int) 97
    · right
      simp only [if_true, word_no h3, take_bad]
      refine ⟨spot_in h0 hl hf, ?_⟩
      split
      · rfl
      · exact pairsG_bad rfl _ _
    have hl2 := (isK_lt h3).2
    simp only [word_yes h3, Bool.true_eq_false, if_false]
    rw [show ((a + 2 : Nat) : Int) + 1 = ((a + 3 : Nat) : Int) by omega]
    by_cases hend : a + 3 = l.length
    · left
      rw [if_pos hend, if_pos (show ((a + 3 : Nat) : Int) = (l.length : Int) by omega)]
      exact ⟨rfl, rfl, rfl⟩
    rw [if_neg hend, if_neg (show ¬ ((a + 3 : Nat) : Int) = (l.length : Int) by omega)]
    cases h4 : isK l ((a + 3 : Nat) : Int) 44
    · right
      simp only [if_true, take_no h4]
      exact ⟨spot_in h0 hl hf, pairsG_bad rfl _ _⟩
    simp only [take_yes h4, Bool.true_eq_false, if_false]
    rw [show ((a + 3 : Nat) : Int) + 1 = ((a + 4 : Nat) : Int) by omega]
    exact pairs_alike hl hf n (a + 4) _ (by omega) (by omega)
def PA (l : List Tree) (fin : Int) (P : Rdr × Cmd) (R : Cmd × Int × Int) : Prop :=
  0 ≤ R.2.2 ∧ P.1.bad = some R.2.2 ∨ R.2.2 < 0 ∧ P = (⟨l, R.2.1, fin, none⟩, R.1)
def lettersOk (ks : List UInt8) : Prop := ∀ k ∈ ks, k = 110 ∨ k = 102 ∨ k = 119 ∨ k = 112 ∨ k = 116 ∨ k = 114
theorem part_alike {l : List Tree} {fin : Int} (hl : AOk N l) (hf : In N fin) (hm : 0 < manys l) {k : UInt8} (c : Cmd) (a : Nat) (hk : k = 110 ∨ k = 102 ∨ k = 119 ∨ k = 112 ∨ k = 116 ∨ k = 114) (hp : k = 112 → c.pairs = []) :
    PA l fin (partP k (⟨l, a, fin, none⟩, c)) (partR k c l a fin) := by
  have hs : ∀ b, In N (spotOf l b fin) := fun b => spot_in h0 hl hf
  rcases hk with rfl | rfl | rfl | rfl | rfl | rfl
  · simp only [partP, partR]
    cases h : isK l (a : Nat) 97
    · left; simp [word_no h]; exact (hs _).1
    · right; simp [word_yes h]
  · simp only [partP, partR]
    cases h : isK l (a : Nat) 97
    · left; simp [word_no h]; exact (hs _).1
    · right; simp [word_yes h]
  · have hi := words_in h0 (a := (a : Nat)) hl hf
    rcases words_law l (a : Nat) fin with ⟨p1, p2⟩ | ⟨p1, p2⟩
    · left; simp [partP, partR, p1, p2]; exact hi.1
    · right; simp [partP, partR, p1, p2]
  · have hp := hp rfl
    cases h : isK l (a : Nat) 123
    · left; simp [partP, partR, pairsP, take_no h, h]; exact (hs _).1
    · obtain ⟨hk, hf2⟩ := treeAt_in h0 (a := (a : Nat)) hl
      have ha := pairs_alike h0 hk hf2 ((treeAt l (a : Nat)).kids.length + 1) 0 [] (by omega) (by omega)
      have hin : (treeAt l (a : Nat)).inner = ⟨(treeAt l (a : Nat)).kids, ((0 : Nat) : Int), (treeAt l (a : Nat)).fin, none⟩ := rfl
      by_cases hz : (treeAt l (a : Nat)).kids.length = 0
      · right
        simp only [partP, partR, pairsP, take_yes h, h, pairsR]
        simp [hz, hp]
      · simp only [partP, partR, pairsP, take_yes h, h, pairsR, hin]
        generalize Rdr.pairsG ((treeAt l (a : Nat)).kids.length + 1) ⟨(treeAt l (a : Nat)).kids, ((0 : Nat) : Int), (treeAt l (a : Nat)).fin, none⟩ [] = G at ha ⊢
        generalize pairsF (treeAt l (a : Nat)).kids (treeAt l (a : Nat)).fin ((treeAt l (a : Nat)).kids.length + 1) 0 [] = F at ha ⊢
        rcases ha with ⟨p1, p2, p3⟩ | ⟨p1, p2⟩
        · right
          simp [hz, p1, p2, p3, Rdr.bads]
        · left
          have := p1.1
          simp [hz, p2, Rdr.bads]
          exact this
  · have hi := label_in h0 (manys l) l (a : Nat) fin hl hf
    obtain ⟨m, hm⟩ : ∃ m, manys l = m + 1 := ⟨manys l - 1, by omega⟩
    rw [hm] at hi
    have e1 : partR 116 c l (a : Nat) fin = if (labelG (manys l) l (a : Nat) fin).bad = true then (c, (a : Int), (labelG (manys l) l (a : Nat) fin).pos) else (if c.left.kind = 0 then { c with left := (labelG (manys l) l (a : Nat) fin).node } else { c with right := (labelG (manys l) l (a : Nat) fin).node }, (labelG (manys l) l (a : Nat) fin).next, -1) := rfl
    have e2 : partP 116 (⟨l, a, fin, none⟩, c) = nodeP ⟨l, a, fin, none⟩ c (readAt (Rdr.label (manys l)) l (a : Nat) fin) := rfl
    rw [e1, e2, hm]
    have ha := readAt_got (label_alike (m + 1)) l (a : Nat) fin
    generalize readAt (Rdr.label (m + 1)) l (a : Nat) fin = T at ha ⊢
    generalize labelG (m + 1) l (a : Nat) fin = g at ha hi ⊢
    rcases ha with ⟨p1, p2⟩ | ⟨p1, p2⟩
    · left
      rw [if_pos p1, p2]
      exact ⟨hi.1, rfl⟩
    · right
      rw [if_neg (by simp [p1]), p2]
      exact ⟨show (-1 : Int) < 0 by decide, rfl⟩
  · have hi := row_in h0 (manys l) l (a : Nat) fin hl hf
    obtain ⟨m, hm⟩ : ∃ m, manys l = m + 1 := ⟨manys l - 1, by omega⟩
    rw [hm] at hi
    have e1 : partR 114 c l (a : Nat) fin = if (rowG (manys l) l (a : Nat) fin).bad = true then (c, (a : Int), (rowG (manys l) l (a : Nat) fin).pos) else (if c.left.kind = 0 then { c with left := (rowG (manys l) l (a : Nat) fin).node } else { c with right := (rowG (manys l) l (a : Nat) fin).node }, (rowG (manys l) l (a : Nat) fin).next, -1) := rfl
    have e2 : partP 114 (⟨l, a, fin, none⟩, c) = nodeP ⟨l, a, fin, none⟩ c (readAt (Rdr.row (manys l)) l (a : Nat) fin) := rfl
    rw [e1, e2, hm]
    have ha := readAt_got (row_alike m) l (a : Nat) fin
    generalize readAt (Rdr.row (m + 1)) l (a : Nat) fin = T at ha ⊢
    generalize rowG (m + 1) l (a : Nat) fin = g at ha hi ⊢
    rcases ha with ⟨p1, p2⟩ | ⟨p1, p2⟩
    · left
      rw [if_pos p1, p2]
      exact ⟨hi.1, rfl⟩
    · right
      rw [if_neg (by simp [p1]), p2]
      exact ⟨show (-1 : Int) < 0 by decide, rfl⟩
theorem partsP_bad {b : Int} : ∀ (ks : List UInt8) (x : Rdr × Cmd), x.1.bad = some b → (partsP ks x).1.bad = some b
  | [], _, h => h
  | k :: ks, x, h => by
    simp only [partsP]
    exact partsP_bad ks _ (by simp [partP, h])
theorem partR_pairs {k : UInt8} {c : Cmd} {l : List Tree} {a fin : Int} (hk : k ≠ 112) : (partR k c l a fin).1.pairs = c.pairs := by
  unfold partR
  split
  · split
    · split <;> rfl
    · rfl
  split
  · split <;> rfl
  generalize (if k = 114 then rowG (manys l) l a fin else labelG (manys l) l a fin) = g
  simp only [hk, if_false]
  cases g.bad
  · simp only [Bool.false_eq_true, if_false]; split <;> rfl
  · rfl
theorem parts_alike {l : List Tree} {fin : Int} (hl : AOk N l) (hf : In N fin) (hm : 0 < manys l) : ∀ (ks : List UInt8) (c : Cmd) (a : Nat), lettersOk ks → ks.count 112 ≤ 1 → (112 ∈ ks → c.pairs = []) →
    PA l fin (partsP ks (⟨l, a, fin, none⟩, c)) (partsR l fin ks c a)
  | [], c, a, _, _, _ => .inr ⟨by simp [partsR], rfl⟩
  | k :: ks, c, a, hk, hc, hp => by
    have h1 := part_alike h0 hl hf hm c a (hk k (by simp)) (fun h => hp (by simp [h]))
    obtain ⟨a', ha', _⟩ := partR_next k c l a fin
    have hpp := partR_pairs h0 (k := k) (c := c) (l := l) (a := (a : Nat)) (fin := fin)
    simp only [partsP, partsR]
    generalize partR k c l (a : Nat) fin = R at h1 ha' hpp ⊢
    rcases h1 with ⟨p1, p2⟩ | ⟨p1, p2⟩
    · rw [if_pos p1]
      exact .inl ⟨p1, partsP_bad h0 ks _ p2⟩
    · rw [if_neg (by omega), p2, ha']
      by_cases e : k = 112
      · have hn : ks.count 112 = 0 := by rw [e] at hc; rw [List.count_cons_self] at hc; omega
        exact parts_alike hl hf hm ks _ a' (fun k h => hk k (by simp [h])) (by omega) (fun h => absurd h (List.count_eq_zero.1 hn))
      · refine parts_alike hl hf hm ks _ a' (fun k h => hk k (by simp [h])) ?_ (fun h => ?_)
        · rw [List.count_cons_of_ne e] at hc; exact hc
        · rw [hpp e]; exact hp (by simp [h])
end
theorem numF_no {w : List UInt8} : ∀ n op, (∀ k : Nat, op ≤ k → k < op + n → 0 < k → (formOf k).1 ≠ w) → numF w n op = 0
  | 0, _, _ => rfl
  | n + 1, op, h => by
    simp only [numF]
    rw [if_neg (fun ⟨x, y⟩ => h op (by omega) (by omega) x y)]
    exact numF_no n (op + 1) fun k a b c => h k (by omega) (by omega) c
theorem opF_no {w : List UInt8} (r : Int) : ∀ n op, (∀ k : Nat, op ≤ k → k < op + n → (formOf k).1 ≠ w) → opF w n op r = r
  | 0, _, _ => rfl
  | n + 1, op, h => by
    simp only [opF]
    rw [if_neg (fun e => h op (by omega) (by omega) e.symm)]
    exact opF_no r n (op + 1) fun k a b => h k (by omega) (by omega)
theorem number_op (w : List UInt8) : numberP w = opF w 15 1 0 := by
  by_cases h : ∃ k : Nat, k < 16 ∧ 0 < k ∧ (formOf k).1 = w
  · obtain ⟨k, h1, h2, rfl⟩ := h
    have key : ∀ k : Nat, k < 16 → 0 < k → numF (formOf k).1 16 0 = opF (formOf k).1 15 1 0 := by decide +kernel
    exact key k h1 h2
  · have hn : ∀ k : Nat, k < 16 → 0 < k → (formOf k).1 ≠ w := fun k h1 h2 e => h ⟨k, h1, h2, e⟩
    unfold numberP
    rw [numF_no 16 0 (fun k _ h1 h2 => hn k (by omega) h2), opF_no 0 15 1 (fun k h1 h2 => hn k (by omega) (by omega))]
theorem form_letters (op : Int) : lettersOk (formOf op).2 ∧ (formOf op).2.count 112 ≤ 1 := by
  unfold formOf lettersOk
  split
  · rename_i h1
    have hlt : op.toNat < 16 := by omega
    generalize op.toNat = n at hlt ⊢
    have key : ∀ n < 16, (∀ k ∈ (formT.getD n ([], [])).2, k = 110 ∨ k = 102 ∨ k = 119 ∨ k = 112 ∨ k = 116 ∨ k = 114) ∧ (formT.getD n ([], [])).2.count 112 ≤ 1 := by decide +kernel
    exact key n hlt
  · simp
theorem cmd_law {N : Int} (h0 : 0 ≤ N) {l : List Tree} {fin : Int} (hl : AOk N l) (hf : In N fin) : cmdP l fin = cmdR l fin := by
  cases l with
  | nil => rfl
  | cons t ts =>
    have hm : 0 < manys (t :: ts) := by have := manys_ge (t :: ts); simp at this; omega
    have hk : isK (t :: ts) ((0 : Nat) : Int) 97 = decide (t.tok.kind = 97) := by simp [isK]
    unfold cmdP cmdR
    simp only
    by_cases h97 : t.tok.kind = 97
    · have hk1 : isK (t :: ts) 0 97 = true := by have := hk; simp only [h97, decide_true] at this; exact this
      have hw : (⟨t :: ts, 0, fin, none⟩ : Rdr).word = (⟨t.tok.text, t.tok.pos⟩, ⟨t :: ts, ((1 : Nat) : Int), fin, none⟩) := by
        rw [word_yes hk1]; rfl
      simp only [hw, if_pos h97, ← number_op]
      generalize numberP t.tok.text = op
      by_cases hz : op = 0
      · rw [if_pos hz, if_pos hz]
      · rw [if_neg hz, if_neg hz]
        obtain ⟨f1, f2⟩ := form_letters op
        have hpa := parts_alike h0 hl hf hm (formOf op).2 { Cmd.zero with op := op, pos := t.tok.pos } 1 f1 f2 (fun _ => rfl)
        rw [show ((1 : Nat) : Int) = 1 from rfl] at hpa ⊢
        generalize partsR (t :: ts) fin (formOf op).2 { Cmd.zero with op := op, pos := t.tok.pos } 1 = R at hpa ⊢
        rcases hpa with ⟨p1, p2⟩ | ⟨p1, p2⟩
        · rw [if_pos p1]
          unfold endP
          simp [p2]
        · rw [if_neg (by omega), p2]
          unfold endP
          by_cases hend : R.2.1 < ((t :: ts).length : Int)
          · rw [if_pos hend]
            simp only [true_and, if_pos hend, Rdr.fail, spot_eq]
          · rw [if_neg hend]
            simp only [true_and, if_neg hend]
    · have hk1 : isK (t :: ts) 0 97 = false := by have := hk; simp only [h97, decide_false] at this; exact this
      rw [word_no hk1, if_neg h97]
      have : numberP [] = 0 := by decide +kernel
      simp only [this, if_true]
theorem readP_readR (s : List UInt8) : readP s = readR s := by
  unfold readP readR
  rw [treeP_line]
  have h := (lineTrees_in s).1
  rw [cmd_law (N := s.length) (by omega) h ⟨by omega, by omega⟩]
  all_goals rcases (lexR s).2 with _ | a <;> first | rfl | (cases (treeR (lexR s).1).2 <;> rfl)
end Go.Am

namespace Go.Am
structure CB (B : Nat) (c : Cmd) : Prop where
  ns : wsum c.names ≤ B
  ps : c.pairs.length ≤ B
  l : c.left.wt ≤ B
  r : c.right.wt ≤ B
theorem eats_le {r r' : Rdr} {seg : List Tree} (h : Eats r r' seg) : szs seg ≤ szs r.l := by
  obtain ⟨pre, post, e, _, _⟩ := h.ex
  rw [e, szs_append, szs_append]; omega
theorem word_le {r : Rdr} (hg : Goods r.l) (hb : r.bad = none) : r.word.1.text.length ≤ 16 := by
  cases h : (r.take 97).2.bad with
  | none => exact tree_len ((take_eats h).1.good hg).1
  | some b =>
    have : (r.take 97).1 = .zero := by
      unfold Rdr.take at h ⊢
      split
      · rename_i hs; rw [if_pos hs] at h; simp [hb] at h
      · rfl
    simp [Rdr.word, this, Tree.zero, Tree.tok]
theorem pairsG_len : ∀ (n : Nat) (i : Rdr) (acc : List (Word × Word)), (Rdr.pairsG n i acc).2.length ≤ acc.length + n
  | 0, _, _ => by simp [Rdr.pairsG]
  | n + 1, i, acc => by
    simp only [Rdr.pairsG]
    split
    · simp only; omega
    · split
      · simp
      · have := pairsG_len n (((i.word.2.take 60).2.word).2.take 44).2 (acc ++ [(i.word.1, ((i.word.2.take 60).2.word).1)])
        simp only [List.length_append, List.length_cons, List.length_nil] at this; omega
theorem node_cb {B : Nat} {c : Cmd} (h : CB B c) {r : Rdr} {g : Nd × Int × Option Int} (hg : g.1.wt ≤ B) : CB B (nodeP r c g).2 := by
  unfold nodeP
  cases g.2.2 with
  | some a => exact h
  | none =>
    simp only
    split
    · exact ⟨h.ns, h.ps, hg, h.r⟩
    · exact ⟨h.ns, h.ps, h.l, hg⟩
theorem readAt_wt {one : Rdr → Nd × Rdr} {Q : Nd → Prop} (hs : Sound one Nd.txt Q SN) {l : List Tree} (hg : Goods l) (a fin : Int) : (readAt one l a fin).1.wt ≤ szs l + 4 := by
  unfold readAt
  cases hb : (one ⟨l, a, fin, none⟩).2.bad with
  | some b => simp only [zero_wt]; omega
  | none =>
    obtain ⟨seg, e1, _, _, e4⟩ := hs ⟨l, a, fin, none⟩ hg hb
    have := eats_le e1
    simp only [SN] at e4 this ⊢
    omega
theorem part_cb {B : Nat} {k : UInt8} {x : Rdr × Cmd} (hg : Goods x.1.l) (hB : szs x.1.l + 20 ≤ B) (h : CB B x.2) : CB B (partP k x).2 := by
  obtain ⟨r, c⟩ := x
  simp only at hg hB h
  unfold partP
  simp only
  split
  · exact h
  rename_i hb
  have hb : r.bad = none := by simpa using hb
  split
  · exact ⟨h.ns, h.ps, h.l, h.r⟩
  split
  · refine ⟨?_, h.ps, h.l, h.r⟩
    have := word_le hg hb
    simp [wsum]; omega
  split
  · refine ⟨?_, h.ps, h.l, h.r⟩
    show wsum (wordsAt r.l r.at_ r.fin).1 ≤ B
    unfold wordsAt
    cases hw : ((⟨r.l, r.at_, r.fin, none⟩ : Rdr).words false).2.bad with
    | some b => simp [wsum]
    | none =>
      obtain ⟨t, e1, _, _, _, e5⟩ := words_sound (r := ⟨r.l, r.at_, r.fin, none⟩) hg hw
      have := eats_le e1
      simp only at this ⊢
      omega
  split
  · unfold pairsP
    simp only
    split
    · exact ⟨h.ns, h.ps, h.l, h.r⟩
    · refine ⟨h.ns, ?_, h.l, h.r⟩
      have h1 := pairsG_len ((r.take 123).1.kids.length + 1) (r.take 123).1.inner []
      have h2 := manys_ge (r.take 123).1.kids
      have h3 := (r.take_many 123).1
      simp only [szs, List.length_nil] at hB h1 ⊢
      omega
  split
  · exact node_cb h (by have := readAt_wt (label_sound (manys r.l)) hg r.at_ r.fin; omega)
  split
  · exact node_cb h (by have := readAt_wt (row_sound (manys r.l)) hg r.at_ r.fin; omega)
  · exact h
theorem parts_cb {B : Nat} {l : List Tree} {fin : Int} (hg : Goods l) (hB : szs l + 20 ≤ B) : ∀ (ks : List UInt8) (x : Rdr × Cmd), PInv l fin x → CB B x.2 → CB B (partsP ks x).2
  | [], _, _, h => h
  | k :: ks, x, hi, h => parts_cb hg hB ks _ (partP_inv hi k) (part_cb (by rw [hi.hl]; exact hg) (by rw [hi.hl]; exact hB) h)
theorem zero_cb {B : Nat} (h : 4 ≤ B) : CB B Cmd.zero := ⟨by simp [Cmd.zero, wsum], by simp [Cmd.zero], by simp only [Cmd.zero, zero_wt]; omega, by simp only [Cmd.zero, zero_wt]; omega⟩
theorem end_cb {B : Nat} {x : Rdr × Cmd} (h4 : 4 ≤ B) (h : CB B x.2) : CB B (endP x).1 := by
  unfold endP
  split
  · exact zero_cb h4
  · exact h
theorem cmd_cb {B : Nat} {l : List Tree} {fin : Int} (hg : Goods l) (hB : szs l + 20 ≤ B) : CB B (cmdP l fin).1 := by
  unfold cmdP
  split
  · exact zero_cb (by omega)
  · rename_i t ts
    simp only
    split
    · exact zero_cb (by omega)
    · refine end_cb (by omega) (parts_cb hg hB _ _ (fin := fin) ?_ ?_)
      · exact PInv.goes (x := (⟨t :: ts, 0, fin, none⟩, Cmd.zero)) ⟨rfl, rfl, by simp, by simp only; omega, fun _ => by simp only; omega⟩ rfl (goes_word _) (take_fin _ 97)
      · have h := zero_cb (B := B) (by omega)
        exact ⟨h.ns, h.ps, h.l, h.r⟩
theorem read_cb (s : List UInt8) : CB (26 * s.length + 20) (readP s).1 := by
  unfold readP
  rw [treeP_line]
  split
  · exact zero_cb (by omega)
  · split
    · exact zero_cb (by omega)
    · refine cmd_cb (line_good s) ?_
      have := line_many s
      simp only [szs]; omega
end Go.Am

namespace Go.Am
def cntN (op : Int) (k : UInt8) : Nat := (formOf op).2.count k
def namedQ (l : List (List UInt8)) : Bool := l.all nameR
def Cmd.nameQ (c : Cmd) : Bool := if cntN c.op 110 = 0 then decide (c.name.text = []) else nameR c.name.text
def Cmd.namesQ (c : Cmd) : Bool :=
  if 0 < cntN c.op 119 then decide (0 < c.names.length) && namedQ (c.names.map Word.text)
  else if 0 < cntN c.op 102 then decide (c.names.length = 1) && namedQ (c.names.map Word.text)
  else decide (c.names.length = 0)
def pairQ (p : Word × Word) : Bool := nameR p.1.text && nameR p.2.text
def Cmd.pairsQ (c : Cmd) : Bool := if cntN c.op 112 = 0 then decide (c.pairs.length = 0) else c.pairs.all pairQ
def Cmd.termsQ (c : Cmd) : Bool :=
  if 0 < cntN c.op 116 then c.left.labelQ && c.right.labelQ
  else if 0 < cntN c.op 114 then c.left.rowQ && c.right.rowQ
  else c.left.sameQ .zero && c.right.sameQ .zero
def Cmd.rightQ (c : Cmd) : Bool := decide (0 ≤ c.op ∧ c.op ≤ 15) && c.nameQ && c.namesQ && c.pairsQ && c.termsQ
def samePQ : List (Word × Word) → List (Word × Word) → Bool
  | [], [] => true
  | p :: ps, q :: qs => decide (p.1.text = q.1.text) && decide (p.2.text = q.2.text) && samePQ ps qs
  | _, _ => false
def Cmd.sameQ (a b : Cmd) : Bool := decide (a.op = b.op) && decide (a.name.text = b.name.text) && sameW a.names b.names && samePQ a.pairs b.pairs && a.left.sameQ b.left && a.right.sameQ b.right
theorem samePQ_len : ∀ {a b : List (Word × Word)}, samePQ a b = true → a.length = b.length
  | [], [], _ => rfl
  | [], _ :: _, h => by simp [samePQ] at h
  | _ :: _, [], h => by simp [samePQ] at h
  | _ :: ws, _ :: us, h => by simp only [samePQ, Bool.and_eq_true] at h; simp [samePQ_len h.2]
theorem samePQ_at : ∀ {a b : List (Word × Word)} {i : Nat} (h : i < a.length) (h2 : i < b.length), a.length = b.length → samePQ (a.take i) (b.take i) = true →
    (samePQ (a.take (i + 1)) (b.take (i + 1)) = (decide (a[i].1.text = b[i].1.text) && decide (a[i].2.text = b[i].2.text))) ∧ ((decide (a[i].1.text = b[i].1.text) && decide (a[i].2.text = b[i].2.text)) = false → samePQ a b = false)
  | p :: ps, q :: qs, 0, _, _, _, _ => by
    refine ⟨by simp [samePQ], fun h => ?_⟩
    simp only [List.getElem_cons_zero] at h
    simp only [samePQ, h, Bool.false_and]
  | p :: ps, q :: qs, i + 1, h, h2, hl, hs => by
    simp only [List.take_succ_cons, samePQ, Bool.and_eq_true] at hs
    obtain ⟨k1, k2⟩ := samePQ_at (a := ps) (b := qs) (i := i) (by simpa using h) (by simpa using h2) (by simpa using hl) hs.2
    refine ⟨?_, fun h => ?_⟩
    · rw [List.take_succ_cons, List.take_succ_cons, samePQ, k1]
      simp [hs.1.1, hs.1.2]
    · simp only [List.getElem_cons_succ] at h
      simp [samePQ, k2 h]
end Go.Am

namespace Go.Am
def firstF (f : Nat → Bool) : Nat → Nat → Int
  | 0, _ => -1
  | n + 1, i => if f i = true then (i : Nat) else firstF f n (i + 1)
theorem firstF_neg (f : Nat → Bool) : ∀ n i, firstF f n i < 0 ↔ ∀ k, i ≤ k → k < i + n → f k = false
  | 0, i => by simp only [firstF]; constructor <;> intro _ <;> first | omega | (intro k h1 h2; omega)
  | n + 1, i => by
    simp only [firstF]
    split
    · rename_i h
      constructor
      · intro h'; omega
      · intro h'; have := h' i (by omega) (by omega); rw [h] at this; simp at this
    · rename_i h
      rw [firstF_neg f n (i + 1)]
      constructor
      · intro h' k h1 h2
        by_cases e : k = i
        · subst e; simpa using h
        · exact h' k (by omega) (by omega)
      · intro h' k h1 h2; exact h' k (by omega) (by omega)
theorem firstF_ne {a b : List (List UInt8)} (h : a.length = b.length) : (decide (firstF (fun i => decide (a.getD i [] ≠ b.getD i [])) a.length 0 < 0)) = decide (a = b) := by
  rw [decide_eq_decide, firstF_neg]
  constructor
  · intro h'
    apply List.ext_getElem h
    intro i h1 h2
    have := h' i (by omega) (by omega)
    simpa [h1, h2] using this
  · rintro rfl k _ _; simp
theorem sameW_eq : ∀ a b : List Word, sameW a b = decide (a.map Word.text = b.map Word.text)
  | [], [] => by simp [sameW]
  | [], _ :: _ => by simp [sameW]
  | _ :: _, [] => by simp [sameW]
  | w :: ws, u :: us => by simp [sameW, sameW_eq ws us]
end Go.Am

namespace Go.Am
def all2 {β : Type} (f : β → β → Bool) : List β → List β → Bool
  | [], [] => true
  | x :: xs, y :: ys => f x y && all2 f xs ys
  | _, _ => false
theorem all2_samesQ : ∀ a b : List Nd, all2 Nd.sameQ a b = samesQ a b
  | [], [] => by simp [all2, samesQ]
  | [], _ :: _ => by simp [all2, samesQ]
  | _ :: _, [] => by simp [all2, samesQ]
  | x :: xs, y :: ys => by simp [all2, samesQ, all2_samesQ xs ys]
def wSame (a b : Word) : Bool := decide (a.text = b.text)
theorem all2_sameW : ∀ a b : List Word, all2 wSame a b = sameW a b
  | [], [] => rfl
  | [], _ :: _ => rfl
  | _ :: _, [] => rfl
  | x :: xs, y :: ys => by simp [all2, sameW, wSame, all2_sameW xs ys]
def at_ (pre us : List Tree) (fin : Int) (k : Nat) : Rdr := ⟨pre ++ us, ((pre.length + k : Nat) : Int), fin, none⟩
theorem sees_mid {pre post : List Tree} {t : Tree} {fin k : Int} : (at_ pre (t :: post) fin 0).sees k = decide (t.tok.kind = k) := by
  simp [at_, Rdr.sees, Rdr.ok, isK]
theorem sees_end {pre : List Tree} {fin k : Int} : (at_ pre [] fin 0).sees k = false := by
  simp [at_, Rdr.sees, Rdr.ok, isK]
theorem take_mid {pre post : List Tree} {t : Tree} {fin k : Int} (h : t.tok.kind = k) : (at_ pre (t :: post) fin 0).take k = (t, at_ (pre ++ [t]) post fin 0) := by
  have hs := sees_mid (pre := pre) (post := post) (t := t) (fin := fin) (k := k)
  rw [decide_eq_true h] at hs
  rw [Rdr.take, if_pos hs]
  simp [at_]
def Back {β : Type} (one : Nat → Rdr → β × Rdr) (sm : β → β → Bool) (x : β) (sh : List Sh) : Prop :=
  ∀ toks : List Tok, toks.map Tok.sh = sh → ∃ us : List Tree, us ≠ [] ∧ flats us = toks ∧ WFs us ∧
    ∀ N, manys us ≤ N → ∀ (pre post : List Tree) (fin : Int), ∃ y, one N (at_ pre (us ++ post) fin 0) = (y, at_ (pre ++ us) post fin 0) ∧ sm y x = true
theorem sh_name {t : List UInt8} {toks : List Tok} (h : toks.map Tok.sh = [nmS t]) : ∃ p, toks = [⟨97, t, p⟩] := by
  match toks, h with
  | [⟨k, s, p⟩], h =>
    simp [Tok.sh, nmS] at h
    exact ⟨p, by rw [h.1, h.2]⟩
theorem sh_sign {c : UInt8} {toks : List Tok} (h : toks.map Tok.sh = [sgn c]) : ∃ p, toks = [⟨(c.toNat : Nat), [c], p⟩] := by
  match toks, h with
  | [⟨k, s, p⟩], h =>
    simp [Tok.sh, sgn] at h
    exact ⟨p, by rw [h.1, h.2]⟩
theorem leaf_tree {t : Tok} (h1 : closing t.kind = 0) (h2 : closesZ t.kind = false) : flats [.mk t [] t.pos] = [t] ∧ WFs [.mk t [] t.pos] := by
  refine ⟨by simp [flats, Tree.flat, h1], ?_⟩
  simp [WFs, Tree.WF, h2]
theorem word_back (w : Word) : Back (fun _ => Rdr.word) wSame w [nmS w.text] := by
  intro toks h
  obtain ⟨p, rfl⟩ := sh_name h
  obtain ⟨f1, f2⟩ := leaf_tree (t := ⟨97, w.text, p⟩) rfl rfl
  refine ⟨_, by simp, f1, f2, fun N _ pre post fin => ⟨⟨w.text, p⟩, ?_, by simp [wSame]⟩⟩
  have := take_mid (pre := pre) (post := post) (t := .mk ⟨97, w.text, p⟩ [] p) (fin := fin) (k := 97) rfl
  simp only [List.singleton_append, Rdr.word, this]; rfl
theorem sameQ_of {m n : Nd} (k : m.kind = n.kind) (t : m.text = n.text) (w : sameW m.names n.names = true) (s : samesQ m.kids n.kids = true) : m.sameQ n = true := by
  rw [Nd.sameQ_eq, decide_eq_true k, decide_eq_true t, w, s]; rfl
theorem leaf_back {k : Int} {n : Nd} (hk : n.kind = k) (h : n.leafQ = true) : Back (fun _ => Rdr.leaf k) Nd.sameQ n [nmS n.text] := by
  intro toks ht
  obtain ⟨us, h1, h2, h3, h4⟩ := word_back ⟨n.text, 0⟩ toks ht
  refine ⟨us, h1, h2, h3, fun N hN pre post fin => ?_⟩
  obtain ⟨y, e1, e2⟩ := h4 N hN pre post fin
  refine ⟨.mk k y.pos y.text [] [], by simp only [Rdr.leaf, e1], ?_⟩
  simp only [Nd.leafQ, Bool.and_eq_true, decide_eq_true_eq] at h
  have hn : n.names = [] := List.length_eq_zero_iff.1 (by omega)
  have hks : n.kids = [] := List.length_eq_zero_iff.1 (by omega)
  simp only [wSame, decide_eq_true_eq] at e2
  exact sameQ_of hk.symm e2 (show sameW [] n.names = true by rw [hn]; rfl) (show samesQ [] n.kids = true by rw [hks]; simp [samesQ])
def NoComma (post : List Tree) : Prop := ∀ t r, post = t :: r → t.tok.kind ≠ 44
theorem no_comma {pre post : List Tree} {fin : Int} (h : NoComma post) : (at_ pre post fin 0).sees 44 = false := by
  cases post with
  | nil => exact sees_end
  | cons t r => rw [sees_mid]; exact decide_eq_false (h t r rfl)
section
variable {β : Type} {one : Nat → Rdr → β × Rdr} {sm : β → β → Bool} {S : β → List Sh}
theorem goG_back : ∀ (xs : List β), (∀ x ∈ xs, Back one sm x (S x)) → ∀ toks : List Tok, toks.map Tok.sh = (xs.map S).flatMap (fun y => sgn 44 :: y) →
    ∃ us : List Tree, flats us = toks ∧ WFs us ∧ xs.length ≤ us.length ∧ ∀ N, manys us ≤ N → ∀ (pre post : List Tree) (fin : Int) (n : Nat) (acc : List β), xs.length ≤ n → NoComma post →
      ∃ ys, goG (oStep (one N)) n (at_ pre (us ++ post) fin 0, acc) = (at_ (pre ++ us) post fin 0, acc ++ ys) ∧ all2 sm ys xs = true
  | [], _, toks, ht => by
    have : toks = [] := by simpa using ht
    subst this
    refine ⟨[], rfl, trivial, by simp, fun N _ pre post fin n acc _ hp => ⟨[], ?_, rfl⟩⟩
    cases n with
    | zero => simp [goG]
    | succ n => rw [goG]; simp [no_comma hp]
  | x :: xs, h, toks, ht => by
    simp only [List.map_cons, List.flatMap_cons] at ht
    obtain ⟨t1, t3, rfl, h1, h3⟩ := List.map_eq_append_iff.1 ht
    obtain ⟨tc, t2, rfl, hc, h2⟩ := List.map_eq_append_iff.1 (show t1.map Tok.sh = [sgn 44] ++ S x from h1)
    obtain ⟨p, rfl⟩ := sh_sign hc
    obtain ⟨f1, f2⟩ := leaf_tree (t := ⟨((44 : UInt8).toNat : Nat), [44], p⟩) rfl rfl
    obtain ⟨ux, n1, e1, w1, b1⟩ := h x (by simp) t2 h2
    obtain ⟨us, e2, w2, l2, b2⟩ := goG_back xs (fun y hy => h y (by simp [hy])) t3 h3
    generalize hT : (Tree.mk ⟨((44 : UInt8).toNat : Nat), [44], p⟩ [] p) = T at f1 f2
    have hk : T.tok.kind = 44 := by rw [← hT]; rfl
    refine ⟨[T] ++ ux ++ us, ?_, ?_, ?_, ?_⟩
    · rw [flats_append, flats_append, e1, e2, ← f1, ← hT]
    · rw [WFs_append, WFs_append]; exact ⟨⟨by rw [← hT] at f2 ⊢; exact f2, w1⟩, w2⟩
    · simp only [List.length_append, List.length_cons, List.length_nil]; omega
    · intro N hN pre post fin n acc hn hp
      simp only [manys_append] at hN
      obtain ⟨n, rfl⟩ : ∃ m, n = m + 1 := ⟨n - 1, by simp at hn; omega⟩
      obtain ⟨y, q1, q2⟩ := b1 N (by omega) (pre ++ [T]) (us ++ post) fin
      obtain ⟨ys, q3, q4⟩ := b2 N (by omega) (pre ++ [T] ++ ux) post fin n (acc ++ [y]) (by simp at hn; omega) hp
      refine ⟨y :: ys, ?_, by simp [all2, q2, q4]⟩
      have es : [T] ++ ux ++ us ++ post = T :: (ux ++ (us ++ post)) := by simp
      rw [es, goG]
      simp only [sees_mid, hk, decide_true, if_true]
      rw [take_mid hk]
      simp only [oStep, q1]
      rw [show pre ++ ([T] ++ ux ++ us) = pre ++ [T] ++ ux ++ us by simp, q3]
      simp
theorem some_back {x : β} {xs : List β} (h : ∀ y ∈ x :: xs, Back one sm y (S y)) {toks : List Tok} (ht : toks.map Tok.sh = commaS ((x :: xs).map S)) :
    ∃ us : List Tree, us ≠ [] ∧ flats us = toks ∧ WFs us ∧ ∀ N, manys us ≤ N → ∀ (pre post : List Tree) (fin : Int), NoComma post →
      ∃ ys, someG (oStep (one N)) (at_ pre (us ++ post) fin 0) = (at_ (pre ++ us) post fin 0, ys) ∧ all2 sm ys (x :: xs) = true := by
  simp only [List.map_cons, commaS] at ht
  obtain ⟨t1, t2, rfl, h1, h2⟩ := List.map_eq_append_iff.1 ht
  obtain ⟨ux, n1, e1, w1, b1⟩ := h x (by simp) t1 h1
  obtain ⟨us, e2, w2, l2, b2⟩ := goG_back xs (fun y hy => h y (by simp [hy])) t2 h2
  refine ⟨ux ++ us, by simp [n1], by rw [flats_append, e1, e2], by rw [WFs_append]; exact ⟨w1, w2⟩, fun N hN pre post fin hp => ?_⟩
  rw [manys_append] at hN
  obtain ⟨y, q1, q2⟩ := b1 N (by omega) pre (us ++ post) fin
  obtain ⟨ys, q3, q4⟩ := b2 N (by omega) (pre ++ ux) post fin (at_ pre (ux ++ us ++ post) fin 0).l.length [y] (by simp [at_]; omega) hp
  refine ⟨y :: ys, ?_, by simp [all2, q2, q4]⟩
  unfold someG
  simp only [oStep, List.append_assoc] at q1 q3 ⊢
  rw [q1]
  simp only [List.nil_append]
  rw [q3]
  simp
theorem sign_val {a b : UInt8} (h : closing (a.toNat : Nat) = (b.toNat : Nat)) : [UInt8.ofNat (closing (a.toNat : Nat)).toNat] = [b] := by rw [h]; simp
theorem bracket_back {a b : UInt8} {e : Bool} {xs : List β} (hab : closing (a.toNat : Nat) = (b.toNat : Nat)) (hb0 : (b.toNat : Int) ≠ 0) (hca : closesZ (a.toNat : Nat) = false) (h : ∀ y ∈ xs, Back one sm y (S y)) (he : xs = [] → e = true) {toks : List Tok}
    (ht : toks.map Tok.sh = [sgn a] ++ commaS (xs.map S) ++ [sgn b]) :
    ∃ T : Tree, flats [T] = toks ∧ WFs [T] ∧ T.tok.kind = (a.toNat : Nat) ∧ ∀ N, manys [T] ≤ N + 1 → ∀ (pre post : List Tree) (fin : Int),
      ∃ ys p, (at_ pre (T :: post) fin 0).bracket (oStep (one N)) (a.toNat : Nat) e = ((ys, p), at_ (pre ++ [T]) post fin 0) ∧ all2 sm ys xs = true := by
  obtain ⟨t1, t3, rfl, h1, h3⟩ := List.map_eq_append_iff.1 ht
  obtain ⟨ta, t2, rfl, ha, h2⟩ := List.map_eq_append_iff.1 h1
  obtain ⟨pa, rfl⟩ := sh_sign ha
  obtain ⟨pb, rfl⟩ := sh_sign h3
  have hc0 : closing (a.toNat : Nat) ≠ 0 := by rw [hab]; exact hb0
  have key : ∃ us : List Tree, flats us = t2 ∧ WFs us ∧ ∀ N, manys us ≤ N → ∀ (T : Tree), T.kids = us → ∃ ys, Rdr.inside (oStep (one N)) e T = (at_ us [] T.fin 0, ys) ∧ all2 sm ys xs = true := by
    cases xs with
    | nil =>
      have : t2 = [] := by simpa [commaS] using h2
      subst this
      refine ⟨[], rfl, trivial, fun N _ T hT => ⟨[], ?_, rfl⟩⟩
      rw [Rdr.inside, if_pos ⟨he rfl, by rw [hT]; rfl⟩]
      simp [Tree.inner, at_, hT]
    | cons x xs =>
      obtain ⟨us, n1, e1, w1, b1⟩ := some_back h h2
      refine ⟨us, e1, w1, fun N hN T hT => ?_⟩
      obtain ⟨ys, q1, q2⟩ := b1 N hN [] [] T.fin (fun t r h => by simp at h)
      refine ⟨ys, ?_, q2⟩
      rw [Rdr.inside, if_neg (fun h => n1 (by rw [← hT]; exact List.length_eq_zero_iff.1 h.2))]
      have : T.inner = at_ [] (us ++ []) T.fin 0 := by simp [Tree.inner, at_, hT]
      rw [this, q1]; simp
  obtain ⟨us, e1, w1, b1⟩ := key
  refine ⟨.mk ⟨(a.toNat : Nat), [a], pa⟩ us pb, ?_, ?_, rfl, ?_⟩
  · simp only [flats, Tree.flat, List.append_nil]
    rw [if_pos hc0, e1, sign_val hab, hab]
    simp
  · simp only [WFs, Tree.WF]; exact ⟨⟨hca, fun h => absurd h hc0, w1⟩, trivial⟩
  · intro N hN pre post fin
    obtain ⟨ys, q1, q2⟩ := b1 N (by simp only [manys, Tree.many] at hN; omega) (.mk ⟨(a.toNat : Nat), [a], pa⟩ us pb) rfl
    refine ⟨ys, pa, ?_, q2⟩
    unfold Rdr.bracket
    rw [take_mid (t := .mk ⟨(a.toNat : Nat), [a], pa⟩ us pb) (k := (a.toNat : Nat)) rfl]
    simp only [q1]
    have hok : (at_ (pre ++ [Tree.mk ⟨(a.toNat : Nat), [a], pa⟩ us pb]) post fin 0).ok = true := rfl
    rw [if_pos hok]
    have hcl : (at_ us [] pb 0).close = at_ us [] pb 0 := by unfold Rdr.close; rw [if_neg]; simp [at_]
    simp only [Rdr.under, Tree.fin, hcl, Tree.tok]
    rfl
end
end Go.Am

namespace Go.Am
theorem head_of {us : List Tree} {s : Sh} {r : List Sh} (h0 : us ≠ []) (h : (flats us).map Tok.sh = s :: r) : ∃ t ts, us = t :: ts ∧ t.tok.kind = s.1 := by
  cases us with
  | nil => exact absurd rfl h0
  | cons t ts =>
    refine ⟨t, ts, rfl, ?_⟩
    have e : flats (t :: ts) = flats [t] ++ flats ts := flats_append [t] ts
    rw [e, flats_one] at h
    simp only [List.cons_append, List.map_cons, List.cons.injEq] at h
    rw [← h.1]; rfl
theorem sees_head {pre us post : List Tree} {fin k : Int} {s : Sh} {r : List Sh} {toks : List Tok} (h0 : us ≠ []) (hf : flats us = toks) (h : toks.map Tok.sh = s :: r) : (at_ pre (us ++ post) fin 0).sees k = decide (s.1 = k) := by
  obtain ⟨t, ts, rfl, hk⟩ := head_of h0 (by rw [hf]; exact h)
  rw [List.cons_append, sees_mid, hk]
theorem many_pos {us : List Tree} (h : us ≠ []) : 1 ≤ manys us := by
  cases us with
  | nil => exact absurd rfl h
  | cons t ts => simp only [manys]; omega
theorem sign_tree {c : UInt8} (h : (decide (closing (c.toNat : Nat) = 0) && !closesZ (c.toNat : Nat)) = true) {toks : List Tok} (ht : toks.map Tok.sh = [sgn c]) : ∃ T : Tree, flats [T] = toks ∧ WFs [T] ∧ T.tok.kind = (c.toNat : Nat) := by
  simp only [Bool.and_eq_true, decide_eq_true_eq, Bool.not_eq_true'] at h
  obtain ⟨p, rfl⟩ := sh_sign ht
  obtain ⟨f1, f2⟩ := leaf_tree (t := ⟨(c.toNat : Nat), [c], p⟩) h.1 h.2
  exact ⟨_, f1, f2, rfl⟩
theorem words_back {ws : List Word} {toks : List Tok} (ht : toks.map Tok.sh = [sgn 123] ++ wshp ws ++ [sgn 125]) :
    ∃ T : Tree, flats [T] = toks ∧ WFs [T] ∧ T.tok.kind = 123 ∧ ∀ (pre post : List Tree) (fin : Int), ∃ ys p, (at_ pre (T :: post) fin 0).words true = ((ys, p), at_ (pre ++ [T]) post fin 0) ∧ sameW ys ws = true := by
  obtain ⟨T, h1, h2, h3, h4⟩ := bracket_back (one := fun _ => Rdr.word) (sm := wSame) (S := fun w => [nmS w.text]) (a := 123) (b := 125) (e := true) (xs := ws) (by decide) (by decide) (by decide) (fun w _ => word_back w) (fun _ => rfl) ht
  refine ⟨T, h1, h2, h3, fun pre post fin => ?_⟩
  obtain ⟨ys, p, q1, q2⟩ := h4 (manys [T]) (by omega) pre post fin
  rw [all2_sameW] at q2
  exact ⟨ys, p, q1, q2⟩
theorem nodes_back {one : Nat → Rdr → Nd × Rdr} {a b : UInt8} {e : Bool} {ks : List Nd} (hab : (decide (closing (a.toNat : Nat) = (b.toNat : Nat)) && decide ((b.toNat : Int) ≠ 0) && !closesZ (a.toNat : Nat)) = true) (h : ∀ y ∈ ks, Back one Nd.sameQ y y.shp) (he : ks = [] → e = true) {toks : List Tok}
    (ht : toks.map Tok.sh = [sgn a] ++ commaS (shps ks) ++ [sgn b]) :
    ∃ T : Tree, flats [T] = toks ∧ WFs [T] ∧ T.tok.kind = (a.toNat : Nat) ∧ ∀ N, manys [T] ≤ N + 1 → ∀ (pre post : List Tree) (fin : Int),
      ∃ ys p, (at_ pre (T :: post) fin 0).nodes (one N) (a.toNat : Nat) e = ((ys, p), at_ (pre ++ [T]) post fin 0) ∧ samesQ ys ks = true := by
  simp only [Bool.and_eq_true, decide_eq_true_eq, Bool.not_eq_true'] at hab
  rw [shps_map] at ht
  obtain ⟨T, h1, h2, h3, h4⟩ := bracket_back (one := one) (sm := Nd.sameQ) (S := Nd.shp) (e := e) hab.1.1 hab.1.2 hab.2 h he ht
  refine ⟨T, h1, h2, h3, fun N hN pre post fin => ?_⟩
  obtain ⟨ys, p, q1, q2⟩ := h4 N hN pre post fin
  rw [all2_samesQ] at q2
  exact ⟨ys, p, q1, q2⟩
theorem rule_back {n : Nd} (h : n.ruleQ = true) : Back (fun _ => Rdr.rule) Nd.sameQ n n.shp := by
  obtain ⟨k, h1, h2, h3⟩ := rule_spec h
  intro toks ht
  have e : n.shp = [nmS n.text] ++ [sgn 58] ++ ([sgn 123] ++ wshp n.names ++ [sgn 125]) := by rw [Nd.shp_eq, k]; rfl
  rw [e] at ht
  obtain ⟨t1, t3, rfl, a1, a3⟩ := List.map_eq_append_iff.1 ht
  obtain ⟨tw, tc, rfl, aw, ac⟩ := List.map_eq_append_iff.1 a1
  obtain ⟨uw, n1, f1, w1, b1⟩ := word_back ⟨n.text, 0⟩ tw aw
  obtain ⟨C, f2, w2, c2⟩ := sign_tree (by decide) ac
  obtain ⟨T, f3, w3, c3, b3⟩ := words_back a3
  refine ⟨uw ++ [C] ++ [T], by simp, by rw [flats_append, flats_append, f1, f2, f3], by rw [WFs_append, WFs_append]; exact ⟨⟨w1, w2⟩, w3⟩, fun N hN pre post fin => ?_⟩
  obtain ⟨y, q1, q2⟩ := b1 (manys uw) (Nat.le_refl _) pre ([C] ++ [T] ++ post) fin
  obtain ⟨ys, p, q3, q4⟩ := b3 (pre ++ uw ++ [C]) post fin
  have q5 := take_mid (pre := pre ++ uw) (post := [T] ++ post) (t := C) (fin := fin) (k := 58) c2
  refine ⟨.mk 6 y.pos y.text ys [], ?_, ?_⟩
  · have es : uw ++ [C] ++ [T] ++ post = uw ++ ([C] ++ [T] ++ post) := by simp
    have q1' : (at_ pre (uw ++ ([C] ++ [T] ++ post)) fin 0).word = (y, at_ (pre ++ uw) ([C] ++ [T] ++ post) fin 0) := q1
    have q5' : (at_ (pre ++ uw) ([C] ++ [T] ++ post) fin 0).take 58 = (C, at_ (pre ++ uw ++ [C]) (T :: post) fin 0) := q5
    simp only [es, Rdr.rule, q1', q5', q3]
    simp
  · simp only [wSame, decide_eq_true_eq] at q2
    exact sameQ_of k.symm q2 q4 (show samesQ [] n.kids = true by rw [h3]; simp [samesQ])
theorem const_back : ∀ (k : Nat) (n : Nd), n.wt ≤ k → n.constQ = true → Back Rdr.constant Nd.sameQ n n.shp := by
  intro k
  induction k with
  | zero => intro n h _; cases n; simp only [Nd.wt] at h; omega
  | succ k ih =>
    intro n hk h toks ht
    rcases const_spec h with ⟨h1, h2⟩ | ⟨h1, h2, h3, h4⟩ | ⟨h1, h2, h3, h4, h5⟩ | ⟨h1, h2, h3, h4⟩
    · have e : n.shp = [nmS n.text] := by rw [Nd.shp_eq, h1]; rfl
      rw [e] at ht
      obtain ⟨us, n1, f1, w1, b1⟩ := leaf_back h1 h2 toks ht
      refine ⟨us, n1, f1, w1, fun N hN pre post fin => ?_⟩
      have hp := many_pos n1
      obtain ⟨N, rfl⟩ : ∃ m, N = m + 1 := ⟨N - 1, by omega⟩
      obtain ⟨y, q1, q2⟩ := b1 _ hN pre post fin
      refine ⟨y, ?_, q2⟩
      have s1 := sees_head (pre := pre) (post := post) (fin := fin) (k := 123) n1 f1 ht
      have s2 := sees_head (pre := pre) (post := post) (fin := fin) (k := 40) n1 f1 ht
      have s3 := sees_head (pre := pre) (post := post) (fin := fin) (k := 91) n1 f1 ht
      rw [Rdr.constant, s1, s2, s3]
      exact q1
    · have e : n.shp = [sgn 123] ++ wshp n.names ++ [sgn 125] := by rw [Nd.shp_eq, h1]; rfl
      rw [e] at ht
      obtain ⟨T, f1, w1, c1, b1⟩ := words_back ht
      refine ⟨[T], by simp, f1, w1, fun N hN pre post fin => ?_⟩
      have hp := many_pos (us := [T]) (by simp)
      obtain ⟨N, rfl⟩ : ∃ m, N = m + 1 := ⟨N - 1, by omega⟩
      obtain ⟨ys, p, q1, q2⟩ := b1 pre post fin
      refine ⟨.mk 3 p [] ys [], ?_, sameQ_of h1.symm h2.symm q2 (show samesQ [] n.kids = true by rw [h4]; simp [samesQ])⟩
      rw [List.singleton_append, Rdr.constant, if_pos (by rw [sees_mid, c1]; rfl), q1]
    · have e : n.shp = [sgn 40] ++ commaS (shps n.kids) ++ [sgn 41] := by rw [Nd.shp_eq, h1]; rfl
      rw [e] at ht
      obtain ⟨T, f1, w1, c1, b1⟩ := nodes_back (one := Rdr.constant) (e := false) (by decide) (fun m hm => ih m (by have := kidw hm; omega) (h5 m hm)) (fun h => absurd h h4) ht
      refine ⟨[T], by simp, f1, w1, fun N hN pre post fin => ?_⟩
      have hp := many_pos (us := [T]) (by simp)
      obtain ⟨N, rfl⟩ : ∃ m, N = m + 1 := ⟨N - 1, by omega⟩
      obtain ⟨ys, p, q1, q2⟩ := b1 N hN pre post fin
      refine ⟨.mk 4 p [] [] ys, ?_, sameQ_of h1.symm h2.symm (show sameW [] n.names = true by rw [h3]; rfl) q2⟩
      have q1' : (at_ pre (T :: post) fin 0).nodes (Rdr.constant N) 40 false = ((ys, p), at_ (pre ++ [T]) post fin 0) := q1
      rw [List.singleton_append, Rdr.constant, if_neg (by rw [sees_mid, c1]; decide), if_pos (by rw [sees_mid, c1]; rfl), q1']
    · have e : n.shp = [sgn 91] ++ commaS (shps n.kids) ++ [sgn 93] := by rw [Nd.shp_eq, h1]; rfl
      rw [e] at ht
      obtain ⟨T, f1, w1, c1, b1⟩ := nodes_back (one := fun _ => Rdr.rule) (e := true) (by decide) (fun m hm => rule_back (h4 m hm)) (fun _ => rfl) ht
      refine ⟨[T], by simp, f1, w1, fun N hN pre post fin => ?_⟩
      have hp := many_pos (us := [T]) (by simp)
      obtain ⟨N, rfl⟩ : ∃ m, N = m + 1 := ⟨N - 1, by omega⟩
      obtain ⟨ys, p, q1, q2⟩ := b1 N hN pre post fin
      refine ⟨.mk 5 p [] [] ys, ?_, sameQ_of h1.symm h2.symm (show sameW [] n.names = true by rw [h3]; rfl) q2⟩
      have q1' : (at_ pre (T :: post) fin 0).nodes Rdr.rule 91 true = ((ys, p), at_ (pre ++ [T]) post fin 0) := q1
      rw [List.singleton_append, Rdr.constant, if_neg (by rw [sees_mid, c1]; decide), if_neg (by rw [sees_mid, c1]; decide), if_pos (by rw [sees_mid, c1]; rfl), q1']
theorem atom_back {n : Nd} (h : n.labelQ = true) (hk : n.kind = 1 ∨ n.kind = 7) : Back Rdr.atom Nd.sameQ n n.shp := by
  intro toks ht
  rcases label_spec h with ⟨h1, h2⟩ | ⟨h1, h2, h3, c, h4, h5⟩ | ⟨h1, _⟩
  · have e : n.shp = [nmS n.text] := by rw [Nd.shp_eq, h1]; rfl
    rw [e] at ht
    obtain ⟨us, n1, f1, w1, b1⟩ := leaf_back h1 h2 toks ht
    refine ⟨us, n1, f1, w1, fun N hN pre post fin => ?_⟩
    obtain ⟨y, q1, q2⟩ := b1 _ hN pre post fin
    refine ⟨y, ?_, q2⟩
    have s1 := sees_head (pre := pre) (post := post) (fin := fin) (k := 35) n1 f1 ht
    rw [Rdr.atom, s1]
    exact q1
  · have e : n.shp = [sgn 35] ++ c.shp := by rw [Nd.shp_eq, h1, h4]; rfl
    rw [e] at ht
    obtain ⟨t1, t2, rfl, a1, a2⟩ := List.map_eq_append_iff.1 ht
    obtain ⟨C, f2, w2, c2⟩ := sign_tree (by decide) a1
    obtain ⟨us, n1, f1, w1, b1⟩ := const_back _ c (Nat.le_refl _) h5 t2 a2
    refine ⟨[C] ++ us, by simp, by rw [flats_append, f1, f2], by rw [WFs_append]; exact ⟨w2, w1⟩, fun N hN pre post fin => ?_⟩
    rw [manys_append] at hN
    obtain ⟨y, q1, q2⟩ := b1 N (by omega) (pre ++ [C]) post fin
    have q5 := take_mid (pre := pre) (post := us ++ post) (t := C) (fin := fin) (k := 35) c2
    refine ⟨.mk 7 C.tok.pos [] [] [y], ?_, sameQ_of h1.symm h2.symm (show sameW [] n.names = true by rw [h3]; rfl) (show samesQ [y] n.kids = true by rw [h4]; simp [samesQ, q2])⟩
    rw [List.append_assoc, List.singleton_append, Rdr.atom, if_pos (by rw [sees_mid, c2]; rfl), q5]
    simp only [q1]
    simp
  · omega
theorem label_back : ∀ (k : Nat) (n : Nd), n.wt ≤ k → n.labelQ = true → Back Rdr.label Nd.sameQ n n.shp := by
  intro k
  induction k with
  | zero => intro n h _; cases n; simp only [Nd.wt] at h; omega
  | succ k ih =>
    intro n hk h toks ht
    by_cases hat : n.kind = 1 ∨ n.kind = 7
    · obtain ⟨us, n1, f1, w1, b1⟩ := atom_back h hat toks ht
      refine ⟨us, n1, f1, w1, fun N hN pre post fin => ?_⟩
      have hp := many_pos n1
      obtain ⟨N, rfl⟩ : ∃ m, N = m + 1 := ⟨N - 1, by omega⟩
      obtain ⟨y, q1, q2⟩ := b1 _ hN pre post fin
      refine ⟨y, ?_, q2⟩
      obtain ⟨s, r, hs, h43, h38⟩ : ∃ s r, toks.map Tok.sh = s :: r ∧ s.1 ≠ 43 ∧ s.1 ≠ 38 := by
        rw [ht, Nd.shp_eq]
        rcases hat with e | e <;> rw [e]
        · exact ⟨_, _, rfl, (by decide : (97 : Int) ≠ 43), (by decide : (97 : Int) ≠ 38)⟩
        · exact ⟨_, _, rfl, (by decide : (35 : Int) ≠ 43), (by decide : (35 : Int) ≠ 38)⟩
      have s1 := sees_head (pre := pre) (post := post) (fin := fin) (k := 43) n1 f1 hs
      have s2 := sees_head (pre := pre) (post := post) (fin := fin) (k := 38) n1 f1 hs
      rw [decide_eq_false h43] at s1
      rw [decide_eq_false h38] at s2
      rw [Rdr.label, s1, s2]
      exact q1
    · rcases label_spec h with ⟨h1, _⟩ | ⟨h1, _⟩ | ⟨h1, h2, h3, h4, h5⟩
      · omega
      · omega
      have hkids := fun m hm => ih m (by have := kidw hm; omega) (h5 m hm)
      rcases h1 with h1 | h1
      · have e : n.shp = [sgn 43] ++ ([sgn 40] ++ commaS (shps n.kids) ++ [sgn 41]) := by rw [Nd.shp_eq, h1]; rfl
        rw [e] at ht
        obtain ⟨t1, t2, rfl, a1, a2⟩ := List.map_eq_append_iff.1 ht
        obtain ⟨C, f2, w2, c2⟩ := sign_tree (by decide) a1
        obtain ⟨T, f1, w1, c1, b1⟩ := nodes_back (one := Rdr.label) (e := false) (by decide) hkids (fun h => absurd h h4) a2
        refine ⟨[C] ++ [T], by simp, by rw [flats_append, f1, f2], by rw [WFs_append]; exact ⟨w2, w1⟩, fun N hN pre post fin => ?_⟩
        rw [manys_append] at hN
        have hp := many_pos (us := [C]) (by simp)
        obtain ⟨N, rfl⟩ : ∃ m, N = m + 1 := ⟨N - 1, by omega⟩
        obtain ⟨ys, p, q1, q2⟩ := b1 N (by omega) (pre ++ [C]) post fin
        have q5 := take_mid (pre := pre) (post := T :: post) (t := C) (fin := fin) (k := 43) c2
        refine ⟨.mk 8 C.tok.pos [] [] ys, ?_, sameQ_of h1.symm h2.symm (show sameW [] n.names = true by rw [h3]; rfl) q2⟩
        have q1' : (at_ (pre ++ [C]) (T :: post) fin 0).nodes (Rdr.label N) 40 false = ((ys, p), at_ (pre ++ [C] ++ [T]) post fin 0) := q1
        rw [List.append_assoc, List.singleton_append, List.singleton_append, Rdr.label, if_pos (by rw [sees_mid, c2]; rfl), q5]
        simp only [q1']
        simp
      · have e : n.shp = [sgn 38] ++ ([sgn 40] ++ commaS (shps n.kids) ++ [sgn 41]) := by rw [Nd.shp_eq, h1]; rfl
        rw [e] at ht
        obtain ⟨t1, t2, rfl, a1, a2⟩ := List.map_eq_append_iff.1 ht
        obtain ⟨C, f2, w2, c2⟩ := sign_tree (by decide) a1
        obtain ⟨T, f1, w1, c1, b1⟩ := nodes_back (one := Rdr.label) (e := false) (by decide) hkids (fun h => absurd h h4) a2
        refine ⟨[C] ++ [T], by simp, by rw [flats_append, f1, f2], by rw [WFs_append]; exact ⟨w2, w1⟩, fun N hN pre post fin => ?_⟩
        rw [manys_append] at hN
        have hp := many_pos (us := [C]) (by simp)
        obtain ⟨N, rfl⟩ : ∃ m, N = m + 1 := ⟨N - 1, by omega⟩
        obtain ⟨ys, p, q1, q2⟩ := b1 N (by omega) (pre ++ [C]) post fin
        have q5 := take_mid (pre := pre) (post := T :: post) (t := C) (fin := fin) (k := 38) c2
        refine ⟨.mk 9 C.tok.pos [] [] ys, ?_, sameQ_of h1.symm h2.symm (show sameW [] n.names = true by rw [h3]; rfl) q2⟩
        have q1' : (at_ (pre ++ [C]) (T :: post) fin 0).nodes (Rdr.label N) 40 false = ((ys, p), at_ (pre ++ [C] ++ [T]) post fin 0) := q1
        rw [List.append_assoc, List.singleton_append, List.singleton_append, Rdr.label, if_neg (by rw [sees_mid, c2]; decide), if_pos (by rw [sees_mid, c2]; rfl), q5]
        simp only [q1']
        simp
theorem field_back {n : Nd} (h : n.fieldQ = true) : Back Rdr.field Nd.sameQ n n.shp := by
  obtain ⟨k, h1, h2, c, h3, h4⟩ := field_spec h
  intro toks ht
  have e : n.shp = [nmS n.text] ++ [sgn 61] ++ c.shp := by rw [Nd.shp_eq, k, h3]; rfl
  rw [e] at ht
  obtain ⟨t1, t3, rfl, a1, a3⟩ := List.map_eq_append_iff.1 ht
  obtain ⟨tw, tc, rfl, aw, ac⟩ := List.map_eq_append_iff.1 a1
  obtain ⟨uw, n1, f1, w1, b1⟩ := word_back ⟨n.text, 0⟩ tw aw
  obtain ⟨C, f2, w2, c2⟩ := sign_tree (by decide) ac
  have hc : c.kind = 1 ∨ c.kind = 7 := by simp only [Nd.atomQ, Bool.and_eq_true, Bool.or_eq_true, decide_eq_true_eq] at h4; exact h4.1
  obtain ⟨ua, n3, f3, w3, b3⟩ := atom_back (atom_label h4) hc t3 a3
  refine ⟨uw ++ [C] ++ ua, by simp, by rw [flats_append, flats_append, f1, f2, f3], by rw [WFs_append, WFs_append]; exact ⟨⟨w1, w2⟩, w3⟩, fun N hN pre post fin => ?_⟩
  rw [manys_append] at hN
  obtain ⟨y, q1, q2⟩ := b1 (manys uw) (Nat.le_refl _) pre ([C] ++ ua ++ post) fin
  obtain ⟨z, q3, q4⟩ := b3 N (by omega) (pre ++ uw ++ [C]) post fin
  have q5 := take_mid (pre := pre ++ uw) (post := ua ++ post) (t := C) (fin := fin) (k := 61) c2
  refine ⟨.mk 11 y.pos y.text [] [z], ?_, ?_⟩
  · have es : uw ++ [C] ++ ua ++ post = uw ++ ([C] ++ ua ++ post) := by simp
    have q1' : (at_ pre (uw ++ ([C] ++ ua ++ post)) fin 0).word = (y, at_ (pre ++ uw) ([C] ++ ua ++ post) fin 0) := q1
    have q5' : (at_ (pre ++ uw) ([C] ++ ua ++ post) fin 0).take 61 = (C, at_ (pre ++ uw ++ [C]) (ua ++ post) fin 0) := q5
    simp only [es, Rdr.field, q1', q5', q3]
    simp
  · simp only [wSame, decide_eq_true_eq] at q2
    exact sameQ_of k.symm q2 (show sameW [] n.names = true by rw [h2]; rfl) (show samesQ [z] n.kids = true by rw [h3]; simp [samesQ, q4])
end Go.Am

namespace Go.Am
theorem inner_at (T : Tree) : T.inner = at_ [] T.kids T.fin 0 := by simp [Tree.inner, at_]
theorem close_end {us : List Tree} {fin : Int} : (at_ us [] fin 0).close = at_ us [] fin 0 := by unfold Rdr.close; rw [if_neg]; simp [at_]
theorem field_head {n : Nd} (h : n.fieldQ = true) : ∃ r, n.shp = nmS n.text :: r := by
  obtain ⟨k, _, _, c, h3, _⟩ := field_spec h
  exact ⟨[sgn 61] ++ c.shp, by rw [Nd.shp_eq, k, h3]; rfl⟩
theorem rowOf_back {n : Nd} (hn : n.names = [] ∨ ∃ w, n.names = [w] ∧ nameR w.text = true) (hf : ∀ x ∈ n.kids, x.fieldQ = true) {toks : List Tok}
    (ht : toks.map Tok.sh = commaS (shps n.kids) ++ (if 0 < n.names.length then [sgn 124] ++ wshp n.names else [])) :
    ∃ us : List Tree, flats us = toks ∧ WFs us ∧ ∀ N, manys us ≤ N → ∀ T : Tree, T.kids = us → ∃ ws ks, Rdr.rowOf N T = ((at_ us [] T.fin 0, ks), ws) ∧ sameW ws n.names = true ∧ samesQ ks n.kids = true := by
  obtain ⟨t1, t2, rfl, a1, a2⟩ := List.map_eq_append_iff.1 ht
  have nameside : (n.names = [] ∧ t2 = []) ∨ (∃ w C uw, n.names = [w] ∧ uw ≠ [] ∧ flats ([C] ++ uw) = t2 ∧ WFs ([C] ++ uw) ∧ C.tok.kind = 124 ∧ ∀ (pre post : List Tree) (fin : Int), ∃ y, (at_ pre (uw ++ post) fin 0).word = (y, at_ (pre ++ uw) post fin 0) ∧ wSame y w = true) := by
    rcases hn with hn | ⟨w, hn, hw⟩
    · left
      rw [hn] at a2
      exact ⟨hn, by simpa using a2⟩
    · right
      have e : (if 0 < n.names.length then [sgn 124] ++ wshp n.names else []) = [sgn 124] ++ [nmS w.text] := by rw [hn]; simp [wshp, commaS]
      rw [e] at a2
      obtain ⟨tc, tw, rfl, ac, aw⟩ := List.map_eq_append_iff.1 a2
      obtain ⟨C, f2, w2, c2⟩ := sign_tree (by decide) ac
      obtain ⟨uw, n1, f1, w1, b1⟩ := word_back w tw aw
      exact ⟨w, C, uw, hn, n1, by rw [flats_append, f1, f2], by rw [WFs_append]; exact ⟨w2, w1⟩, c2, fun pre post fin => b1 _ (Nat.le_refl _) pre post fin⟩
  have tail : ∀ (pre : List Tree) (us' : List Tree) (fin : Int) (ks : List Nd), (n.names = [] ∧ us' = [] ∨ ∃ w C uw, n.names = [w] ∧ us' = [C] ++ uw ∧ C.tok.kind = 124 ∧ ∀ (pre post : List Tree) (fin : Int), ∃ y, (at_ pre (uw ++ post) fin 0).word = (y, at_ (pre ++ uw) post fin 0) ∧ wSame y w = true) →
      ∃ ws, (if (at_ pre us' fin 0).sees 124 = true then (((((at_ pre us' fin 0).take 124).2.word.2, ks), [((at_ pre us' fin 0).take 124).2.word.1]) : (Rdr × List Nd) × List Word) else ((at_ pre us' fin 0, ks), [])) = ((at_ (pre ++ us') [] fin 0, ks), ws) ∧ sameW ws n.names = true := by
    intro pre us' fin ks h
    rcases h with ⟨h1, rfl⟩ | ⟨w, C, uw, h1, rfl, h3, h4⟩
    · rw [sees_end]
      exact ⟨[], by simp, by rw [h1]; rfl⟩
    · obtain ⟨y, q1, q2⟩ := h4 (pre ++ [C]) [] fin
      rw [List.append_nil] at q1
      refine ⟨[y], ?_, by rw [h1]; simpa [sameW, wSame] using q2⟩
      rw [List.singleton_append, sees_mid, h3, if_pos (by decide), take_mid h3, q1]
      simp
  cases hk : n.kids with
  | nil =>
    rw [hk] at a1
    have : t1 = [] := by simpa [shps, commaS] using a1
    subst this
    rcases nameside with ⟨h1, rfl⟩ | ⟨w, C, uw, h1, h0, h2, h3, h4, h5⟩
    · refine ⟨[], rfl, trivial, fun N _ T hT => ⟨[], [], ?_, by rw [h1]; rfl, by simp [samesQ]⟩⟩
      rw [Rdr.rowOf, if_pos (by rw [hT]; rfl), inner_at, hT]
    · refine ⟨[C] ++ uw, by simpa using h2, h3, fun N _ T hT => ?_⟩
      obtain ⟨ws, q1, q2⟩ := tail [] ([C] ++ uw) T.fin [] (.inr ⟨w, C, uw, h1, rfl, h4, h5⟩)
      refine ⟨ws, [], ?_, q2, by simp [samesQ]⟩
      rw [Rdr.rowOf, if_neg (by rw [hT]; simp), inner_at, hT, Rdr.rowIn]
      have hs : (at_ [] ([C] ++ uw) T.fin 0).sees 124 = true := by rw [List.singleton_append, sees_mid, h4]; rfl
      simp only [hs, if_true] at q1 ⊢
      rw [q1]; simp
  | cons x xs =>
    rw [hk, shps_map] at a1
    obtain ⟨us, n1, f1, w1, b1⟩ := some_back (one := Rdr.field) (sm := Nd.sameQ) (S := Nd.shp) (x := x) (xs := xs) (fun y hy => field_back (hf y (by rw [hk]; exact hy))) a1
    obtain ⟨r, hr⟩ := field_head (hf x (by rw [hk]; simp))
    have hhead : t1.map Tok.sh = nmS x.text :: (r ++ (xs.map Nd.shp).flatMap fun y => sgn 44 :: y) := by rw [a1]; simp [commaS, hr]
    have go : ∀ (us' : List Tree), NoComma us' → (n.names = [] ∧ us' = [] ∨ ∃ w C uw, n.names = [w] ∧ us' = [C] ++ uw ∧ C.tok.kind = 124 ∧ ∀ (pre post : List Tree) (fin : Int), ∃ y, (at_ pre (uw ++ post) fin 0).word = (y, at_ (pre ++ uw) post fin 0) ∧ wSame y w = true) →
        ∀ N, manys (us ++ us') ≤ N → ∀ T : Tree, T.kids = us ++ us' → ∃ ws ks, Rdr.rowOf N T = ((at_ (us ++ us') [] T.fin 0, ks), ws) ∧ sameW ws n.names = true ∧ samesQ ks (x :: xs) = true := by
      intro us' hnc hq N hN T hT
      rw [manys_append] at hN
      obtain ⟨ks, q1, q2⟩ := b1 N (by omega) [] us' T.fin hnc
      obtain ⟨ws, q3, q4⟩ := tail us us' T.fin ks hq
      rw [all2_samesQ] at q2
      refine ⟨ws, ks, ?_, q4, q2⟩
      rw [Rdr.rowOf, if_neg (by rw [hT]; intro h; rw [List.length_append] at h; exact n1 (List.length_eq_zero_iff.1 (by omega))), inner_at, hT, Rdr.rowIn]
      have hs : (at_ [] (us ++ us') T.fin 0).sees 124 = false := by rw [sees_head n1 f1 hhead]; rfl
      rw [List.nil_append] at q1
      simp only [hs, Bool.false_eq_true, if_false, q1]
      exact q3
    rcases nameside with ⟨h1, rfl⟩ | ⟨w, C, uw, h1, h0, h2, h3, h4, h5⟩
    · refine ⟨us ++ [], by simpa using f1, by simpa using w1, go [] (fun t r h => by simp at h) (.inl ⟨h1, rfl⟩)⟩
    · refine ⟨us ++ ([C] ++ uw), by rw [flats_append, f1, h2], by rw [WFs_append]; exact ⟨w1, h3⟩, go ([C] ++ uw) (fun t r h => ?_) (.inr ⟨w, C, uw, h1, rfl, h4, h5⟩)⟩
      simp only [List.singleton_append, List.cons.injEq] at h
      rw [← h.1, h4]; decide
theorem row_back {n : Nd} (h : n.rowQ = true) : Back Rdr.row Nd.sameQ n n.shp := by
  intro toks ht
  rcases row_spec h with ⟨k, h2, hn, hf⟩ | ⟨k, h⟩
  · have e : n.shp = [sgn 91] ++ (commaS (shps n.kids) ++ (if 0 < n.names.length then [sgn 124] ++ wshp n.names else [])) ++ [sgn 93] := by rw [Nd.shp_eq, k]; rfl
    rw [e] at ht
    obtain ⟨t1, t3, rfl, h1, h3⟩ := List.map_eq_append_iff.1 ht
    obtain ⟨ta, t2, rfl, ha, hin⟩ := List.map_eq_append_iff.1 h1
    obtain ⟨pa, rfl⟩ := sh_sign ha
    obtain ⟨pb, rfl⟩ := sh_sign h3
    obtain ⟨us, f1, w1, b1⟩ := rowOf_back hn hf hin
    generalize hT : Tree.mk ⟨((91 : UInt8).toNat : Nat), [91], pa⟩ us pb = T
    have hTk : T.tok.kind = 91 := by rw [← hT]; rfl
    have hTks : T.kids = us := by rw [← hT]; rfl
    have hTm : manys [T] = 1 + manys us := by simp only [manys, many_eq, hTks]; omega
    refine ⟨[T], by simp, ?_, ?_, fun N hN pre post fin => ?_⟩
    · rw [← hT]
      have hc : closing ((91 : UInt8).toNat : Nat) ≠ 0 := by decide
      simp only [flats, Tree.flat, List.append_nil]
      rw [if_pos hc, f1]
      simp; decide +kernel
    · rw [← hT]; simp only [WFs, Tree.WF]; exact ⟨⟨rfl, fun h => absurd h (by decide), w1⟩, trivial⟩
    · obtain ⟨ws, ks, q1, q2, q3⟩ := b1 N (by omega) T hTks
      refine ⟨.mk 10 T.tok.pos [] ws ks, ?_, sameQ_of k.symm h2.symm q2 q3⟩
      have q5 := take_mid (pre := pre) (post := post) (t := T) (fin := fin) (k := 91) hTk
      rw [List.singleton_append, Rdr.row, if_pos (by rw [sees_mid, hTk]; rfl), q5]
      simp only [q1, Rdr.under, close_end]
      rfl
  · have e : n.shp = [nmS n.text] := by rw [Nd.shp_eq, k]; rfl
    have hl : n.leafQ = true := by
      rcases label_spec h with ⟨_, h2⟩ | ⟨h1, _⟩ | ⟨h1, _⟩
      · exact h2
      · omega
      · omega
    rw [e] at ht
    obtain ⟨us, n1, f1, w1, b1⟩ := leaf_back k hl toks ht
    refine ⟨us, n1, f1, w1, fun N hN pre post fin => ?_⟩
    obtain ⟨y, q1, q2⟩ := b1 _ hN pre post fin
    refine ⟨y, ?_, q2⟩
    have s1 := sees_head (pre := pre) (post := post) (fin := fin) (k := 91) n1 f1 ht
    rw [Rdr.row, s1]
    exact q1
end Go.Am

namespace Go.Am
def pairS (p : Word × Word) : List Sh := [nmS p.1.text] ++ [sgn 60] ++ [nmS p.2.text]
def pieceS (k : UInt8) (c : Cmd) (n : Nd) : List Sh :=
  if k = 110 then [nmS c.name.text]
  else if k = 102 then wshp c.names
  else if k = 119 then [sgn 123] ++ wshp c.names ++ [sgn 125]
  else if k = 112 then [sgn 123] ++ commaS (c.pairs.map pairS) ++ [sgn 125]
  else n.shp
def lett : List UInt8 → List Nd → List (UInt8 × Nd)
  | [], _ => []
  | k :: ks, ts => (k, ts.headD .zero) :: lett ks (if isTerm k = true then ts.tail else ts)
theorem pieces_lett (c : Cmd) : ∀ (ks : List UInt8) (x : List (List UInt8) × List Nd), (ks.foldl (stepC c) x).1 = x.1 ++ (lett ks x.2).map fun q => pieceT q.1 c q.2
  | [], x => by simp [lett]
  | k :: ks, x => by
    rw [List.foldl_cons, pieces_lett c ks]
    simp [stepC, lett]
def shpC (c : Cmd) : List Sh := [nmS (formOf c.op).1] ++ ((lett (formOf c.op).2 [c.left, c.right]).map fun q => pieceS q.1 c q.2).flatten
theorem textC_lett (c : Cmd) : textC c = (formOf c.op).1 ++ ((lett (formOf c.op).2 [c.left, c.right]).map fun q => pieceT q.1 c q.2).flatMap fun y => [32] ++ y := by
  rw [textC, piecesT, pieces_lett]; rfl
theorem lex_space {s : List UInt8} {ks : List Sh} (h : LexTo s ks) : LexTo ([32] ++ s) ks := by
  intro n p acc hn
  rcases n with _ | n
  · simp at hn
  obtain ⟨toks, e1, e2⟩ := h n (p + 1) acc (by simpa using hn)
  refine ⟨toks, ?_, e2⟩
  rw [List.singleton_append, lexF, if_neg (fun h => by have := h.1; revert this; decide), runR_no (by decide), if_neg (by simp), if_neg (by decide), if_pos (.inl (by decide)), e1]
theorem lex_parts {β : Type} {T : β → List UInt8} {S : β → List Sh} : ∀ {l : List β}, (∀ x ∈ l, LexN (T x) (S x)) → Stop ((l.map T).flatMap fun y => [32] ++ y) ∧ LexTo ((l.map T).flatMap fun y => [32] ++ y) ((l.map S).flatten)
  | [], _ => ⟨trivial, lex_nil⟩
  | x :: xs, h => by
    obtain ⟨h1, h2⟩ := lex_parts (l := xs) fun y hy => h y (by simp [hy])
    simp only [List.map_cons, List.flatMap_cons, List.flatten_cons, List.append_assoc]
    exact ⟨show goesB 32 = false by decide, lex_space (h x (by simp) _ _ h1 h2)⟩
theorem lex_pair {p : Word × Word} (h : pairQ p = true) : LexN (pairT p) (pairS p) := by
  simp only [pairQ, Bool.and_eq_true] at h
  exact (LexN.sign (lexN h.1) (by decide)).nn (lexN h.2)
theorem lex_pairs {ps : List (Word × Word)} (h : ps.all pairQ = true) : LexS (braceT (ps.map pairT)) ([sgn 123] ++ commaS (ps.map pairS) ++ [sgn 125]) :=
  LexN.sign ((lexS 123 (by decide)).nn (lex_comma (T := pairT) (S := pairS) fun p hp => lex_pair (List.all_eq_true.1 h p hp))) (by decide)
theorem named_right {ws : List Word} (h : namedQ (ws.map Word.text) = true) : rightW ws = true := by
  simp only [namedQ, List.all_map] at h
  exact h
def PieceOk (k : UInt8) (c : Cmd) (n : Nd) : Prop :=
  (k = 110 ∧ nameR c.name.text = true) ∨ (k = 102 ∧ c.names.length = 1 ∧ rightW c.names = true) ∨ (k = 119 ∧ 0 < c.names.length ∧ rightW c.names = true) ∨ (k = 112 ∧ c.pairs.all pairQ = true) ∨ (k = 116 ∧ n.labelQ = true) ∨ (k = 114 ∧ n.rowQ = true)
theorem piece_lex {k : UInt8} {c : Cmd} {n : Nd} (h : PieceOk k c n) : LexN (pieceT k c n) (pieceS k c n) := by
  rcases h with ⟨rfl, h⟩ | ⟨rfl, _, h⟩ | ⟨rfl, _, h⟩ | ⟨rfl, h⟩ | ⟨rfl, h⟩ | ⟨rfl, h⟩
  · exact lexN h
  · exact lex_words h
  · exact (lex_set h).n
  · exact (lex_pairs h).n
  · exact lx_label _ n (Nat.le_refl _) h
  · exact lx_row h
theorem textC_lex {c : Cmd} (h0 : nameR (formOf c.op).1 = true) (h : ∀ q ∈ lett (formOf c.op).2 [c.left, c.right], PieceOk q.1 c q.2) : (lexR (textC c)).2 = none ∧ (lexR (textC c)).1.map Tok.sh = shpC c := by
  obtain ⟨h1, h2⟩ := lex_parts (T := fun q : UInt8 × Nd => pieceT q.1 c q.2) (S := fun q => pieceS q.1 c q.2) (l := lett (formOf c.op).2 [c.left, c.right]) fun q hq => piece_lex (h q hq)
  have := lexN h0 _ _ h1 h2
  rw [textC_lett]
  obtain ⟨toks, e1, e2⟩ := this _ 0 [] (Nat.le_refl _)
  unfold lexR
  rw [e1]
  exact ⟨rfl, by rw [shpC]; simpa using e2⟩
def pSame (a b : Word × Word) : Bool := decide (a.1.text = b.1.text) && decide (a.2.text = b.2.text)
theorem all2_samePQ : ∀ a b : List (Word × Word), all2 pSame a b = samePQ a b
  | [], [] => rfl
  | [], _ :: _ => rfl
  | _ :: _, [] => rfl
  | p :: ps, q :: qs => by simp only [all2, samePQ, pSame, all2_samePQ ps qs]
theorem pairs_in_back : ∀ (ps : List (Word × Word)) (p : Word × Word) (toks : List Tok), toks.map Tok.sh = commaS ((p :: ps).map pairS) →
    ∃ us : List Tree, us ≠ [] ∧ flats us = toks ∧ WFs us ∧ ∀ (n : Nat) (pre : List Tree) (fin : Int) (acc : List (Word × Word)), us.length ≤ n →
      ∃ ys r, Rdr.pairsG n (at_ pre us fin 0) acc = (r, acc ++ ys) ∧ r.bad = none ∧ all2 pSame ys (p :: ps) = true := by
  intro ps
  induction ps with
  | nil =>
    intro p toks ht
    have ht : toks.map Tok.sh = [nmS p.1.text] ++ [sgn 60] ++ [nmS p.2.text] := by simpa [commaS, pairS] using ht
    obtain ⟨t12, t3, rfl, h12, h3⟩ := List.map_eq_append_iff.1 ht
    obtain ⟨t1, t2, rfl, h1, h2⟩ := List.map_eq_append_iff.1 h12
    obtain ⟨p1, rfl⟩ := sh_name h1
    obtain ⟨p2, rfl⟩ := sh_sign h2
    obtain ⟨p3, rfl⟩ := sh_name h3
    obtain ⟨f1, w1⟩ := leaf_tree (t := ⟨97, p.1.text, p1⟩) rfl rfl
    obtain ⟨f2, w2⟩ := leaf_tree (t := ⟨((60 : UInt8).toNat : Nat), [60], p2⟩) rfl rfl
    obtain ⟨f3, w3⟩ := leaf_tree (t := ⟨97, p.2.text, p3⟩) rfl rfl
    refine ⟨[.mk ⟨97, p.1.text, p1⟩ [] p1] ++ [.mk ⟨((60 : UInt8).toNat : Nat), [60], p2⟩ [] p2] ++ [.mk ⟨97, p.2.text, p3⟩ [] p3], by simp, by rw [flats_append, flats_append, f1, f2, f3], by rw [WFs_append, WFs_append]; exact ⟨⟨w1, w2⟩, w3⟩, fun n pre fin acc hn => ?_⟩
    obtain ⟨m, rfl⟩ : ∃ m, n = m + 1 := ⟨n - 1, by simp at hn; omega⟩
    generalize hT1 : (Tree.mk ⟨97, p.1.text, p1⟩ [] p1) = T1
    generalize hT2 : (Tree.mk ⟨((60 : UInt8).toNat : Nat), [60], p2⟩ [] p2) = T2
    generalize hT3 : (Tree.mk ⟨97, p.2.text, p3⟩ [] p3) = T3
    have e1 : (at_ pre (T1 :: [T2, T3]) fin 0).take 97 = (T1, at_ (pre ++ [T1]) [T2, T3] fin 0) := take_mid (by rw [← hT1]; rfl)
    have e2 : (at_ (pre ++ [T1]) [T2, T3] fin 0).take 60 = (T2, at_ (pre ++ [T1] ++ [T2]) [T3] fin 0) := take_mid (by rw [← hT2]; rfl)
    have e3 : (at_ (pre ++ [T1] ++ [T2]) [T3] fin 0).take 97 = (T3, at_ (pre ++ [T1] ++ [T2] ++ [T3]) [] fin 0) := take_mid (by rw [← hT3]; rfl)
    refine ⟨[(⟨T1.tok.text, T1.tok.pos⟩, ⟨T3.tok.text, T3.tok.pos⟩)], at_ (pre ++ [T1] ++ [T2] ++ [T3]) [] fin 0, ?_, rfl, ?_⟩
    · simp only [Rdr.pairsG, List.cons_append, List.nil_append]
      have wd1 : (at_ pre (T1 :: [T2, T3]) fin 0).word = (⟨T1.tok.text, T1.tok.pos⟩, at_ (pre ++ [T1]) [T2, T3] fin 0) := by rw [Rdr.word, e1]
      have wd3 : (at_ (pre ++ [T1] ++ [T2]) [T3] fin 0).word = (⟨T3.tok.text, T3.tok.pos⟩, at_ (pre ++ [T1] ++ [T2] ++ [T3]) [] fin 0) := by rw [Rdr.word, e3]
      rw [if_neg (by simp [at_])]
      simp only [wd1, e2, wd3]
      rw [if_pos (by simp [at_])]
    · rw [← hT1, ← hT3]; simp [all2, pSame, Tree.tok]
  | cons q ps ih =>
    intro p toks ht
    have ht : toks.map Tok.sh = [nmS p.1.text] ++ [sgn 60] ++ [nmS p.2.text] ++ [sgn 44] ++ commaS ((q :: ps).map pairS) := by simpa [commaS, pairS] using ht
    obtain ⟨t1234, t5, rfl, h1234, h5⟩ := List.map_eq_append_iff.1 ht
    obtain ⟨t123, t4, rfl, h123, h4⟩ := List.map_eq_append_iff.1 h1234
    obtain ⟨t12, t3, rfl, h12, h3⟩ := List.map_eq_append_iff.1 h123
    obtain ⟨t1, t2, rfl, h1, h2⟩ := List.map_eq_append_iff.1 h12
    obtain ⟨p1, rfl⟩ := sh_name h1
    obtain ⟨p2, rfl⟩ := sh_sign h2
    obtain ⟨p3, rfl⟩ := sh_name h3
    obtain ⟨p4, rfl⟩ := sh_sign h4
    obtain ⟨us, n0, f5, w5, b5⟩ := ih q t5 h5
    obtain ⟨f1, w1⟩ := leaf_tree (t := ⟨97, p.1.text, p1⟩) rfl rfl
    obtain ⟨f2, w2⟩ := leaf_tree (t := ⟨((60 : UInt8).toNat : Nat), [60], p2⟩) rfl rfl
    obtain ⟨f3, w3⟩ := leaf_tree (t := ⟨97, p.2.text, p3⟩) rfl rfl
    obtain ⟨f4, w4⟩ := leaf_tree (t := ⟨((44 : UInt8).toNat : Nat), [44], p4⟩) rfl rfl
    refine ⟨[.mk ⟨97, p.1.text, p1⟩ [] p1] ++ [.mk ⟨((60 : UInt8).toNat : Nat), [60], p2⟩ [] p2] ++ [.mk ⟨97, p.2.text, p3⟩ [] p3] ++ [.mk ⟨((44 : UInt8).toNat : Nat), [44], p4⟩ [] p4] ++ us, by simp, by rw [flats_append, flats_append, flats_append, flats_append, f1, f2, f3, f4, f5], by rw [WFs_append, WFs_append, WFs_append, WFs_append]; exact ⟨⟨⟨⟨w1, w2⟩, w3⟩, w4⟩, w5⟩, fun n pre fin acc hn => ?_⟩
    obtain ⟨m, rfl⟩ : ∃ m, n = m + 1 := ⟨n - 1, by simp at hn; omega⟩
    generalize hT1 : (Tree.mk ⟨97, p.1.text, p1⟩ [] p1) = T1
    generalize hT2 : (Tree.mk ⟨((60 : UInt8).toNat : Nat), [60], p2⟩ [] p2) = T2
    generalize hT3 : (Tree.mk ⟨97, p.2.text, p3⟩ [] p3) = T3
    generalize hT4 : (Tree.mk ⟨((44 : UInt8).toNat : Nat), [44], p4⟩ [] p4) = T4
    have e1 : (at_ pre (T1 :: (T2 :: T3 :: T4 :: us)) fin 0).take 97 = (T1, at_ (pre ++ [T1]) (T2 :: T3 :: T4 :: us) fin 0) := take_mid (by rw [← hT1]; rfl)
    have e2 : (at_ (pre ++ [T1]) (T2 :: T3 :: T4 :: us) fin 0).take 60 = (T2, at_ (pre ++ [T1] ++ [T2]) (T3 :: T4 :: us) fin 0) := take_mid (by rw [← hT2]; rfl)
    have e3 : (at_ (pre ++ [T1] ++ [T2]) (T3 :: T4 :: us) fin 0).take 97 = (T3, at_ (pre ++ [T1] ++ [T2] ++ [T3]) (T4 :: us) fin 0) := take_mid (by rw [← hT3]; rfl)
    have e4 : (at_ (pre ++ [T1] ++ [T2] ++ [T3]) (T4 :: us) fin 0).take 44 = (T4, at_ (pre ++ [T1] ++ [T2] ++ [T3] ++ [T4]) us fin 0) := take_mid (by rw [← hT4]; rfl)
    obtain ⟨ys, r, g1, g2, g3⟩ := b5 m (pre ++ [T1] ++ [T2] ++ [T3] ++ [T4]) fin (acc ++ [(⟨T1.tok.text, T1.tok.pos⟩, ⟨T3.tok.text, T3.tok.pos⟩)]) (by simp at hn; omega)
    refine ⟨(⟨T1.tok.text, T1.tok.pos⟩, ⟨T3.tok.text, T3.tok.pos⟩) :: ys, r, ?_, g2, ?_⟩
    · simp only [Rdr.pairsG, List.cons_append, List.nil_append]
      have wd1 : (at_ pre (T1 :: (T2 :: T3 :: T4 :: us)) fin 0).word = (⟨T1.tok.text, T1.tok.pos⟩, at_ (pre ++ [T1]) (T2 :: T3 :: T4 :: us) fin 0) := by rw [Rdr.word, e1]
      have wd3 : (at_ (pre ++ [T1] ++ [T2]) (T3 :: T4 :: us) fin 0).word = (⟨T3.tok.text, T3.tok.pos⟩, at_ (pre ++ [T1] ++ [T2] ++ [T3]) (T4 :: us) fin 0) := by rw [Rdr.word, e3]
      rw [if_neg (by simp [at_])]
      simp only [wd1, e2, wd3, e4, g1]
      rw [if_neg (by simp [at_]; omega)]
      simp
    · rw [← hT1, ← hT3]; simp only [all2, pSame, g3, Tree.tok]; simp
end Go.Am

namespace Go.Am
def Eff (k : UInt8) (c : Cmd) (n : Nd) (c0 c1 : Cmd) : Prop :=
  (k = 110 ∧ ∃ w : Word, w.text = c.name.text ∧ c1 = { c0 with name := w }) ∨
  ((k = 102 ∨ k = 119) ∧ ∃ ws, sameW ws c.names = true ∧ c1 = { c0 with names := ws }) ∨
  (k = 112 ∧ ∃ ps a, samePQ ps c.pairs = true ∧ c1 = { c0 with pairs := ps, pairsAt := a }) ∨
  ((k = 116 ∨ k = 114) ∧ ∃ m : Nd, m.sameQ n = true ∧ c1 = if c0.left.kind = 0 then { c0 with left := m } else { c0 with right := m })
def PieceBack (k : UInt8) (c : Cmd) (n : Nd) (toks : List Tok) : Prop :=
  ∃ us : List Tree, us ≠ [] ∧ flats us = toks ∧ WFs us ∧ ∀ (pre post : List Tree) (fin : Int) (c0 : Cmd), (k = 112 → c0.pairs = []) → ∃ c1, partP k (at_ pre (us ++ post) fin 0, c0) = (at_ (pre ++ us) post fin 0, c1) ∧ Eff k c n c0 c1
theorem at_rd {pre us : List Tree} {fin : Int} : (⟨(at_ pre us fin 0).l, (at_ pre us fin 0).at_, (at_ pre us fin 0).fin, none⟩ : Rdr) = at_ pre us fin 0 := rfl
theorem at_next {pre us : List Tree} {T : Tree} {fin : Int} : ({ at_ pre (T :: us) fin 0 with at_ := (at_ pre (T :: us) fin 0).at_ + 1 } : Rdr) = at_ (pre ++ [T]) us fin 0 := by simp [at_]
theorem part_back {k : UInt8} {c : Cmd} {n : Nd} (h : PieceOk k c n) {toks : List Tok} (ht : toks.map Tok.sh = pieceS k c n) : PieceBack k c n toks := by
  rcases h with ⟨rfl, h⟩ | ⟨rfl, h1, h⟩ | ⟨rfl, h1, h⟩ | ⟨rfl, h⟩ | ⟨rfl, h⟩ | ⟨rfl, h⟩
  · obtain ⟨us, n1, f1, w1, b1⟩ := word_back c.name toks ht
    refine ⟨us, n1, f1, w1, fun pre post fin c0 _ => ?_⟩
    obtain ⟨y, q1, q2⟩ := b1 (manys us) (Nat.le_refl _) pre post fin
    refine ⟨{ c0 with name := y }, ?_, .inl ⟨rfl, y, by simpa [wSame] using q2, rfl⟩⟩
    have q1 : (at_ pre (us ++ post) fin 0).word = (y, at_ (pre ++ us) post fin 0) := q1
    have hb : (at_ pre (us ++ post) fin 0).bad = none := rfl
    simp [partP, hb, q1]
  · obtain ⟨w, hw⟩ : ∃ w, c.names = [w] := by
      match hc : c.names, h1 with
      | [w], _ => exact ⟨w, rfl⟩
    have ht : toks.map Tok.sh = [nmS w.text] := by rw [ht]; simp [pieceS, wshp, hw, commaS]
    obtain ⟨us, n1, f1, w1, b1⟩ := word_back w toks ht
    refine ⟨us, n1, f1, w1, fun pre post fin c0 _ => ?_⟩
    obtain ⟨y, q1, q2⟩ := b1 (manys us) (Nat.le_refl _) pre post fin
    refine ⟨{ c0 with names := [y] }, ?_, .inr (.inl ⟨.inl rfl, [y], ?_, rfl⟩)⟩
    · have q1 : (at_ pre (us ++ post) fin 0).word = (y, at_ (pre ++ us) post fin 0) := q1
      have hb : (at_ pre (us ++ post) fin 0).bad = none := rfl
      simp [partP, hb, q1]
    · rw [hw]; simpa [sameW, wSame] using q2
  · obtain ⟨T, f1, w1, k1, b1⟩ := bracket_back (one := fun _ => Rdr.word) (sm := wSame) (S := fun w => [nmS w.text]) (a := 123) (b := 125) (e := false) (xs := c.names) (by decide) (by decide) (by decide) (fun w _ => word_back w) (fun e => by rw [e] at h1; simp at h1) (toks := toks) ht
    refine ⟨[T], by simp, f1, w1, fun pre post fin c0 _ => ?_⟩
    obtain ⟨ys, p, q1, q2⟩ := b1 (manys [T]) (by omega) pre post fin
    rw [all2_sameW] at q2
    have q1 : (at_ pre (T :: post) fin 0).words false = ((ys, p), at_ (pre ++ [T]) post fin 0) := q1
    refine ⟨{ c0 with names := ys }, ?_, .inr (.inl ⟨.inr rfl, ys, q2, rfl⟩)⟩
    have hb : (at_ pre (T :: post) fin 0).bad = none := rfl
    have hw : wordsAt (at_ pre (T :: post) fin 0).l (at_ pre (T :: post) fin 0).at_ (at_ pre (T :: post) fin 0).fin = (ys, none) := by
      unfold wordsAt
      rw [at_rd, q1]; rfl
    have e119 : partP 119 (at_ pre ([T] ++ post) fin 0, c0) = ({ at_ pre (T :: post) fin 0 with bad := (wordsAt (at_ pre (T :: post) fin 0).l (at_ pre (T :: post) fin 0).at_ (at_ pre (T :: post) fin 0).fin).2, at_ := (at_ pre (T :: post) fin 0).at_ + 1 }, { c0 with names := (wordsAt (at_ pre (T :: post) fin 0).l (at_ pre (T :: post) fin 0).at_ (at_ pre (T :: post) fin 0).fin).1 }) := rfl
    rw [e119, hw, ← at_next]
    rfl
  · have ht : toks.map Tok.sh = [sgn 123] ++ commaS (c.pairs.map pairS) ++ [sgn 125] := ht
    obtain ⟨t1, t3, rfl, h1, h3⟩ := List.map_eq_append_iff.1 ht
    obtain ⟨ta, t2, rfl, ha, h2⟩ := List.map_eq_append_iff.1 h1
    obtain ⟨pa, rfl⟩ := sh_sign ha
    obtain ⟨pb, rfl⟩ := sh_sign h3
    have key : ∃ us : List Tree, flats us = t2 ∧ WFs us ∧ ((us = [] ∧ c.pairs = []) ∨ us ≠ [] ∧ ∀ fin, ∃ ys r, Rdr.pairsG (us.length + 1) (at_ [] us fin 0) [] = (r, ys) ∧ r.bad = none ∧ samePQ ys c.pairs = true) := by
      cases hc : c.pairs with
      | nil =>
        rw [hc] at h2
        have : t2 = [] := by simpa [commaS] using h2
        exact ⟨[], by rw [this]; rfl, trivial, .inl ⟨rfl, rfl⟩⟩
      | cons p ps =>
        rw [hc] at h2
        obtain ⟨us, n1, f1, w1, b1⟩ := pairs_in_back ps p t2 h2
        refine ⟨us, f1, w1, .inr ⟨n1, fun fin => ?_⟩⟩
        obtain ⟨ys, r, q1, q2, q3⟩ := b1 (us.length + 1) [] fin [] (by omega)
        exact ⟨ys, r, by rw [q1]; rfl, q2, by rw [← all2_samePQ]; exact q3⟩
    obtain ⟨us, f1, w1, hk⟩ := key
    refine ⟨[.mk ⟨((123 : UInt8).toNat : Nat), [123], pa⟩ us pb], by simp, ?_, ?_, fun pre post fin c0 hp => ?_⟩
    · simp only [flats, Tree.flat, List.append_nil]
      rw [if_pos (by decide), f1]
      rfl
    · simp only [WFs, Tree.WF]
      exact ⟨⟨by decide, fun h => absurd h (by decide), w1⟩, trivial⟩
    · have hp := hp rfl
      have e112 : ∀ x : Rdr × Cmd, x.1.bad = none → partP 112 x = pairsP x.1 x.2 := fun x hx => by simp [partP, hx]
      have htk : (at_ pre (Tree.mk ⟨((123 : UInt8).toNat : Nat), [123], pa⟩ us pb :: post) fin 0).take 123 = (.mk ⟨((123 : UInt8).toNat : Nat), [123], pa⟩ us pb, at_ (pre ++ [.mk ⟨((123 : UInt8).toNat : Nat), [123], pa⟩ us pb]) post fin 0) := take_mid rfl
      rw [e112 _ rfl]
      unfold pairsP
      simp only [List.cons_append, List.nil_append, htk, Tree.kids, Tree.tok]
      rcases hk with ⟨rfl, hc⟩ | ⟨n1, hk⟩
      · rw [if_pos (.inr rfl)]
        refine ⟨_, rfl, .inr (.inr (.inl ⟨rfl, [], pa, by rw [hc]; rfl, ?_⟩))⟩
        cases c0; simp only at hp; subst hp; rfl
      · have hl : us.length ≠ 0 := fun h => n1 (List.length_eq_zero_iff.1 h)
        rw [if_neg (by simp [at_, hl])]
        obtain ⟨ys, r, q1, q2, q3⟩ := hk pb
        have hin : (Tree.mk ⟨((123 : UInt8).toNat : Nat), [123], pa⟩ us pb).inner = at_ [] us pb 0 := by simp [Tree.inner, at_, Tree.kids, Tree.fin]
        rw [hin, q1]
        simp only [q2, Rdr.bads]
        exact ⟨_, rfl, .inr (.inr (.inl ⟨rfl, ys, pa, q3, rfl⟩))⟩
  · obtain ⟨us, n1, f1, w1, b1⟩ := label_back _ n (Nat.le_refl _) h toks ht
    refine ⟨us, n1, f1, w1, fun pre post fin c0 _ => ?_⟩
    have hm : manys us ≤ manys (at_ pre (us ++ post) fin 0).l := by simp only [at_, manys_append]; omega
    obtain ⟨y, q1, q2⟩ := b1 _ hm pre post fin
    have e116 : ∀ x : Rdr × Cmd, x.1.bad = none → partP 116 x = nodeP x.1 x.2 (readAt (Rdr.label (manys x.1.l)) x.1.l x.1.at_ x.1.fin) := fun x hx => by simp [partP, hx]
    rw [e116 _ rfl]
    unfold readAt
    rw [at_rd, q1]
    refine ⟨_, ?_, .inr (.inr (.inr ⟨.inl rfl, y, q2, rfl⟩))⟩
    simp [nodeP, at_]
  · obtain ⟨us, n1, f1, w1, b1⟩ := row_back h toks ht
    refine ⟨us, n1, f1, w1, fun pre post fin c0 _ => ?_⟩
    have hm : manys us ≤ manys (at_ pre (us ++ post) fin 0).l := by simp only [at_, manys_append]; omega
    obtain ⟨y, q1, q2⟩ := b1 _ hm pre post fin
    have e114 : ∀ x : Rdr × Cmd, x.1.bad = none → partP 114 x = nodeP x.1 x.2 (readAt (Rdr.row (manys x.1.l)) x.1.l x.1.at_ x.1.fin) := fun x hx => by simp [partP, hx]
    rw [e114 _ rfl]
    unfold readAt
    rw [at_rd, q1]
    refine ⟨_, ?_, .inr (.inr (.inr ⟨.inr rfl, y, q2, rfl⟩))⟩
    simp [nodeP, at_]
def Effs (c : Cmd) : List (UInt8 × Nd) → Cmd → Cmd → Prop
  | [], c0, c1 => c1 = c0
  | q :: qs, c0, c2 => ∃ c1, Eff q.1 c q.2 c0 c1 ∧ Effs c qs c1 c2
theorem eff_pairs {k : UInt8} {c : Cmd} {n : Nd} {c0 c1 : Cmd} (hk : k ≠ 112) (h : Eff k c n c0 c1) : c1.pairs = c0.pairs := by
  rcases h with ⟨_, w, _, rfl⟩ | ⟨_, w, _, rfl⟩ | ⟨h, _⟩ | ⟨_, m, _, rfl⟩
  · rfl
  · rfl
  · exact absurd h hk
  · split <;> rfl
theorem parts_back {c : Cmd} : ∀ (qs : List (UInt8 × Nd)), (∀ q ∈ qs, PieceOk q.1 c q.2) → (qs.map (·.1)).count 112 ≤ 1 → ∀ toks : List Tok, toks.map Tok.sh = (qs.map fun q => pieceS q.1 c q.2).flatten →
    ∃ us : List Tree, flats us = toks ∧ WFs us ∧ ∀ (pre : List Tree) (fin : Int) (c0 : Cmd), (112 ∈ qs.map (·.1) → c0.pairs = []) → ∃ c1, partsP (qs.map (·.1)) (at_ pre us fin 0, c0) = (at_ (pre ++ us) [] fin 0, c1) ∧ Effs c qs c0 c1
  | [], _, _, toks, ht => by
    have : toks = [] := by simpa using ht
    subst this
    exact ⟨[], rfl, trivial, fun pre fin c0 _ => ⟨c0, by simp [partsP], rfl⟩⟩
  | q :: qs, h, hc, toks, ht => by
    simp only [List.map_cons, List.flatten_cons] at ht
    obtain ⟨t1, t2, rfl, h1, h2⟩ := List.map_eq_append_iff.1 ht
    obtain ⟨u1, _, f1, w1, b1⟩ := part_back (h q (by simp)) h1
    have hc2 : (qs.map (·.1)).count 112 ≤ 1 := by
      rw [List.map_cons, List.count_cons] at hc; omega
    obtain ⟨u2, f2, w2, b2⟩ := parts_back qs (fun x hx => h x (by simp [hx])) hc2 t2 h2
    refine ⟨u1 ++ u2, by rw [flats_append, f1, f2], by rw [WFs_append]; exact ⟨w1, w2⟩, fun pre fin c0 hp => ?_⟩
    obtain ⟨c1, e1, g1⟩ := b1 pre u2 fin c0 (fun e => hp (by simp [e]))
    obtain ⟨c2, e2, g2⟩ := b2 (pre ++ u1) fin c1 (fun hm => by
      by_cases e : q.1 = 112
      · exfalso
        rw [List.map_cons, e, List.count_cons_self] at hc
        have : (qs.map (·.1)).count 112 = 0 := by omega
        exact List.count_eq_zero.1 this hm
      · rw [eff_pairs e g1]; exact hp (by simp only [List.map_cons, List.mem_cons]; exact .inr hm))
    exact ⟨c2, by simp only [List.map_cons, partsP, e1, e2, List.append_assoc], c1, g1, g2⟩
theorem lett_fst : ∀ (ks : List UInt8) (ts : List Nd), (lett ks ts).map (·.1) = ks
  | [], _ => rfl
  | k :: ks, ts => by simp only [lett, List.map_cons, lett_fst ks]
def kinds7 : List (List UInt8) := [[110, 119], [110, 119, 112], [110, 116, 116], [110, 114, 114], [110, 102], [], [110]]
theorem form_kind {op : Int} (h1 : 1 ≤ op) (h2 : op ≤ 15) : (formOf op).2 ∈ kinds7 ∧ nameR (formOf op).1 = true ∧ numberP (formOf op).1 = op := by
  have key : ∀ n : Nat, n < 15 → (formOf ((n + 1 : Nat) : Int)).2 ∈ kinds7 ∧ nameR (formOf ((n + 1 : Nat) : Int)).1 = true ∧ numberP (formOf ((n + 1 : Nat) : Int)).1 = ((n + 1 : Nat) : Int) := by decide +kernel
  have := key (op.toNat - 1) (by omega)
  rwa [show ((op.toNat - 1 + 1 : Nat) : Int) = op by omega] at this
end Go.Am

namespace Go.Am
theorem pieces_right {c : Cmd} (h : c.rightQ = true) (h1 : 1 ≤ c.op) : ∀ q ∈ lett (formOf c.op).2 [c.left, c.right], PieceOk q.1 c q.2 := by
  simp only [Cmd.rightQ, Bool.and_eq_true, decide_eq_true_eq] at h
  obtain ⟨⟨⟨⟨h0, hn⟩, hns⟩, hp⟩, ht⟩ := h
  obtain ⟨hk, _, _⟩ := form_kind h1 h0.2
  simp only [Cmd.nameQ, Cmd.namesQ, Cmd.pairsQ, Cmd.termsQ, cntN] at hn hns hp ht
  have nm : ∀ l, namedQ (l.map Word.text) = true → rightW l = true := fun l h => named_right h
  simp only [kinds7, List.mem_cons, List.not_mem_nil, or_false] at hk
  rcases hk with e | e | e | e | e | e | e
  all_goals simp [e, List.count_cons] at hn hns hp ht
  all_goals simp [e, lett, isTerm, PieceOk]
  · exact ⟨hn, hns.1, nm _ hns.2⟩
  · exact ⟨hn, ⟨hns.1, nm _ hns.2⟩, hp⟩
  · exact ⟨hn, ht.1, ht.2⟩
  · exact ⟨hn, ht.1, ht.2⟩
  · exact ⟨hn, hns.1, nm _ hns.2⟩
  · exact hn
mutual
theorem Nd.sameQ_symm : ∀ (n m : Nd), n.sameQ m = true → m.sameQ n = true
  | .mk k p t ws ks, m, h => by
    rw [Nd.sameQ_eq] at h
    simp only [Bool.and_eq_true, decide_eq_true_eq] at h
    obtain ⟨⟨⟨h1, h2⟩, h3⟩, h4⟩ := h
    refine sameQ_of h1.symm h2.symm ?_ (samesQ_symm ks m.kids h4)
    rw [sameW_eq] at h3 ⊢
    simp only [decide_eq_true_eq] at h3 ⊢
    exact h3.symm
theorem samesQ_symm : ∀ (a b : List Nd), samesQ a b = true → samesQ b a = true
  | [], [], _ => by simp [samesQ]
  | [], _ :: _, h => by simp [samesQ] at h
  | _ :: _, [], h => by simp [samesQ] at h
  | n :: ns, m :: ms, h => by
    simp only [samesQ, Bool.and_eq_true] at h ⊢
    exact ⟨Nd.sameQ_symm n m h.1, samesQ_symm ns ms h.2⟩
end
theorem samePQ_symm : ∀ (a b : List (Word × Word)), samePQ a b = true → samePQ b a = true
  | [], [], _ => rfl
  | [], _ :: _, h => by simp [samePQ] at h
  | _ :: _, [], h => by simp [samePQ] at h
  | p :: ps, q :: qs, h => by
    simp only [samePQ, Bool.and_eq_true, decide_eq_true_eq] at h ⊢
    exact ⟨⟨h.1.1.symm, h.1.2.symm⟩, samePQ_symm ps qs h.2⟩
theorem Cmd.sameQ_symm {a b : Cmd} (h : a.sameQ b = true) : b.sameQ a = true := by
  unfold Cmd.sameQ at h ⊢
  rw [sameW_eq] at h ⊢
  simp only [Bool.and_eq_true, decide_eq_true_eq] at h ⊢
  obtain ⟨⟨⟨⟨⟨h1, h2⟩, h3⟩, h4⟩, h5⟩, h6⟩ := h
  exact ⟨⟨⟨⟨⟨h1.symm, h2.symm⟩, h3.symm⟩, samePQ_symm _ _ h4⟩, Nd.sameQ_symm _ _ h5⟩, Nd.sameQ_symm _ _ h6⟩
theorem kind_same {m n : Nd} (h : m.sameQ n = true) : m.kind = n.kind := by
  rw [Nd.sameQ_eq] at h
  simp only [Bool.and_eq_true, decide_eq_true_eq] at h
  exact h.1.1.1
theorem label_kind {n : Nd} (h : n.labelQ = true) : n.kind ≠ 0 := by
  rcases label_spec h with ⟨h, _⟩ | ⟨h, _⟩ | ⟨h, _⟩ <;> omega
theorem row_kind {n : Nd} (h : n.rowQ = true) : n.kind ≠ 0 := by
  rcases row_spec h with ⟨h, _⟩ | ⟨h, _⟩ <;> omega
theorem effs_same {c d : Cmd} {p : Int} (h : c.rightQ = true) (h1 : 1 ≤ c.op) (he : Effs c (lett (formOf c.op).2 [c.left, c.right]) { Cmd.zero with op := c.op, pos := p } d) : d.sameQ c = true := by
  simp only [Cmd.rightQ, Bool.and_eq_true, decide_eq_true_eq] at h
  obtain ⟨⟨⟨⟨h0, hn⟩, hns⟩, hp⟩, ht⟩ := h
  obtain ⟨hk, _, _⟩ := form_kind h1 h0.2
  simp only [Cmd.nameQ, Cmd.namesQ, Cmd.pairsQ, Cmd.termsQ, cntN] at hn hns hp ht
  simp only [kinds7, List.mem_cons, List.not_mem_nil, or_false] at hk
  have zl : ∀ n : Nd, n.sameQ .zero = true → Nd.zero.sameQ n = true := fun n h => Nd.sameQ_symm _ _ h
  have hz : (Nd.zero).kind = 0 := rfl
  have w0 : c.names = [] → sameW [] c.names = true := fun e => by rw [e]; rfl
  have p0 : c.pairs = [] → samePQ [] c.pairs = true := fun e => by rw [e]; rfl
  rcases hk with e | e | e | e | e | e | e
  all_goals simp [e, List.count_cons] at hn hns hp ht
  all_goals simp [e, lett, isTerm, Effs, Eff] at he
  · obtain ⟨c1, ⟨w, a1, rfl⟩, ws, a2, rfl⟩ := he
    simp [Cmd.sameQ, a1, a2, Cmd.zero, p0 hp, zl _ ht.1, zl _ ht.2]
  · obtain ⟨c1, ⟨w, a1, rfl⟩, c2, ⟨ws, a2, rfl⟩, ps, a3, ⟨a, rfl⟩⟩ := he
    simp [Cmd.sameQ, a1, a2, a3, Cmd.zero, zl _ ht.1, zl _ ht.2]
  · obtain ⟨c1, ⟨w, a1, rfl⟩, c2, ⟨m, a2, rfl⟩, m2, a3, rfl⟩ := he
    have := kind_same a2
    have := label_kind ht.1
    have hm : m.kind ≠ 0 := by omega
    simp [Cmd.sameQ, a1, a2, a3, Cmd.zero, hz, hm, w0 hns, p0 hp]
  · obtain ⟨c1, ⟨w, a1, rfl⟩, c2, ⟨m, a2, rfl⟩, m2, a3, rfl⟩ := he
    have := kind_same a2
    have := row_kind ht.1
    have hm : m.kind ≠ 0 := by omega
    simp [Cmd.sameQ, a1, a2, a3, Cmd.zero, hz, hm, w0 hns, p0 hp]
  · obtain ⟨c1, ⟨w, a1, rfl⟩, ws, a2, rfl⟩ := he
    simp [Cmd.sameQ, a1, a2, Cmd.zero, p0 hp, zl _ ht.1, zl _ ht.2]
  · subst he
    simp [Cmd.sameQ, Cmd.zero, hn, w0 hns, p0 hp, zl _ ht.1, zl _ ht.2]
  · obtain ⟨w, a1, rfl⟩ := he
    simp [Cmd.sameQ, a1, Cmd.zero, w0 hns, p0 hp, zl _ ht.1, zl _ ht.2]
theorem cmd_back {c : Cmd} (h : c.rightQ = true) (h1 : 1 ≤ c.op) {toks : List Tok} (ht : toks.map Tok.sh = shpC c) :
    ∃ us : List Tree, flats us = toks ∧ WFs us ∧ ∀ fin : Int, ∃ d : Cmd, cmdP us fin = (d, 0, 0) ∧ d.sameQ c = true := by
  have h15 : c.op ≤ 15 := by simp only [Cmd.rightQ, Bool.and_eq_true, decide_eq_true_eq] at h; exact h.1.1.1.1.2
  obtain ⟨_, k2, k3⟩ := form_kind h1 h15
  unfold shpC at ht
  obtain ⟨t1, t2, rfl, a1, a2⟩ := List.map_eq_append_iff.1 ht
  obtain ⟨u1, n1, f1, w1, b1⟩ := word_back ⟨(formOf c.op).1, 0⟩ t1 a1
  obtain ⟨u2, f2, w2, b2⟩ := parts_back (lett (formOf c.op).2 [c.left, c.right]) (pieces_right h h1) (by rw [lett_fst]; exact (form_letters c.op).2) t2 a2
  refine ⟨u1 ++ u2, by rw [flats_append, f1, f2], by rw [WFs_append]; exact ⟨w1, w2⟩, fun fin => ?_⟩
  obtain ⟨y, q1, q2⟩ := b1 (manys u1) (Nat.le_refl _) [] u2 fin
  have q1 : (at_ [] (u1 ++ u2) fin 0).word = (y, at_ u1 u2 fin 0) := q1
  have q2 : y.text = (formOf c.op).1 := by simpa [wSame] using q2
  obtain ⟨d, e1, e2⟩ := b2 u1 fin { Cmd.zero with op := c.op, pos := y.pos } (fun _ => rfl)
  rw [lett_fst] at e1
  refine ⟨d, ?_, effs_same h h1 e2⟩
  have hq : (⟨u1 ++ u2, 0, fin, none⟩ : Rdr).word = (y, at_ u1 u2 fin 0) := q1
  obtain ⟨t, ts, hu⟩ : ∃ t ts, u1 ++ u2 = t :: ts := by
    cases u1 with
    | nil => exact absurd rfl n1
    | cons t r => exact ⟨t, r ++ u2, rfl⟩
  rw [hu] at hq ⊢
  unfold cmdP
  simp only [hq, q2, k3]
  rw [if_neg (by omega), e1]
  unfold endP
  simp [at_]
end Go.Am

namespace Go.Am
theorem op_zero {c : Cmd} (h : c.rightQ = true) (h0 : c.op = 0) : textC c = [] ∧ Cmd.zero.sameQ c = true := by
  simp only [Cmd.rightQ, Bool.and_eq_true, decide_eq_true_eq] at h
  obtain ⟨⟨⟨⟨_, hn⟩, hns⟩, hp⟩, ht⟩ := h
  have e : (formOf c.op).2 = [] := by rw [h0]; rfl
  have e1 : (formOf c.op).1 = [] := by rw [h0]; rfl
  simp only [Cmd.nameQ, Cmd.namesQ, Cmd.pairsQ, Cmd.termsQ, cntN] at hn hns hp ht
  simp [e] at hn hns hp ht
  have zl : ∀ n : Nd, n.sameQ .zero = true → Nd.zero.sameQ n = true := fun n h => Nd.sameQ_symm _ _ h
  refine ⟨by simp [textC, piecesT, e, e1, joinS], ?_⟩
  simp [Cmd.sameQ, Cmd.zero, h0, hn, hns, hp, sameW, samePQ, zl _ ht.1, zl _ ht.2]
theorem read_back12 {c : Cmd} (h : c.rightQ = true) : (lexR (textC c)).2 = none ∧
    ((treeR (lexR (textC c)).1).2 = none → ∃ d, readP (textC c) = (d, 0, 0) ∧ c.sameQ d = true) ∧ (∀ a, (treeR (lexR (textC c)).1).2 = some a → readP (textC c) = (.zero, 2, a)) := by
  have h0 : 0 ≤ c.op := by simp only [Cmd.rightQ, Bool.and_eq_true, decide_eq_true_eq] at h; exact h.1.1.1.1.1
  have h15 : c.op ≤ 15 := by simp only [Cmd.rightQ, Bool.and_eq_true, decide_eq_true_eq] at h; exact h.1.1.1.1.2
  by_cases hz : c.op = 0
  · obtain ⟨e1, e2⟩ := op_zero h hz
    rw [e1]
    refine ⟨rfl, fun _ => ⟨.zero, rfl, Cmd.sameQ_symm e2⟩, fun a ha => ?_⟩
    have : (treeR (lexR []).1).2 = none := by decide +kernel
    rw [this] at ha; simp at ha
  · have h1 : 1 ≤ c.op := by omega
    obtain ⟨_, k2, _⟩ := form_kind h1 h15
    obtain ⟨l1, l2⟩ := textC_lex k2 (pieces_right h h1)
    obtain ⟨us, f1, w1, b1⟩ := cmd_back h h1 l2
    refine ⟨l1, fun hd => ?_, fun a ha => ?_⟩
    · have ht : (treeR (lexR (textC c)).1).1 = us := by rw [← f1] at hd ⊢; exact tree_back w1 hd
      obtain ⟨d, e1, e2⟩ := b1 ((textC c).length : Nat)
      refine ⟨d, ?_, Cmd.sameQ_symm e2⟩
      unfold readP
      rw [treeP_line, l1, hd, ht]
      exact e1
    · unfold readP
      rw [treeP_line, l1, ha]
end Go.Am

namespace Go.Am
mutual
theorem same_txt : ∀ (n m : Nd), n.sameQ m = true → n.txt = m.txt
  | .mk k p t ws ks, m, h => by
    rw [Nd.sameQ_eq] at h
    simp only [Bool.and_eq_true, decide_eq_true_eq] at h
    obtain ⟨⟨⟨h1, h2⟩, h3⟩, h4⟩ := h
    rw [sameW_eq] at h3
    simp only [decide_eq_true_eq] at h3
    have h5 : txts (Nd.mk k p t ws ks).kids = txts m.kids := same_txts ks m.kids h4
    have h6 : wtext (Nd.mk k p t ws ks).names = wtext m.names := by unfold wtext; rw [h3]
    have h7 : (Nd.mk k p t ws ks).names.length = m.names.length := by have := congrArg List.length h3; simpa using this
    rw [Nd.txt_eq (.mk k p t ws ks), Nd.txt_eq m, h1, h2, h5, h6]
    first | rfl | rw [h7] | skip
theorem same_txts : ∀ (a b : List Nd), samesQ a b = true → txts a = txts b
  | [], [], _ => rfl
  | [], _ :: _, h => by simp [samesQ] at h
  | _ :: _, [], h => by simp [samesQ] at h
  | n :: ns, m :: ms, h => by
    simp only [samesQ, Bool.and_eq_true] at h
    simp only [txts, same_txt n m h.1, same_txts ns ms h.2]
end
theorem samePQ_text : ∀ (a b : List (Word × Word)), samePQ a b = true → a.map pairT = b.map pairT
  | [], [], _ => rfl
  | [], _ :: _, h => by simp [samePQ] at h
  | _ :: _, [], h => by simp [samePQ] at h
  | p :: ps, q :: qs, h => by
    simp only [samePQ, Bool.and_eq_true, decide_eq_true_eq] at h
    simp only [List.map_cons, pairT, h.1.1, h.1.2, samePQ_text ps qs h.2]
theorem same_textC {a b : Cmd} (h : a.sameQ b = true) : textC a = textC b := by
  unfold Cmd.sameQ at h
  rw [sameW_eq] at h
  simp only [Bool.and_eq_true, decide_eq_true_eq] at h
  obtain ⟨⟨⟨⟨⟨h1, h2⟩, h3⟩, h4⟩, h5⟩, h6⟩ := h
  have hp := samePQ_text _ _ h4
  have key : ∀ (ks : List UInt8) (ts us : List Nd), ts.map Nd.txt = us.map Nd.txt → (lett ks ts).map (fun q => pieceT q.1 a q.2) = (lett ks us).map (fun q => pieceT q.1 b q.2) := by
    intro ks
    induction ks with
    | nil => intros; rfl
    | cons k ks ih =>
      intro ts us hts
      have hh : (ts.headD .zero).txt = (us.headD .zero).txt := by
        cases ts with
        | nil => cases us with
          | nil => rfl
          | cons => simp at hts
        | cons => cases us with
          | nil => simp at hts
          | cons => simp at hts; exact hts.1
      have ht : (if isTerm k = true then ts.tail else ts).map Nd.txt = (if isTerm k = true then us.tail else us).map Nd.txt := by
        split
        · rw [List.map_tail, List.map_tail, hts]
        · exact hts
      simp only [lett, List.map_cons, ih _ _ ht]
      congr 1
      unfold pieceT
      rw [h2, h3, hp, hh]
  rw [textC_lett, textC_lett, h1, key _ [a.left, a.right] [b.left, b.right] (by simp [same_txt _ _ h5, same_txt _ _ h6])]
end Go.Am

namespace Go.Am
def TokL (t : Tok) : Prop := (t.kind = 97 ∧ nameR t.text = true) ∨ ∃ c : UInt8, t.kind = (c.toNat : Nat) ∧ t.text = [c] ∧ (signZ (c.toNat : Nat) && !goesB c && decide (c.toNat ≠ 45)) = true
theorem sign_not (c : UInt8) (h : signZ (c.toNat : Nat) = true) : (signZ (c.toNat : Nat) && !goesB c && decide (c.toNat ≠ 45)) = true := by
  have key : ∀ n < 256, signZ ((UInt8.ofNat n).toNat : Nat) = true → (signZ ((UInt8.ofNat n).toNat : Nat) && !goesB (UInt8.ofNat n) && decide ((UInt8.ofNat n).toNat ≠ 45)) = true := by decide +kernel
  have := key c.toNat c.toNat_lt
  rw [UInt8.ofNat_toNat] at this
  exact this h
theorem lexF_okL : ∀ (n p : Nat) (r : List UInt8) (acc : List Tok), (∀ t ∈ acc, TokL t) → ∀ t ∈ (lexF n p r acc).1, TokL t
  | 0, _, r, acc, h => by cases r <;> simpa [lexF] using h
  | n + 1, p, [], acc, h => by simpa [lexF] using h
  | n + 1, p, c :: r, acc, h => by
    simp only [lexF]
    split
    · exact h
    · split
      · rename_i hr
        refine lexF_okL n _ _ _ fun t ht => ?_
        rcases List.mem_append.1 ht with ht | ht
        · exact h t ht
        · rw [List.mem_singleton.1 ht]; exact .inl ⟨rfl, hr.2⟩
      · split
        · rename_i hs
          refine lexF_okL n _ _ _ fun t ht => ?_
          rcases List.mem_append.1 ht with ht | ht
          · exact h t ht
          · rw [List.mem_singleton.1 ht]
            exact .inr ⟨c, rfl, rfl, sign_not c hs⟩
        · split
          · exact lexF_okL n _ _ _ h
          · simp
def tsz (l : List Tok) : Nat := (l.map fun t => t.text.length + 1).sum
theorem tsz_append (a b : List Tok) : tsz (a ++ b) = tsz a + tsz b := by simp [tsz]
theorem lexF_tsz : ∀ (n p : Nat) (r : List UInt8) (acc : List Tok), tsz (lexF n p r acc).1 ≤ tsz acc + 2 * r.length
  | 0, _, r, acc => by cases r <;> simp [lexF]
  | n + 1, p, [], acc => by simp [lexF]
  | n + 1, p, c :: r, acc => by
    simp only [lexF]
    have hr := runR_len (c :: r)
    simp only [List.length_cons] at hr ⊢
    split
    · simp only; omega
    · split
      · rename_i h1
        have := lexF_tsz n (p + (runR (c :: r)).length) ((c :: r).drop (runR (c :: r)).length) (acc ++ [⟨97, runR (c :: r), p⟩])
        simp only [tsz_append, List.length_drop, List.length_cons] at this
        simp only [tsz, List.map_cons, List.map_nil, List.sum_cons, List.sum_nil] at this ⊢
        omega
      · split
        · have := lexF_tsz n (p + 1) r (acc ++ [⟨(c.toNat : Nat), [c], p⟩])
          simp only [tsz_append] at this
          simp only [tsz, List.map_cons, List.map_nil, List.sum_cons, List.sum_nil, List.length_cons, List.length_nil] at this ⊢
          omega
        · split
          · have := lexF_tsz n (p + 1) r acc; omega
          · simp [tsz]
theorem lex_text : ∀ (toks : List Tok) (k : Option Int), (∀ t ∈ toks, TokL t) → LexTo (textF k toks) (toks.map Tok.sh) ∧ (k = some 97 → Stop (textF k toks))
  | [], k, _ => ⟨lex_nil, fun _ => trivial⟩
  | t :: ts, k, h => by
    obtain ⟨h1, h2⟩ := lex_text ts (some t.kind) fun x hx => h x (by simp [hx])
    rcases h t (by simp) with ⟨hk, hn⟩ | ⟨c, hk, ht, hc⟩
    · have hl : LexTo (t.text ++ textF (some t.kind) ts) ((t :: ts).map Tok.sh) := by
        have := lex_name hn (h2 (by rw [hk])) h1
        have e : t.sh = nmS t.text := by unfold Tok.sh nmS; rw [hk]
        rw [List.map_cons, e]; exact this
      by_cases hk7 : k = some 97
      · have e : textF k (t :: ts) = [32] ++ (t.text ++ textF (some t.kind) ts) := by simp [textF, hk7, hk]
        rw [e]
        exact ⟨lex_space hl, fun _ => show goesB 32 = false by decide⟩
      · have e : textF k (t :: ts) = t.text ++ textF (some t.kind) ts := by simp [textF, hk7]
        rw [e]
        exact ⟨hl, fun h => absurd h hk7⟩
    · simp only [Bool.and_eq_true, Bool.not_eq_true', decide_eq_true_eq] at hc
      have h97 : t.kind ≠ 97 := fun e => by
        have h3 := hc.1.1
        rw [← hk, e] at h3
        revert h3; decide
      have e : textF k (t :: ts) = [c] ++ textF (some t.kind) ts := by simp [textF, h97, ht]
      rw [e]
      have es : t.sh = sgn c := by unfold Tok.sh sgn; rw [hk, ht]
      rw [List.map_cons, es]
      exact ⟨lex_sign hc.1.1 hc.1.2 hc.2 h1, fun _ => hc.1.2⟩
theorem lexTo_eq {s : List UInt8} {a b : List Sh} (h : LexTo s a) (k : LexTo s b) : a = b := by
  obtain ⟨x, e1, e2⟩ := h s.length 0 [] (Nat.le_refl _)
  obtain ⟨y, f1, f2⟩ := k s.length 0 [] (Nat.le_refl _)
  rw [e1] at f1
  have : x = y := by simpa using f1
  rw [← e2, ← f2, this]
theorem shp_of {toks : List Tok} {T : List UInt8} {S : List Sh} (h : ∀ t ∈ toks, TokL t) (hL : LexN T S) (ht : textR toks = T) : toks.map Tok.sh = S := by
  have h1 : LexTo (T ++ []) (S ++ []) := hL [] [] trivial lex_nil
  rw [List.append_nil, List.append_nil, ← ht] at h1
  exact lexTo_eq (lex_text toks none h).1 h1
theorem textF_tsz : ∀ (toks : List Tok) (k : Option Int), (textF k toks).length ≤ tsz toks
  | [], k => by simp [textF]
  | t :: ts, k => by
    have := textF_tsz ts (some t.kind)
    simp only [textF, List.length_append, tsz, List.map_cons, List.sum_cons] at this ⊢
    split <;> simp <;> omega
theorem textR_tsz {toks : List Tok} (h : toks ≠ []) : (textR toks).length + 1 ≤ tsz toks := by
  cases toks with
  | nil => exact absurd rfl h
  | cons t ts =>
    have := textF_tsz ts (some t.kind)
    simp only [textR, textF, List.length_append, tsz, List.map_cons, List.sum_cons, reduceCtorEq, false_and, if_false, List.length_nil] at this ⊢
    omega
theorem kindAt_map {l m : List Tok} (h : l.map Tok.kind = m.map Tok.kind) (i : Nat) : kindAt l i = kindAt m i := by
  have e : ∀ x : List Tok, kindAt x i = ((x.map Tok.kind)[i]?).getD 0 := fun x => by
    unfold kindAt; rw [List.getElem?_map]; cases x[i]? <;> rfl
  rw [e, e, h]
theorem faultF_map {l m : List Tok} (h : l.map Tok.kind = m.map Tok.kind) : ∀ n i o, faultF l n i o = faultF m n i o
  | 0, _, _ => rfl
  | n + 1, i, o => by
    have hk : kindAt l = kindAt m := funext (kindAt_map h)
    have ih : faultF l n = faultF m n := funext fun i => funext fun o => faultF_map h n i o
    simp only [faultF, hk, ih]
theorem tree_map {l m : List Tok} (h : l.map Tok.sh = m.map Tok.sh) (hn : (treeR l).2 = none) : (treeR m).2 = none := by
  have hk : l.map Tok.kind = m.map Tok.kind := by
    have := congrArg (List.map Prod.fst) h
    simpa [List.map_map, Function.comp_def, Tok.sh] using this
  have hl : l.length = m.length := by simpa using congrArg List.length h
  unfold treeR at hn ⊢
  rw [faultF_map hk, hl] at hn
  split
  · rename_i h0; rw [if_pos h0] at hn; simp at hn
  · rfl
end Go.Am

namespace Go.Am
theorem eats_at {r r' : Rdr} {seg : List Tree} (h : Eats r r' seg) : 0 ≤ r.at_ ∧ r'.at_ = r.at_ + (seg.length : Nat) ∧ r'.at_ ≤ (r.l.length : Nat) := by
  obtain ⟨pre, post, e1, e2, e3⟩ := h.ex
  rw [e1, e2, e3]
  simp only [List.length_append]
  refine ⟨?_, ?_, ?_⟩ <;> omega
theorem eats_goods {r r' : Rdr} {seg : List Tree} (h : Eats r r' seg) (hg : Goods r.l) : Goods r'.l := by rw [h.l]; exact hg
theorem joinC_two (x y : List UInt8) (l : List (List UInt8)) : joinC (x :: y :: l) = x ++ [44] ++ joinC (y :: l) := by simp [joinC]
theorem eats_all {t : Tree} {i : Rdr} {seg : List Tree} (h : Eats t.inner i seg) (he : i.at_ = (t.kids.length : Nat)) : seg = t.kids := by
  obtain ⟨pre, post, e1, e2, e3⟩ := h.ex
  have e0 : t.inner.at_ = 0 := rfl
  have el : t.inner.l = t.kids := rfl
  rw [e0] at e2
  have hp : pre = [] := List.length_eq_zero_iff.1 (by omega)
  subst hp
  rw [el] at e1
  have hq : post = [] := by
    rw [e3, e1] at he
    simp only [List.nil_append, List.length_append] at he
    exact List.length_eq_zero_iff.1 (by omega)
  subst hq
  simpa using e1.symm
theorem pairsG_sound : ∀ (n : Nat) (i : Rdr) (acc : List (Word × Word)), Goods i.l → i.at_ ≤ (i.l.length : Nat) → (i.l.length : Int) < n + i.at_ → (Rdr.pairsG n i acc).1.bad = none →
    ∃ seg ps, Eats i (Rdr.pairsG n i acc).1 seg ∧ (Rdr.pairsG n i acc).2 = acc ++ ps ∧ ps ≠ [] ∧ textR (flats seg) = joinC (ps.map pairT) ∧ ps.all pairQ = true ∧ (Rdr.pairsG n i acc).1.at_ = (i.l.length : Nat)
  | 0, i, acc, _, h1, h2, _ => by omega
  | n + 1, i, acc, hg, h1, h2, hb => by
    have hib : i.bad = none := by
      cases hq : i.bad with
      | none => rfl
      | some b => have := pairsG_bad hq (n + 1) acc; rw [hb] at this; simp at this
    have one : ∀ (hc : ((i.word.2.take 60).2.word).2.bad = none), ∃ seg, Eats i ((i.word.2.take 60).2.word).2 seg ∧ 0 < seg.length ∧ textR (flats seg) = pairT (i.word.1, ((i.word.2.take 60).2.word).1) ∧ pairQ (i.word.1, ((i.word.2.take 60).2.word).1) = true := by
      intro hc
      have l1 : i.word.2.l = i.l := i.take_l 97
      have l2 : (i.word.2.take 60).2.l = i.l := (Rdr.take_l _ 60).trans l1
      obtain ⟨s3, e31, e32, e33, _⟩ := word_sound (i.word.2.take 60).2 (by rw [l2]; exact hg) hc
      obtain ⟨c1, c2⟩ := take_eats e31.b
      obtain ⟨s1, e11, e12, e13, _⟩ := word_sound i hg c1.b
      have hgc := (c1.good (by rw [l1]; exact hg)).1
      refine ⟨s1 ++ [(i.word.2.take 60).1] ++ s3, (e11.trans c1).trans e31, by simp only [List.length_append, List.length_singleton]; omega, ?_, ?_⟩
      · rw [text_mid (by rw [c2]; decide) (by rw [c2]; rfl), e12, e32, sign_text hgc c2 (by decide)]; rfl
      · simp [pairQ, e13, e33]
    simp only [Rdr.pairsG] at hb ⊢
    rw [if_neg (by simp [hib])] at hb ⊢
    split
    · rename_i hend
      rw [if_pos hend] at hb
      obtain ⟨seg, e1, _, e2, e3⟩ := one hb
      refine ⟨seg, [(i.word.1, ((i.word.2.take 60).2.word).1)], e1, rfl, by simp, ?_, ?_, hend⟩
      · rw [e2]; simp [joinC]
      · simp [e3]
    · rename_i hend
      rw [if_neg hend] at hb
      have hq : (((i.word.2.take 60).2.word).2.take 44).2.bad = none := by
        cases hq : (((i.word.2.take 60).2.word).2.take 44).2.bad with
        | none => rfl
        | some b => have := pairsG_bad hq n (acc ++ [(i.word.1, ((i.word.2.take 60).2.word).1)]); rw [hb] at this; simp at this
      obtain ⟨c1, c2⟩ := take_eats hq
      obtain ⟨seg, e1, e0, e2, e3⟩ := one c1.b
      have et := e1.trans c1
      have hgc := (c1.good (eats_goods e1 hg)).1
      obtain ⟨a1, a2, a3⟩ := eats_at et
      have hl : (((i.word.2.take 60).2.word).2.take 44).2.l = i.l := et.l
      simp only [List.length_append, List.length_singleton] at a2
      obtain ⟨sg, ps, g1, g2, g3, g4, g5, g6⟩ := pairsG_sound n (((i.word.2.take 60).2.word).2.take 44).2 (acc ++ [(i.word.1, ((i.word.2.take 60).2.word).1)]) (eats_goods et hg) (by rw [hl]; exact a3) (by rw [hl]; omega) hb
      refine ⟨seg ++ [(((i.word.2.take 60).2.word).2.take 44).1] ++ sg, (i.word.1, ((i.word.2.take 60).2.word).1) :: ps, et.trans g1, ?_, by simp, ?_, ?_, ?_⟩
      · rw [g2]; simp
      · rw [text_mid (by rw [c2]; decide) (by rw [c2]; rfl), e2, g4, sign_text hgc c2 (by decide)]
        obtain ⟨p, qs, rfl⟩ : ∃ p qs, ps = p :: qs := by
          cases ps with
          | nil => exact absurd rfl g3
          | cons p qs => exact ⟨p, qs, rfl⟩
        simp only [List.map_cons, joinC_two]; rfl
      · rw [List.all_cons, e3, g5]; rfl
      · rw [g6, hl]
def GotP (k : UInt8) (seg : List Tree) (c0 c1 : Cmd) : Prop :=
  (k = 110 ∧ ∃ w : Word, nameR w.text = true ∧ textR (flats seg) = w.text ∧ c1 = { c0 with name := w }) ∨
  (k = 102 ∧ ∃ w : Word, nameR w.text = true ∧ textR (flats seg) = w.text ∧ c1 = { c0 with names := [w] }) ∨
  (k = 119 ∧ ∃ ws : List Word, 0 < ws.length ∧ rightW ws = true ∧ textR (flats seg) = [123] ++ wtext ws ++ [125] ∧ c1 = { c0 with names := ws }) ∨
  (k = 112 ∧ ∃ (ps : List (Word × Word)) (a : Int), ps.all pairQ = true ∧ textR (flats seg) = braceT (ps.map pairT) ∧ c1 = { c0 with pairs := ps, pairsAt := a }) ∨
  (k = 116 ∧ ∃ m : Nd, m.labelQ = true ∧ textR (flats seg) = m.txt ∧ c1 = if c0.left.kind = 0 then { c0 with left := m } else { c0 with right := m }) ∨
  (k = 114 ∧ ∃ m : Nd, m.rowQ = true ∧ textR (flats seg) = m.txt ∧ c1 = if c0.left.kind = 0 then { c0 with left := m } else { c0 with right := m })
theorem seg_pos {seg : List Tree} (h : 0 < szs seg) : seg ≠ [] := fun e => by rw [e] at h; simp [szs, manys] at h
theorem node_got {l : List Tree} {a fin : Int} {c : Cmd} {one : Rdr → Nd × Rdr} {Q : Nd → Prop} (hs : Sound one Nd.txt Q SN) (hg : Goods l) (hb : (nodeP ⟨l, a, fin, none⟩ c (readAt one l a fin)).1.bad = none) :
    ∃ seg m, seg ≠ [] ∧ Eats ⟨l, a, fin, none⟩ (nodeP ⟨l, a, fin, none⟩ c (readAt one l a fin)).1 seg ∧ Q m ∧ textR (flats seg) = m.txt ∧ (nodeP ⟨l, a, fin, none⟩ c (readAt one l a fin)).2 = if c.left.kind = 0 then { c with left := m } else { c with right := m } := by
  unfold readAt at hb ⊢
  cases hq : (one ⟨l, a, fin, none⟩).2.bad with
  | some b => rw [hq] at hb; simp [nodeP] at hb
  | none =>
    obtain ⟨seg, e1, e2, e3, e4⟩ := hs ⟨l, a, fin, none⟩ hg hq
    refine ⟨seg, _, seg_pos ?_, ⟨e1.ex, rfl, rfl, rfl⟩, e3, e2, rfl⟩
    simp only [SN] at e4; omega
theorem part_got {k : UInt8} {x : Rdr × Cmd} (hk : k = 110 ∨ k = 102 ∨ k = 119 ∨ k = 112 ∨ k = 116 ∨ k = 114) (hg : Goods x.1.l) (hp : k = 112 → x.2.pairs = []) (hb : (partP k x).1.bad = none) :
    ∃ seg, seg ≠ [] ∧ Eats x.1 (partP k x).1 seg ∧ GotP k seg x.2 (partP k x).2 := by
  obtain ⟨⟨l, a, fin, bad⟩, c⟩ := x
  have hxb : bad = none := by
    cases bad with
    | none => rfl
    | some b => simp [partP] at hb
  subst hxb
  have hwd : ∀ (h : (⟨l, a, fin, none⟩ : Rdr).word.2.bad = none), ∃ seg, seg ≠ [] ∧ Eats ⟨l, a, fin, none⟩ (⟨l, a, fin, none⟩ : Rdr).word.2 seg ∧ textR (flats seg) = (⟨l, a, fin, none⟩ : Rdr).word.1.text ∧ nameR (⟨l, a, fin, none⟩ : Rdr).word.1.text = true := fun h => by
    obtain ⟨seg, e1, e2, e3, e4⟩ := word_sound ⟨l, a, fin, none⟩ hg h
    exact ⟨seg, seg_pos (by simp only [SW] at e4; omega), e1, e2, e3⟩
  rcases hk with rfl | rfl | rfl | rfl | rfl | rfl
  · have e : partP 110 (⟨l, a, fin, none⟩, c) = ((⟨l, a, fin, none⟩ : Rdr).word.2, { c with name := (⟨l, a, fin, none⟩ : Rdr).word.1 }) := by simp [partP]
    rw [e] at hb ⊢
    obtain ⟨seg, h1, h2, h3, h4⟩ := hwd hb
    exact ⟨seg, h1, h2, .inl ⟨rfl, _, h4, h3, rfl⟩⟩
  · have e : partP 102 (⟨l, a, fin, none⟩, c) = ((⟨l, a, fin, none⟩ : Rdr).word.2, { c with names := [(⟨l, a, fin, none⟩ : Rdr).word.1] }) := by simp [partP]
    rw [e] at hb ⊢
    obtain ⟨seg, h1, h2, h3, h4⟩ := hwd hb
    exact ⟨seg, h1, h2, .inr (.inl ⟨rfl, _, h4, h3, rfl⟩)⟩
  · have e : partP 119 (⟨l, a, fin, none⟩, c) = (⟨l, a + 1, fin, (wordsAt l a fin).2⟩, { c with names := (wordsAt l a fin).1 }) := by simp [partP]
    rw [e] at hb ⊢
    have hw : ((⟨l, a, fin, none⟩ : Rdr).words false).2.bad = none := by
      cases hq : ((⟨l, a, fin, none⟩ : Rdr).words false).2.bad with
      | none => rfl
      | some b => simp [wordsAt, hq] at hb
    have ew : wordsAt l a fin = (((⟨l, a, fin, none⟩ : Rdr).words false).1.1, none) := by simp [wordsAt, hw]
    obtain ⟨t, b1, b2, b3, b4, _, b6⟩ := bracket_sound (one := Rdr.word) word_sound (k := 123) (e := false) (r := ⟨l, a, fin, none⟩) hg hw
    have hgood := (b1.good hg).1
    rw [ew]
    refine ⟨[t], by simp, ?_, .inr (.inr (.inl ⟨rfl, _, b6 rfl, rightW_of b4, ?_, rfl⟩))⟩
    · obtain ⟨pre, post, e1, e2, e3⟩ := b1.ex
      have e2 : a = (pre.length : Nat) := e2
      refine ⟨⟨pre, post, e1, e2, ?_⟩, rfl, rfl, rfl⟩
      simp only [List.length_append, List.length_singleton]; omega
    · rw [text_in (by rw [b2]; decide), b3, sign_text hgood b2 (by decide), b2]; rfl
  · have hp := hp rfl
    have e : partP 112 (⟨l, a, fin, none⟩, c) = pairsP ⟨l, a, fin, none⟩ c := by simp [partP]
    rw [e] at hb ⊢
    unfold pairsP at hb ⊢
    simp only at hb ⊢ hp
    split
    · rename_i hc
      rw [if_pos hc] at hb
      have hb : ((⟨l, a, fin, none⟩ : Rdr).take 123).2.bad = none := hb
      obtain ⟨t1, t2⟩ := take_eats hb
      have hgood := (t1.good hg).1
      have hkids : ((⟨l, a, fin, none⟩ : Rdr).take 123).1.kids = [] := by
        rcases hc with h | h
        · exact absurd hb h
        · exact List.length_eq_zero_iff.1 h
      refine ⟨[((⟨l, a, fin, none⟩ : Rdr).take 123).1], by simp, t1, .inr (.inr (.inr (.inl ⟨rfl, [], ((⟨l, a, fin, none⟩ : Rdr).take 123).1.tok.pos, rfl, ?_, ?_⟩)))⟩
      · rw [text_in (by rw [t2]; decide), hkids, sign_text hgood t2 (by decide), t2]; rfl
      · cases c; simp only at hp; subst hp; rfl
    · rename_i hc
      rw [if_neg hc] at hb
      have h1 : ((⟨l, a, fin, none⟩ : Rdr).take 123).2.bad = none := by
        cases hq : ((⟨l, a, fin, none⟩ : Rdr).take 123).2.bad with
        | none => rfl
        | some b => exact absurd (.inl (by rw [hq]; simp)) hc
      obtain ⟨t1, t2⟩ := take_eats h1
      have hgood := (t1.good hg).1
      have hgk := ((good_eq _).1 hgood).2.2
      generalize ((⟨l, a, fin, none⟩ : Rdr).take 123).2 = r1 at hb t1 h1 ⊢
      generalize ((⟨l, a, fin, none⟩ : Rdr).take 123).1 = t at hb t1 t2 hgood hgk ⊢
      have hG : (Rdr.pairsG (t.kids.length + 1) t.inner []).1.bad = none := by
        cases hq : (Rdr.pairsG (t.kids.length + 1) t.inner []).1.bad with
        | none => rfl
        | some b => rw [hq] at hb; simp [Rdr.bads] at hb
      have el : t.inner.l = t.kids := rfl
      have ea : t.inner.at_ = 0 := rfl
      obtain ⟨sg, ps, g1, g2, g3, g4, g5, g6⟩ := pairsG_sound (t.kids.length + 1) t.inner [] hgk (by rw [ea]; omega) (by rw [el, ea]; omega) hG
      have hs := eats_all g1 g6
      subst hs
      refine ⟨[t], by simp, ?_, .inr (.inr (.inr (.inl ⟨rfl, ps, t.tok.pos, g5, ?_, ?_⟩)))⟩
      · rw [hG]; exact t1
      · rw [text_in (by rw [t2]; decide), g4, sign_text hgood t2 (by decide), t2]; rfl
      · rw [g2]; rfl
  · have e : partP 116 (⟨l, a, fin, none⟩, c) = nodeP ⟨l, a, fin, none⟩ c (readAt (Rdr.label (manys l)) l a fin) := by simp [partP]
    rw [e] at hb ⊢
    obtain ⟨seg, m, h1, h2, h3, h4, h5⟩ := node_got (label_sound (manys l)) hg hb
    exact ⟨seg, h1, h2, .inr (.inr (.inr (.inr (.inl ⟨rfl, m, h3, h4, h5⟩))))⟩
  · have e : partP 114 (⟨l, a, fin, none⟩, c) = nodeP ⟨l, a, fin, none⟩ c (readAt (Rdr.row (manys l)) l a fin) := by simp [partP]
    rw [e] at hb ⊢
    obtain ⟨seg, m, h1, h2, h3, h4, h5⟩ := node_got (row_sound (manys l)) hg hb
    exact ⟨seg, h1, h2, .inr (.inr (.inr (.inr (.inr ⟨rfl, m, h3, h4, h5⟩))))⟩
def Gots : List UInt8 → List Tree → Cmd → Cmd → Prop
  | [], us, c0, c1 => us = [] ∧ c1 = c0
  | k :: ks, us, c0, c2 => ∃ a b c1, us = a ++ b ∧ a ≠ [] ∧ GotP k a c0 c1 ∧ Gots ks b c1 c2
theorem got_pairs {k : UInt8} {seg : List Tree} {c0 c1 : Cmd} (hk : k ≠ 112) (h : GotP k seg c0 c1) : c1.pairs = c0.pairs := by
  rcases h with ⟨_, w, _, _, rfl⟩ | ⟨_, w, _, _, rfl⟩ | ⟨_, w, _, _, _, rfl⟩ | ⟨h, _⟩ | ⟨_, m, _, _, rfl⟩ | ⟨_, m, _, _, rfl⟩
  · rfl
  · rfl
  · rfl
  · exact absurd h hk
  · split <;> rfl
  · split <;> rfl
theorem parts_got : ∀ (ks : List UInt8) (x : Rdr × Cmd), lettersOk ks → ks.count 112 ≤ 1 → (112 ∈ ks → x.2.pairs = []) → Goods x.1.l → x.1.bad = none → 0 ≤ x.1.at_ → x.1.at_ ≤ (x.1.l.length : Nat) → (partsP ks x).1.bad = none →
    ∃ us, Eats x.1 (partsP ks x).1 us ∧ Gots ks us x.2 (partsP ks x).2
  | [], x, _, _, _, _, hb, h0, h1, _ => by
    refine ⟨[], ⟨⟨x.1.l.take x.1.at_.toNat, x.1.l.drop x.1.at_.toNat, by simp, ?_, ?_⟩, rfl, hb, hb⟩, rfl, rfl⟩
    · rw [List.length_take]; omega
    · show x.1.at_ = _
      rw [List.append_nil, List.length_take]; omega
  | k :: ks, x, hk, hc, hp, hg, hb, h0, h1, hn => by
    simp only [partsP] at hn ⊢
    have hb1 : (partP k x).1.bad = none := by
      cases hq : (partP k x).1.bad with
      | none => rfl
      | some b => have := partsP_bad (N := 0) (Int.le_refl 0) ks _ hq; rw [hn] at this; simp at this
    obtain ⟨sg, n1, e1, g1⟩ := part_got (hk k (by simp)) hg (fun e => hp (by simp [e])) hb1
    obtain ⟨a1, a2, a3⟩ := eats_at e1
    have hcc : ks.count 112 ≤ 1 := by rw [List.count_cons] at hc; omega
    obtain ⟨us, e2, g2⟩ := parts_got ks (partP k x) (fun k h => hk k (by simp [h])) hcc (fun hm => by
      by_cases e : k = 112
      · exfalso
        rw [e, List.count_cons_self] at hc
        exact List.count_eq_zero.1 (show ks.count 112 = 0 by omega) hm
      · rw [got_pairs e g1]; exact hp (by simp [hm])) (eats_goods e1 hg) hb1 (by omega) (by rw [e1.l]; exact a3) hn
    exact ⟨sg ++ us, e1.trans e2, sg, us, _, rfl, n1, g1, g2⟩
end Go.Am

namespace Go.Am
theorem got_n {seg : List Tree} {c0 c1 : Cmd} (h : GotP 110 seg c0 c1) : ∃ w : Word, nameR w.text = true ∧ textR (flats seg) = w.text ∧ c1 = { c0 with name := w } := by
  rcases h with ⟨_, h⟩ | ⟨e, _⟩ | ⟨e, _⟩ | ⟨e, _⟩ | ⟨e, _⟩ | ⟨e, _⟩ <;> first | exact h | exact absurd e (by decide)
theorem got_f {seg : List Tree} {c0 c1 : Cmd} (h : GotP 102 seg c0 c1) : ∃ w : Word, nameR w.text = true ∧ textR (flats seg) = w.text ∧ c1 = { c0 with names := [w] } := by
  rcases h with ⟨e, _⟩ | ⟨_, h⟩ | ⟨e, _⟩ | ⟨e, _⟩ | ⟨e, _⟩ | ⟨e, _⟩ <;> first | exact h | exact absurd e (by decide)
theorem got_w {seg : List Tree} {c0 c1 : Cmd} (h : GotP 119 seg c0 c1) : ∃ ws : List Word, 0 < ws.length ∧ rightW ws = true ∧ textR (flats seg) = [123] ++ wtext ws ++ [125] ∧ c1 = { c0 with names := ws } := by
  rcases h with ⟨e, _⟩ | ⟨e, _⟩ | ⟨_, h⟩ | ⟨e, _⟩ | ⟨e, _⟩ | ⟨e, _⟩ <;> first | exact h | exact absurd e (by decide)
theorem got_p {seg : List Tree} {c0 c1 : Cmd} (h : GotP 112 seg c0 c1) : ∃ (ps : List (Word × Word)) (a : Int), ps.all pairQ = true ∧ textR (flats seg) = braceT (ps.map pairT) ∧ c1 = { c0 with pairs := ps, pairsAt := a } := by
  rcases h with ⟨e, _⟩ | ⟨e, _⟩ | ⟨e, _⟩ | ⟨_, h⟩ | ⟨e, _⟩ | ⟨e, _⟩ <;> first | exact h | exact absurd e (by decide)
theorem got_t {seg : List Tree} {c0 c1 : Cmd} (h : GotP 116 seg c0 c1) : ∃ m : Nd, m.labelQ = true ∧ textR (flats seg) = m.txt ∧ c1 = if c0.left.kind = 0 then { c0 with left := m } else { c0 with right := m } := by
  rcases h with ⟨e, _⟩ | ⟨e, _⟩ | ⟨e, _⟩ | ⟨e, _⟩ | ⟨_, h⟩ | ⟨e, _⟩ <;> first | exact h | exact absurd e (by decide)
theorem got_r {seg : List Tree} {c0 c1 : Cmd} (h : GotP 114 seg c0 c1) : ∃ m : Nd, m.rowQ = true ∧ textR (flats seg) = m.txt ∧ c1 = if c0.left.kind = 0 then { c0 with left := m } else { c0 with right := m } := by
  rcases h with ⟨e, _⟩ | ⟨e, _⟩ | ⟨e, _⟩ | ⟨e, _⟩ | ⟨e, _⟩ | ⟨_, h⟩ <;> first | exact h | exact absurd e (by decide)
def Segs (c : Cmd) : List (UInt8 × Nd) → List Tree → Prop
  | [], us => us = []
  | q :: qs, us => ∃ a b, us = a ++ b ∧ a ≠ [] ∧ PieceOk q.1 c q.2 ∧ textR (flats a) = pieceT q.1 c q.2 ∧ Segs c qs b
theorem right_named {ws : List Word} (h : rightW ws = true) : namedQ (ws.map Word.text) = true := by
  simp only [namedQ, List.all_map]
  exact h
theorem gots_right {op p : Int} {us : List Tree} {c : Cmd} (h1 : 1 ≤ op) (h2 : op ≤ 15) (h : Gots (formOf op).2 us { Cmd.zero with op := op, pos := p } c) : c.op = op ∧ c.rightQ = true ∧ Segs c (lett (formOf op).2 [c.left, c.right]) us := by
  obtain ⟨hk, _, _⟩ := form_kind h1 h2
  simp only [kinds7, List.mem_cons, List.not_mem_nil, or_false] at hk
  have hz : (Nd.zero).kind = 0 := rfl
  have zz := Nd.sameQ_refl Nd.zero
  have h0 : 0 ≤ op := by omega
  rcases hk with e | e | e | e | e | e | e
  all_goals rw [e] at h
  · obtain ⟨a, b, c1, rfl, na, ga, a2, b2, c2, rfl, nb, gb, rfl, rfl⟩ := h
    obtain ⟨w, w1, w2, rfl⟩ := got_n ga
    obtain ⟨ws, v1, v2, v3, rfl⟩ := got_w gb
    refine ⟨rfl, ?_, ?_⟩
    · simp [Cmd.rightQ, Cmd.nameQ, Cmd.namesQ, Cmd.pairsQ, Cmd.termsQ, cntN, e, List.count_cons, h0, h2, w1, v1, right_named v2, Cmd.zero, zz]
    · rw [e]
      exact ⟨a, _, rfl, na, .inl ⟨rfl, w1⟩, w2, a2, [], rfl, nb, .inr (.inr (.inl ⟨rfl, v1, v2⟩)), v3, rfl⟩
  · obtain ⟨a, b, c1, rfl, na, ga, a2, b2, c2, rfl, nb, gb, a3, b3, c3, rfl, nc, gc, rfl, rfl⟩ := h
    obtain ⟨w, w1, w2, rfl⟩ := got_n ga
    obtain ⟨ws, v1, v2, v3, rfl⟩ := got_w gb
    obtain ⟨ps, pa, u1, u2, rfl⟩ := got_p gc
    refine ⟨rfl, ?_, ?_⟩
    · simp only [List.all_eq_true] at u1
      simp [Cmd.rightQ, Cmd.nameQ, Cmd.namesQ, Cmd.pairsQ, Cmd.termsQ, cntN, e, List.count_cons, h0, h2, w1, v1, right_named v2, Cmd.zero, zz]
      intro x y hxy; exact u1 (x, y) hxy
    · rw [e]
      exact ⟨a, _, rfl, na, .inl ⟨rfl, w1⟩, w2, a2, _, rfl, nb, .inr (.inr (.inl ⟨rfl, v1, v2⟩)), v3, a3, [], rfl, nc, .inr (.inr (.inr (.inl ⟨rfl, u1⟩))), u2, rfl⟩
  · obtain ⟨a, b, c1, rfl, na, ga, a2, b2, c2, rfl, nb, gb, a3, b3, c3, rfl, nc, gc, rfl, rfl⟩ := h
    obtain ⟨w, w1, w2, rfl⟩ := got_n ga
    obtain ⟨m, v1, v2, rfl⟩ := got_t gb
    obtain ⟨m2, u1, u2, rfl⟩ := got_t gc
    have hm := label_kind v1
    rw [if_pos (show ({ Cmd.zero with op := op, pos := p, name := w } : Cmd).left.kind = 0 from rfl), if_neg hm]
    refine ⟨rfl, ?_, ?_⟩
    · simp [Cmd.rightQ, Cmd.nameQ, Cmd.namesQ, Cmd.pairsQ, Cmd.termsQ, cntN, e, List.count_cons, h0, h2, w1, v1, u1, Cmd.zero]
    · rw [e]
      exact ⟨a, _, rfl, na, .inl ⟨rfl, w1⟩, w2, a2, _, rfl, nb, .inr (.inr (.inr (.inr (.inl ⟨rfl, v1⟩)))), v2, a3, [], rfl, nc, .inr (.inr (.inr (.inr (.inl ⟨rfl, u1⟩)))), u2, rfl⟩
  · obtain ⟨a, b, c1, rfl, na, ga, a2, b2, c2, rfl, nb, gb, a3, b3, c3, rfl, nc, gc, rfl, rfl⟩ := h
    obtain ⟨w, w1, w2, rfl⟩ := got_n ga
    obtain ⟨m, v1, v2, rfl⟩ := got_r gb
    obtain ⟨m2, u1, u2, rfl⟩ := got_r gc
    have hm := row_kind v1
    rw [if_pos (show ({ Cmd.zero with op := op, pos := p, name := w } : Cmd).left.kind = 0 from rfl), if_neg hm]
    refine ⟨rfl, ?_, ?_⟩
    · simp [Cmd.rightQ, Cmd.nameQ, Cmd.namesQ, Cmd.pairsQ, Cmd.termsQ, cntN, e, List.count_cons, h0, h2, w1, v1, u1, Cmd.zero]
    · rw [e]
      exact ⟨a, _, rfl, na, .inl ⟨rfl, w1⟩, w2, a2, _, rfl, nb, .inr (.inr (.inr (.inr (.inr ⟨rfl, v1⟩)))), v2, a3, [], rfl, nc, .inr (.inr (.inr (.inr (.inr ⟨rfl, u1⟩)))), u2, rfl⟩
  · obtain ⟨a, b, c1, rfl, na, ga, a2, b2, c2, rfl, nb, gb, rfl, rfl⟩ := h
    obtain ⟨w, w1, w2, rfl⟩ := got_n ga
    obtain ⟨w', v1, v2, rfl⟩ := got_f gb
    refine ⟨rfl, ?_, ?_⟩
    · simp [Cmd.rightQ, Cmd.nameQ, Cmd.namesQ, Cmd.pairsQ, Cmd.termsQ, cntN, e, List.count_cons, h0, h2, w1, v1, namedQ, Cmd.zero, zz]
    · rw [e]
      exact ⟨a, _, rfl, na, .inl ⟨rfl, w1⟩, w2, a2, [], rfl, nb, .inr (.inl ⟨rfl, rfl, rightW_of (by simp [v1])⟩), by rw [v2]; simp [pieceT, joinC], rfl⟩
  · obtain ⟨rfl, rfl⟩ := h
    refine ⟨rfl, ?_, by rw [e]; rfl⟩
    simp [Cmd.rightQ, Cmd.nameQ, Cmd.namesQ, Cmd.pairsQ, Cmd.termsQ, cntN, e, h0, h2, Cmd.zero, zz]
  · obtain ⟨a, b, c1, rfl, na, ga, rfl, rfl⟩ := h
    obtain ⟨w, w1, w2, rfl⟩ := got_n ga
    refine ⟨rfl, ?_, ?_⟩
    · simp [Cmd.rightQ, Cmd.nameQ, Cmd.namesQ, Cmd.pairsQ, Cmd.termsQ, cntN, e, List.count_cons, h0, h2, w1, Cmd.zero, zz]
    · rw [e]
      exact ⟨a, [], rfl, na, .inl ⟨rfl, w1⟩, w2, rfl⟩
theorem flats_ne {a : List Tree} (h : a ≠ []) : flats a ≠ [] := by
  cases a with
  | nil => exact absurd rfl h
  | cons t ts => cases t; simp [flats, Tree.flat]
theorem segs_shape {c : Cmd} : ∀ (qs : List (UInt8 × Nd)) (us : List Tree), Segs c qs us → (∀ t ∈ flats us, TokL t) → (flats us).map Tok.sh = (qs.map fun q => pieceS q.1 c q.2).flatten
  | [], us, h, _ => by have h : us = [] := h; subst h; rfl
  | q :: qs, us, ⟨a, b, e, _, h1, h2, h3⟩, ht => by
    subst e
    rw [flats_append] at ht ⊢
    rw [List.map_append, List.map_cons, List.flatten_cons, segs_shape qs b h3 fun t h => ht t (by simp [h]), shp_of (fun t h => ht t (by simp [h])) (piece_lex h1) h2]
theorem segs_len {c : Cmd} : ∀ (qs : List (UInt8 × Nd)) (us : List Tree), Segs c qs us → ((qs.map fun q => pieceT q.1 c q.2).flatMap fun y => [32] ++ y).length ≤ tsz (flats us)
  | [], us, h => by simp
  | q :: qs, us, ⟨a, b, e, h0, h1, h2, h3⟩ => by
    subst e
    have ih := segs_len qs b h3
    have h4 := textR_tsz (flats_ne h0)
    rw [h2] at h4
    rw [flats_append, tsz_append, List.map_cons, List.flatMap_cons, List.length_append, List.length_append]
    simp only [List.length_singleton]
    omega
theorem numF_yes {w : List UInt8} : ∀ (n op : Nat), numF w n op ≠ 0 → (formOf (numF w n op)).1 = w ∧ 1 ≤ numF w n op ∧ numF w n op < op + n
  | 0, op, h => by simp [numF] at h
  | n + 1, op, h => by
    simp only [numF] at h ⊢
    split
    · rename_i hc; exact ⟨hc.2, by omega, by omega⟩
    · rename_i hc
      rw [if_neg hc] at h
      obtain ⟨h1, h2, h3⟩ := numF_yes n (op + 1) h
      exact ⟨h1, h2, by omega⟩
theorem cmd_again {l : List Tree} {fin : Int} {c : Cmd} (hg : Goods l) (h : cmdP l fin = (c, 0, 0)) : l = [] ∧ c = .zero ∨
    ∃ a b, l = a ++ b ∧ textR (flats a) = (formOf c.op).1 ∧ nameR (formOf c.op).1 = true ∧ c.rightQ = true ∧ Segs c (lett (formOf c.op).2 [c.left, c.right]) b := by
  cases l with
  | nil => left; simp only [cmdP] at h; exact ⟨rfl, (congrArg Prod.fst h).symm⟩
  | cons t ts =>
    right
    unfold cmdP at h
    simp only at h
    by_cases hz : numberP (⟨t :: ts, 0, fin, none⟩ : Rdr).word.1.text = 0
    · rw [if_pos hz] at h; simp at h
    · rw [if_neg hz] at h
      obtain ⟨n1, n2, n3⟩ := numF_yes 16 0 hz
      have n1 : (formOf (numberP (⟨t :: ts, 0, fin, none⟩ : Rdr).word.1.text)).1 = (⟨t :: ts, 0, fin, none⟩ : Rdr).word.1.text := n1
      have n2 : 1 ≤ numberP (⟨t :: ts, 0, fin, none⟩ : Rdr).word.1.text := n2
      have n3 : numberP (⟨t :: ts, 0, fin, none⟩ : Rdr).word.1.text ≤ 15 := by unfold numberP; omega
      have hpb := fun b hb => partsP_bad (N := 0) (Int.le_refl 0) (b := b) (formOf (numberP (⟨t :: ts, 0, fin, none⟩ : Rdr).word.1.text)).2 ((⟨t :: ts, 0, fin, none⟩ : Rdr).word.2, { Cmd.zero with op := numberP (⟨t :: ts, 0, fin, none⟩ : Rdr).word.1.text, pos := (⟨t :: ts, 0, fin, none⟩ : Rdr).word.1.pos }) hb
      have hpg := fun hg2 hb h0 h1 hn => parts_got (formOf (numberP (⟨t :: ts, 0, fin, none⟩ : Rdr).word.1.text)).2 ((⟨t :: ts, 0, fin, none⟩ : Rdr).word.2, { Cmd.zero with op := numberP (⟨t :: ts, 0, fin, none⟩ : Rdr).word.1.text, pos := (⟨t :: ts, 0, fin, none⟩ : Rdr).word.1.pos }) (form_letters _).1 (form_letters _).2 (fun _ => rfl) hg2 hb h0 h1 hn
      have hws := word_sound (⟨t :: ts, 0, fin, none⟩ : Rdr) hg
      have hgr := fun us c => gots_right (op := numberP (⟨t :: ts, 0, fin, none⟩ : Rdr).word.1.text) (p := (⟨t :: ts, 0, fin, none⟩ : Rdr).word.1.pos) (us := us) (c := c) n2 n3
      generalize partsP (formOf (numberP (⟨t :: ts, 0, fin, none⟩ : Rdr).word.1.text)).2 ((⟨t :: ts, 0, fin, none⟩ : Rdr).word.2, { Cmd.zero with op := numberP (⟨t :: ts, 0, fin, none⟩ : Rdr).word.1.text, pos := (⟨t :: ts, 0, fin, none⟩ : Rdr).word.1.pos }) = x at h hpb hpg
      have hxb : x.1.bad = none ∧ ¬ x.1.at_ < x.1.l.length ∧ c = x.2 := by
        unfold endP at h
        by_cases hc : x.1.bad = none ∧ x.1.at_ < x.1.l.length
        · rw [if_pos hc] at h
          cases hq : x.1.fail.bad with
          | none => exact absurd hq x.1.fail_ok
          | some b => rw [hq] at h; simp at h
        · rw [if_neg hc] at h
          cases hq : x.1.bad with
          | none =>
            rw [hq] at h
            refine ⟨rfl, fun hl => hc ⟨hq, hl⟩, (congrArg Prod.fst h).symm⟩
          | some b => rw [hq] at h; simp at h
      obtain ⟨hx1, hx2, rfl⟩ := hxb
      have hwb : (⟨t :: ts, 0, fin, none⟩ : Rdr).word.2.bad = none := by
        cases hq : (⟨t :: ts, 0, fin, none⟩ : Rdr).word.2.bad with
        | none => rfl
        | some b => have := hpb b hq; rw [hx1] at this; simp at this
      obtain ⟨sg, e1, e2, e3, _⟩ := hws hwb
      obtain ⟨a1, a2, a3⟩ := eats_at e1
      obtain ⟨us, f1, f2⟩ := hpg (eats_goods e1 hg) hwb (by simp only at a2 ⊢; omega) (by simp only; rw [e1.l]; exact a3) hx1
      obtain ⟨g1, g2, g3⟩ := hgr us x.2 f2
      have et := e1.trans f1
      have hall : t :: ts = sg ++ us := by
        obtain ⟨pre, post, q1, q2, q3⟩ := et.ex
        have hp : pre = [] := List.length_eq_zero_iff.1 (by simp only at q2; omega)
        subst hp
        have q1 : t :: ts = [] ++ (sg ++ us) ++ post := q1
        have hl : x.1.l = t :: ts := et.l
        have hq : post = [] := by
          rw [hl, q1, q3] at hx2
          simp only [List.nil_append, List.length_append] at hx2
          exact List.length_eq_zero_iff.1 (by omega)
        rw [q1, hq]; simp
      refine ⟨sg, us, hall, ?_, ?_, g2, ?_⟩
      · rw [g1, n1]; exact e2
      · rw [g1, n1]; exact e3
      · rw [g1]; exact g3
theorem again_law {s : List UInt8} {c : Cmd} (h : readP s = (c, 0, 0)) : c.rightQ = true ∧ (treeR (lexR (textC c)).1).2 = none ∧ (textC c).length ≤ 2 * s.length := by
  unfold readP at h
  cases hl : (lexR s).2 with
  | some a => rw [hl] at h; simp at h
  | none =>
    rw [hl] at h
    simp only at h
    cases ht : (treeP (lexR s).1 [] []).2 with
    | some a => rw [ht] at h; simp at h
    | none =>
      rw [ht] at h
      simp only at h
      have hok := lexF_ok s.length 0 s [] (by simp)
      have hokL := lexF_okL s.length 0 s [] (by simp)
      obtain ⟨w1, w2⟩ := treeP_ok (lexR s).1 [] [] hok (by simp) (by simp [WFs]) ht
      simp only [opFlat, flats, List.nil_append] at w2
      have hg : Goods (treeP (lexR s).1 [] []).1 := by rw [treeP_line]; exact line_good s
      have hsz : tsz (lexR s).1 ≤ tsz [] + 2 * s.length := lexF_tsz s.length 0 s []
      rw [show tsz [] = 0 from rfl, Nat.zero_add] at hsz
      rw [treeP_line] at ht
      rcases cmd_again hg h with ⟨h1, rfl⟩ | ⟨a, b, h1, h2, h3, h4, h5⟩
      · refine ⟨by decide +kernel, by decide +kernel, ?_⟩
        have : textC Cmd.zero = [] := by decide +kernel
        rw [this]; simp
      · rw [h1, flats_append] at w2
        have hL : ∀ t ∈ flats a ++ flats b, TokL t := by rw [w2]; exact hokL
        have s1 : (flats a).map Tok.sh = [nmS (formOf c.op).1] := shp_of (fun t ht => hL t (by simp [ht])) (lexN h3) h2
        have s2 := segs_shape _ b h5 (fun t ht => hL t (by simp [ht]))
        have hs : (lexR s).1.map Tok.sh = shpC c := by rw [← w2, List.map_append, s1, s2]; rfl
        have hop : 1 ≤ c.op := by
          have h6 := h4
          simp only [Cmd.rightQ, Bool.and_eq_true, decide_eq_true_eq] at h6
          have h0 := h6.1.1.1.1.1
          by_cases hz : c.op = 0
          · rw [hz] at h3; exact absurd h3 (by decide +kernel)
          · omega
        have h15 : c.op ≤ 15 := by simp only [Cmd.rightQ, Bool.and_eq_true, decide_eq_true_eq] at h4; exact h4.1.1.1.1.2
        obtain ⟨l1, l2⟩ := textC_lex h3 (pieces_right h4 hop)
        refine ⟨h4, tree_map (hs.trans l2.symm) ht, ?_⟩
        have hb := segs_len _ b h5
        have ha : (formOf c.op).1.length ≤ tsz (flats a) := by rw [← h2]; exact textF_tsz _ _
        rw [← w2, tsz_append] at hsz
        rw [textC_lett, List.length_append]
        omega
theorem cmdR_in {N : Int} (h0 : 0 ≤ N) {l : List Tree} {fin : Int} (hl : AOk N l) (hf : In N fin) : (cmdR l fin).2.1 = 0 ∧ (cmdR l fin).2.2 = 0 ∨ (cmdR l fin).1 = .zero ∧ (cmdR l fin).2.1 = 2 ∧ In N (cmdR l fin).2.2 := by
  have hpr : ∀ (ks : List UInt8) (c : Cmd) (a : Int), (partsR l fin ks c a).2.2 < 0 ∨ In N (partsR l fin ks c a).2.2 := by
    intro ks
    induction ks with
    | nil => intro c a; left; simp [partsR]
    | cons k ks ih =>
      intro c a
      simp only [partsR]
      split
      · rename_i hge
        right
        have hi1 := spot_in h0 (a := a) hl hf
        have hi2 := words_in h0 (a := a) hl hf
        have hi3 := pairsR_in h0 (a := a) hl
        have hi4 := label_in h0 (manys l) l a fin hl hf
        have hi5 := row_in h0 (manys l) l a fin hl hf
        revert hge
        unfold partR
        split
        · split
          · intro h; simp at h
          · intro _; exact hi1
        split
        · split
          · intro _; exact hi2
          · intro h; simp at h
        split
        · split
          · simp only
            intro h
            rcases hi3 with e | e
            · omega
            · exact e
          · intro _; exact hi1
        · have hgi : In N (if k = 114 then rowG (manys l) l a fin else labelG (manys l) l a fin).pos := by
            split
            · exact hi5
            · exact hi4
          generalize (if k = 114 then rowG (manys l) l a fin else labelG (manys l) l a fin) = g at hgi
          simp only
          split
          · intro _; exact hgi
          · intro h; simp at h
      · exact ih _ _
  cases l with
  | nil => exact .inl ⟨rfl, rfl⟩
  | cons t ts =>
    unfold cmdR
    simp only
    generalize (if t.tok.kind = 97 then opF t.tok.text 15 1 0 else 0) = op
    split
    · exact .inr ⟨rfl, rfl, (hl t (by simp)).pos⟩
    · split
      · rename_i hge
        refine .inr ⟨rfl, rfl, ?_⟩
        exact (hpr _ _ _).resolve_left (Int.not_lt.mpr hge)
      · split
        · exact .inr ⟨rfl, rfl, spot_in h0 hl hf⟩
        · exact .inl ⟨rfl, rfl⟩
theorem fault_law (s : List UInt8) : (∃ c, readP s = (c, 0, 0)) ∨ ∃ k a, readP s = (.zero, k, a) ∧ (k = 1 ∨ k = 2) ∧ 0 ≤ a ∧ a ≤ (s.length : Nat) := by
  rw [readP_readR]
  unfold readR
  have hl := lexR_in s
  have ht := lineTrees_in s
  cases h1 : (lexR s).2 with
  | some a => exact .inr ⟨1, a, rfl, .inl rfl, hl.2 a h1⟩
  | none =>
    simp only
    cases h2 : (treeR (lexR s).1).2 with
    | some a => exact .inr ⟨2, a, rfl, .inr rfl, ht.2 a h2⟩
    | none =>
      simp only
      have hc := cmdR_in (N := (s.length : Nat)) (by omega) ht.1 (fin := (s.length : Nat)) ⟨by omega, by omega⟩
      generalize cmdR (treeR (lexR s).1).1 (s.length : Nat) = R at hc ⊢
      obtain ⟨c, k, a⟩ := R
      simp only at hc
      rcases hc with ⟨rfl, rfl⟩ | ⟨rfl, rfl, h⟩
      · exact .inl ⟨c, rfl⟩
      · exact .inr ⟨2, a, rfl, .inr rfl, h⟩
end Go.Am
