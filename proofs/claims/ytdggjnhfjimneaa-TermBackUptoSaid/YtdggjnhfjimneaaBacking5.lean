/-
  Part 5 of the proof of TermBackUptoSaid: a logic over the model, the forms of the functions that the law reaches, and what they compute.
-/
import Derived.Test.YtdggjnhfjimneaaBacking4
set_option linter.unusedVariables false
set_option linter.unusedSimpArgs false
set_option linter.defProp false

/-
  The texts of nodes.
-/
namespace Go.Proofs.Try
open Go.Am
set_option maxRecDepth 4000
set_option maxHeartbeats 4000000

def inv77 (n : Nat) (g : FuncId) (cap : List V) (f : Nat → List UInt8) (σ : Store) (i τ : Nat) : St :=
  ⟨[.int .i64 (n : Nat), .fn (.func g) [] cap, .any, .any, .any, .sl (.tk τ) 1 (encB (joinC ((List.range i).map f))), .any, .int .i64 (n : Nat), .int .i64 (i : Nat)] ++ List.replicate 15 .any, [], σ.setTip τ (joinC ((List.range i).map f)).length⟩
theorem range_snoc (f : Nat → List UInt8) (i : Nat) : joinC ((List.range (i + 1)).map f) = joinC ((List.range i).map f) ++ (if 0 < i then [44] else []) ++ f i := by
  rw [List.range_succ, List.map_append, List.map_singleton, joinC_snoc]; simp
theorem range_mono (f : Nat → List UInt8) {i n : Nat} (h : i ≤ n) : (joinC ((List.range i).map f)).length ≤ (joinC ((List.range n).map f)).length := by
  induction n with
  | zero => have : i = 0 := by omega
            rw [this]; exact Nat.le_refl _
  | succ n ih =>
    by_cases hi : i = n + 1
    · rw [hi]; exact Nat.le_refl _
    · have := ih (by omega)
      rw [range_snoc]; simp only [List.length_append]; omega
theorem commas_calls {n : Nat} {g : FuncId} {cap : List V} {f : Nat → List UInt8} {σ : Store} (hnol : nolL cap = true) (hn : n ≤ big) (hb : (joinC ((List.range n).map f)).length ≤ big)
    (h : ∀ i, i < n → ∀ σ1 : Store, σ1.box = σ.box → PCalls prog g (.int .i64 (i : Nat) :: cap) σ1 fun v σ' => v = .str (f i) ∧ σ' = σ1) :
    PCalls prog 77 [.int .i64 (n : Nat), .fn (.func g) [] cap] σ fun v σ' => v = .str (joinC ((List.range n).map f)) ∧ σ' = σ := by
  refine fn77.calls ?_
  simp only [slots, ac77, am, amo, amc, Nat.reduceAdd, decide_true, decide_false, Tree.rec_, Nd.rec_, Word.rec_, Got.rec_]
  refine vc_loop (fun p : { p : Nat × Nat // σ.tip p.2 = none ∧ p.1 ≤ n } => inv77 n g cap f σ p.1.1 p.1.2) (fun p => n - p.1.1) ?_ ?_
  · refine Upd.tokEnter 0 fun τ hτ => ⟨⟨(0, τ), hτ, by simp⟩, ?_, rfl, rfl⟩
    simp [inv77, List.replicate, lto, joinC, encB]
  · rintro ⟨⟨i, τ⟩, hτ, hi⟩
    simp only at hτ hi
    simp only [inv77, List.replicate, am]
    refine vcIf_split ?_ ?_
    · intro hlt
      have hlt : i < n := by simpa using hlt
      have hs := range_snoc f i
      have hm := range_mono f (i := i + 1) (n := n) (by omega)
      simp only [big] at hn hb
      rw [hs] at hm
      simp only [List.length_append] at hm
      have wi : IntKind.i64.wrap ((i : Int) + 1) = (i : Int) + 1 := wrap_i64 (by omega) (by omega)
      simp only [am, amo, amc, Nat.reduceAdd, encs_length, List.length_map, decide_true, decide_false, Tree.rec_, Nd.rec_, Word.rec_, Got.rec_]
      by_cases h0 : 0 < i
      case' pos =>
        rw [if_pos h0] at hs hm
        simp only [am, amo, amc, Nat.reduceAdd, encs_length, List.length_map, decide_true, decide_false, Tree.rec_, Nd.rec_, Word.rec_, Got.rec_, decide_eq_true (show (0 : Int) < i by omega)]
        refine app_tk (by simp [encB_length, big]; simp at hm; omega) (by rw [encB_length, setTip_tip_same]) ?_
        simp only [am, amo, amc, Nat.reduceAdd, encs_length, List.length_map, decide_true, decide_false, Tree.rec_, Nd.rec_, Word.rec_, Got.rec_, setTip_setTip]
        rw [show encB (joinC ((List.range i).map f)) ++ [[.int .u8 44]] = encB (joinC ((List.range i).map f) ++ [44]) by simp [encB], show (encB (joinC ((List.range i).map f))).length + 1 = (joinC ((List.range i).map f) ++ [44]).length by simp [encB]]
      case' neg =>
        rw [if_neg h0, List.append_nil] at hs
        rw [if_neg h0] at hm
        simp only [am, amo, amc, Nat.reduceAdd, encs_length, List.length_map, decide_true, decide_false, Tree.rec_, Nd.rec_, Word.rec_, Got.rec_, decide_eq_false (show ¬ (0 : Int) < i by omega)]
      all_goals
        refine ⟨hnol, ?_⟩
        refine (h i hlt (σ.setTip τ _) rfl).mono ?_
        rintro v σ' ⟨rfl, rfl⟩
        simp only [am, amo, amc, Nat.reduceAdd, encs_length, List.length_map, decide_true, decide_false, Tree.rec_, Nd.rec_, Word.rec_, Got.rec_]
        refine ⟨_, rfl, ?_⟩
        refine app_tk (by simp [encB_length, big]; simp at hm; omega) (by rw [encB_length, setTip_tip_same]) ?_
        simp only [am, amo, amc, Nat.reduceAdd, encs_length, List.length_map, decide_true, decide_false, Tree.rec_, Nd.rec_, Word.rec_, Got.rec_, setTip_setTip, wi]
        rw [← encB_append, encB_length, encB_length, ← List.length_append, ← hs]
        exact Upd.again ⟨(i + 1, τ), hτ, hlt⟩ (by simp; omega) (by simp [am, List.replicate]) LLLe.rfl OLe.rfl
    · intro hlt
      have hlt : i = n := by simp at hlt; omega
      subst hlt
      simp only [am, amo, amc, Nat.reduceAdd, encs_length, List.length_map, decide_true, decide_false, Tree.rec_, Nd.rec_, Word.rec_, Got.rec_]
      refine ⟨_, _, rfl, ?_⟩
      refine retK_intro rfl (sub_tip hτ) ⟨?_, rfl⟩
      simp [V.erase]

theorem names1_text {n : Nd} {i q : Nat} {σ : Store} (hi : i < n.names.length) (hq : σ.box q = some n.enc) : PCalls prog 78 [.int .i64 (i : Nat), .ptr (.out q) 0] σ fun v σ' => v = .str (n.names[i].text) ∧ σ' = σ := by
  refine fn78.calls ?_
  simp only [slots, ac78, am, amo, amc, Nat.reduceAdd, decide_true, decide_false, Tree.rec_, Nd.rec_, Word.rec_, Got.rec_]
  simp only [am, amo, amc, Nat.reduceAdd, encs_length, List.length_map, decide_true, decide_false, Tree.rec_, Nd.rec_, Word.rec_, Got.rec_, hq, Nd.fl]
  refine idxL_intro (by omega) (wencs_at (show n.names[i]? = some n.names[i] by simp [hi])) ?_
  simp only [am, amo, amc, Nat.reduceAdd, encs_length, List.length_map, decide_true, decide_false, Tree.rec_, Nd.rec_, Word.rec_, Got.rec_, Word.enc]
  refine retK_intro rfl (Store.sub_refl _) ⟨?_, rfl⟩
  simp [V.erase, eraseL]
theorem kids1_text {n : Nd} {i q : Nat} {σ : Store} (hi : i < n.kids.length) (hq : σ.box q = some n.enc) (ih : ∀ m ∈ n.kids, ∀ σ, PCalls prog 19 [.agg m.enc] σ fun v σ' => v = .str m.txt ∧ σ' = σ) :
    PCalls prog 79 [.int .i64 (i : Nat), .ptr (.out q) 0] σ fun v σ' => v = .str (n.kids[i].txt) ∧ σ' = σ := by
  refine fn79.calls ?_
  simp only [slots, ac79, am, amo, amc, Nat.reduceAdd, decide_true, decide_false, Tree.rec_, Nd.rec_, Word.rec_, Got.rec_]
  simp only [am, amo, amc, Nat.reduceAdd, encs_length, List.length_map, decide_true, decide_false, Tree.rec_, Nd.rec_, Word.rec_, Got.rec_, hq, Nd.fl]
  refine idxL_intro (by omega) (nencs_at (show n.kids[i]? = some n.kids[i] by simp [hi])) ?_
  simp only [am, amo, amc, Nat.reduceAdd, encs_length, List.length_map, decide_true, decide_false, Tree.rec_, Nd.rec_, Word.rec_, Got.rec_]
  refine (ih n.kids[i] (List.getElem_mem hi) σ).mono ?_
  rintro v σ ⟨rfl, rfl⟩
  simp only [am, amo, amc, Nat.reduceAdd, encs_length, List.length_map, decide_true, decide_false, Tree.rec_, Nd.rec_, Word.rec_, Got.rec_]
  refine retK_intro rfl (Store.sub_refl _) ⟨?_, rfl⟩
  simp [V.erase, eraseL]
theorem range_map {α : Type} (l : List α) (f : α → List UInt8) (d : List UInt8) : (List.range l.length).map (fun i => if h : i < l.length then f l[i] else d) = l.map f := by
  apply List.ext_getElem?
  intro i
  by_cases h : i < l.length <;> simp [h]
theorem names_text {n : Nd} {σ : Store} (hw : n.wt ≤ big) : PCalls prog 47 [.agg n.enc] σ fun v σ' => v = .str (wtext n.names) ∧ σ' = σ := by
  have h1 := wtext_len n.names
  have h2 : n.names.length ≤ wsum n.names := by
    unfold wsum; generalize n.names = l
    induction l with
    | nil => simp
    | cons w ws ih => simp only [List.map_cons, List.sum_cons, List.length_cons]; omega
  have h3 : wsum n.names ≤ n.wt := by cases n; simp only [Nd.wt, Nd.names]; omega
  have e : joinC ((List.range n.names.length).map (fun i => if h : i < n.names.length then n.names[i].text else [])) = wtext n.names := by
    rw [range_map n.names (fun w => w.text) []]; rfl
  refine fn47.calls ?_
  simp only [slots, ac47, am, amo, amc, Nat.reduceAdd, decide_true, decide_false, Tree.rec_, Nd.rec_, Word.rec_, Got.rec_]
  refine kO_intro fun q hq => ?_
  simp only [am, amo, amc, Nat.reduceAdd, encs_length, List.length_map, decide_true, decide_false, Tree.rec_, Nd.rec_, Word.rec_, Got.rec_, Nd.fl]
  refine (commas_calls (f := fun i => if h : i < n.names.length then n.names[i].text else []) rfl (by omega) (by rw [e]; omega) (fun i hi σ1 h1 => ?_)).mono ?_
  · rw [dif_pos hi]
    exact names1_text hi (by rw [h1]; exact Store.set_same _ _ _)
  rintro v σ' ⟨rfl, rfl⟩
  simp only [am, amo, amc, Nat.reduceAdd, encs_length, List.length_map, decide_true, decide_false, Tree.rec_, Nd.rec_, Word.rec_, Got.rec_]
  refine retK_intro rfl (sub_set hq) ⟨?_, rfl⟩
  rw [e]; simp [V.erase]
theorem kids_text {n : Nd} {σ : Store} (hw : n.wt ≤ big) (ih : ∀ m ∈ n.kids, ∀ σ, PCalls prog 19 [.agg m.enc] σ fun v σ' => v = .str m.txt ∧ σ' = σ) : PCalls prog 48 [.agg n.enc] σ fun v σ' => v = .str (joinC (txts n.kids)) ∧ σ' = σ := by
  have h1 := ktext_len n.kids (txt_lens n.kids)
  have h2 : n.kids.length ≤ wts n.kids := by
    rw [wts_map]; generalize n.kids = l
    induction l with
    | nil => simp
    | cons w ws ih => simp only [List.map_cons, List.sum_cons, List.length_cons]; omega
  have h3 : wts n.kids ≤ n.wt := by cases n; simp only [Nd.wt, Nd.kids]; omega
  have e : joinC ((List.range n.kids.length).map (fun i => if h : i < n.kids.length then n.kids[i].txt else [])) = joinC (txts n.kids) := by
    rw [range_map n.kids (fun w => w.txt) [], txts_map]
  refine fn48.calls ?_
  simp only [slots, ac48, am, amo, amc, Nat.reduceAdd, decide_true, decide_false, Tree.rec_, Nd.rec_, Word.rec_, Got.rec_]
  refine kO_intro fun q hq => ?_
  simp only [am, amo, amc, Nat.reduceAdd, encs_length, List.length_map, decide_true, decide_false, Tree.rec_, Nd.rec_, Word.rec_, Got.rec_, Nd.fl]
  refine (commas_calls (f := fun i => if h : i < n.kids.length then n.kids[i].txt else []) rfl (by omega) (by rw [e]; omega) (fun i hi σ1 h1 => ?_)).mono ?_
  · rw [dif_pos hi]
    exact kids1_text hi (by rw [h1]; exact Store.set_same _ _ _) ih
  rintro v σ' ⟨rfl, rfl⟩
  simp only [am, amo, amc, Nat.reduceAdd, encs_length, List.length_map, decide_true, decide_false, Tree.rec_, Nd.rec_, Word.rec_, Got.rec_]
  refine retK_intro rfl (sub_set hq) ⟨?_, rfl⟩
  rw [e]; simp [V.erase]
theorem first_text {n : Nd} {σ : Store} (ih : ∀ m ∈ n.kids, ∀ σ, PCalls prog 19 [.agg m.enc] σ fun v σ' => v = .str m.txt ∧ σ' = σ) : PCalls prog 49 [.agg n.enc] σ fun v σ' => v = .str (headT (txts n.kids)) ∧ σ' = σ := by
  refine fn49.calls ?_
  simp only [slots, ac49, am, amo, amc, Nat.reduceAdd, decide_true, decide_false, Tree.rec_, Nd.rec_, Word.rec_, Got.rec_]
  simp only [am, amo, amc, Nat.reduceAdd, encs_length, List.length_map, decide_true, decide_false, Tree.rec_, Nd.rec_, Word.rec_, Got.rec_, Nd.fl]
  cases hk : n.kids with
  | nil =>
    simp only [am, amo, amc, Nat.reduceAdd, encs_length, List.length_map, decide_true, decide_false, Tree.rec_, Nd.rec_, Word.rec_, Got.rec_, List.map_nil, List.length_nil, Int.natCast_zero]
    refine retK_intro rfl (Store.sub_refl _) ⟨?_, rfl⟩
    simp [V.erase, eraseL, headT, txts]
  | cons m ms =>
    simp only [am, amo, amc, Nat.reduceAdd, encs_length, List.length_map, decide_true, decide_false, Tree.rec_, Nd.rec_, Word.rec_, Got.rec_, decide_eq_false (show ¬ (((m :: ms).length : Nat) : Int) = 0 by simp; omega), Nd.fl, hk]
    refine idxL_intro (by omega) (c := m.enc) (by simp) ?_
    simp only [am, amo, amc, Nat.reduceAdd, encs_length, List.length_map, decide_true, decide_false, Tree.rec_, Nd.rec_, Word.rec_, Got.rec_]
    refine (ih m (by rw [hk]; simp) σ).mono ?_
    rintro v σ ⟨rfl, rfl⟩
    simp only [am, amo, amc, Nat.reduceAdd, encs_length, List.length_map, decide_true, decide_false, Tree.rec_, Nd.rec_, Word.rec_, Got.rec_]
    refine retK_intro rfl (Store.sub_refl _) ⟨?_, rfl⟩
    simp [V.erase, eraseL, headT, txts]
theorem row_text {n : Nd} {σ : Store} (hw : n.wt ≤ big) (ih : ∀ m ∈ n.kids, ∀ σ, PCalls prog 19 [.agg m.enc] σ fun v σ' => v = .str m.txt ∧ σ' = σ) :
    PCalls prog 50 [.agg n.enc] σ fun v σ' => v = .str (([91] ++ joinC (txts n.kids)) ++ (if 0 < n.names.length then [124] ++ wtext n.names else []) ++ [93]) ∧ σ' = σ := by
  have h1 := ktext_len n.kids (txt_lens n.kids)
  have h2 := wtext_len n.names
  have h3 : wts n.kids + wsum n.names + 4 ≤ n.wt := by cases n; simp only [Nd.wt, Nd.kids, Nd.names]; omega
  refine fn50.calls ?_
  simp only [slots, ac50, am, amo, amc, Nat.reduceAdd, decide_true, decide_false, Tree.rec_, Nd.rec_, Word.rec_, Got.rec_]
  refine (kids_text hw ih).mono ?_
  rintro v σ ⟨rfl, rfl⟩
  simp only [am, amo, amc, Nat.reduceAdd, encs_length, List.length_map, decide_true, decide_false, Tree.rec_, Nd.rec_, Word.rec_, Got.rec_]
  refine ⟨by simp; omega, ?_⟩
  simp only [am, amo, amc, Nat.reduceAdd, encs_length, List.length_map, decide_true, decide_false, Tree.rec_, Nd.rec_, Word.rec_, Got.rec_, Nd.fl]
  by_cases h0 : 0 < n.names.length
  · simp only [am, amo, amc, Nat.reduceAdd, encs_length, List.length_map, decide_true, decide_false, Tree.rec_, Nd.rec_, Word.rec_, Got.rec_, decide_eq_true (show (0 : Int) < n.names.length by omega)]
    refine (names_text hw).mono ?_
    rintro v σ ⟨rfl, rfl⟩
    simp only [am, amo, amc, Nat.reduceAdd, encs_length, List.length_map, decide_true, decide_false, Tree.rec_, Nd.rec_, Word.rec_, Got.rec_, catL_str]
    refine ⟨by simp; omega, by simp; omega, by simp; omega, ?_⟩
    refine retK_intro rfl (Store.sub_refl _) ⟨?_, rfl⟩
    simp [V.erase, eraseL, h0]
  · simp only [am, amo, amc, Nat.reduceAdd, encs_length, List.length_map, decide_true, decide_false, Tree.rec_, Nd.rec_, Word.rec_, Got.rec_, decide_eq_false (show ¬ (0 : Int) < n.names.length by omega)]
    refine ⟨by simp; omega, ?_⟩
    refine retK_intro rfl (Store.sub_refl _) ⟨?_, rfl⟩
    simp [V.erase, eraseL, h0]

theorem text_calls : ∀ (k : Nat) (n : Nd) (σ : Store), n.wt ≤ k → n.wt ≤ big → PCalls prog 19 [.agg n.enc] σ fun v σ' => v = .str n.txt ∧ σ' = σ := by
  intro k
  induction k with
  | zero => intro n σ h _; cases n; simp only [Nd.wt] at h; omega
  | succ k ihk =>
    intro n σ hk hw
    have ih : ∀ m ∈ n.kids, ∀ σ, PCalls prog 19 [.agg m.enc] σ fun v σ' => v = .str m.txt ∧ σ' = σ := fun m hm σ => by
      have h1 := wt_mem hm
      have h2 : wts n.kids + 4 ≤ n.wt := by cases n; simp only [Nd.wt, Nd.kids]; omega
      exact ihk m σ (by omega) (by omega)
    have h1 := ktext_len n.kids (txt_lens n.kids)
    have h2 := wtext_len n.names
    have h3 : n.text.length + wts n.kids + wsum n.names + 4 ≤ n.wt := by cases n; simp only [Nd.wt, Nd.kids, Nd.names, Nd.text]; omega
    have h4 := head_len n.kids (txt_lens n.kids)
    have e : n.txt = if n.kind = 1 ∨ n.kind = 2 then n.text else if n.kind = 3 then [123] ++ wtext n.names ++ [125] else if n.kind = 4 then [40] ++ joinC (txts n.kids) ++ [41] else if n.kind = 5 then [91] ++ joinC (txts n.kids) ++ [93]
        else if n.kind = 6 then n.text ++ [58, 123] ++ wtext n.names ++ [125] else if n.kind = 7 then [35] ++ headT (txts n.kids) else if n.kind = 8 then [43, 40] ++ joinC (txts n.kids) ++ [41] else if n.kind = 9 then [38, 40] ++ joinC (txts n.kids) ++ [41]
        else if n.kind = 10 then ([91] ++ joinC (txts n.kids)) ++ (if 0 < n.names.length then [124] ++ wtext n.names else []) ++ [93] else if n.kind = 11 then n.text ++ [61] ++ headT (txts n.kids) else [] := by cases n; rw [Nd.txt]; rfl
    rw [e]
    refine fn19.calls ?_
    simp only [slots, ac19, am, amo, amc, Nat.reduceAdd, decide_true, decide_false, Tree.rec_, Nd.rec_, Word.rec_, Got.rec_]
    simp only [am, amo, amc, Nat.reduceAdd, encs_length, List.length_map, decide_true, decide_false, Tree.rec_, Nd.rec_, Word.rec_, Got.rec_, Nd.fl]
    by_cases k1 : n.kind = 1
    · simp only [am, amo, amc, Nat.reduceAdd, encs_length, List.length_map, decide_true, decide_false, Tree.rec_, Nd.rec_, Word.rec_, Got.rec_, decide_eq_true k1, Nd.fl]
      refine retK_intro rfl (Store.sub_refl _) ⟨?_, rfl⟩
      simp [V.erase, eraseL, k1]
    simp only [am, amo, amc, Nat.reduceAdd, encs_length, List.length_map, decide_true, decide_false, Tree.rec_, Nd.rec_, Word.rec_, Got.rec_, decide_eq_false k1]
    by_cases k2 : n.kind = 2
    · simp only [am, amo, amc, Nat.reduceAdd, encs_length, List.length_map, decide_true, decide_false, Tree.rec_, Nd.rec_, Word.rec_, Got.rec_, decide_eq_true k2, Nd.fl]
      refine retK_intro rfl (Store.sub_refl _) ⟨?_, rfl⟩
      simp [V.erase, eraseL, k2]
    simp only [am, amo, amc, Nat.reduceAdd, encs_length, List.length_map, decide_true, decide_false, Tree.rec_, Nd.rec_, Word.rec_, Got.rec_, decide_eq_false k2]
    by_cases k3 : n.kind = 3
    · simp only [am, amo, amc, Nat.reduceAdd, encs_length, List.length_map, decide_true, decide_false, Tree.rec_, Nd.rec_, Word.rec_, Got.rec_, decide_eq_true k3]
      refine (names_text hw).mono ?_
      rintro v σ ⟨rfl, rfl⟩
      simp only [am, amo, amc, Nat.reduceAdd, encs_length, List.length_map, decide_true, decide_false, Tree.rec_, Nd.rec_, Word.rec_, Got.rec_]
      refine ⟨by simp; omega, by simp; omega, ?_⟩
      refine retK_intro rfl (Store.sub_refl _) ⟨?_, rfl⟩
      simp [V.erase, eraseL, k3]
    simp only [am, amo, amc, Nat.reduceAdd, encs_length, List.length_map, decide_true, decide_false, Tree.rec_, Nd.rec_, Word.rec_, Got.rec_, decide_eq_false k3]
    by_cases k4 : n.kind = 4
    · simp only [am, amo, amc, Nat.reduceAdd, encs_length, List.length_map, decide_true, decide_false, Tree.rec_, Nd.rec_, Word.rec_, Got.rec_, decide_eq_true k4]
      refine (kids_text hw ih).mono ?_
      rintro v σ ⟨rfl, rfl⟩
      simp only [am, amo, amc, Nat.reduceAdd, encs_length, List.length_map, decide_true, decide_false, Tree.rec_, Nd.rec_, Word.rec_, Got.rec_]
      refine ⟨by simp; omega, by simp; omega, ?_⟩
      refine retK_intro rfl (Store.sub_refl _) ⟨?_, rfl⟩
      simp [V.erase, eraseL, k4]
    simp only [am, amo, amc, Nat.reduceAdd, encs_length, List.length_map, decide_true, decide_false, Tree.rec_, Nd.rec_, Word.rec_, Got.rec_, decide_eq_false k4]
    by_cases k5 : n.kind = 5
    · simp only [am, amo, amc, Nat.reduceAdd, encs_length, List.length_map, decide_true, decide_false, Tree.rec_, Nd.rec_, Word.rec_, Got.rec_, decide_eq_true k5]
      refine (kids_text hw ih).mono ?_
      rintro v σ ⟨rfl, rfl⟩
      simp only [am, amo, amc, Nat.reduceAdd, encs_length, List.length_map, decide_true, decide_false, Tree.rec_, Nd.rec_, Word.rec_, Got.rec_]
      refine ⟨by simp; omega, by simp; omega, ?_⟩
      refine retK_intro rfl (Store.sub_refl _) ⟨?_, rfl⟩
      simp [V.erase, eraseL, k5]
    simp only [am, amo, amc, Nat.reduceAdd, encs_length, List.length_map, decide_true, decide_false, Tree.rec_, Nd.rec_, Word.rec_, Got.rec_, decide_eq_false k5]
    by_cases k6 : n.kind = 6
    · simp only [am, amo, amc, Nat.reduceAdd, encs_length, List.length_map, decide_true, decide_false, Tree.rec_, Nd.rec_, Word.rec_, Got.rec_, decide_eq_true k6, Nd.fl]
      refine ⟨by simp; omega, ?_⟩
      refine CallD.intro (names_text hw) ?_
      simp only [am, amo, amc, Nat.reduceAdd, encs_length, List.length_map, decide_true, decide_false, Tree.rec_, Nd.rec_, Word.rec_, Got.rec_, Nd.fl]
      refine ⟨by simp; omega, by simp; omega, ?_⟩
      refine retK_intro rfl (Store.sub_refl _) ⟨?_, rfl⟩
      simp [V.erase, eraseL, k6]
    simp only [am, amo, amc, Nat.reduceAdd, encs_length, List.length_map, decide_true, decide_false, Tree.rec_, Nd.rec_, Word.rec_, Got.rec_, decide_eq_false k6]
    by_cases k7 : n.kind = 7
    · simp only [am, amo, amc, Nat.reduceAdd, encs_length, List.length_map, decide_true, decide_false, Tree.rec_, Nd.rec_, Word.rec_, Got.rec_, decide_eq_true k7]
      refine (first_text ih).mono ?_
      rintro v σ ⟨rfl, rfl⟩
      simp only [am, amo, amc, Nat.reduceAdd, encs_length, List.length_map, decide_true, decide_false, Tree.rec_, Nd.rec_, Word.rec_, Got.rec_]
      refine ⟨by simp; omega, ?_⟩
      refine retK_intro rfl (Store.sub_refl _) ⟨?_, rfl⟩
      simp [V.erase, eraseL, k7]
    simp only [am, amo, amc, Nat.reduceAdd, encs_length, List.length_map, decide_true, decide_false, Tree.rec_, Nd.rec_, Word.rec_, Got.rec_, decide_eq_false k7]
    by_cases k8 : n.kind = 8
    · simp only [am, amo, amc, Nat.reduceAdd, encs_length, List.length_map, decide_true, decide_false, Tree.rec_, Nd.rec_, Word.rec_, Got.rec_, decide_eq_true k8]
      refine (kids_text hw ih).mono ?_
      rintro v σ ⟨rfl, rfl⟩
      simp only [am, amo, amc, Nat.reduceAdd, encs_length, List.length_map, decide_true, decide_false, Tree.rec_, Nd.rec_, Word.rec_, Got.rec_]
      refine ⟨by simp; omega, by simp; omega, ?_⟩
      refine retK_intro rfl (Store.sub_refl _) ⟨?_, rfl⟩
      simp [V.erase, eraseL, k8]
    simp only [am, amo, amc, Nat.reduceAdd, encs_length, List.length_map, decide_true, decide_false, Tree.rec_, Nd.rec_, Word.rec_, Got.rec_, decide_eq_false k8]
    by_cases k9 : n.kind = 9
    · simp only [am, amo, amc, Nat.reduceAdd, encs_length, List.length_map, decide_true, decide_false, Tree.rec_, Nd.rec_, Word.rec_, Got.rec_, decide_eq_true k9]
      refine (kids_text hw ih).mono ?_
      rintro v σ ⟨rfl, rfl⟩
      simp only [am, amo, amc, Nat.reduceAdd, encs_length, List.length_map, decide_true, decide_false, Tree.rec_, Nd.rec_, Word.rec_, Got.rec_]
      refine ⟨by simp; omega, by simp; omega, ?_⟩
      refine retK_intro rfl (Store.sub_refl _) ⟨?_, rfl⟩
      simp [V.erase, eraseL, k9]
    simp only [am, amo, amc, Nat.reduceAdd, encs_length, List.length_map, decide_true, decide_false, Tree.rec_, Nd.rec_, Word.rec_, Got.rec_, decide_eq_false k9]
    by_cases k10 : n.kind = 10
    · simp only [am, amo, amc, Nat.reduceAdd, encs_length, List.length_map, decide_true, decide_false, Tree.rec_, Nd.rec_, Word.rec_, Got.rec_, decide_eq_true k10]
      refine (row_text hw ih).mono ?_
      rintro v σ ⟨rfl, rfl⟩
      simp only [am, amo, amc, Nat.reduceAdd, encs_length, List.length_map, decide_true, decide_false, Tree.rec_, Nd.rec_, Word.rec_, Got.rec_]
      refine retK_intro rfl (Store.sub_refl _) ⟨?_, rfl⟩
      simp [V.erase, eraseL, k10]
    simp only [am, amo, amc, Nat.reduceAdd, encs_length, List.length_map, decide_true, decide_false, Tree.rec_, Nd.rec_, Word.rec_, Got.rec_, decide_eq_false k10]
    by_cases k11 : n.kind = 11
    · simp only [am, amo, amc, Nat.reduceAdd, encs_length, List.length_map, decide_true, decide_false, Tree.rec_, Nd.rec_, Word.rec_, Got.rec_, decide_eq_true k11, Nd.fl]
      refine ⟨by simp; omega, ?_⟩
      refine CallD.intro (first_text ih) ?_
      simp only [am, amo, amc, Nat.reduceAdd, encs_length, List.length_map, decide_true, decide_false, Tree.rec_, Nd.rec_, Word.rec_, Got.rec_, Nd.fl]
      refine ⟨by simp; omega, ?_⟩
      refine retK_intro rfl (Store.sub_refl _) ⟨?_, rfl⟩
      simp [V.erase, eraseL, k11]
    simp only [am, amo, amc, Nat.reduceAdd, encs_length, List.length_map, decide_true, decide_false, Tree.rec_, Nd.rec_, Word.rec_, Got.rec_, decide_eq_false k11]
    refine retK_intro rfl (Store.sub_refl _) ⟨?_, rfl⟩
    simp [V.erase, eraseL, k1, k2, k3, k4, k5, k6, k7, k8, k9, k10, k11]
end Go.Proofs.Try

/-
  What might have been read; what is the same but for its place.
-/
namespace Go.Am
def rightW (ws : List Word) : Bool := ws.all fun w => nameR w.text
def Nd.leafQ (n : Nd) : Bool := nameR n.text && decide ((n.names.length : Int) + n.kids.length = 0)
def Nd.bareQ (n : Nd) : Bool := decide (n.text = []) && decide ((n.names.length : Int) = 0)
def Nd.ruleQ (n : Nd) : Bool := decide (n.kind = 6) && nameR n.text && rightW n.names && decide ((n.kids.length : Int) = 0)
mutual
def Nd.constQ : Nd → Bool
  | .mk k p t ws ks =>
    if k = 2 then (Nd.mk k p t ws ks).leafQ
    else if k = 3 then decide (t = []) && rightW ws && decide ((ks.length : Int) = 0)
    else if k = 4 then (Nd.mk k p t ws ks).bareQ && decide ((0 : Int) < ks.length) && constsQ ks
    else if k = 5 then (Nd.mk k p t ws ks).bareQ && ks.all Nd.ruleQ
    else false
def constsQ : List Nd → Bool
  | [] => true
  | n :: ns => n.constQ && constsQ ns
end
theorem constsQ_all : ∀ l, constsQ l = l.all Nd.constQ
  | [] => rfl
  | n :: ns => by simp [constsQ, constsQ_all ns]
theorem Nd.constQ_eq (n : Nd) : n.constQ = if n.kind = 2 then n.leafQ else if n.kind = 3 then decide (n.text = []) && rightW n.names && decide ((n.kids.length : Int) = 0)
    else if n.kind = 4 then n.bareQ && decide ((0 : Int) < n.kids.length) && n.kids.all Nd.constQ else if n.kind = 5 then n.bareQ && n.kids.all Nd.ruleQ else false := by
  cases n; rw [← constsQ_all]; rw [Nd.constQ]; rfl
def headQ (f : Nd → Bool) : List Nd → Bool
  | [] => false
  | n :: _ => f n
mutual
def Nd.labelQ : Nd → Bool
  | .mk k p t ws ks =>
    if k = 1 then (Nd.mk k p t ws ks).leafQ
    else if k = 7 then (Nd.mk k p t ws ks).bareQ && decide ((ks.length : Int) = 1) && headQ Nd.constQ ks
    else if k = 8 ∨ k = 9 then (Nd.mk k p t ws ks).bareQ && decide ((0 : Int) < ks.length) && labelsQ ks
    else false
def labelsQ : List Nd → Bool
  | [] => true
  | n :: ns => n.labelQ && labelsQ ns
end
theorem labelsQ_all : ∀ l, labelsQ l = l.all Nd.labelQ
  | [] => rfl
  | n :: ns => by simp [labelsQ, labelsQ_all ns]
theorem Nd.labelQ_eq (n : Nd) : n.labelQ = if n.kind = 1 then n.leafQ else if n.kind = 7 then n.bareQ && decide ((n.kids.length : Int) = 1) && headQ Nd.constQ n.kids
    else if n.kind = 8 ∨ n.kind = 9 then n.bareQ && decide ((0 : Int) < n.kids.length) && n.kids.all Nd.labelQ else false := by
  cases n; rw [← labelsQ_all]; rw [Nd.labelQ]; rfl
def Nd.atomQ (n : Nd) : Bool := (decide (n.kind = 1) || decide (n.kind = 7)) && n.labelQ
def Nd.fieldQ (n : Nd) : Bool := decide (n.kind = 11) && nameR n.text && decide ((n.names.length : Int) = 0) && decide ((n.kids.length : Int) = 1) && headQ Nd.atomQ n.kids
def Nd.rowQ (n : Nd) : Bool :=
  if n.kind = 10 then decide (n.text = []) && decide ((n.names.length : Int) ≤ 1) && rightW n.names && n.kids.all Nd.fieldQ else decide (n.kind = 1) && n.labelQ
def sameW : List Word → List Word → Bool
  | [], [] => true
  | w :: ws, u :: us => decide (w.text = u.text) && sameW ws us
  | _, _ => false
mutual
def Nd.sameQ : Nd → Nd → Bool
  | .mk k _ t ws ks, n => decide (k = n.kind) && decide (t = n.text) && sameW ws n.names && samesQ ks n.kids
def samesQ : List Nd → List Nd → Bool
  | [], [] => true
  | n :: ns, m :: ms => n.sameQ m && samesQ ns ms
  | _, _ => false
end
theorem Nd.sameQ_eq (n m : Nd) : n.sameQ m = (decide (n.kind = m.kind) && decide (n.text = m.text) && sameW n.names m.names && samesQ n.kids m.kids) := by cases n; rw [Nd.sameQ]; rfl
theorem sameW_refl : ∀ l, sameW l l = true
  | [] => rfl
  | w :: ws => by simp [sameW, sameW_refl ws]
mutual
theorem Nd.sameQ_refl : ∀ n : Nd, n.sameQ n = true
  | .mk k p t ws ks => by simp [Nd.sameQ, Nd.kind, Nd.text, Nd.names, Nd.kids, sameW_refl, samesQ_refl ks]
theorem samesQ_refl : ∀ l : List Nd, samesQ l l = true
  | [] => by simp [samesQ]
  | n :: ns => by simp [samesQ, Nd.sameQ_refl n, samesQ_refl ns]
end
theorem sameW_len : ∀ {a b : List Word}, sameW a b = true → a.length = b.length
  | [], [], _ => rfl
  | [], _ :: _, h => by simp [sameW] at h
  | _ :: _, [], h => by simp [sameW] at h
  | _ :: ws, _ :: us, h => by simp only [sameW, Bool.and_eq_true] at h; simp [sameW_len h.2]
theorem samesQ_len : ∀ {a b : List Nd}, samesQ a b = true → a.length = b.length
  | [], [], _ => rfl
  | [], _ :: _, h => by simp [samesQ] at h
  | _ :: _, [], h => by simp [samesQ] at h
  | _ :: ws, _ :: us, h => by simp only [samesQ, Bool.and_eq_true] at h; simp [samesQ_len h.2]
theorem sameW_at : ∀ {a b : List Word} {i : Nat} (ha : i < a.length) (hb : i < b.length), a.length = b.length → sameW (a.take i) (b.take i) = true → sameW (a.take (i + 1)) (b.take (i + 1)) = decide (a[i].text = b[i].text) ∧ (decide (a[i].text = b[i].text) = false → sameW a b = false)
  | w :: ws, u :: us, 0, _, _, _, _ => by simp [sameW]; intro h1 h2; exact absurd h2 h1
  | w :: ws, u :: us, i + 1, ha, hb, hl, h => by
    simp only [List.take_succ_cons, sameW, Bool.and_eq_true] at h ⊢
    have := sameW_at (a := ws) (b := us) (i := i) (by simpa using ha) (by simpa using hb) (by simpa using hl) h.2
    simp only [h.1, Bool.true_and, List.getElem_cons_succ]
    exact this
  | [], _, _, ha, _, _, _ => by simp at ha
  | _ :: _, [], _, _, hb, _, _ => by simp at hb
theorem samesQ_at : ∀ {a b : List Nd} {i : Nat} (ha : i < a.length) (hb : i < b.length), a.length = b.length → samesQ (a.take i) (b.take i) = true → samesQ (a.take (i + 1)) (b.take (i + 1)) = a[i].sameQ b[i] ∧ (a[i].sameQ b[i] = false → samesQ a b = false)
  | w :: ws, u :: us, 0, _, _, _, _ => by simp [samesQ]; intro h1 h2; rw [h1] at h2; simp at h2
  | w :: ws, u :: us, i + 1, ha, hb, hl, h => by
    simp only [List.take_succ_cons, samesQ, Bool.and_eq_true] at h ⊢
    have := samesQ_at (a := ws) (b := us) (i := i) (by simpa using ha) (by simpa using hb) (by simpa using hl) h.2
    simp only [h.1, Bool.true_and, List.getElem_cons_succ]
    exact this
  | [], _, _, ha, _, _, _ => by simp at ha
  | _ :: _, [], _, _, hb, _, _ => by simp at hb
end Go.Am

/-
  What might have been read, as the program tells it.
-/
namespace Go.Proofs.Try
open Go.Am
set_option maxRecDepth 4000
set_option maxHeartbeats 4000000

theorem all_take {α : Type} {l : List α} {i : Nat} {f : α → Bool} (h : i < l.length) : (l.take (i + 1)).all f = ((l.take i).all f && f l[i]) := by
  rw [take_succ_of (List.getElem?_eq_getElem h), List.all_append]; simp only [List.all_cons, List.all_nil, Bool.and_true]
theorem all_no {α : Type} {l : List α} {i : Nat} {f : α → Bool} (h : i < l.length) (hf : f l[i] = false) : l.all f = false := by
  rw [List.all_eq_false]; exact ⟨l[i], List.getElem_mem h, by simp [hf]⟩
def inv40 (l : List Word) (σ : Store) (i : Nat) : St :=
  ⟨[.sl .no 2 (l.map Word.enc)] ++ List.replicate 4 .any ++ [.sl .no 2 (l.map Word.enc), .int .i64 l.length, .int .i64 (i : Nat)] ++ List.replicate 8 .any, [], σ⟩
theorem rightW_calls (l : List Word) (σ : Store) (hb : l.length ≤ big) : PCalls prog 40 [.sl .no 2 (l.map Word.enc)] σ fun v σ' => v = .bool (rightW l) ∧ σ' = σ := by
  simp only [big] at hb
  refine fn40.calls ?_
  simp only [slots, ac40, am, amo, amc, Nat.reduceAdd, decide_true, decide_false, Tree.rec_, Nd.rec_, Word.rec_, Got.rec_, Nd.fl]
  refine vc_loop (fun p : { i : Nat // i ≤ l.length ∧ (l.take i).all (fun w => nameR w.text) = true } => inv40 l σ p.1) (fun p => l.length - p.1) ?_ ?_
  · refine Upd.enter ⟨0, by simp, by simp⟩ ?_ LLLe.rfl OLe.rfl
    simp [inv40, List.replicate, am]
  · rintro ⟨i, hi, ha⟩
    simp only [inv40, List.replicate, am]
    refine vcIf_split ?_ ?_
    · intro hlt
      have hlt : i < l.length := by simpa using hlt
      simp only [am, amo, amc, Nat.reduceAdd, encs_length, List.length_map, decide_true, decide_false, Tree.rec_, Nd.rec_, Word.rec_, Got.rec_, Nd.fl]
      refine idxL_intro (by omega) (wencs_at (List.getElem?_eq_getElem hlt)) ?_
      simp only [am, amo, amc, Nat.reduceAdd, encs_length, List.length_map, decide_true, decide_false, Tree.rec_, Nd.rec_, Word.rec_, Got.rec_, Nd.fl, Word.enc]
      refine (right_calls l[i].text σ).mono ?_
      rintro v σ ⟨rfl, rfl⟩
      cases hg : nameR l[i].text
      · simp only [am, amo, amc, Nat.reduceAdd, encs_length, List.length_map, decide_true, decide_false, Tree.rec_, Nd.rec_, Word.rec_, Got.rec_, Nd.fl]
        refine retK_intro rfl (Store.sub_refl _) ⟨?_, rfl⟩
        rw [show rightW l = false from all_no (f := fun (w : Word) => nameR w.text) hlt hg]; rfl
      · simp only [am, amo, amc, Nat.reduceAdd, encs_length, List.length_map, decide_true, decide_false, Tree.rec_, Nd.rec_, Word.rec_, Got.rec_, Nd.fl]
        rw [wrap_i64 (by omega) (by omega)]
        exact Upd.againD ⟨i + 1, hlt, by rw [all_take hlt, ha, hg]; rfl⟩ (by simp; omega) (by simp [List.replicate, am]) (by simp [am]) OLe.rfl rfl rfl
    · intro hlt
      have hlt : i = l.length := by simp at hlt; omega
      subst hlt
      rw [List.take_length] at ha
      simp only [am, amo, amc, Nat.reduceAdd, encs_length, List.length_map, decide_true, decide_false, Tree.rec_, Nd.rec_, Word.rec_, Got.rec_, Nd.fl]
      refine retK_intro rfl (Store.sub_refl _) ⟨?_, rfl⟩
      simp [V.erase, eraseL, rightW, ha]
def inv42 (g : FuncId) (l : List Nd) (σ : Store) (i : Nat) : St :=
  ⟨[.sl .no 5 (l.map Nd.enc), .fn (.func g) [] []] ++ List.replicate 5 .any ++ [.sl .no 5 (l.map Nd.enc), .int .i64 l.length, .int .i64 (i : Nat)] ++ List.replicate 8 .any, [], σ⟩
theorem all_calls {g : FuncId} {f : Nd → Bool} (l : List Nd) (σ : Store) (hb : l.length ≤ big) (h : ∀ n ∈ l, PCalls prog g [.agg n.enc] σ fun v σ' => v = .bool (f n) ∧ σ' = σ) : PCalls prog 42 [.sl .no 5 (l.map Nd.enc), .fn (.func g) [] []] σ fun v σ' => v = .bool (l.all f) ∧ σ' = σ := by
  simp only [big] at hb
  refine fn42.calls ?_
  simp only [slots, ac42, am, amo, amc, Nat.reduceAdd, decide_true, decide_false, Tree.rec_, Nd.rec_, Word.rec_, Got.rec_, Nd.fl]
  refine vc_loop (fun p : { i : Nat // i ≤ l.length ∧ (l.take i).all f = true } => inv42 g l σ p.1) (fun p => l.length - p.1) ?_ ?_
  · refine Upd.enter ⟨0, by simp, by simp⟩ ?_ LLLe.rfl OLe.rfl
    simp [inv42, List.replicate, am]
  · rintro ⟨i, hi, ha⟩
    simp only [inv42, List.replicate, am]
    refine vcIf_split ?_ ?_
    · intro hlt
      have hlt : i < l.length := by simpa using hlt
      simp only [am, amo, amc, Nat.reduceAdd, encs_length, List.length_map, decide_true, decide_false, Tree.rec_, Nd.rec_, Word.rec_, Got.rec_, Nd.fl]
      refine idxL_intro (by omega) (nencs_at (List.getElem?_eq_getElem hlt)) ?_
      simp only [am, amo, amc, Nat.reduceAdd, encs_length, List.length_map, decide_true, decide_false, Tree.rec_, Nd.rec_, Word.rec_, Got.rec_, Nd.fl, Nd.r_ov]
      refine (h l[i] (List.getElem_mem hlt)).mono ?_
      rintro v σ ⟨rfl, rfl⟩
      cases hg : f l[i]
      · simp only [am, amo, amc, Nat.reduceAdd, encs_length, List.length_map, decide_true, decide_false, Tree.rec_, Nd.rec_, Word.rec_, Got.rec_, Nd.fl]
        refine retK_intro rfl (Store.sub_refl _) ⟨?_, rfl⟩
        simp [V.erase, eraseL, all_no hlt hg]
      · simp only [am, amo, amc, Nat.reduceAdd, encs_length, List.length_map, decide_true, decide_false, Tree.rec_, Nd.rec_, Word.rec_, Got.rec_, Nd.fl]
        rw [wrap_i64 (by omega) (by omega)]
        exact Upd.againD ⟨i + 1, hlt, by rw [all_take hlt, ha, hg]; rfl⟩ (by simp; omega) (by simp [List.replicate, am]) (by simp [am]) OLe.rfl rfl rfl
    · intro hlt
      have hlt : i = l.length := by simp at hlt; omega
      subst hlt
      rw [List.take_length] at ha
      simp only [am, amo, amc, Nat.reduceAdd, encs_length, List.length_map, decide_true, decide_false, Tree.rec_, Nd.rec_, Word.rec_, Got.rec_, Nd.fl]
      refine retK_intro rfl (Store.sub_refl _) ⟨?_, rfl⟩
      simp [V.erase, eraseL, ha]
theorem leaf_calls (n : Nd) (σ : Store) (hb : n.names.length + n.kids.length ≤ big) : PCalls prog 39 [.agg n.enc] σ fun v σ' => v = .bool n.leafQ ∧ σ' = σ := by
  simp only [big] at hb
  refine fn39.calls ?_
  simp only [slots, ac39, am, amo, amc, Nat.reduceAdd, decide_true, decide_false, Tree.rec_, Nd.rec_, Word.rec_, Got.rec_, Nd.fl]
  refine (right_calls n.text σ).mono ?_
  rintro v σ ⟨rfl, rfl⟩
  simp only [am, amo, amc, Nat.reduceAdd, encs_length, List.length_map, decide_true, decide_false, Tree.rec_, Nd.rec_, Word.rec_, Got.rec_, Nd.fl, wrap_i64 (x := (n.names.length : Int) + n.kids.length) (by omega) (by omega)]
  repeat' (first
    | (refine gL_split (fun h => ?_) (fun h => ?_) <;> simp only [am, amo, amc, h, Nat.reduceAdd, encs_length, List.length_map, decide_true, decide_false, Tree.rec_, Nd.rec_, Word.rec_, Got.rec_, Nd.fl, wrap_i64 (x := (n.names.length : Int) + n.kids.length) (by omega) (by omega)])
    | (refine vcIf_split (fun h => ?_) (fun h => ?_) <;> simp only [am, amo, amc, h, Nat.reduceAdd, encs_length, List.length_map, decide_true, decide_false, Tree.rec_, Nd.rec_, Word.rec_, Got.rec_, Nd.fl, wrap_i64 (x := (n.names.length : Int) + n.kids.length) (by omega) (by omega)])
    | (refine pickL_split (fun h => ?_) (fun h => ?_) <;> simp only [am, amo, amc, h, Nat.reduceAdd, encs_length, List.length_map, decide_true, decide_false, Tree.rec_, Nd.rec_, Word.rec_, Got.rec_, Nd.fl, wrap_i64 (x := (n.names.length : Int) + n.kids.length) (by omega) (by omega)])
  )
  all_goals refine retK_intro rfl (Store.sub_refl _) ⟨?_, rfl⟩
  all_goals simp_all [V.erase, eraseL, Nd.leafQ]
  all_goals (try omega)
theorem bare_calls (n : Nd) (σ : Store) : PCalls prog 41 [.agg n.enc] σ fun v σ' => v = .bool n.bareQ ∧ σ' = σ := by
  refine fn41.calls ?_
  simp only [slots, ac41, am, amo, amc, Nat.reduceAdd, decide_true, decide_false, Tree.rec_, Nd.rec_, Word.rec_, Got.rec_, Nd.fl]
  repeat' (first
    | (refine gL_split (fun h => ?_) (fun h => ?_) <;> simp only [am, amo, amc, h, Nat.reduceAdd, encs_length, List.length_map, decide_true, decide_false, Tree.rec_, Nd.rec_, Word.rec_, Got.rec_, Nd.fl])
    | (refine vcIf_split (fun h => ?_) (fun h => ?_) <;> simp only [am, amo, amc, h, Nat.reduceAdd, encs_length, List.length_map, decide_true, decide_false, Tree.rec_, Nd.rec_, Word.rec_, Got.rec_, Nd.fl])
    | (refine pickL_split (fun h => ?_) (fun h => ?_) <;> simp only [am, amo, amc, h, Nat.reduceAdd, encs_length, List.length_map, decide_true, decide_false, Tree.rec_, Nd.rec_, Word.rec_, Got.rec_, Nd.fl])
  )
  all_goals refine retK_intro rfl (Store.sub_refl _) ⟨?_, rfl⟩
  all_goals simp_all [V.erase, eraseL, Nd.bareQ]
  all_goals (try omega)

theorem wt_names (n : Nd) : n.names.length + n.kids.length + 4 ≤ n.wt := by
  have h2 : n.names.length ≤ wsum n.names := by
    unfold wsum; generalize n.names = l
    induction l with
    | nil => simp
    | cons w ws ih => simp only [List.map_cons, List.sum_cons, List.length_cons]; omega
  have h3 : n.kids.length ≤ wts n.kids := by
    rw [wts_map]; generalize n.kids = l
    induction l with
    | nil => simp
    | cons w ws ih => simp only [List.map_cons, List.sum_cons, List.length_cons]; omega
  have h1 : wts n.kids + wsum n.names + 4 ≤ n.wt := by cases n; simp only [Nd.wt, Nd.kids, Nd.names]; omega
  omega
theorem rule_is_calls (n : Nd) (σ : Store) (hw : n.wt ≤ big) : PCalls prog 43 [.agg n.enc] σ fun v σ' => v = .bool n.ruleQ ∧ σ' = σ := by
  have hn := wt_names n
  refine fn43.calls ?_
  simp only [slots, ac43, am, amo, amc, Nat.reduceAdd, decide_true, decide_false, Tree.rec_, Nd.rec_, Word.rec_, Got.rec_, Nd.fl]
  repeat' (first
    | (refine gL_split (fun h => ?_) (fun h => ?_) <;> simp only [am, amo, amc, h, Nat.reduceAdd, encs_length, List.length_map, decide_true, decide_false, Tree.rec_, Nd.rec_, Word.rec_, Got.rec_, Nd.fl])
    | (refine vcIf_split (fun h => ?_) (fun h => ?_) <;> simp only [am, amo, amc, h, Nat.reduceAdd, encs_length, List.length_map, decide_true, decide_false, Tree.rec_, Nd.rec_, Word.rec_, Got.rec_, Nd.fl])
    | (refine pickL_split (fun h => ?_) (fun h => ?_) <;> simp only [am, amo, amc, h, Nat.reduceAdd, encs_length, List.length_map, decide_true, decide_false, Tree.rec_, Nd.rec_, Word.rec_, Got.rec_, Nd.fl])
    | (refine (right_calls n.text σ).mono ?_; rintro v _ ⟨rfl, rfl⟩; simp only [am])
    | (refine (rightW_calls n.names _ (by omega)).mono ?_; rintro v _ ⟨rfl, rfl⟩; simp only [am])
  )
  all_goals refine retK_intro rfl (Store.sub_refl _) ⟨?_, rfl⟩
  all_goals simp_all [V.erase, eraseL, Nd.ruleQ]
  all_goals (try omega)
theorem const_is_calls : ∀ (k : Nat) (n : Nd) (σ : Store), n.wt ≤ k → n.wt ≤ big → PCalls prog 14 [.agg n.enc] σ fun v σ' => v = .bool n.constQ ∧ σ' = σ := by
  intro k
  induction k with
  | zero => intro n σ h _; cases n; simp only [Nd.wt] at h; omega
  | succ k ihk =>
    intro n σ hk hw
    have hn := wt_names n
    have hkid : ∀ m ∈ n.kids, m.wt + 5 ≤ n.wt := fun m hm => by
      have h1 := wt_mem hm
      have h2 : wts n.kids + 4 ≤ n.wt := by cases n; simp only [Nd.wt, Nd.kids]; omega
      omega
    have hall : PCalls prog 42 [.sl .no 5 (n.kids.map Nd.enc), .fn (.func 14) [] []] σ fun v σ' => v = .bool (n.kids.all Nd.constQ) ∧ σ' = σ :=
      all_calls n.kids σ (by omega) fun m hm => ihk m σ (by have := hkid m hm; omega) (by have := hkid m hm; omega)
    have hrule : PCalls prog 42 [.sl .no 5 (n.kids.map Nd.enc), .fn (.func 43) [] []] σ fun v σ' => v = .bool (n.kids.all Nd.ruleQ) ∧ σ' = σ :=
      all_calls n.kids σ (by omega) fun m hm => rule_is_calls m σ (by have := hkid m hm; omega)
    rw [Nd.constQ_eq]
    refine fn14.calls ?_
    simp only [slots, ac14, am, amo, amc, Nat.reduceAdd, decide_true, decide_false, Tree.rec_, Nd.rec_, Word.rec_, Got.rec_, Nd.fl]
    by_cases k2 : n.kind = 2
    · simp only [am, amo, amc, Nat.reduceAdd, encs_length, List.length_map, decide_true, decide_false, Tree.rec_, Nd.rec_, Word.rec_, Got.rec_, Nd.fl, decide_eq_true k2]
      refine (leaf_calls n σ (by omega)).mono ?_
      rintro v σ ⟨rfl, rfl⟩
      simp only [am, amo, amc, Nat.reduceAdd, encs_length, List.length_map, decide_true, decide_false, Tree.rec_, Nd.rec_, Word.rec_, Got.rec_, Nd.fl]
      refine retK_intro rfl (Store.sub_refl _) ⟨?_, rfl⟩
      simp [V.erase, eraseL, k2]
    simp only [am, amo, amc, Nat.reduceAdd, encs_length, List.length_map, decide_true, decide_false, Tree.rec_, Nd.rec_, Word.rec_, Got.rec_, Nd.fl, decide_eq_false k2]
    by_cases k3 : n.kind = 3
    · simp only [am, amo, amc, Nat.reduceAdd, encs_length, List.length_map, decide_true, decide_false, Tree.rec_, Nd.rec_, Word.rec_, Got.rec_, Nd.fl, decide_eq_true k3]
      repeat' (first
        | (refine gL_split (fun h => ?_) (fun h => ?_) <;> simp only [am, amo, amc, h, Nat.reduceAdd, encs_length, List.length_map, decide_true, decide_false, Tree.rec_, Nd.rec_, Word.rec_, Got.rec_, Nd.fl])
        | (refine vcIf_split (fun h => ?_) (fun h => ?_) <;> simp only [am, amo, amc, h, Nat.reduceAdd, encs_length, List.length_map, decide_true, decide_false, Tree.rec_, Nd.rec_, Word.rec_, Got.rec_, Nd.fl])
        | (refine pickL_split (fun h => ?_) (fun h => ?_) <;> simp only [am, amo, amc, h, Nat.reduceAdd, encs_length, List.length_map, decide_true, decide_false, Tree.rec_, Nd.rec_, Word.rec_, Got.rec_, Nd.fl])
        | (refine (rightW_calls n.names _ (by omega)).mono ?_; rintro v _ ⟨rfl, rfl⟩; simp only [am])
      )
      all_goals refine retK_intro rfl (Store.sub_refl _) ⟨?_, rfl⟩
      all_goals simp_all [V.erase, eraseL]
      all_goals (try omega)
    simp only [am, amo, amc, Nat.reduceAdd, encs_length, List.length_map, decide_true, decide_false, Tree.rec_, Nd.rec_, Word.rec_, Got.rec_, Nd.fl, decide_eq_false k3]
    by_cases k4 : n.kind = 4
    · simp only [am, amo, amc, Nat.reduceAdd, encs_length, List.length_map, decide_true, decide_false, Tree.rec_, Nd.rec_, Word.rec_, Got.rec_, Nd.fl, decide_eq_true k4]
      refine (bare_calls n σ).mono ?_
      rintro v σ ⟨rfl, rfl⟩
      simp only [am, amo, amc, Nat.reduceAdd, encs_length, List.length_map, decide_true, decide_false, Tree.rec_, Nd.rec_, Word.rec_, Got.rec_, Nd.fl]
      repeat' (first
        | (refine gL_split (fun h => ?_) (fun h => ?_) <;> simp only [am, amo, amc, h, Nat.reduceAdd, encs_length, List.length_map, decide_true, decide_false, Tree.rec_, Nd.rec_, Word.rec_, Got.rec_, Nd.fl])
        | (refine vcIf_split (fun h => ?_) (fun h => ?_) <;> simp only [am, amo, amc, h, Nat.reduceAdd, encs_length, List.length_map, decide_true, decide_false, Tree.rec_, Nd.rec_, Word.rec_, Got.rec_, Nd.fl])
        | (refine pickL_split (fun h => ?_) (fun h => ?_) <;> simp only [am, amo, amc, h, Nat.reduceAdd, encs_length, List.length_map, decide_true, decide_false, Tree.rec_, Nd.rec_, Word.rec_, Got.rec_, Nd.fl])
        | (refine hall.mono ?_; rintro v _ ⟨rfl, rfl⟩; simp only [am])
      )
      all_goals refine retK_intro rfl (Store.sub_refl _) ⟨?_, rfl⟩
      all_goals simp_all [V.erase, eraseL]
      all_goals (try omega)
    simp only [am, amo, amc, Nat.reduceAdd, encs_length, List.length_map, decide_true, decide_false, Tree.rec_, Nd.rec_, Word.rec_, Got.rec_, Nd.fl, decide_eq_false k4]
    by_cases k5 : n.kind = 5
    · simp only [am, amo, amc, Nat.reduceAdd, encs_length, List.length_map, decide_true, decide_false, Tree.rec_, Nd.rec_, Word.rec_, Got.rec_, Nd.fl, decide_eq_true k5]
      refine (bare_calls n σ).mono ?_
      rintro v σ ⟨rfl, rfl⟩
      simp only [am, amo, amc, Nat.reduceAdd, encs_length, List.length_map, decide_true, decide_false, Tree.rec_, Nd.rec_, Word.rec_, Got.rec_, Nd.fl]
      repeat' (first
        | (refine gL_split (fun h => ?_) (fun h => ?_) <;> simp only [am, amo, amc, h, Nat.reduceAdd, encs_length, List.length_map, decide_true, decide_false, Tree.rec_, Nd.rec_, Word.rec_, Got.rec_, Nd.fl])
        | (refine vcIf_split (fun h => ?_) (fun h => ?_) <;> simp only [am, amo, amc, h, Nat.reduceAdd, encs_length, List.length_map, decide_true, decide_false, Tree.rec_, Nd.rec_, Word.rec_, Got.rec_, Nd.fl])
        | (refine pickL_split (fun h => ?_) (fun h => ?_) <;> simp only [am, amo, amc, h, Nat.reduceAdd, encs_length, List.length_map, decide_true, decide_false, Tree.rec_, Nd.rec_, Word.rec_, Got.rec_, Nd.fl])
        | (refine hrule.mono ?_; rintro v _ ⟨rfl, rfl⟩; simp only [am])
      )
      all_goals refine retK_intro rfl (Store.sub_refl _) ⟨?_, rfl⟩
      all_goals simp_all [V.erase, eraseL]
      all_goals (try omega)
    simp only [am, amo, amc, Nat.reduceAdd, encs_length, List.length_map, decide_true, decide_false, Tree.rec_, Nd.rec_, Word.rec_, Got.rec_, Nd.fl, decide_eq_false k5]
    refine retK_intro rfl (Store.sub_refl _) ⟨?_, rfl⟩
    simp [V.erase, eraseL, k2, k3, k4, k5]

theorem kid_wt {n m : Nd} (hm : m ∈ n.kids) : m.wt + 5 ≤ n.wt := by
  have h1 := wt_mem hm
  have h2 : wts n.kids + 4 ≤ n.wt := by cases n; simp only [Nd.wt, Nd.kids]; omega
  omega
theorem label_is_calls : ∀ (k : Nat) (n : Nd) (σ : Store), n.wt ≤ k → n.wt ≤ big → PCalls prog 16 [.agg n.enc] σ fun v σ' => v = .bool n.labelQ ∧ σ' = σ := by
  intro k
  induction k with
  | zero => intro n σ h _; cases n; simp only [Nd.wt] at h; omega
  | succ k ihk =>
    intro n σ hk hw
    have hn := wt_names n
    have hall : PCalls prog 42 [.sl .no 5 (n.kids.map Nd.enc), .fn (.func 16) [] []] σ fun v σ' => v = .bool (n.kids.all Nd.labelQ) ∧ σ' = σ :=
      all_calls n.kids σ (by omega) fun m hm => ihk m σ (by have := kid_wt hm; omega) (by have := kid_wt hm; omega)
    rw [Nd.labelQ_eq]
    refine fn16.calls ?_
    simp only [slots, ac16, am, amo, amc, Nat.reduceAdd, decide_true, decide_false, Tree.rec_, Nd.rec_, Word.rec_, Got.rec_, Nd.fl]
    by_cases k1 : n.kind = 1
    · simp only [am, amo, amc, Nat.reduceAdd, encs_length, List.length_map, decide_true, decide_false, Tree.rec_, Nd.rec_, Word.rec_, Got.rec_, Nd.fl, decide_eq_true k1]
      refine (leaf_calls n σ (by omega)).mono ?_
      rintro v σ ⟨rfl, rfl⟩
      simp only [am, amo, amc, Nat.reduceAdd, encs_length, List.length_map, decide_true, decide_false, Tree.rec_, Nd.rec_, Word.rec_, Got.rec_, Nd.fl]
      refine retK_intro rfl (Store.sub_refl _) ⟨?_, rfl⟩
      simp [V.erase, eraseL, k1]
    simp only [am, amo, amc, Nat.reduceAdd, encs_length, List.length_map, decide_true, decide_false, Tree.rec_, Nd.rec_, Word.rec_, Got.rec_, Nd.fl, decide_eq_false k1]
    by_cases k7 : n.kind = 7
    · simp only [am, amo, amc, Nat.reduceAdd, encs_length, List.length_map, decide_true, decide_false, Tree.rec_, Nd.rec_, Word.rec_, Got.rec_, Nd.fl, decide_eq_true k7]
      refine (bare_calls n σ).mono ?_
      rintro v σ ⟨rfl, rfl⟩
      simp only [am, amo, amc, Nat.reduceAdd, encs_length, List.length_map, decide_true, decide_false, Tree.rec_, Nd.rec_, Word.rec_, Got.rec_, Nd.fl]
      cases hks : n.kids with
      | nil =>
        simp only [am, amo, amc, Nat.reduceAdd, encs_length, List.length_map, decide_true, decide_false, Tree.rec_, Nd.rec_, Word.rec_, Got.rec_, Nd.fl, List.map_nil, List.length_nil, hks, Int.natCast_zero, show decide ((0 : Int) = 1) = false from rfl]
        repeat' (first
          | (refine gL_split (fun h => ?_) (fun h => ?_) <;> simp only [am, amo, amc, h, Nat.reduceAdd, encs_length, List.length_map, decide_true, decide_false, Tree.rec_, Nd.rec_, Word.rec_, Got.rec_, Nd.fl, hks, List.map_nil, List.length_nil, Int.natCast_zero, show decide ((0 : Int) = 1) = false from rfl])
          | (refine vcIf_split (fun h => ?_) (fun h => ?_) <;> simp only [am, amo, amc, h, Nat.reduceAdd, encs_length, List.length_map, decide_true, decide_false, Tree.rec_, Nd.rec_, Word.rec_, Got.rec_, Nd.fl, hks, List.map_nil, List.length_nil, Int.natCast_zero, show decide ((0 : Int) = 1) = false from rfl])
          | (refine pickL_split (fun h => ?_) (fun h => ?_) <;> simp only [am, amo, amc, h, Nat.reduceAdd, encs_length, List.length_map, decide_true, decide_false, Tree.rec_, Nd.rec_, Word.rec_, Got.rec_, Nd.fl, hks, List.map_nil, List.length_nil, Int.natCast_zero, show decide ((0 : Int) = 1) = false from rfl])
        )
        all_goals refine retK_intro rfl (Store.sub_refl _) ⟨?_, rfl⟩
        all_goals simp_all [V.erase, eraseL, k7]
        all_goals (try omega)
      | cons m ms =>
        have hc : PCalls prog 14 [.agg m.enc] σ fun v σ' => v = .bool m.constQ ∧ σ' = σ := const_is_calls _ m σ (Nat.le_refl _) (by have := kid_wt (n := n) (m := m) (by rw [hks]; simp); omega)
        repeat' (first
          | (refine gL_split (fun h => ?_) (fun h => ?_) <;> simp only [am, amo, amc, h, Nat.reduceAdd, encs_length, List.length_map, decide_true, decide_false, Tree.rec_, Nd.rec_, Word.rec_, Got.rec_, Nd.fl, hks])
          | (refine vcIf_split (fun h => ?_) (fun h => ?_) <;> simp only [am, amo, amc, h, Nat.reduceAdd, encs_length, List.length_map, decide_true, decide_false, Tree.rec_, Nd.rec_, Word.rec_, Got.rec_, Nd.fl, hks])
          | (refine pickL_split (fun h => ?_) (fun h => ?_) <;> simp only [am, amo, amc, h, Nat.reduceAdd, encs_length, List.length_map, decide_true, decide_false, Tree.rec_, Nd.rec_, Word.rec_, Got.rec_, Nd.fl, hks])
          | (refine idxL_intro (by omega) (c := m.enc) (by simp) ?_; simp only [am, Nd.rec_])
          | (refine hc.mono ?_; rintro v _ ⟨rfl, rfl⟩; simp only [am])
        )
        all_goals refine retK_intro rfl (Store.sub_refl _) ⟨?_, rfl⟩
        all_goals simp_all [V.erase, eraseL, k7, headQ]
        all_goals (try omega)
    simp only [am, amo, amc, Nat.reduceAdd, encs_length, List.length_map, decide_true, decide_false, Tree.rec_, Nd.rec_, Word.rec_, Got.rec_, Nd.fl, decide_eq_false k7]
    by_cases k8 : n.kind = 8
    case' pos =>
      simp only [am, amo, amc, Nat.reduceAdd, encs_length, List.length_map, decide_true, decide_false, Tree.rec_, Nd.rec_, Word.rec_, Got.rec_, Nd.fl, decide_eq_true k8]
    case' neg =>
      simp only [am, amo, amc, Nat.reduceAdd, encs_length, List.length_map, decide_true, decide_false, Tree.rec_, Nd.rec_, Word.rec_, Got.rec_, Nd.fl, decide_eq_false k8]
      by_cases k9 : n.kind = 9
      case' pos =>
        simp only [am, amo, amc, Nat.reduceAdd, encs_length, List.length_map, decide_true, decide_false, Tree.rec_, Nd.rec_, Word.rec_, Got.rec_, Nd.fl, decide_eq_true k9]
      case' neg =>
        simp only [am, amo, amc, Nat.reduceAdd, encs_length, List.length_map, decide_true, decide_false, Tree.rec_, Nd.rec_, Word.rec_, Got.rec_, Nd.fl, decide_eq_false k9]
        refine retK_intro rfl (Store.sub_refl _) ⟨?_, rfl⟩
        simp [V.erase, eraseL, k1, k7, k8, k9]
    all_goals
      refine (bare_calls n σ).mono ?_
      rintro v σ ⟨rfl, rfl⟩
      simp only [am, amo, amc, Nat.reduceAdd, encs_length, List.length_map, decide_true, decide_false, Tree.rec_, Nd.rec_, Word.rec_, Got.rec_, Nd.fl]
      repeat' (first
        | (refine gL_split (fun h => ?_) (fun h => ?_) <;> simp only [am, amo, amc, h, Nat.reduceAdd, encs_length, List.length_map, decide_true, decide_false, Tree.rec_, Nd.rec_, Word.rec_, Got.rec_, Nd.fl])
        | (refine vcIf_split (fun h => ?_) (fun h => ?_) <;> simp only [am, amo, amc, h, Nat.reduceAdd, encs_length, List.length_map, decide_true, decide_false, Tree.rec_, Nd.rec_, Word.rec_, Got.rec_, Nd.fl])
        | (refine pickL_split (fun h => ?_) (fun h => ?_) <;> simp only [am, amo, amc, h, Nat.reduceAdd, encs_length, List.length_map, decide_true, decide_false, Tree.rec_, Nd.rec_, Word.rec_, Got.rec_, Nd.fl])
        | (refine hall.mono ?_; rintro v _ ⟨rfl, rfl⟩; simp only [am])
      )
      all_goals refine retK_intro rfl (Store.sub_refl _) ⟨?_, rfl⟩
      all_goals simp_all [V.erase, eraseL]
      all_goals (try omega)
theorem atom_is_calls (n : Nd) (σ : Store) (hw : n.wt ≤ big) : PCalls prog 76 [.agg n.enc] σ fun v σ' => v = .bool n.atomQ ∧ σ' = σ := by
  refine fn76.calls ?_
  simp only [slots, ac76, am, amo, amc, Nat.reduceAdd, decide_true, decide_false, Tree.rec_, Nd.rec_, Word.rec_, Got.rec_, Nd.fl]
  repeat' (first
    | (refine gL_split (fun h => ?_) (fun h => ?_) <;> simp only [am, amo, amc, h, Nat.reduceAdd, encs_length, List.length_map, decide_true, decide_false, Tree.rec_, Nd.rec_, Word.rec_, Got.rec_, Nd.fl])
    | (refine vcIf_split (fun h => ?_) (fun h => ?_) <;> simp only [am, amo, amc, h, Nat.reduceAdd, encs_length, List.length_map, decide_true, decide_false, Tree.rec_, Nd.rec_, Word.rec_, Got.rec_, Nd.fl])
    | (refine pickL_split (fun h => ?_) (fun h => ?_) <;> simp only [am, amo, amc, h, Nat.reduceAdd, encs_length, List.length_map, decide_true, decide_false, Tree.rec_, Nd.rec_, Word.rec_, Got.rec_, Nd.fl])
    | (refine (label_is_calls _ n _ (Nat.le_refl _) hw).mono ?_; rintro v _ ⟨rfl, rfl⟩; simp only [am])
  )
  all_goals refine retK_intro rfl (Store.sub_refl _) ⟨?_, rfl⟩
  all_goals simp_all [V.erase, eraseL, Nd.atomQ]
  all_goals (try omega)
theorem field_is_calls (n : Nd) (σ : Store) (hw : n.wt ≤ big) : PCalls prog 46 [.agg n.enc] σ fun v σ' => v = .bool n.fieldQ ∧ σ' = σ := by
  refine fn46.calls ?_
  simp only [slots, ac46, am, amo, amc, Nat.reduceAdd, decide_true, decide_false, Tree.rec_, Nd.rec_, Word.rec_, Got.rec_, Nd.fl]
  cases hks : n.kids with
  | nil =>
    repeat' (first
      | (refine gL_split (fun h => ?_) (fun h => ?_) <;> simp only [am, amo, amc, h, Nat.reduceAdd, encs_length, List.length_map, decide_true, decide_false, Tree.rec_, Nd.rec_, Word.rec_, Got.rec_, Nd.fl, hks, List.map_nil, List.length_nil, Int.natCast_zero, show decide ((0 : Int) = 1) = false from rfl])
      | (refine vcIf_split (fun h => ?_) (fun h => ?_) <;> simp only [am, amo, amc, h, Nat.reduceAdd, encs_length, List.length_map, decide_true, decide_false, Tree.rec_, Nd.rec_, Word.rec_, Got.rec_, Nd.fl, hks, List.map_nil, List.length_nil, Int.natCast_zero, show decide ((0 : Int) = 1) = false from rfl])
      | (refine pickL_split (fun h => ?_) (fun h => ?_) <;> simp only [am, amo, amc, h, Nat.reduceAdd, encs_length, List.length_map, decide_true, decide_false, Tree.rec_, Nd.rec_, Word.rec_, Got.rec_, Nd.fl, hks, List.map_nil, List.length_nil, Int.natCast_zero, show decide ((0 : Int) = 1) = false from rfl])
      | (refine (right_calls n.text _).mono ?_; rintro v _ ⟨rfl, rfl⟩; simp only [am])
    )
    all_goals refine retK_intro rfl (Store.sub_refl _) ⟨?_, rfl⟩
    all_goals simp_all [V.erase, eraseL, Nd.fieldQ, headQ]
    all_goals (try omega)
  | cons m ms =>
    have hc : PCalls prog 76 [.agg m.enc] σ fun v σ' => v = .bool m.atomQ ∧ σ' = σ := atom_is_calls m σ (by have := kid_wt (n := n) (m := m) (by rw [hks]; simp); omega)
    repeat' (first
      | (refine gL_split (fun h => ?_) (fun h => ?_) <;> simp only [am, amo, amc, h, Nat.reduceAdd, encs_length, List.length_map, decide_true, decide_false, Tree.rec_, Nd.rec_, Word.rec_, Got.rec_, Nd.fl, hks])
      | (refine vcIf_split (fun h => ?_) (fun h => ?_) <;> simp only [am, amo, amc, h, Nat.reduceAdd, encs_length, List.length_map, decide_true, decide_false, Tree.rec_, Nd.rec_, Word.rec_, Got.rec_, Nd.fl, hks])
      | (refine pickL_split (fun h => ?_) (fun h => ?_) <;> simp only [am, amo, amc, h, Nat.reduceAdd, encs_length, List.length_map, decide_true, decide_false, Tree.rec_, Nd.rec_, Word.rec_, Got.rec_, Nd.fl, hks])
      | (refine (right_calls n.text _).mono ?_; rintro v _ ⟨rfl, rfl⟩; simp only [am])
      | (refine idxL_intro (by omega) (c := m.enc) (by simp) ?_; simp only [am, Nd.rec_])
      | (refine hc.mono ?_; rintro v _ ⟨rfl, rfl⟩; simp only [am])
    )
    all_goals refine retK_intro rfl (Store.sub_refl _) ⟨?_, rfl⟩
    all_goals simp_all [V.erase, eraseL, Nd.fieldQ, headQ]
    all_goals (try omega)
theorem row_is_calls (n : Nd) (σ : Store) (hw : n.wt ≤ big) : PCalls prog 18 [.agg n.enc] σ fun v σ' => v = .bool n.rowQ ∧ σ' = σ := by
  have hn := wt_names n
  have hall : PCalls prog 42 [.sl .no 5 (n.kids.map Nd.enc), .fn (.func 46) [] []] σ fun v σ' => v = .bool (n.kids.all Nd.fieldQ) ∧ σ' = σ :=
    all_calls n.kids σ (by omega) fun m hm => field_is_calls m σ (by have := kid_wt hm; omega)
  refine fn18.calls ?_
  simp only [slots, ac18, am, amo, amc, Nat.reduceAdd, decide_true, decide_false, Tree.rec_, Nd.rec_, Word.rec_, Got.rec_, Nd.fl]
  by_cases k10 : n.kind = 10
  · simp only [am, amo, amc, Nat.reduceAdd, encs_length, List.length_map, decide_true, decide_false, Tree.rec_, Nd.rec_, Word.rec_, Got.rec_, Nd.fl, decide_eq_true k10]
    repeat' (first
      | (refine gL_split (fun h => ?_) (fun h => ?_) <;> simp only [am, amo, amc, h, Nat.reduceAdd, encs_length, List.length_map, decide_true, decide_false, Tree.rec_, Nd.rec_, Word.rec_, Got.rec_, Nd.fl])
      | (refine vcIf_split (fun h => ?_) (fun h => ?_) <;> simp only [am, amo, amc, h, Nat.reduceAdd, encs_length, List.length_map, decide_true, decide_false, Tree.rec_, Nd.rec_, Word.rec_, Got.rec_, Nd.fl])
      | (refine pickL_split (fun h => ?_) (fun h => ?_) <;> simp only [am, amo, amc, h, Nat.reduceAdd, encs_length, List.length_map, decide_true, decide_false, Tree.rec_, Nd.rec_, Word.rec_, Got.rec_, Nd.fl])
      | (refine (rightW_calls n.names _ (by omega)).mono ?_; rintro v _ ⟨rfl, rfl⟩; simp only [am])
      | (refine hall.mono ?_; rintro v _ ⟨rfl, rfl⟩; simp only [am])
    )
    all_goals refine retK_intro rfl (Store.sub_refl _) ⟨?_, rfl⟩
    all_goals simp_all [V.erase, eraseL, Nd.rowQ]
    all_goals (try omega)
  · simp only [am, amo, amc, Nat.reduceAdd, encs_length, List.length_map, decide_true, decide_false, Tree.rec_, Nd.rec_, Word.rec_, Got.rec_, Nd.fl, decide_eq_false k10]
    repeat' (first
      | (refine gL_split (fun h => ?_) (fun h => ?_) <;> simp only [am, amo, amc, h, Nat.reduceAdd, encs_length, List.length_map, decide_true, decide_false, Tree.rec_, Nd.rec_, Word.rec_, Got.rec_, Nd.fl])
      | (refine vcIf_split (fun h => ?_) (fun h => ?_) <;> simp only [am, amo, amc, h, Nat.reduceAdd, encs_length, List.length_map, decide_true, decide_false, Tree.rec_, Nd.rec_, Word.rec_, Got.rec_, Nd.fl])
      | (refine pickL_split (fun h => ?_) (fun h => ?_) <;> simp only [am, amo, amc, h, Nat.reduceAdd, encs_length, List.length_map, decide_true, decide_false, Tree.rec_, Nd.rec_, Word.rec_, Got.rec_, Nd.fl])
      | (refine (label_is_calls _ n _ (Nat.le_refl _) hw).mono ?_; rintro v _ ⟨rfl, rfl⟩; simp only [am])
    )
    all_goals refine retK_intro rfl (Store.sub_refl _) ⟨?_, rfl⟩
    all_goals simp_all [V.erase, eraseL, Nd.rowQ]
    all_goals (try omega)
end Go.Proofs.Try

/-
  The same but for its place, as both tell it.
-/
namespace Go.Proofs.Try
open Go.Am
set_option maxRecDepth 4000
set_option maxHeartbeats 4000000

theorem sameW_nil : sameW [] [] = true := rfl
theorem samesQ_nil : samesQ [] [] = true := by simp [samesQ]

def inv24w (n m : Nd) (σ : Store) (i : Nat) : St :=
  ⟨[.any, .any, .ptr (.loc 0) 0, .ptr (.loc 1) 0] ++ List.replicate 35 .any ++ [.int .i64 n.names.length, .int .i64 (i : Nat)] ++ List.replicate 35 .any, [n.enc, m.enc], σ⟩
def inv24k (n m : Nd) (σ : Store) (i : Nat) : St :=
  ⟨[.any, .any, .ptr (.loc 0) 0, .ptr (.loc 1) 0] ++ List.replicate 55 .any ++ [.int .i64 n.kids.length, .int .i64 (i : Nat)] ++ List.replicate 15 .any, [n.enc, m.enc], σ⟩
theorem same24_calls : ∀ (k : Nat) (n m : Nd) (σ : Store), n.wt ≤ k → n.wt ≤ big → PCalls prog 24 [.agg n.enc, .agg m.enc] σ fun v σ' => v = .bool (n.sameQ m) ∧ σ' = σ := by
  intro k
  induction k with
  | zero => intro n m σ h _; cases n; simp only [Nd.wt] at h; omega
  | succ k ihk =>
    intro n m σ hk hw
    have hn := wt_names n
    have hbig : n.wt < 2 ^ 62 := by simp only [big] at hw; omega
    rw [Nd.sameQ_eq]
    refine fn24.calls ?_
    simp only [slots, ac24, am, amo, amc, Nat.reduceAdd, decide_true, decide_false, Tree.rec_, Nd.rec_, Word.rec_, Got.rec_, Nd.fl]
    by_cases k1 : n.kind = m.kind
    case' neg =>
      simp only [am, amo, amc, Nat.reduceAdd, encs_length, List.length_map, decide_true, decide_false, Tree.rec_, Nd.rec_, Word.rec_, Got.rec_, Nd.fl, decide_eq_false k1]
      refine retK_intro rfl (Store.sub_refl _) ⟨?_, rfl⟩
      simp [V.erase, eraseL, k1]
    simp only [am, amo, amc, Nat.reduceAdd, encs_length, List.length_map, decide_true, decide_false, Tree.rec_, Nd.rec_, Word.rec_, Got.rec_, Nd.fl, k1]
    by_cases k2 : n.text = m.text
    case' neg =>
      simp only [am, amo, amc, Nat.reduceAdd, encs_length, List.length_map, decide_true, decide_false, Tree.rec_, Nd.rec_, Word.rec_, Got.rec_, Nd.fl, decide_eq_false k2]
      refine retK_intro rfl (Store.sub_refl _) ⟨?_, rfl⟩
      simp [V.erase, eraseL, k2]
    simp only [am, amo, amc, Nat.reduceAdd, encs_length, List.length_map, decide_true, decide_false, Tree.rec_, Nd.rec_, Word.rec_, Got.rec_, Nd.fl, k2]
    by_cases k3 : n.names.length = m.names.length
    case' neg =>
      have k3' : ¬ (n.names.length : Int) = m.names.length := by omega
      simp only [am, amo, amc, Nat.reduceAdd, encs_length, List.length_map, decide_true, decide_false, Tree.rec_, Nd.rec_, Word.rec_, Got.rec_, Nd.fl, decide_eq_false k3']
      have : sameW n.names m.names = false := by cases hs : sameW n.names m.names with
        | false => rfl
        | true => exact absurd (sameW_len hs) k3
      refine retK_intro rfl (Store.sub_refl _) ⟨?_, rfl⟩
      simp [V.erase, eraseL, this]
    simp only [am, amo, amc, Nat.reduceAdd, encs_length, List.length_map, decide_true, decide_false, Tree.rec_, Nd.rec_, Word.rec_, Got.rec_, Nd.fl, k3]
    by_cases k4 : n.kids.length = m.kids.length
    case' neg =>
      have k4' : ¬ (n.kids.length : Int) = m.kids.length := by omega
      simp only [am, amo, amc, Nat.reduceAdd, encs_length, List.length_map, decide_true, decide_false, Tree.rec_, Nd.rec_, Word.rec_, Got.rec_, Nd.fl, decide_eq_false k4']
      have : samesQ n.kids m.kids = false := by cases hs : samesQ n.kids m.kids with
        | false => rfl
        | true => exact absurd (samesQ_len hs) k4
      refine retK_intro rfl (Store.sub_refl _) ⟨?_, rfl⟩
      simp [V.erase, eraseL, this]
    simp only [am, amo, amc, Nat.reduceAdd, encs_length, List.length_map, decide_true, decide_false, Tree.rec_, Nd.rec_, Word.rec_, Got.rec_, Nd.fl, k4]
    refine vc_loop (fun p : { i : Nat // i ≤ n.names.length ∧ sameW (n.names.take i) (m.names.take i) = true } => inv24w n m σ p.1) (fun p => n.names.length - p.1) ?_ ?_
    · refine Upd.enter ⟨0, by simp, by simp [sameW]⟩ ?_ LLLe.rfl OLe.rfl
      simp [inv24w, List.replicate, am, k3]
    rintro ⟨i, hi, ha⟩
    simp only [inv24w, List.replicate, am, and_true]
    refine vcIf_split ?_ ?_
    · intro hlt
      have hlt : i < n.names.length := by simpa using hlt
      obtain ⟨hat, hno⟩ := sameW_at hlt (by omega) k3 ha
      simp only [am, amo, amc, Nat.reduceAdd, encs_length, List.length_map, decide_true, decide_false, Tree.rec_, Nd.rec_, Word.rec_, Got.rec_, Nd.fl]
      refine idxL_intro (by omega) (wencs_at (List.getElem?_eq_getElem hlt)) ?_
      simp only [am, amo, amc, Nat.reduceAdd, encs_length, List.length_map, decide_true, decide_false, Tree.rec_, Nd.rec_, Word.rec_, Got.rec_, Nd.fl, Word.enc]
      refine idxL_intro (by omega) (wencs_at (List.getElem?_eq_getElem (show i < m.names.length by omega))) ?_
      simp only [am, amo, amc, Nat.reduceAdd, encs_length, List.length_map, decide_true, decide_false, Tree.rec_, Nd.rec_, Word.rec_, Got.rec_, Nd.fl, Word.enc]
      by_cases he : n.names[i].text = m.names[i].text
      · simp only [am, amo, amc, Nat.reduceAdd, encs_length, List.length_map, decide_true, decide_false, Tree.rec_, Nd.rec_, Word.rec_, Got.rec_, Nd.fl, he]
        rw [wrap_i64 (by omega) (by omega)]
        exact Upd.again ⟨i + 1, hlt, by rw [hat]; exact decide_eq_true he⟩ (by simp; omega) (by simp [List.replicate, am]) LLLe.rfl OLe.rfl
      · simp only [am, amo, amc, Nat.reduceAdd, encs_length, List.length_map, decide_true, decide_false, Tree.rec_, Nd.rec_, Word.rec_, Got.rec_, Nd.fl, decide_eq_false he]
        refine retK_intro rfl (Store.sub_refl _) ⟨?_, rfl⟩
        simp [V.erase, eraseL, hno (decide_eq_false he)]
    intro hlt
    have hlt : i = n.names.length := by simp at hlt; omega
    subst hlt
    rw [List.take_length, k3, List.take_length] at ha
    simp only [am, amo, amc, Nat.reduceAdd, encs_length, List.length_map, decide_true, decide_false, Tree.rec_, Nd.rec_, Word.rec_, Got.rec_, Nd.fl]
    refine vc_loop (fun p : { i : Nat // i ≤ n.kids.length ∧ samesQ (n.kids.take i) (m.kids.take i) = true } => inv24k n m σ p.1) (fun p => n.kids.length - p.1) ?_ ?_
    · refine Upd.enter ⟨0, by simp, by simp [samesQ]⟩ ?_ LLLe.rfl OLe.rfl
      simp [inv24k, List.replicate, am, k4]
    rintro ⟨i, hi, hb⟩
    simp only [inv24k, List.replicate, am, and_true]
    refine vcIf_split ?_ ?_
    · intro hlt
      have hlt : i < n.kids.length := by simpa using hlt
      have hki := kid_wt (n := n) (List.getElem_mem hlt)
      obtain ⟨hat, hno⟩ := samesQ_at hlt (by omega) k4 hb
      simp only [am, amo, amc, Nat.reduceAdd, encs_length, List.length_map, decide_true, decide_false, Tree.rec_, Nd.rec_, Word.rec_, Got.rec_, Nd.fl]
      refine idxL_intro (by omega) (nencs_at (List.getElem?_eq_getElem hlt)) ?_
      simp only [am, amo, amc, Nat.reduceAdd, encs_length, List.length_map, decide_true, decide_false, Tree.rec_, Nd.rec_, Word.rec_, Got.rec_, Nd.fl]
      refine idxL_intro (by omega) (nencs_at (List.getElem?_eq_getElem (show i < m.kids.length by omega))) ?_
      simp only [am, amo, amc, Nat.reduceAdd, encs_length, List.length_map, decide_true, decide_false, Tree.rec_, Nd.rec_, Word.rec_, Got.rec_, Nd.fl]
      refine CallD.intro (ihk n.kids[i] m.kids[i] _ (by omega) (by omega)) ?_
      cases he : n.kids[i].sameQ m.kids[i]
      · simp only [am, amo, amc, Nat.reduceAdd, encs_length, List.length_map, decide_true, decide_false, Tree.rec_, Nd.rec_, Word.rec_, Got.rec_, Nd.fl]
        refine retK_intro rfl (Store.sub_refl _) ⟨?_, rfl⟩
        simp [V.erase, eraseL, hno he]
      · simp only [am, amo, amc, Nat.reduceAdd, encs_length, List.length_map, decide_true, decide_false, Tree.rec_, Nd.rec_, Word.rec_, Got.rec_, Nd.fl]
        rw [wrap_i64 (by omega) (by omega)]
        exact Upd.again ⟨i + 1, hlt, by rw [hat]; exact he⟩ (by simp; omega) (by simp [List.replicate, am]) LLLe.rfl OLe.rfl
    intro hlt
    have hlt : i = n.kids.length := by simp at hlt; omega
    subst hlt
    rw [List.take_length, k4, List.take_length] at hb
    simp only [am, amo, amc, Nat.reduceAdd, encs_length, List.length_map, decide_true, decide_false, Tree.rec_, Nd.rec_, Word.rec_, Got.rec_, Nd.fl]
    refine retK_intro rfl (Store.sub_refl _) ⟨?_, rfl⟩
    simp [V.erase, eraseL, ha, hb]

def inv25w (n m : Nd) (σ : Store) (i : Nat) : St :=
  ⟨[.any, .any, .ptr (.loc 0) 0, .ptr (.loc 1) 0] ++ [.any, .int .i64 (i : Nat)] ++ List.replicate 70 .any, [n.enc, m.enc], σ⟩
def inv25k (n m : Nd) (σ : Store) (i : Nat) : St :=
  ⟨[.any, .any, .ptr (.loc 0) 0, .ptr (.loc 1) 0] ++ [.any, .any, .int .i64 (i : Nat)] ++ List.replicate 69 .any, [n.enc, m.enc], σ⟩
theorem same25_calls : ∀ (k : Nat) (n m : Nd) (σ : Store), n.wt ≤ k → n.wt ≤ big → PCalls prog 25 [.agg n.enc, .agg m.enc] σ fun v σ' => v = .bool (n.sameQ m) ∧ σ' = σ := by
  intro k
  induction k with
  | zero => intro n m σ h _; cases n; simp only [Nd.wt] at h; omega
  | succ k ihk =>
    intro n m σ hk hw
    have hn := wt_names n
    have hbig : n.wt < 2 ^ 62 := by simp only [big] at hw; omega
    rw [Nd.sameQ_eq]
    refine fn25.calls ?_
    simp only [slots, ac25, am, amo, amc, Nat.reduceAdd, decide_true, decide_false, Tree.rec_, Nd.rec_, Word.rec_, Got.rec_, Nd.fl]
    by_cases k1 : n.kind = m.kind
    case' neg =>
      simp only [am, amo, amc, Nat.reduceAdd, encs_length, List.length_map, decide_true, decide_false, Tree.rec_, Nd.rec_, Word.rec_, Got.rec_, Nd.fl, decide_eq_false k1]
      refine retK_intro rfl (Store.sub_refl _) ⟨?_, rfl⟩
      simp [V.erase, eraseL, k1]
    simp only [am, amo, amc, Nat.reduceAdd, encs_length, List.length_map, decide_true, decide_false, Tree.rec_, Nd.rec_, Word.rec_, Got.rec_, Nd.fl, k1]
    by_cases k2 : n.text = m.text
    case' neg =>
      simp only [am, amo, amc, Nat.reduceAdd, encs_length, List.length_map, decide_true, decide_false, Tree.rec_, Nd.rec_, Word.rec_, Got.rec_, Nd.fl, decide_eq_false k2]
      refine retK_intro rfl (Store.sub_refl _) ⟨?_, rfl⟩
      simp [V.erase, eraseL, k2]
    simp only [am, amo, amc, Nat.reduceAdd, encs_length, List.length_map, decide_true, decide_false, Tree.rec_, Nd.rec_, Word.rec_, Got.rec_, Nd.fl, k2]
    by_cases k3 : n.names.length = m.names.length
    case' neg =>
      have k3' : ¬ (n.names.length : Int) = m.names.length := by omega
      simp only [am, amo, amc, Nat.reduceAdd, encs_length, List.length_map, decide_true, decide_false, Tree.rec_, Nd.rec_, Word.rec_, Got.rec_, Nd.fl, decide_eq_false k3']
      have : sameW n.names m.names = false := by cases hs : sameW n.names m.names with
        | false => rfl
        | true => exact absurd (sameW_len hs) k3
      refine retK_intro rfl (Store.sub_refl _) ⟨?_, rfl⟩
      simp [V.erase, eraseL, this]
    simp only [am, amo, amc, Nat.reduceAdd, encs_length, List.length_map, decide_true, decide_false, Tree.rec_, Nd.rec_, Word.rec_, Got.rec_, Nd.fl, k3]
    by_cases k4 : n.kids.length = m.kids.length
    case' neg =>
      have k4' : ¬ (n.kids.length : Int) = m.kids.length := by omega
      simp only [am, amo, amc, Nat.reduceAdd, encs_length, List.length_map, decide_true, decide_false, Tree.rec_, Nd.rec_, Word.rec_, Got.rec_, Nd.fl, decide_eq_false k4']
      have : samesQ n.kids m.kids = false := by cases hs : samesQ n.kids m.kids with
        | false => rfl
        | true => exact absurd (samesQ_len hs) k4
      refine retK_intro rfl (Store.sub_refl _) ⟨?_, rfl⟩
      simp [V.erase, eraseL, this]
    simp only [am, amo, amc, Nat.reduceAdd, encs_length, List.length_map, decide_true, decide_false, Tree.rec_, Nd.rec_, Word.rec_, Got.rec_, Nd.fl, k4]
    refine vc_loop (fun p : { i : Nat // i ≤ n.names.length ∧ sameW (n.names.take i) (m.names.take i) = true } => inv25w n m σ p.1) (fun p => n.names.length - p.1) ?_ ?_
    · refine Upd.enter ⟨0, by simp, by simp [sameW]⟩ ?_ LLLe.rfl OLe.rfl
      simp [inv25w, List.replicate, am, k3]
    rintro ⟨i, hi, ha⟩
    simp only [inv25w, List.replicate, am, Nd.fl, List.length_map, Tree.rec_, Nd.rec_]
    refine vcIf_split ?_ ?_
    · intro hlt
      have hlt : i < n.names.length := by simpa using hlt
      obtain ⟨hat, hno⟩ := sameW_at hlt (by omega) k3 ha
      simp only [am, amo, amc, Nat.reduceAdd, encs_length, List.length_map, decide_true, decide_false, Tree.rec_, Nd.rec_, Word.rec_, Got.rec_, Nd.fl]
      refine idxL_intro (by omega) (wencs_at (List.getElem?_eq_getElem hlt)) ?_
      simp only [am, amo, amc, Nat.reduceAdd, encs_length, List.length_map, decide_true, decide_false, Tree.rec_, Nd.rec_, Word.rec_, Got.rec_, Nd.fl, Word.enc]
      refine idxL_intro (by omega) (wencs_at (List.getElem?_eq_getElem (show i < m.names.length by omega))) ?_
      simp only [am, amo, amc, Nat.reduceAdd, encs_length, List.length_map, decide_true, decide_false, Tree.rec_, Nd.rec_, Word.rec_, Got.rec_, Nd.fl, Word.enc]
      by_cases he : n.names[i].text = m.names[i].text
      · simp only [am, amo, amc, Nat.reduceAdd, encs_length, List.length_map, decide_true, decide_false, Tree.rec_, Nd.rec_, Word.rec_, Got.rec_, Nd.fl, he]
        rw [wrap_i64 (by omega) (by omega)]
        exact Upd.again ⟨i + 1, hlt, by rw [hat]; exact decide_eq_true he⟩ (by simp; omega) (by simp [List.replicate, am]) LLLe.rfl OLe.rfl
      · simp only [am, amo, amc, Nat.reduceAdd, encs_length, List.length_map, decide_true, decide_false, Tree.rec_, Nd.rec_, Word.rec_, Got.rec_, Nd.fl, decide_eq_false he]
        refine retK_intro rfl (Store.sub_refl _) ⟨?_, rfl⟩
        simp [V.erase, eraseL, hno (decide_eq_false he)]
    intro hlt
    have hlt : i = n.names.length := by simp at hlt; omega
    subst hlt
    rw [List.take_length, k3, List.take_length] at ha
    simp only [am, amo, amc, Nat.reduceAdd, encs_length, List.length_map, decide_true, decide_false, Tree.rec_, Nd.rec_, Word.rec_, Got.rec_, Nd.fl]
    refine vc_loop (fun p : { i : Nat // i ≤ n.kids.length ∧ samesQ (n.kids.take i) (m.kids.take i) = true } => inv25k n m σ p.1) (fun p => n.kids.length - p.1) ?_ ?_
    · refine Upd.enter ⟨0, by simp, by simp [samesQ]⟩ ?_ LLLe.rfl OLe.rfl
      simp [inv25k, List.replicate, am, k4]
    rintro ⟨i, hi, hb⟩
    simp only [inv25k, List.replicate, am, Nd.fl, List.length_map, Tree.rec_, Nd.rec_]
    refine vcIf_split ?_ ?_
    · intro hlt
      have hlt : i < n.kids.length := by simpa using hlt
      have hki := kid_wt (n := n) (List.getElem_mem hlt)
      obtain ⟨hat, hno⟩ := samesQ_at hlt (by omega) k4 hb
      simp only [am, amo, amc, Nat.reduceAdd, encs_length, List.length_map, decide_true, decide_false, Tree.rec_, Nd.rec_, Word.rec_, Got.rec_, Nd.fl]
      refine idxL_intro (by omega) (nencs_at (List.getElem?_eq_getElem hlt)) ?_
      simp only [am, amo, amc, Nat.reduceAdd, encs_length, List.length_map, decide_true, decide_false, Tree.rec_, Nd.rec_, Word.rec_, Got.rec_, Nd.fl]
      refine idxL_intro (by omega) (nencs_at (List.getElem?_eq_getElem (show i < m.kids.length by omega))) ?_
      simp only [am, amo, amc, Nat.reduceAdd, encs_length, List.length_map, decide_true, decide_false, Tree.rec_, Nd.rec_, Word.rec_, Got.rec_, Nd.fl]
      refine CallD.intro (ihk n.kids[i] m.kids[i] _ (by omega) (by omega)) ?_
      cases he : n.kids[i].sameQ m.kids[i]
      · simp only [am, amo, amc, Nat.reduceAdd, encs_length, List.length_map, decide_true, decide_false, Tree.rec_, Nd.rec_, Word.rec_, Got.rec_, Nd.fl]
        refine retK_intro rfl (Store.sub_refl _) ⟨?_, rfl⟩
        simp [V.erase, eraseL, hno he]
      · simp only [am, amo, amc, Nat.reduceAdd, encs_length, List.length_map, decide_true, decide_false, Tree.rec_, Nd.rec_, Word.rec_, Got.rec_, Nd.fl]
        rw [wrap_i64 (by omega) (by omega)]
        exact Upd.again ⟨i + 1, hlt, by rw [hat]; exact he⟩ (by simp; omega) (by simp [List.replicate, am]) LLLe.rfl OLe.rfl
    intro hlt
    have hlt : i = n.kids.length := by simp at hlt; omega
    subst hlt
    rw [List.take_length, k4, List.take_length] at hb
    simp only [am, amo, amc, Nat.reduceAdd, encs_length, List.length_map, decide_true, decide_false, Tree.rec_, Nd.rec_, Word.rec_, Got.rec_, Nd.fl]
    refine retK_intro rfl (Store.sub_refl _) ⟨?_, rfl⟩
    simp [V.erase, eraseL, ha, hb]
end Go.Proofs.Try

/-
  The texts of nodes, as the document's reader tells them.
-/
namespace Go.Proofs.Try
open Go.Am
set_option maxRecDepth 4000
set_option maxHeartbeats 4000000

theorem joinC_pre (a b : List (List UInt8)) : (joinC a).length ≤ (joinC (a ++ b)).length := by
  cases a with
  | nil => simp [joinC]
  | cons x xs => simp only [joinC, List.cons_append, List.flatMap_append, List.length_append]; omega
theorem joinC_take (L : List (List UInt8)) (i : Nat) : (joinC (L.take i)).length ≤ (joinC L).length := by
  have := joinC_pre (L.take i) (L.drop i)
  rwa [List.take_append_drop] at this
theorem joinC_at {L : List (List UInt8)} {i : Nat} (h : i < L.length) : joinC (L.take (i + 1)) = joinC (L.take i) ++ (if 0 < i then [44] else []) ++ L[i] := by
  rw [take_succ_of (List.getElem?_eq_getElem h), joinC_snoc, List.length_take, Nat.min_eq_left (by omega)]
def inv53k (τ τ' : Tk) (l : List Nd) (w : List Word) (σ : Store) (i : Nat) : St :=
  ⟨[.sl τ 5 (l.map Nd.enc), .sl τ' 2 (w.map Word.enc), .any, .any, .any, .str (joinC ((l.map Nd.txt).take i)), .int .i64 (i : Nat)] ++ List.replicate 36 .any, [], σ⟩
def inv53w (τ' : Tk) (s : List UInt8) (w : List Word) (σ : Store) (i : Nat) : St :=
  ⟨[.any, .sl τ' 2 (w.map Word.enc), .any, .any, .any, .str (s ++ joinC ((w.map Word.text).take i)), .any, .int .i64 (i : Nat)] ++ List.replicate 35 .any, [], σ⟩
theorem list_calls {τ τ' : Tk} (l : List Nd) (w : List Word) (σ : Store) (hl : l.length ≤ big) (hw : w.length ≤ big) (hs : (joinC (l.map Nd.txt)).length + (joinC (w.map Word.text)).length ≤ big)
    (ih : ∀ m ∈ l, PCalls prog 23 [.agg m.enc] σ fun v σ' => v = .str m.txt ∧ σ' = σ) :
    PCalls prog 53 [.sl τ 5 (l.map Nd.enc), .sl τ' 2 (w.map Word.enc)] σ fun v σ' => v = .str (joinC (l.map Nd.txt) ++ joinC (w.map Word.text)) ∧ σ' = σ := by
  simp only [big] at hl hw hs
  refine fn53.calls ?_
  simp only [slots, ac53, am, amo, amc, Nat.reduceAdd, decide_true, decide_false, Tree.rec_, Nd.rec_, Word.rec_, Got.rec_, Nd.fl]
  refine vc_loop (fun p : { i : Nat // i ≤ l.length } => inv53k τ τ' l w σ p.1) (fun p => l.length - p.1) ?_ ?_
  · refine Upd.enter ⟨0, by simp⟩ ?_ LLLe.rfl OLe.rfl
    simp [inv53k, List.replicate, am, joinC]
  rintro ⟨i, hi⟩
  simp only [inv53k, List.replicate, am, List.length_map]
  refine vcIf_split ?_ ?_
  · intro hlt
    have hlt : i < l.length := by simpa using hlt
    have hat := joinC_at (L := l.map Nd.txt) (i := i) (by simpa using hlt)
    have hle := joinC_take (l.map Nd.txt) (i + 1)
    have wi : IntKind.i64.wrap ((i : Int) + 1) = (i : Int) + 1 := wrap_i64 (by omega) (by omega)
    rw [List.getElem_map] at hat
    rw [hat] at hle
    simp only [List.length_append] at hle
    simp only [am, amo, amc, Nat.reduceAdd, encs_length, List.length_map, decide_true, decide_false, Tree.rec_, Nd.rec_, Word.rec_, Got.rec_, Nd.fl]
    by_cases h0 : 0 < i
    case' pos =>
      rw [if_pos h0] at hat hle
      simp only [List.length_cons, List.length_nil] at hle
      simp only [am, amo, amc, Nat.reduceAdd, encs_length, List.length_map, decide_true, decide_false, Tree.rec_, Nd.rec_, Word.rec_, Got.rec_, Nd.fl, decide_eq_true (show (0 : Int) < i by omega)]
      refine ⟨by simp [big]; omega, ?_⟩
    case' neg =>
      rw [if_neg h0] at hat hle
      simp only [List.length_nil, List.append_nil] at hle hat
      simp only [am, amo, amc, Nat.reduceAdd, encs_length, List.length_map, decide_true, decide_false, Tree.rec_, Nd.rec_, Word.rec_, Got.rec_, Nd.fl, decide_eq_false (show ¬ (0 : Int) < i by omega)]
    all_goals
      refine idxL_intro (by omega) (nencs_at (List.getElem?_eq_getElem hlt)) ?_
      simp only [am, amo, amc, Nat.reduceAdd, encs_length, List.length_map, decide_true, decide_false, Tree.rec_, Nd.rec_, Word.rec_, Got.rec_, Nd.fl]
      refine (ih l[i] (List.getElem_mem hlt)).mono ?_
      rintro v σ ⟨rfl, rfl⟩
      simp only [am, amo, amc, Nat.reduceAdd, encs_length, List.length_map, decide_true, decide_false, Tree.rec_, Nd.rec_, Word.rec_, Got.rec_, Nd.fl]
      refine ⟨by simp [big]; omega, ?_⟩
      simp only [am, amo, amc, Nat.reduceAdd, encs_length, List.length_map, decide_true, decide_false, Tree.rec_, Nd.rec_, Word.rec_, Got.rec_, Nd.fl, wi]
      exact Upd.again ⟨i + 1, hlt⟩ (by simp; omega) (by simp [am, List.replicate, hat]) LLLe.rfl OLe.rfl
  intro hlt
  have hlt : i = l.length := by simp at hlt; omega
  subst hlt
  rw [show (l.map Nd.txt).take l.length = l.map Nd.txt by rw [← List.length_map (f := Nd.txt), List.take_length]]
  simp only [am, amo, amc, Nat.reduceAdd, encs_length, List.length_map, decide_true, decide_false, Tree.rec_, Nd.rec_, Word.rec_, Got.rec_, Nd.fl]
  generalize joinC (l.map Nd.txt) = s at hs ⊢
  refine vc_loop (fun p : { i : Nat // i ≤ w.length } => inv53w τ' s w σ p.1) (fun p => w.length - p.1) ?_ ?_
  · refine Upd.enter ⟨0, by simp⟩ ?_ LLLe.rfl OLe.rfl
    simp [inv53w, List.replicate, am, joinC]
  rintro ⟨i, hi⟩
  simp only [inv53w, List.replicate, am, List.length_map]
  refine vcIf_split ?_ ?_
  · intro hlt
    have hlt : i < w.length := by simpa using hlt
    have hat := joinC_at (L := w.map Word.text) (i := i) (by simpa using hlt)
    have hle := joinC_take (w.map Word.text) (i + 1)
    have wi : IntKind.i64.wrap ((i : Int) + 1) = (i : Int) + 1 := wrap_i64 (by omega) (by omega)
    rw [List.getElem_map] at hat
    rw [hat] at hle
    simp only [List.length_append] at hle
    simp only [am, amo, amc, Nat.reduceAdd, encs_length, List.length_map, decide_true, decide_false, Tree.rec_, Nd.rec_, Word.rec_, Got.rec_, Nd.fl]
    by_cases h0 : 0 < i
    case' pos =>
      rw [if_pos h0] at hat hle
      simp only [List.length_cons, List.length_nil] at hle
      simp only [am, amo, amc, Nat.reduceAdd, encs_length, List.length_map, decide_true, decide_false, Tree.rec_, Nd.rec_, Word.rec_, Got.rec_, Nd.fl, decide_eq_true (show (0 : Int) < i by omega)]
      refine ⟨by simp [big]; omega, ?_⟩
    case' neg =>
      rw [if_neg h0] at hat hle
      simp only [List.length_nil, List.append_nil] at hle hat
      simp only [am, amo, amc, Nat.reduceAdd, encs_length, List.length_map, decide_true, decide_false, Tree.rec_, Nd.rec_, Word.rec_, Got.rec_, Nd.fl, decide_eq_false (show ¬ (0 : Int) < i by omega)]
    all_goals
      refine idxL_intro (by omega) (wencs_at (List.getElem?_eq_getElem hlt)) ?_
      simp only [am, amo, amc, Nat.reduceAdd, encs_length, List.length_map, decide_true, decide_false, Tree.rec_, Nd.rec_, Word.rec_, Got.rec_, Nd.fl, Word.enc]
      refine ⟨by simp [big]; omega, ?_⟩
      simp only [am, amo, amc, Nat.reduceAdd, encs_length, List.length_map, decide_true, decide_false, Tree.rec_, Nd.rec_, Word.rec_, Got.rec_, Nd.fl, wi]
      exact Upd.again ⟨i + 1, hlt⟩ (by simp; omega) (by simp [am, List.replicate, hat]) LLLe.rfl OLe.rfl
  intro hlt
  have hlt : i = w.length := by simp at hlt; omega
  subst hlt
  rw [show (w.map Word.text).take w.length = w.map Word.text by rw [← List.length_map (f := Word.text), List.take_length]]
  simp only [am, amo, amc, Nat.reduceAdd, encs_length, List.length_map, decide_true, decide_false, Tree.rec_, Nd.rec_, Word.rec_, Got.rec_, Nd.fl]
  refine retK_intro rfl (Store.sub_refl _) ⟨?_, rfl⟩
  simp [V.erase, eraseL]

theorem text2_calls : ∀ (k : Nat) (n : Nd) (σ : Store), n.wt ≤ k → n.wt ≤ big → PCalls prog 23 [.agg n.enc] σ fun v σ' => v = .str n.txt ∧ σ' = σ := by
  intro k
  induction k with
  | zero => intro n σ h _; cases n; simp only [Nd.wt] at h; omega
  | succ k ihk =>
    intro n σ hk hw
    have ih : ∀ m ∈ n.kids, ∀ σ, PCalls prog 23 [.agg m.enc] σ fun v σ' => v = .str m.txt ∧ σ' = σ := fun m hm σ => by
      have h1 := kid_wt hm
      exact ihk m σ (by omega) (by omega)
    have hn := wt_names n
    have h1 := ktext_len n.kids (txt_lens n.kids)
    have h2 := wtext_len n.names
    have h3 : n.text.length + wts n.kids + wsum n.names + 4 ≤ n.wt := by cases n; simp only [Nd.wt, Nd.kids, Nd.names, Nd.text]; omega
    have h4 := head_len n.kids (txt_lens n.kids)
    have hkids : PCalls prog 53 [.sl .no 5 (n.kids.map Nd.enc), .sl .full 2 []] σ fun v σ' => v = .str (joinC (txts n.kids)) ∧ σ' = σ := by
      have := list_calls (τ := .no) (τ' := .full) n.kids [] σ (by omega) (by simp) (by rw [← txts_map, show joinC (([] : List Word).map Word.text) = [] from rfl, List.length_nil]; omega) fun m hm => ih m hm σ
      simpa [joinC, ← txts_map] using this
    have hnames : PCalls prog 53 [.sl .full 5 [], .sl .no 2 (n.names.map Word.enc)] σ fun v σ' => v = .str (wtext n.names) ∧ σ' = σ := by
      have := list_calls (τ := .full) (τ' := .no) [] n.names σ (by simp) (by omega) (by rw [show joinC (n.names.map Word.text) = wtext n.names from rfl, show joinC (([] : List Nd).map Nd.txt) = [] from rfl, List.length_nil]; omega) fun m hm => ih m (by simp at hm) σ
      simpa [joinC, wtext] using this
    have e : n.txt = if n.kind = 1 ∨ n.kind = 2 then n.text else if n.kind = 3 then [123] ++ wtext n.names ++ [125] else if n.kind = 4 then [40] ++ joinC (txts n.kids) ++ [41] else if n.kind = 5 then [91] ++ joinC (txts n.kids) ++ [93]
        else if n.kind = 6 then n.text ++ [58, 123] ++ wtext n.names ++ [125] else if n.kind = 7 then [35] ++ headT (txts n.kids) else if n.kind = 8 then [43, 40] ++ joinC (txts n.kids) ++ [41] else if n.kind = 9 then [38, 40] ++ joinC (txts n.kids) ++ [41]
        else if n.kind = 10 then ([91] ++ joinC (txts n.kids)) ++ (if 0 < n.names.length then [124] ++ wtext n.names else []) ++ [93] else if n.kind = 11 then n.text ++ [61] ++ headT (txts n.kids) else [] := by cases n; rw [Nd.txt]; rfl
    rw [e]
    refine fn23.calls ?_
    simp only [slots, ac23, am, amo, amc, Nat.reduceAdd, decide_true, decide_false, Tree.rec_, Nd.rec_, Word.rec_, Got.rec_, Nd.fl]
    by_cases k1 : n.kind = 1
    · simp only [am, amo, amc, Nat.reduceAdd, encs_length, List.length_map, decide_true, decide_false, Tree.rec_, Nd.rec_, Word.rec_, Got.rec_, Nd.fl, decide_eq_true k1]
      refine retK_intro rfl (Store.sub_refl _) ⟨?_, rfl⟩
      simp [V.erase, eraseL, k1]
    simp only [am, amo, amc, Nat.reduceAdd, encs_length, List.length_map, decide_true, decide_false, Tree.rec_, Nd.rec_, Word.rec_, Got.rec_, Nd.fl, decide_eq_false k1]
    by_cases k2 : n.kind = 2
    · simp only [am, amo, amc, Nat.reduceAdd, encs_length, List.length_map, decide_true, decide_false, Tree.rec_, Nd.rec_, Word.rec_, Got.rec_, Nd.fl, decide_eq_true k2]
      refine retK_intro rfl (Store.sub_refl _) ⟨?_, rfl⟩
      simp [V.erase, eraseL, k2]
    simp only [am, amo, amc, Nat.reduceAdd, encs_length, List.length_map, decide_true, decide_false, Tree.rec_, Nd.rec_, Word.rec_, Got.rec_, Nd.fl, decide_eq_false k2]
    by_cases k3 : n.kind = 3
    · simp only [am, amo, amc, Nat.reduceAdd, encs_length, List.length_map, decide_true, decide_false, Tree.rec_, Nd.rec_, Word.rec_, Got.rec_, Nd.fl, decide_eq_true k3]
      refine (hnames).mono ?_
      rintro v σ ⟨rfl, rfl⟩
      simp only [am, amo, amc, Nat.reduceAdd, encs_length, List.length_map, decide_true, decide_false, Tree.rec_, Nd.rec_, Word.rec_, Got.rec_, Nd.fl]
      refine ⟨by simp; omega, by simp; omega, ?_⟩
      refine retK_intro rfl (Store.sub_refl _) ⟨?_, rfl⟩
      simp [V.erase, eraseL, k3]
    simp only [am, amo, amc, Nat.reduceAdd, encs_length, List.length_map, decide_true, decide_false, Tree.rec_, Nd.rec_, Word.rec_, Got.rec_, Nd.fl, decide_eq_false k3]
    by_cases k4 : n.kind = 4
    · simp only [am, amo, amc, Nat.reduceAdd, encs_length, List.length_map, decide_true, decide_false, Tree.rec_, Nd.rec_, Word.rec_, Got.rec_, Nd.fl, decide_eq_true k4]
      refine (hkids).mono ?_
      rintro v σ ⟨rfl, rfl⟩
      simp only [am, amo, amc, Nat.reduceAdd, encs_length, List.length_map, decide_true, decide_false, Tree.rec_, Nd.rec_, Word.rec_, Got.rec_, Nd.fl]
      refine ⟨by simp; omega, by simp; omega, ?_⟩
      refine retK_intro rfl (Store.sub_refl _) ⟨?_, rfl⟩
      simp [V.erase, eraseL, k4]
    simp only [am, amo, amc, Nat.reduceAdd, encs_length, List.length_map, decide_true, decide_false, Tree.rec_, Nd.rec_, Word.rec_, Got.rec_, Nd.fl, decide_eq_false k4]
    by_cases k5 : n.kind = 5
    · simp only [am, amo, amc, Nat.reduceAdd, encs_length, List.length_map, decide_true, decide_false, Tree.rec_, Nd.rec_, Word.rec_, Got.rec_, Nd.fl, decide_eq_true k5]
      refine (hkids).mono ?_
      rintro v σ ⟨rfl, rfl⟩
      simp only [am, amo, amc, Nat.reduceAdd, encs_length, List.length_map, decide_true, decide_false, Tree.rec_, Nd.rec_, Word.rec_, Got.rec_, Nd.fl]
      refine ⟨by simp; omega, by simp; omega, ?_⟩
      refine retK_intro rfl (Store.sub_refl _) ⟨?_, rfl⟩
      simp [V.erase, eraseL, k5]
    simp only [am, amo, amc, Nat.reduceAdd, encs_length, List.length_map, decide_true, decide_false, Tree.rec_, Nd.rec_, Word.rec_, Got.rec_, Nd.fl, decide_eq_false k5]
    by_cases k6 : n.kind = 6
    · simp only [am, amo, amc, Nat.reduceAdd, encs_length, List.length_map, decide_true, decide_false, Tree.rec_, Nd.rec_, Word.rec_, Got.rec_, Nd.fl, decide_eq_true k6]
      refine ⟨by simp; omega, ?_⟩
      refine CallD.intro (hnames) ?_
      simp only [am, amo, amc, Nat.reduceAdd, encs_length, List.length_map, decide_true, decide_false, Tree.rec_, Nd.rec_, Word.rec_, Got.rec_, Nd.fl]
      refine ⟨by simp; omega, by simp; omega, ?_⟩
      refine retK_intro rfl (Store.sub_refl _) ⟨?_, rfl⟩
      simp [V.erase, eraseL, k6]
    simp only [am, amo, amc, Nat.reduceAdd, encs_length, List.length_map, decide_true, decide_false, Tree.rec_, Nd.rec_, Word.rec_, Got.rec_, Nd.fl, decide_eq_false k6]
    by_cases k7 : n.kind = 7
    · simp only [am, amo, amc, Nat.reduceAdd, encs_length, List.length_map, decide_true, decide_false, Tree.rec_, Nd.rec_, Word.rec_, Got.rec_, Nd.fl, decide_eq_true k7]
      cases hc : n.kids with
      | nil =>
        simp only [am, amo, amc, Nat.reduceAdd, encs_length, List.length_map, decide_true, decide_false, Tree.rec_, Nd.rec_, Word.rec_, Got.rec_, Nd.fl, hc, List.map_nil, List.length_nil, Int.natCast_zero]
        refine retK_intro rfl (Store.sub_refl _) ⟨?_, rfl⟩
        simp [V.erase, eraseL, k7, hc, headT, txts]
      | cons m ms =>
        rw [hc] at h4
        simp only [txts, headT] at h4
        simp only [am, amo, amc, Nat.reduceAdd, encs_length, List.length_map, decide_true, decide_false, Tree.rec_, Nd.rec_, Word.rec_, Got.rec_, Nd.fl, decide_eq_false (show ¬ (((m :: ms).length : Nat) : Int) = 0 by simp; omega), hc]
        refine idxL_intro (by omega) (c := m.enc) (by simp) ?_
        simp only [am, amo, amc, Nat.reduceAdd, encs_length, List.length_map, decide_true, decide_false, Tree.rec_, Nd.rec_, Word.rec_, Got.rec_, Nd.fl]
        refine (ih m (by rw [hc]; simp) σ).mono ?_
        rintro v σ ⟨rfl, rfl⟩
        simp only [am, amo, amc, Nat.reduceAdd, encs_length, List.length_map, decide_true, decide_false, Tree.rec_, Nd.rec_, Word.rec_, Got.rec_, Nd.fl]
        refine ⟨by have := wt_mem (n := m) (l := m :: ms) (by simp); have := txt_lens [m] m (by simp); simp; rw [hc] at h3; omega, ?_⟩
        refine retK_intro rfl (Store.sub_refl _) ⟨?_, rfl⟩
        simp [V.erase, eraseL, k7, headT, txts]
    simp only [am, amo, amc, Nat.reduceAdd, encs_length, List.length_map, decide_true, decide_false, Tree.rec_, Nd.rec_, Word.rec_, Got.rec_, Nd.fl, decide_eq_false k7]
    by_cases k8 : n.kind = 8
    · simp only [am, amo, amc, Nat.reduceAdd, encs_length, List.length_map, decide_true, decide_false, Tree.rec_, Nd.rec_, Word.rec_, Got.rec_, Nd.fl, decide_eq_true k8]
      refine (hkids).mono ?_
      rintro v σ ⟨rfl, rfl⟩
      simp only [am, amo, amc, Nat.reduceAdd, encs_length, List.length_map, decide_true, decide_false, Tree.rec_, Nd.rec_, Word.rec_, Got.rec_, Nd.fl]
      refine ⟨by simp; omega, by simp; omega, ?_⟩
      refine retK_intro rfl (Store.sub_refl _) ⟨?_, rfl⟩
      simp [V.erase, eraseL, k8]
    simp only [am, amo, amc, Nat.reduceAdd, encs_length, List.length_map, decide_true, decide_false, Tree.rec_, Nd.rec_, Word.rec_, Got.rec_, Nd.fl, decide_eq_false k8]
    by_cases k9 : n.kind = 9
    · simp only [am, amo, amc, Nat.reduceAdd, encs_length, List.length_map, decide_true, decide_false, Tree.rec_, Nd.rec_, Word.rec_, Got.rec_, Nd.fl, decide_eq_true k9]
      refine (hkids).mono ?_
      rintro v σ ⟨rfl, rfl⟩
      simp only [am, amo, amc, Nat.reduceAdd, encs_length, List.length_map, decide_true, decide_false, Tree.rec_, Nd.rec_, Word.rec_, Got.rec_, Nd.fl]
      refine ⟨by simp; omega, by simp; omega, ?_⟩
      refine retK_intro rfl (Store.sub_refl _) ⟨?_, rfl⟩
      simp [V.erase, eraseL, k9]
    simp only [am, amo, amc, Nat.reduceAdd, encs_length, List.length_map, decide_true, decide_false, Tree.rec_, Nd.rec_, Word.rec_, Got.rec_, Nd.fl, decide_eq_false k9]
    by_cases k10 : n.kind = 10
    · simp only [am, amo, amc, Nat.reduceAdd, encs_length, List.length_map, decide_true, decide_false, Tree.rec_, Nd.rec_, Word.rec_, Got.rec_, Nd.fl, decide_eq_true k10]
      by_cases hz : n.names.length = 0
      · simp only [am, amo, amc, Nat.reduceAdd, encs_length, List.length_map, decide_true, decide_false, Tree.rec_, Nd.rec_, Word.rec_, Got.rec_, Nd.fl, hz, Int.natCast_zero]
        refine (hkids).mono ?_
        rintro v σ ⟨rfl, rfl⟩
        simp only [am, amo, amc, Nat.reduceAdd, encs_length, List.length_map, decide_true, decide_false, Tree.rec_, Nd.rec_, Word.rec_, Got.rec_, Nd.fl]
        refine ⟨by simp; omega, by simp; omega, ?_⟩
        refine retK_intro rfl (Store.sub_refl _) ⟨?_, rfl⟩
        simp [V.erase, eraseL, k10, hz]
      · simp only [am, amo, amc, Nat.reduceAdd, encs_length, List.length_map, decide_true, decide_false, Tree.rec_, Nd.rec_, Word.rec_, Got.rec_, Nd.fl, decide_eq_false (show ¬ ((n.names.length : Nat) : Int) = 0 by omega)]
        refine CallD.intro (hkids) ?_
        simp only [am, amo, amc, Nat.reduceAdd, encs_length, List.length_map, decide_true, decide_false, Tree.rec_, Nd.rec_, Word.rec_, Got.rec_, Nd.fl]
        refine ⟨by simp; omega, by simp; omega, ?_⟩
        refine CallD.intro (hnames) ?_
        simp only [am, amo, amc, Nat.reduceAdd, encs_length, List.length_map, decide_true, decide_false, Tree.rec_, Nd.rec_, Word.rec_, Got.rec_, Nd.fl]
        refine ⟨by simp; omega, by simp; omega, ?_⟩
        refine retK_intro rfl (Store.sub_refl _) ⟨?_, rfl⟩
        simp [V.erase, eraseL, k10, Nat.pos_of_ne_zero hz]
    simp only [am, amo, amc, Nat.reduceAdd, encs_length, List.length_map, decide_true, decide_false, Tree.rec_, Nd.rec_, Word.rec_, Got.rec_, Nd.fl, decide_eq_false k10]
    by_cases k11 : n.kind = 11
    · simp only [am, amo, amc, Nat.reduceAdd, encs_length, List.length_map, decide_true, decide_false, Tree.rec_, Nd.rec_, Word.rec_, Got.rec_, Nd.fl, decide_eq_true k11]
      cases hc : n.kids with
      | nil =>
        simp only [am, amo, amc, Nat.reduceAdd, encs_length, List.length_map, decide_true, decide_false, Tree.rec_, Nd.rec_, Word.rec_, Got.rec_, Nd.fl, hc, List.map_nil, List.length_nil, Int.natCast_zero]
        refine ⟨by simp; omega, ?_⟩
        refine retK_intro rfl (Store.sub_refl _) ⟨?_, rfl⟩
        simp [V.erase, eraseL, k11, hc, headT, txts]
      | cons m ms =>
        simp only [am, amo, amc, Nat.reduceAdd, encs_length, List.length_map, decide_true, decide_false, Tree.rec_, Nd.rec_, Word.rec_, Got.rec_, Nd.fl, decide_eq_false (show ¬ (((m :: ms).length : Nat) : Int) = 0 by simp; omega), hc]
        refine ⟨by simp; omega, ?_⟩
        refine idxL_intro (by omega) (c := m.enc) (by simp) ?_
        simp only [am, amo, amc, Nat.reduceAdd, encs_length, List.length_map, decide_true, decide_false, Tree.rec_, Nd.rec_, Word.rec_, Got.rec_, Nd.fl]
        refine CallD.intro (ih m (by rw [hc]; simp) σ) ?_
        simp only [am, amo, amc, Nat.reduceAdd, encs_length, List.length_map, decide_true, decide_false, Tree.rec_, Nd.rec_, Word.rec_, Got.rec_, Nd.fl]
        refine ⟨by have := wt_mem (n := m) (l := m :: ms) (by simp); have := txt_lens [m] m (by simp); simp; rw [hc] at h3; omega, ?_⟩
        refine retK_intro rfl (Store.sub_refl _) ⟨?_, rfl⟩
        simp [V.erase, eraseL, k11, headT, txts]
    simp only [am, amo, amc, Nat.reduceAdd, encs_length, List.length_map, decide_true, decide_false, Tree.rec_, Nd.rec_, Word.rec_, Got.rec_, Nd.fl, decide_eq_false k11]
    refine retK_intro rfl (Store.sub_refl _) ⟨?_, rfl⟩
    simp [V.erase, eraseL, k1, k2, k3, k4, k5, k6, k7, k8, k9, k10, k11]
end Go.Proofs.Try

/-
  What might have been read, as the document tells it.
-/
namespace Go.Proofs.Try
open Go.Am
set_option maxRecDepth 4000
set_option maxHeartbeats 4000000

def inv55 (l : List Word) (σ : Store) (i : Nat) : St :=
  ⟨[.sl .no 2 (l.map Word.enc), .any, .any, .int .i64 (i : Nat)] ++ List.replicate 13 .any, [], σ⟩
theorem right2W_calls (l : List Word) (σ : Store) (hb : l.length ≤ big) : PCalls prog 55 [.sl .no 2 (l.map Word.enc)] σ fun v σ' => v = .bool (rightW l) ∧ σ' = σ := by
  simp only [big] at hb
  refine fn55.calls ?_
  simp only [slots, ac55, am, amo, amc, Nat.reduceAdd, decide_true, decide_false, Tree.rec_, Nd.rec_, Word.rec_, Got.rec_, Nd.fl]
  refine vc_loop (fun p : { i : Nat // i ≤ l.length ∧ (l.take i).all (fun w => nameR w.text) = true } => inv55 l σ p.1) (fun p => l.length - p.1) ?_ ?_
  · refine Upd.enter ⟨0, by simp, by simp⟩ ?_ LLLe.rfl OLe.rfl
    simp [inv55, List.replicate, am]
  · rintro ⟨i, hi, ha⟩
    simp only [inv55, List.replicate, am, List.length_map]
    refine vcIf_split ?_ ?_
    · intro hlt
      have hlt : i < l.length := by simpa using hlt
      simp only [am, amo, amc, Nat.reduceAdd, encs_length, List.length_map, decide_true, decide_false, Tree.rec_, Nd.rec_, Word.rec_, Got.rec_, Nd.fl]
      refine idxL_intro (by omega) (wencs_at (List.getElem?_eq_getElem hlt)) ?_
      simp only [am, amo, amc, Nat.reduceAdd, encs_length, List.length_map, decide_true, decide_false, Tree.rec_, Nd.rec_, Word.rec_, Got.rec_, Nd.fl, Word.enc]
      refine (right2_calls l[i].text σ).mono ?_
      rintro v σ ⟨rfl, rfl⟩
      cases hg : nameR l[i].text
      · simp only [am, amo, amc, Nat.reduceAdd, encs_length, List.length_map, decide_true, decide_false, Tree.rec_, Nd.rec_, Word.rec_, Got.rec_, Nd.fl]
        refine retK_intro rfl (Store.sub_refl _) ⟨?_, rfl⟩
        rw [show rightW l = false from all_no (f := fun (w : Word) => nameR w.text) hlt hg]; rfl
      · simp only [am, amo, amc, Nat.reduceAdd, encs_length, List.length_map, decide_true, decide_false, Tree.rec_, Nd.rec_, Word.rec_, Got.rec_, Nd.fl]
        rw [wrap_i64 (by omega) (by omega)]
        exact Upd.again ⟨i + 1, hlt, by rw [all_take hlt, ha, hg]; rfl⟩ (by simp; omega) (by simp [List.replicate, am]) LLLe.rfl OLe.rfl
    · intro hlt
      have hlt : i = l.length := by simp at hlt; omega
      subst hlt
      rw [List.take_length] at ha
      simp only [am, amo, amc, Nat.reduceAdd, encs_length, List.length_map, decide_true, decide_false, Tree.rec_, Nd.rec_, Word.rec_, Got.rec_, Nd.fl]
      refine retK_intro rfl (Store.sub_refl _) ⟨?_, rfl⟩
      simp [V.erase, eraseL, rightW, ha]
theorem headQ_all {f : Nd → Bool} {l : List Nd} (h : (l.length : Int) = 1) : headQ f l = l.all f := by
  match l, h with
  | [m], _ => simp [headQ]
  | [], h => simp at h
  | _ :: _ :: _, h => simp at h; omega
theorem atomQ_eq (n : Nd) : n.atomQ = (n.labelQ && !decide (n.kind = 8) && !decide (n.kind = 9)) := by
  unfold Nd.atomQ
  rw [Nd.labelQ_eq]
  by_cases k1 : n.kind = 1
  · simp [k1]
  by_cases k7 : n.kind = 7
  · simp [k7]
  by_cases k8 : n.kind = 8
  · simp [k8]
  by_cases k9 : n.kind = 9
  · simp [k9]
  simp [k1, k7, k8, k9]

def inv56 (w : Int) (l : List Nd) (σ : Store) (i : Nat) : St :=
  ⟨[.int .i64 w, .sl .no 5 (l.map Nd.enc), .any, .any, .any, .int .i64 (i : Nat)] ++ List.replicate 94 .any, [], σ⟩
theorem all1_calls (l : List Nd) (σ : Store) (hb : l.length ≤ big) (h : ∀ n ∈ l, ∀ σ, PCalls prog 26 [.agg n.enc] σ fun v σ' => v = .bool n.constQ ∧ σ' = σ) : PCalls prog 56 [.int .i64 1, .sl .no 5 (l.map Nd.enc)] σ fun v σ' => v = .bool (l.all Nd.constQ) ∧ σ' = σ := by
  simp only [big] at hb
  refine fn56.calls ?_
  simp only [slots, ac56, am, amo, amc, Nat.reduceAdd, decide_true, decide_false, Tree.rec_, Nd.rec_, Word.rec_, Got.rec_, Nd.fl]
  refine vc_loop (fun p : { i : Nat // i ≤ l.length ∧ (l.take i).all Nd.constQ = true } => inv56 1 l σ p.1) (fun p => l.length - p.1) ?_ ?_
  · refine Upd.enter ⟨0, by simp, by simp⟩ ?_ LLLe.rfl OLe.rfl
    simp [inv56, List.replicate, am]
  rintro ⟨i, hi, ha⟩
  simp only [inv56, List.replicate, am, List.length_map]
  refine vcIf_split ?_ ?_
  · intro hlt
    have hlt : i < l.length := by simpa using hlt
    have wi : IntKind.i64.wrap ((i : Int) + 1) = (i : Int) + 1 := wrap_i64 (by omega) (by omega)
    have hyes : l[i].constQ = true → (l.take (i + 1)).all Nd.constQ = true := fun hg => by rw [all_take hlt, ha, hg]; rfl
    have hno : l[i].constQ = false → l.all Nd.constQ = false := fun hg => all_no hlt hg
    have hmem := List.getElem_mem hlt
    simp only [am, amo, amc, Nat.reduceAdd, encs_length, List.length_map, decide_true, decide_false, Tree.rec_, Nd.rec_, Word.rec_, Got.rec_, Nd.fl]
    refine idxL_intro (by omega) (nencs_at (List.getElem?_eq_getElem hlt)) ?_
    generalize l[i] = n at hyes hno hmem ⊢
    simp only [am, amo, amc, Nat.reduceAdd, encs_length, List.length_map, decide_true, decide_false, Tree.rec_, Nd.rec_, Word.rec_, Got.rec_, Nd.fl, Nd.r_ov, Int.reduceEq, Int.reduceNe]
    refine (h n hmem σ).mono ?_
    rintro v σ ⟨rfl, rfl⟩
    cases hg : n.constQ
    · simp only [am, amo, amc, Nat.reduceAdd, encs_length, List.length_map, decide_true, decide_false, Tree.rec_, Nd.rec_, Word.rec_, Got.rec_, Nd.fl, Int.reduceEq, Int.reduceNe]
      refine retK_intro rfl (Store.sub_refl _) ⟨?_, rfl⟩
      simp [V.erase, eraseL, hno hg]
    · simp only [am, amo, amc, Nat.reduceAdd, encs_length, List.length_map, decide_true, decide_false, Tree.rec_, Nd.rec_, Word.rec_, Got.rec_, Nd.fl, Int.reduceEq, Int.reduceNe, wi]
      exact Upd.againD ⟨i + 1, hlt, hyes hg⟩ (by simp; omega) (by simp [List.replicate, am]) (by simp [am]) OLe.rfl rfl rfl
  intro hlt
  have hlt : i = l.length := by simp at hlt; omega
  subst hlt
  rw [List.take_length] at ha
  simp only [am, amo, amc, Nat.reduceAdd, encs_length, List.length_map, decide_true, decide_false, Tree.rec_, Nd.rec_, Word.rec_, Got.rec_, Nd.fl]
  refine retK_intro rfl (Store.sub_refl _) ⟨?_, rfl⟩
  simp [V.erase, eraseL, ha]
theorem all3_calls (l : List Nd) (σ : Store) (hb : l.length ≤ big) (h : ∀ n ∈ l, ∀ σ, PCalls prog 27 [.agg n.enc] σ fun v σ' => v = .bool n.labelQ ∧ σ' = σ) : PCalls prog 56 [.int .i64 3, .sl .no 5 (l.map Nd.enc)] σ fun v σ' => v = .bool (l.all Nd.labelQ) ∧ σ' = σ := by
  simp only [big] at hb
  refine fn56.calls ?_
  simp only [slots, ac56, am, amo, amc, Nat.reduceAdd, decide_true, decide_false, Tree.rec_, Nd.rec_, Word.rec_, Got.rec_, Nd.fl]
  refine vc_loop (fun p : { i : Nat // i ≤ l.length ∧ (l.take i).all Nd.labelQ = true } => inv56 3 l σ p.1) (fun p => l.length - p.1) ?_ ?_
  · refine Upd.enter ⟨0, by simp, by simp⟩ ?_ LLLe.rfl OLe.rfl
    simp [inv56, List.replicate, am]
  rintro ⟨i, hi, ha⟩
  simp only [inv56, List.replicate, am, List.length_map]
  refine vcIf_split ?_ ?_
  · intro hlt
    have hlt : i < l.length := by simpa using hlt
    have wi : IntKind.i64.wrap ((i : Int) + 1) = (i : Int) + 1 := wrap_i64 (by omega) (by omega)
    have hyes : l[i].labelQ = true → (l.take (i + 1)).all Nd.labelQ = true := fun hg => by rw [all_take hlt, ha, hg]; rfl
    have hno : l[i].labelQ = false → l.all Nd.labelQ = false := fun hg => all_no hlt hg
    have hmem := List.getElem_mem hlt
    simp only [am, amo, amc, Nat.reduceAdd, encs_length, List.length_map, decide_true, decide_false, Tree.rec_, Nd.rec_, Word.rec_, Got.rec_, Nd.fl]
    refine idxL_intro (by omega) (nencs_at (List.getElem?_eq_getElem hlt)) ?_
    generalize l[i] = n at hyes hno hmem ⊢
    simp only [am, amo, amc, Nat.reduceAdd, encs_length, List.length_map, decide_true, decide_false, Tree.rec_, Nd.rec_, Word.rec_, Got.rec_, Nd.fl, Nd.r_ov, Int.reduceEq, Int.reduceNe]
    refine (h n hmem σ).mono ?_
    rintro v σ ⟨rfl, rfl⟩
    cases hg : n.labelQ
    · simp only [am, amo, amc, Nat.reduceAdd, encs_length, List.length_map, decide_true, decide_false, Tree.rec_, Nd.rec_, Word.rec_, Got.rec_, Nd.fl, Int.reduceEq, Int.reduceNe]
      refine retK_intro rfl (Store.sub_refl _) ⟨?_, rfl⟩
      simp [V.erase, eraseL, hno hg]
    · simp only [am, amo, amc, Nat.reduceAdd, encs_length, List.length_map, decide_true, decide_false, Tree.rec_, Nd.rec_, Word.rec_, Got.rec_, Nd.fl, Int.reduceEq, Int.reduceNe, wi]
      exact Upd.againD ⟨i + 1, hlt, hyes hg⟩ (by simp; omega) (by simp [List.replicate, am]) (by simp [am]) OLe.rfl rfl rfl
  intro hlt
  have hlt : i = l.length := by simp at hlt; omega
  subst hlt
  rw [List.take_length] at ha
  simp only [am, amo, amc, Nat.reduceAdd, encs_length, List.length_map, decide_true, decide_false, Tree.rec_, Nd.rec_, Word.rec_, Got.rec_, Nd.fl]
  refine retK_intro rfl (Store.sub_refl _) ⟨?_, rfl⟩
  simp [V.erase, eraseL, ha]
theorem all2_calls (l : List Nd) (σ : Store) (hb : l.length ≤ big) (hw : ∀ n ∈ l, n.names.length ≤ big) : PCalls prog 56 [.int .i64 2, .sl .no 5 (l.map Nd.enc)] σ fun v σ' => v = .bool (l.all Nd.ruleQ) ∧ σ' = σ := by
  simp only [big] at hb
  refine fn56.calls ?_
  simp only [slots, ac56, am, amo, amc, Nat.reduceAdd, decide_true, decide_false, Tree.rec_, Nd.rec_, Word.rec_, Got.rec_, Nd.fl]
  refine vc_loop (fun p : { i : Nat // i ≤ l.length ∧ (l.take i).all Nd.ruleQ = true } => inv56 2 l σ p.1) (fun p => l.length - p.1) ?_ ?_
  · refine Upd.enter ⟨0, by simp, by simp⟩ ?_ LLLe.rfl OLe.rfl
    simp [inv56, List.replicate, am]
  rintro ⟨i, hi, ha⟩
  simp only [inv56, List.replicate, am, List.length_map]
  refine vcIf_split ?_ ?_
  · intro hlt
    have hlt : i < l.length := by simpa using hlt
    have wi : IntKind.i64.wrap ((i : Int) + 1) = (i : Int) + 1 := wrap_i64 (by omega) (by omega)
    have hyes : l[i].ruleQ = true → (l.take (i + 1)).all Nd.ruleQ = true := fun hg => by rw [all_take hlt, ha, hg]; rfl
    have hno : l[i].ruleQ = false → l.all Nd.ruleQ = false := fun hg => all_no hlt hg
    have hmem := List.getElem_mem hlt
    simp only [am, amo, amc, Nat.reduceAdd, encs_length, List.length_map, decide_true, decide_false, Tree.rec_, Nd.rec_, Word.rec_, Got.rec_, Nd.fl]
    refine idxL_intro (by omega) (nencs_at (List.getElem?_eq_getElem hlt)) ?_
    generalize l[i] = n at hyes hno hmem ⊢
    simp only [am, amo, amc, Nat.reduceAdd, encs_length, List.length_map, decide_true, decide_false, Tree.rec_, Nd.rec_, Word.rec_, Got.rec_, Nd.fl, Nd.r_ov, Int.reduceEq, Int.reduceNe]
    have hnm := hw n hmem
    repeat' (first
      | (refine gL_split (fun h => ?_) (fun h => ?_) <;> simp only [am, amo, amc, h, Nat.reduceAdd, encs_length, List.length_map, decide_true, decide_false, Tree.rec_, Nd.rec_, Word.rec_, Got.rec_, Nd.fl, Int.reduceEq, Int.reduceNe, wi])
      | (refine vcIf_split (fun h => ?_) (fun h => ?_) <;> simp only [am, amo, amc, h, Nat.reduceAdd, encs_length, List.length_map, decide_true, decide_false, Tree.rec_, Nd.rec_, Word.rec_, Got.rec_, Nd.fl, Int.reduceEq, Int.reduceNe, wi])
      | (refine pickL_split (fun h => ?_) (fun h => ?_) <;> simp only [am, amo, amc, h, Nat.reduceAdd, encs_length, List.length_map, decide_true, decide_false, Tree.rec_, Nd.rec_, Word.rec_, Got.rec_, Nd.fl, Int.reduceEq, Int.reduceNe, wi])
      | (refine (right2_calls n.text _).mono ?_; rintro v _ ⟨rfl, rfl⟩; simp only [am, Int.reduceEq, Int.reduceNe])
      | (refine (right2W_calls n.names _ hnm).mono ?_; rintro v _ ⟨rfl, rfl⟩; simp only [am, Int.reduceEq, Int.reduceNe])
    )
    all_goals cases hg : n.ruleQ
    all_goals first
      | (exfalso; revert hg; simp_all [Nd.ruleQ]; done)
      | (refine retK_intro rfl (Store.sub_refl _) ⟨?_, rfl⟩; rw [hno hg]; rfl)
      | exact Upd.againD ⟨i + 1, hlt, hyes hg⟩ (by simp; omega) (by simp [List.replicate, am]) (by simp [am]) OLe.rfl rfl rfl
  intro hlt
  have hlt : i = l.length := by simp at hlt; omega
  subst hlt
  rw [List.take_length] at ha
  simp only [am, amo, amc, Nat.reduceAdd, encs_length, List.length_map, decide_true, decide_false, Tree.rec_, Nd.rec_, Word.rec_, Got.rec_, Nd.fl]
  refine retK_intro rfl (Store.sub_refl _) ⟨?_, rfl⟩
  simp [V.erase, eraseL, ha]
theorem all4_calls (l : List Nd) (σ : Store) (hb : l.length ≤ big) (h : ∀ n ∈ l, ∀ m ∈ n.kids, ∀ σ, PCalls prog 27 [.agg m.enc] σ fun v σ' => v = .bool m.labelQ ∧ σ' = σ) : PCalls prog 56 [.int .i64 4, .sl .no 5 (l.map Nd.enc)] σ fun v σ' => v = .bool (l.all Nd.fieldQ) ∧ σ' = σ := by
  simp only [big] at hb
  refine fn56.calls ?_
  simp only [slots, ac56, am, amo, amc, Nat.reduceAdd, decide_true, decide_false, Tree.rec_, Nd.rec_, Word.rec_, Got.rec_, Nd.fl]
  refine vc_loop (fun p : { i : Nat // i ≤ l.length ∧ (l.take i).all Nd.fieldQ = true } => inv56 4 l σ p.1) (fun p => l.length - p.1) ?_ ?_
  · refine Upd.enter ⟨0, by simp, by simp⟩ ?_ LLLe.rfl OLe.rfl
    simp [inv56, List.replicate, am]
  rintro ⟨i, hi, ha⟩
  simp only [inv56, List.replicate, am, List.length_map]
  refine vcIf_split ?_ ?_
  · intro hlt
    have hlt : i < l.length := by simpa using hlt
    have wi : IntKind.i64.wrap ((i : Int) + 1) = (i : Int) + 1 := wrap_i64 (by omega) (by omega)
    have hyes : l[i].fieldQ = true → (l.take (i + 1)).all Nd.fieldQ = true := fun hg => by rw [all_take hlt, ha, hg]; rfl
    have hno : l[i].fieldQ = false → l.all Nd.fieldQ = false := fun hg => all_no hlt hg
    have hmem := List.getElem_mem hlt
    simp only [am, amo, amc, Nat.reduceAdd, encs_length, List.length_map, decide_true, decide_false, Tree.rec_, Nd.rec_, Word.rec_, Got.rec_, Nd.fl]
    refine idxL_intro (by omega) (nencs_at (List.getElem?_eq_getElem hlt)) ?_
    generalize l[i] = n at hyes hno hmem ⊢
    simp only [am, amo, amc, Nat.reduceAdd, encs_length, List.length_map, decide_true, decide_false, Tree.rec_, Nd.rec_, Word.rec_, Got.rec_, Nd.fl, Nd.r_ov, Int.reduceEq, Int.reduceNe]
    have hm := h n hmem
    cases hks : n.kids with
    | nil =>
      repeat' (first
        | (refine gL_split (fun h => ?_) (fun h => ?_) <;> simp only [am, amo, amc, h, Nat.reduceAdd, encs_length, List.length_map, decide_true, decide_false, Tree.rec_, Nd.rec_, Word.rec_, Got.rec_, Nd.fl, Int.reduceEq, Int.reduceNe, wi, hks, List.map_nil, List.length_nil, Int.natCast_zero, show decide ((0 : Int) = 1) = false from rfl])
        | (refine vcIf_split (fun h => ?_) (fun h => ?_) <;> simp only [am, amo, amc, h, Nat.reduceAdd, encs_length, List.length_map, decide_true, decide_false, Tree.rec_, Nd.rec_, Word.rec_, Got.rec_, Nd.fl, Int.reduceEq, Int.reduceNe, wi, hks, List.map_nil, List.length_nil, Int.natCast_zero, show decide ((0 : Int) = 1) = false from rfl])
        | (refine pickL_split (fun h => ?_) (fun h => ?_) <;> simp only [am, amo, amc, h, Nat.reduceAdd, encs_length, List.length_map, decide_true, decide_false, Tree.rec_, Nd.rec_, Word.rec_, Got.rec_, Nd.fl, Int.reduceEq, Int.reduceNe, wi, hks, List.map_nil, List.length_nil, Int.natCast_zero, show decide ((0 : Int) = 1) = false from rfl])
        | (refine (right2_calls n.text _).mono ?_; rintro v _ ⟨rfl, rfl⟩; simp only [am, Int.reduceEq, Int.reduceNe])
      )
      all_goals cases hg : n.fieldQ
      all_goals first
        | (exfalso; revert hg; simp_all [Nd.fieldQ, headQ]; done)
        | (refine retK_intro rfl (Store.sub_refl _) ⟨?_, rfl⟩; rw [hno hg]; rfl)
    | cons m ms =>
      have hl := hm m (by rw [hks]; simp)
      repeat' (first
        | (refine gL_split (fun h => ?_) (fun h => ?_) <;> simp only [am, amo, amc, h, Nat.reduceAdd, encs_length, List.length_map, decide_true, decide_false, Tree.rec_, Nd.rec_, Word.rec_, Got.rec_, Nd.fl, Int.reduceEq, Int.reduceNe, wi, hks])
        | (refine vcIf_split (fun h => ?_) (fun h => ?_) <;> simp only [am, amo, amc, h, Nat.reduceAdd, encs_length, List.length_map, decide_true, decide_false, Tree.rec_, Nd.rec_, Word.rec_, Got.rec_, Nd.fl, Int.reduceEq, Int.reduceNe, wi, hks])
        | (refine pickL_split (fun h => ?_) (fun h => ?_) <;> simp only [am, amo, amc, h, Nat.reduceAdd, encs_length, List.length_map, decide_true, decide_false, Tree.rec_, Nd.rec_, Word.rec_, Got.rec_, Nd.fl, Int.reduceEq, Int.reduceNe, wi, hks])
        | (refine (right2_calls n.text _).mono ?_; rintro v _ ⟨rfl, rfl⟩; simp only [am, Int.reduceEq, Int.reduceNe])
        | (refine idxL_intro (by omega) (c := m.enc) (by simp) ?_; simp only [am, Nd.rec_, Nd.fl])
        | (refine (hl _).mono ?_; rintro v _ ⟨rfl, rfl⟩; simp only [am, Int.reduceEq, Int.reduceNe])
      )
      all_goals cases hg : n.fieldQ
      all_goals first
        | (exfalso; revert hg; simp_all [Nd.fieldQ, headQ, atomQ_eq]; done)
        | (refine retK_intro rfl (Store.sub_refl _) ⟨?_, rfl⟩; rw [hno hg]; rfl)
        | exact Upd.againD ⟨i + 1, hlt, hyes hg⟩ (by simp; omega) (by simp [List.replicate, am]) (by simp [am]) OLe.rfl rfl rfl
  intro hlt
  have hlt : i = l.length := by simp at hlt; omega
  subst hlt
  rw [List.take_length] at ha
  simp only [am, amo, amc, Nat.reduceAdd, encs_length, List.length_map, decide_true, decide_false, Tree.rec_, Nd.rec_, Word.rec_, Got.rec_, Nd.fl]
  refine retK_intro rfl (Store.sub_refl _) ⟨?_, rfl⟩
  simp [V.erase, eraseL, ha]
end Go.Proofs.Try

/-
  How many there are.
-/
namespace Go.Am
mutual
def Nd.cnt : Nd → Nat
  | .mk _ _ _ ws ks => 1 + ws.length + cnts ks
def cnts : List Nd → Nat
  | [] => 0
  | n :: ns => n.cnt + cnts ns
end
theorem cnts_append : ∀ a b : List Nd, cnts (a ++ b) = cnts a + cnts b
  | [], b => by simp [cnts]
  | x :: xs, b => by simp only [List.cons_append, cnts, cnts_append xs b]; omega
theorem cnts_at {l : List Nd} {i : Nat} (h : i < l.length) : cnts (l.take (i + 1)) = cnts (l.take i) + l[i].cnt := by
  rw [List.take_add_one, List.getElem?_eq_getElem h, cnts_append]; simp [cnts]
theorem cnts_take (l : List Nd) (i : Nat) : cnts (l.take i) ≤ cnts l := by
  have := cnts_append (l.take i) (l.drop i)
  rw [List.take_append_drop] at this
  omega
theorem wlen (l : List Word) : l.length ≤ wsum l := by
  unfold wsum
  induction l with
  | nil => simp
  | cons w ws ih => simp only [List.map_cons, List.sum_cons, List.length_cons]; omega
mutual
theorem cnt_wt : ∀ n : Nd, n.cnt ≤ n.wt
  | .mk k p t ws ks => by
    have := cnts_wt ks
    have := wlen ws
    simp only [Nd.cnt, Nd.wt]; omega
theorem cnts_wt : ∀ l : List Nd, cnts l ≤ wts l
  | [] => by simp [cnts, wts]
  | n :: ns => by
    have := cnt_wt n
    have := cnts_wt ns
    simp only [cnts, wts]; omega
end
end Go.Am

/-
  The chapter's example.
-/
namespace Go.Proofs.Try
open Go.Am
set_option maxRecDepth 4000
set_option maxHeartbeats 4000000

def lineT (s : List UInt8) : List Tree := (treeR (lexR s).1).1
theorem line_calls (s : List UInt8) (σ : Store) (hb : s.length + 1 ≤ big) : PCalls prog 12 [.str s] σ fun v σ' => v = .sl .no 5 (encs (lineT s)) ∧ σ' = σ := by
  have hl := lexR_len s
  refine fn12.calls ?_
  simp only [slots, ac12, am, amo, amc, Nat.reduceAdd, decide_true, decide_false, Tree.rec_, Nd.rec_, Word.rec_, Got.rec_]
  refine (lex_calls s σ hb).mono ?_
  rintro v σ ⟨rfl, rfl⟩
  simp only [am, amo, amc, Nat.reduceAdd, encs_length, List.length_map, decide_true, decide_false, Tree.rec_, Nd.rec_, Word.rec_, Got.rec_, badL]
  refine (tree_calls (lexR s).1 σ (by omega)).mono ?_
  rintro v σ ⟨rfl, rfl⟩
  simp only [am, amo, amc, Nat.reduceAdd, encs_length, List.length_map, decide_true, decide_false, Tree.rec_, Nd.rec_, Word.rec_, Got.rec_, fenc]
  refine retK_intro rfl (Store.sub_refl _) ⟨?_, rfl⟩
  simp [V.erase, eraseL, lineT]
def s1 : List UInt8 := [43, 40, 120, 44, 35, 123, 97, 44, 98, 125, 41]
def s2 : List UInt8 := [43, 40, 41]
def s3 : List UInt8 := [91, 102, 61, 120, 44, 103, 61, 35, 104, 105, 124, 114, 93]
theorem al_many1 : manys (lineT s1) ≤ 20 := by decide +kernel
theorem al_many2 : manys (lineT s2) ≤ 20 := by decide +kernel
theorem al_many3 : manys (lineT s3) ≤ 20 := by decide +kernel
theorem al_a : (readAt (Rdr.label 20) (lineT s1) 0 20).2.2 = none := by decide +kernel
theorem al_b : (readAt (Rdr.label 20) (lineT s1) 0 20).2.1 = 2 := by decide +kernel
theorem al_c : (readAt (Rdr.label 20) (lineT s1) 0 20).1.kind = 8 := by decide +kernel
theorem al_d : (readAt (Rdr.label 20) (lineT s1) 0 20).1.kids.length = 2 := by decide +kernel
theorem al_e : (readAt (Rdr.label 20) (lineT s2) 0 20).2.2 = some 2 := by decide +kernel
theorem al_f : (readAt (Rdr.row 20) (lineT s3) 0 20).2.2 = none := by decide +kernel
theorem al_g : (readAt (Rdr.row 20) (lineT s3) 0 20).1.txt = s3 := by decide +kernel
theorem al_h : (readAt (Rdr.row 20) (lineT s3) 0 20).1.wt ≤ 100 := by decide +kernel

theorem alive_calls (σ : Store) : PCalls prog 8 [] σ fun v σ' => v = .bool true ∧ σ' = σ := by
  have hbig : ∀ k, k ≤ 20 → k + 1 ≤ big := fun k h => by simp only [big]; omega
  refine fn8.calls ?_
  simp only [slots, ac8, am, amo, amc, Nat.reduceAdd, decide_true, decide_false, Tree.rec_, Nd.rec_, Word.rec_, Got.rec_]
  refine (line_calls s1 σ (by decide)).mono ?_
  rintro v σ ⟨rfl, rfl⟩
  simp only [am, amo, amc, Nat.reduceAdd, encs_length, List.length_map, decide_true, decide_false, Tree.rec_, Nd.rec_, Word.rec_, Got.rec_]
  refine (Label_calls (n := 20) (at_ := 0) (fin := 20) al_many1 (hbig _ al_many1)).mono ?_
  rintro v σ ⟨rfl, rfl⟩
  have a := al_a; have b := al_b; have c := al_c; have d := al_d
  generalize readAt (Rdr.label 20) (lineT s1) 0 20 = o1 at a b c d ⊢
  simp only [am, amo, amc, Nat.reduceAdd, encs_length, List.length_map, decide_true, decide_false, Tree.rec_, Nd.rec_, Word.rec_, Got.rec_, fenc]
  refine (line_calls s2 σ (by decide)).mono ?_
  rintro v σ ⟨rfl, rfl⟩
  simp only [am, amo, amc, Nat.reduceAdd, encs_length, List.length_map, decide_true, decide_false, Tree.rec_, Nd.rec_, Word.rec_, Got.rec_]
  refine (Label_calls (n := 20) (at_ := 0) (fin := 20) al_many2 (hbig _ al_many2)).mono ?_
  rintro v σ ⟨rfl, rfl⟩
  have e := al_e
  generalize readAt (Rdr.label 20) (lineT s2) 0 20 = o2 at e ⊢
  simp only [am, amo, amc, Nat.reduceAdd, encs_length, List.length_map, decide_true, decide_false, Tree.rec_, Nd.rec_, Word.rec_, Got.rec_, fenc]
  refine (line_calls s3 σ (by decide)).mono ?_
  rintro v σ ⟨rfl, rfl⟩
  simp only [am, amo, amc, Nat.reduceAdd, encs_length, List.length_map, decide_true, decide_false, Tree.rec_, Nd.rec_, Word.rec_, Got.rec_]
  refine (Row_calls (n := 20) (at_ := 0) (fin := 20) al_many3 (hbig _ al_many3)).mono ?_
  rintro v σ ⟨rfl, rfl⟩
  have f := al_f; have g := al_g; have h := al_h
  generalize readAt (Rdr.row 20) (lineT s3) 0 20 = o3 at f g h ⊢
  simp only [am, amo, amc, Nat.reduceAdd, encs_length, List.length_map, decide_true, decide_false, Tree.rec_, Nd.rec_, Word.rec_, Got.rec_, fenc, a, b, c, d, e, f, badC, badA, Nd.fl, show decide (((2 : Nat) : Int) = 2) = true from rfl]
  refine (text_calls 100 o3.1 σ h (by simp only [big]; omega)).mono ?_
  rintro v σ ⟨rfl, rfl⟩
  simp only [am, amo, amc, Nat.reduceAdd, encs_length, List.length_map, decide_true, decide_false, Tree.rec_, Nd.rec_, Word.rec_, Got.rec_, g]
  refine retK_intro rfl (Store.sub_refl _) ⟨?_, rfl⟩
  simp [V.erase, eraseL, s3]
end Go.Proofs.Try

/-
  What might have been read, as the document tells it; the law.
-/
namespace Go.Proofs.Try
open Go.Am
set_option maxRecDepth 4000
set_option maxHeartbeats 4000000

theorem const2_calls : ∀ (k : Nat) (n : Nd) (σ : Store), n.wt ≤ k → n.wt ≤ big → PCalls prog 26 [.agg n.enc] σ fun v σ' => v = .bool n.constQ ∧ σ' = σ := by
  intro k
  induction k with
  | zero => intro n σ h _; cases n; simp only [Nd.wt] at h; omega
  | succ k ihk =>
    intro n σ hk hw
    have hn := wt_names n
    have hbig : n.wt < 2 ^ 62 := by simp only [big] at hw; omega
    have hall : ∀ σ, PCalls prog 56 [.int .i64 1, .sl .no 5 (n.kids.map Nd.enc)] σ fun v σ' => v = .bool (n.kids.all Nd.constQ) ∧ σ' = σ := fun σ =>
      all1_calls n.kids σ (by omega) fun m hm σ => ihk m σ (by have := kid_wt hm; omega) (by have := kid_wt hm; omega)
    have hrule : ∀ σ, PCalls prog 56 [.int .i64 2, .sl .no 5 (n.kids.map Nd.enc)] σ fun v σ' => v = .bool (n.kids.all Nd.ruleQ) ∧ σ' = σ := fun σ =>
      all2_calls n.kids σ (by omega) fun m hm => by have := kid_wt hm; have := wt_names m; omega
    have hr := fun σ => right2_calls n.text σ
    have hrw := fun σ => right2W_calls n.names σ (by omega)
    rw [Nd.constQ_eq]
    refine fn26.calls ?_
    simp only [slots, ac26, am, amo, amc, Nat.reduceAdd, decide_true, decide_false, Tree.rec_, Nd.rec_, Word.rec_, Got.rec_, Nd.fl]
    by_cases k2 : n.kind = 2
    · simp only [am, amo, amc, Nat.reduceAdd, encs_length, List.length_map, decide_true, decide_false, Tree.rec_, Nd.rec_, Word.rec_, Got.rec_, Nd.fl, decide_eq_true k2]
      repeat' (first
        | (refine gL_split (fun h => ?_) (fun h => ?_) <;> simp only [am, amo, amc, h, Nat.reduceAdd, encs_length, List.length_map, decide_true, decide_false, Tree.rec_, Nd.rec_, Word.rec_, Got.rec_, Nd.fl, wrap_i64 (x := (n.names.length : Int) + n.kids.length) (by omega) (by omega)])
        | (refine vcIf_split (fun h => ?_) (fun h => ?_) <;> simp only [am, amo, amc, h, Nat.reduceAdd, encs_length, List.length_map, decide_true, decide_false, Tree.rec_, Nd.rec_, Word.rec_, Got.rec_, Nd.fl, wrap_i64 (x := (n.names.length : Int) + n.kids.length) (by omega) (by omega)])
        | (refine pickL_split (fun h => ?_) (fun h => ?_) <;> simp only [am, amo, amc, h, Nat.reduceAdd, encs_length, List.length_map, decide_true, decide_false, Tree.rec_, Nd.rec_, Word.rec_, Got.rec_, Nd.fl, wrap_i64 (x := (n.names.length : Int) + n.kids.length) (by omega) (by omega)])
        | (refine (hr _).mono ?_; rintro v _ ⟨rfl, rfl⟩; simp only [am])
      )
      all_goals refine retK_intro rfl (Store.sub_refl _) ⟨?_, rfl⟩
      all_goals simp_all [V.erase, eraseL, Nd.leafQ]
      all_goals (try omega)
    simp only [am, amo, amc, Nat.reduceAdd, encs_length, List.length_map, decide_true, decide_false, Tree.rec_, Nd.rec_, Word.rec_, Got.rec_, Nd.fl, decide_eq_false k2]
    by_cases k3 : n.kind = 3
    · simp only [am, amo, amc, Nat.reduceAdd, encs_length, List.length_map, decide_true, decide_false, Tree.rec_, Nd.rec_, Word.rec_, Got.rec_, Nd.fl, decide_eq_true k3]
      repeat' (first
        | (refine gL_split (fun h => ?_) (fun h => ?_) <;> simp only [am, amo, amc, h, Nat.reduceAdd, encs_length, List.length_map, decide_true, decide_false, Tree.rec_, Nd.rec_, Word.rec_, Got.rec_, Nd.fl])
        | (refine vcIf_split (fun h => ?_) (fun h => ?_) <;> simp only [am, amo, amc, h, Nat.reduceAdd, encs_length, List.length_map, decide_true, decide_false, Tree.rec_, Nd.rec_, Word.rec_, Got.rec_, Nd.fl])
        | (refine pickL_split (fun h => ?_) (fun h => ?_) <;> simp only [am, amo, amc, h, Nat.reduceAdd, encs_length, List.length_map, decide_true, decide_false, Tree.rec_, Nd.rec_, Word.rec_, Got.rec_, Nd.fl])
        | (refine (hrw _).mono ?_; rintro v _ ⟨rfl, rfl⟩; simp only [am])
      )
      all_goals refine retK_intro rfl (Store.sub_refl _) ⟨?_, rfl⟩
      all_goals simp_all [V.erase, eraseL]
      all_goals (try omega)
    simp only [am, amo, amc, Nat.reduceAdd, encs_length, List.length_map, decide_true, decide_false, Tree.rec_, Nd.rec_, Word.rec_, Got.rec_, Nd.fl, decide_eq_false k3]
    by_cases k4 : n.kind = 4
    · simp only [am, amo, amc, Nat.reduceAdd, encs_length, List.length_map, decide_true, decide_false, Tree.rec_, Nd.rec_, Word.rec_, Got.rec_, Nd.fl, decide_eq_true k4]
      repeat' (first
        | (refine gL_split (fun h => ?_) (fun h => ?_) <;> simp only [am, amo, amc, h, Nat.reduceAdd, encs_length, List.length_map, decide_true, decide_false, Tree.rec_, Nd.rec_, Word.rec_, Got.rec_, Nd.fl])
        | (refine vcIf_split (fun h => ?_) (fun h => ?_) <;> simp only [am, amo, amc, h, Nat.reduceAdd, encs_length, List.length_map, decide_true, decide_false, Tree.rec_, Nd.rec_, Word.rec_, Got.rec_, Nd.fl])
        | (refine pickL_split (fun h => ?_) (fun h => ?_) <;> simp only [am, amo, amc, h, Nat.reduceAdd, encs_length, List.length_map, decide_true, decide_false, Tree.rec_, Nd.rec_, Word.rec_, Got.rec_, Nd.fl])
        | (refine (hall _).mono ?_; rintro v _ ⟨rfl, rfl⟩; simp only [am])
      )
      all_goals refine retK_intro rfl (Store.sub_refl _) ⟨?_, rfl⟩
      all_goals simp_all [V.erase, eraseL, Nd.bareQ]
      all_goals (try omega)
    simp only [am, amo, amc, Nat.reduceAdd, encs_length, List.length_map, decide_true, decide_false, Tree.rec_, Nd.rec_, Word.rec_, Got.rec_, Nd.fl, decide_eq_false k4]
    by_cases k5 : n.kind = 5
    · simp only [am, amo, amc, Nat.reduceAdd, encs_length, List.length_map, decide_true, decide_false, Tree.rec_, Nd.rec_, Word.rec_, Got.rec_, Nd.fl, decide_eq_true k5]
      repeat' (first
        | (refine gL_split (fun h => ?_) (fun h => ?_) <;> simp only [am, amo, amc, h, Nat.reduceAdd, encs_length, List.length_map, decide_true, decide_false, Tree.rec_, Nd.rec_, Word.rec_, Got.rec_, Nd.fl])
        | (refine vcIf_split (fun h => ?_) (fun h => ?_) <;> simp only [am, amo, amc, h, Nat.reduceAdd, encs_length, List.length_map, decide_true, decide_false, Tree.rec_, Nd.rec_, Word.rec_, Got.rec_, Nd.fl])
        | (refine pickL_split (fun h => ?_) (fun h => ?_) <;> simp only [am, amo, amc, h, Nat.reduceAdd, encs_length, List.length_map, decide_true, decide_false, Tree.rec_, Nd.rec_, Word.rec_, Got.rec_, Nd.fl])
        | (refine (hrule _).mono ?_; rintro v _ ⟨rfl, rfl⟩; simp only [am])
      )
      all_goals refine retK_intro rfl (Store.sub_refl _) ⟨?_, rfl⟩
      all_goals simp_all [V.erase, eraseL, Nd.bareQ]
      all_goals (try omega)
    simp only [am, amo, amc, Nat.reduceAdd, encs_length, List.length_map, decide_true, decide_false, Tree.rec_, Nd.rec_, Word.rec_, Got.rec_, Nd.fl, decide_eq_false k5]
    refine retK_intro rfl (Store.sub_refl _) ⟨?_, rfl⟩
    simp [V.erase, eraseL, k2, k3, k4, k5]
theorem label2_calls : ∀ (k : Nat) (n : Nd) (σ : Store), n.wt ≤ k → n.wt ≤ big → PCalls prog 27 [.agg n.enc] σ fun v σ' => v = .bool n.labelQ ∧ σ' = σ := by
  intro k
  induction k with
  | zero => intro n σ h _; cases n; simp only [Nd.wt] at h; omega
  | succ k ihk =>
    intro n σ hk hw
    have hn := wt_names n
    have hbig : n.wt < 2 ^ 62 := by simp only [big] at hw; omega
    have hall : ∀ σ, PCalls prog 56 [.int .i64 3, .sl .no 5 (n.kids.map Nd.enc)] σ fun v σ' => v = .bool (n.kids.all Nd.labelQ) ∧ σ' = σ := fun σ =>
      all3_calls n.kids σ (by omega) fun m hm σ => ihk m σ (by have := kid_wt hm; omega) (by have := kid_wt hm; omega)
    have hcon : ∀ σ, PCalls prog 56 [.int .i64 1, .sl .no 5 (n.kids.map Nd.enc)] σ fun v σ' => v = .bool (n.kids.all Nd.constQ) ∧ σ' = σ := fun σ =>
      all1_calls n.kids σ (by omega) fun m hm σ => const2_calls _ m σ (Nat.le_refl _) (by have := kid_wt hm; omega)
    have hr := fun σ => right2_calls n.text σ
    rw [Nd.labelQ_eq]
    refine fn27.calls ?_
    simp only [slots, ac27, am, amo, amc, Nat.reduceAdd, decide_true, decide_false, Tree.rec_, Nd.rec_, Word.rec_, Got.rec_, Nd.fl]
    by_cases k1 : n.kind = 1
    · simp only [am, amo, amc, Nat.reduceAdd, encs_length, List.length_map, decide_true, decide_false, Tree.rec_, Nd.rec_, Word.rec_, Got.rec_, Nd.fl, decide_eq_true k1]
      repeat' (first
        | (refine gL_split (fun h => ?_) (fun h => ?_) <;> simp only [am, amo, amc, h, Nat.reduceAdd, encs_length, List.length_map, decide_true, decide_false, Tree.rec_, Nd.rec_, Word.rec_, Got.rec_, Nd.fl, wrap_i64 (x := (n.names.length : Int) + n.kids.length) (by omega) (by omega)])
        | (refine vcIf_split (fun h => ?_) (fun h => ?_) <;> simp only [am, amo, amc, h, Nat.reduceAdd, encs_length, List.length_map, decide_true, decide_false, Tree.rec_, Nd.rec_, Word.rec_, Got.rec_, Nd.fl, wrap_i64 (x := (n.names.length : Int) + n.kids.length) (by omega) (by omega)])
        | (refine pickL_split (fun h => ?_) (fun h => ?_) <;> simp only [am, amo, amc, h, Nat.reduceAdd, encs_length, List.length_map, decide_true, decide_false, Tree.rec_, Nd.rec_, Word.rec_, Got.rec_, Nd.fl, wrap_i64 (x := (n.names.length : Int) + n.kids.length) (by omega) (by omega)])
        | (refine (hr _).mono ?_; rintro v _ ⟨rfl, rfl⟩; simp only [am])
      )
      all_goals refine retK_intro rfl (Store.sub_refl _) ⟨?_, rfl⟩
      all_goals simp_all [V.erase, eraseL, Nd.leafQ]
      all_goals (try omega)
    simp only [am, amo, amc, Nat.reduceAdd, encs_length, List.length_map, decide_true, decide_false, Tree.rec_, Nd.rec_, Word.rec_, Got.rec_, Nd.fl, decide_eq_false k1]
    by_cases k7 : n.kind = 7
    · have hq : (decide ((n.kids.length : Int) = 1) && headQ Nd.constQ n.kids) = (decide ((n.kids.length : Int) = 1) && n.kids.all Nd.constQ) := by
        by_cases h1 : (n.kids.length : Int) = 1
        · rw [headQ_all h1]
        · simp [h1]
      rw [if_neg k1, if_pos k7, Bool.and_assoc, hq]
      simp only [am, amo, amc, Nat.reduceAdd, encs_length, List.length_map, decide_true, decide_false, Tree.rec_, Nd.rec_, Word.rec_, Got.rec_, Nd.fl, decide_eq_true k7]
      repeat' (first
        | (refine gL_split (fun h => ?_) (fun h => ?_) <;> simp only [am, amo, amc, h, Nat.reduceAdd, encs_length, List.length_map, decide_true, decide_false, Tree.rec_, Nd.rec_, Word.rec_, Got.rec_, Nd.fl])
        | (refine vcIf_split (fun h => ?_) (fun h => ?_) <;> simp only [am, amo, amc, h, Nat.reduceAdd, encs_length, List.length_map, decide_true, decide_false, Tree.rec_, Nd.rec_, Word.rec_, Got.rec_, Nd.fl])
        | (refine pickL_split (fun h => ?_) (fun h => ?_) <;> simp only [am, amo, amc, h, Nat.reduceAdd, encs_length, List.length_map, decide_true, decide_false, Tree.rec_, Nd.rec_, Word.rec_, Got.rec_, Nd.fl])
        | (refine (hcon _).mono ?_; rintro v _ ⟨rfl, rfl⟩; simp only [am])
      )
      all_goals refine retK_intro rfl (Store.sub_refl _) ⟨?_, rfl⟩
      all_goals simp_all [V.erase, eraseL, Nd.bareQ]
      all_goals (try omega)
    simp only [am, amo, amc, Nat.reduceAdd, encs_length, List.length_map, decide_true, decide_false, Tree.rec_, Nd.rec_, Word.rec_, Got.rec_, Nd.fl, decide_eq_false k7]
    by_cases k8 : n.kind = 8
    case' pos =>
      simp only [am, amo, amc, Nat.reduceAdd, encs_length, List.length_map, decide_true, decide_false, Tree.rec_, Nd.rec_, Word.rec_, Got.rec_, Nd.fl, decide_eq_true k8]
    case' neg =>
      simp only [am, amo, amc, Nat.reduceAdd, encs_length, List.length_map, decide_true, decide_false, Tree.rec_, Nd.rec_, Word.rec_, Got.rec_, Nd.fl, decide_eq_false k8]
      by_cases k9 : n.kind = 9
      case' pos =>
        simp only [am, amo, amc, Nat.reduceAdd, encs_length, List.length_map, decide_true, decide_false, Tree.rec_, Nd.rec_, Word.rec_, Got.rec_, Nd.fl, decide_eq_true k9]
      case' neg =>
        simp only [am, amo, amc, Nat.reduceAdd, encs_length, List.length_map, decide_true, decide_false, Tree.rec_, Nd.rec_, Word.rec_, Got.rec_, Nd.fl, decide_eq_false k9]
        refine retK_intro rfl (Store.sub_refl _) ⟨?_, rfl⟩
        simp [V.erase, eraseL, k1, k7, k8, k9]
    all_goals
      repeat' (first
        | (refine gL_split (fun h => ?_) (fun h => ?_) <;> simp only [am, amo, amc, h, Nat.reduceAdd, encs_length, List.length_map, decide_true, decide_false, Tree.rec_, Nd.rec_, Word.rec_, Got.rec_, Nd.fl])
        | (refine vcIf_split (fun h => ?_) (fun h => ?_) <;> simp only [am, amo, amc, h, Nat.reduceAdd, encs_length, List.length_map, decide_true, decide_false, Tree.rec_, Nd.rec_, Word.rec_, Got.rec_, Nd.fl])
        | (refine pickL_split (fun h => ?_) (fun h => ?_) <;> simp only [am, amo, amc, h, Nat.reduceAdd, encs_length, List.length_map, decide_true, decide_false, Tree.rec_, Nd.rec_, Word.rec_, Got.rec_, Nd.fl])
        | (refine (hall _).mono ?_; rintro v _ ⟨rfl, rfl⟩; simp only [am])
      )
      all_goals refine retK_intro rfl (Store.sub_refl _) ⟨?_, rfl⟩
      all_goals simp_all [V.erase, eraseL, Nd.bareQ]
      all_goals (try omega)
theorem row2_calls (n : Nd) (σ : Store) (hw : n.wt ≤ big) : PCalls prog 28 [.agg n.enc] σ fun v σ' => v = .bool n.rowQ ∧ σ' = σ := by
  have hn := wt_names n
  have hall : ∀ σ, PCalls prog 56 [.int .i64 4, .sl .no 5 (n.kids.map Nd.enc)] σ fun v σ' => v = .bool (n.kids.all Nd.fieldQ) ∧ σ' = σ := fun σ =>
    all4_calls n.kids σ (by omega) fun m hm p hp σ => label2_calls _ p σ (Nat.le_refl _) (by have := kid_wt hm; have := kid_wt hp; omega)
  have hrw := fun σ => right2W_calls n.names σ (by omega)
  refine fn28.calls ?_
  simp only [slots, ac28, am, amo, amc, Nat.reduceAdd, decide_true, decide_false, Tree.rec_, Nd.rec_, Word.rec_, Got.rec_, Nd.fl]
  by_cases k10 : n.kind = 10
  · simp only [am, amo, amc, Nat.reduceAdd, encs_length, List.length_map, decide_true, decide_false, Tree.rec_, Nd.rec_, Word.rec_, Got.rec_, Nd.fl, decide_eq_true k10]
    repeat' (first
      | (refine gL_split (fun h => ?_) (fun h => ?_) <;> simp only [am, amo, amc, h, Nat.reduceAdd, encs_length, List.length_map, decide_true, decide_false, Tree.rec_, Nd.rec_, Word.rec_, Got.rec_, Nd.fl])
      | (refine vcIf_split (fun h => ?_) (fun h => ?_) <;> simp only [am, amo, amc, h, Nat.reduceAdd, encs_length, List.length_map, decide_true, decide_false, Tree.rec_, Nd.rec_, Word.rec_, Got.rec_, Nd.fl])
      | (refine pickL_split (fun h => ?_) (fun h => ?_) <;> simp only [am, amo, amc, h, Nat.reduceAdd, encs_length, List.length_map, decide_true, decide_false, Tree.rec_, Nd.rec_, Word.rec_, Got.rec_, Nd.fl])
      | (refine (hrw _).mono ?_; rintro v _ ⟨rfl, rfl⟩; simp only [am])
      | (refine (hall _).mono ?_; rintro v _ ⟨rfl, rfl⟩; simp only [am])
    )
    all_goals refine retK_intro rfl (Store.sub_refl _) ⟨?_, rfl⟩
    all_goals simp_all [V.erase, eraseL, Nd.rowQ]
    all_goals (try omega)
  · simp only [am, amo, amc, Nat.reduceAdd, encs_length, List.length_map, decide_true, decide_false, Tree.rec_, Nd.rec_, Word.rec_, Got.rec_, Nd.fl, decide_eq_false k10]
    repeat' (first
      | (refine gL_split (fun h => ?_) (fun h => ?_) <;> simp only [am, amo, amc, h, Nat.reduceAdd, encs_length, List.length_map, decide_true, decide_false, Tree.rec_, Nd.rec_, Word.rec_, Got.rec_, Nd.fl])
      | (refine vcIf_split (fun h => ?_) (fun h => ?_) <;> simp only [am, amo, amc, h, Nat.reduceAdd, encs_length, List.length_map, decide_true, decide_false, Tree.rec_, Nd.rec_, Word.rec_, Got.rec_, Nd.fl])
      | (refine pickL_split (fun h => ?_) (fun h => ?_) <;> simp only [am, amo, amc, h, Nat.reduceAdd, encs_length, List.length_map, decide_true, decide_false, Tree.rec_, Nd.rec_, Word.rec_, Got.rec_, Nd.fl])
      | (refine (label2_calls _ n _ (Nat.le_refl _) hw).mono ?_; rintro v _ ⟨rfl, rfl⟩; simp only [am])
    )
    all_goals refine retK_intro rfl (Store.sub_refl _) ⟨?_, rfl⟩
    all_goals simp_all [V.erase, eraseL, Nd.rowQ]
    all_goals (try omega)

def inv52 (n : Nd) (i : Nat) (σ : Store) : St :=
  ⟨[.any, .ptr (.loc 0) 0, .any, .int .i64 ((1 + n.names.length + cnts (n.kids.take i) : Nat) : Int), .int .i64 (i : Nat)] ++ List.replicate 20 .any, [n.enc], σ⟩
theorem many2_calls : ∀ (k : Nat) (n : Nd) (σ : Store), n.wt ≤ k → n.wt ≤ big → PCalls prog 52 [.agg n.enc] σ fun v σ' => v = .int .i64 n.cnt ∧ σ' = σ := by
  intro k
  induction k with
  | zero => intro n σ h _; cases n; simp only [Nd.wt] at h; omega
  | succ k ihk =>
    intro n σ hk hw
    have hn := wt_names n
    have hc := cnt_wt n
    have hbig : n.wt < 2 ^ 62 := by simp only [big] at hw; omega
    have hce : n.cnt = 1 + n.names.length + cnts n.kids := by cases n; rw [Nd.cnt]; rfl
    refine fn52.calls ?_
    simp only [slots, ac52, am, amo, amc, Nat.reduceAdd, decide_true, decide_false, Tree.rec_, Nd.rec_, Word.rec_, Got.rec_, Nd.fl]
    refine vc_loop (fun p : { i : Nat // i ≤ n.kids.length } => inv52 n p.1 σ) (fun p => n.kids.length - p.1) ?_ ?_
    · refine Upd.enter ⟨0, by simp⟩ ?_ LLLe.rfl OLe.rfl
      rw [List.length_map, wrap_i64 (by omega) (by omega)]
      simp [inv52, List.replicate, am, cnts]
    rintro ⟨i, hi⟩
    simp only [inv52, List.replicate, am, Nd.fl, List.length_map, Nd.rec_]
    refine vcIf_split ?_ ?_
    · intro hlt
      have hlt : i < n.kids.length := by simpa using hlt
      have h1 := cnts_at hlt
      have h2 := cnts_take n.kids (i + 1)
      have h3 := kid_wt (n := n) (List.getElem_mem hlt)
      simp only [am, amo, amc, Nat.reduceAdd, encs_length, List.length_map, decide_true, decide_false, Tree.rec_, Nd.rec_, Word.rec_, Got.rec_, Nd.fl]
      refine idxL_intro (by omega) (nencs_at (List.getElem?_eq_getElem hlt)) ?_
      simp only [am, amo, amc, Nat.reduceAdd, encs_length, List.length_map, decide_true, decide_false, Tree.rec_, Nd.rec_, Word.rec_, Got.rec_, Nd.fl]
      refine (ihk n.kids[i] σ (by omega) (by omega)).mono ?_
      rintro v σ ⟨rfl, rfl⟩
      simp only [am, amo, amc, Nat.reduceAdd, encs_length, List.length_map, decide_true, decide_false, Tree.rec_, Nd.rec_, Word.rec_, Got.rec_, Nd.fl]
      rw [wrap_i64 (by omega) (by omega), wrap_i64 (x := (i : Int) + 1) (by omega) (by omega)]
      refine Upd.again ⟨i + 1, hlt⟩ (by simp; omega) ?_ LLLe.rfl OLe.rfl
      simp [List.replicate, am, h1]
      omega
    intro hlt
    have hlt : i = n.kids.length := by simp at hlt; omega
    subst hlt
    rw [List.take_length]
    simp only [am, amo, amc, Nat.reduceAdd, encs_length, List.length_map, decide_true, decide_false, Tree.rec_, Nd.rec_, Word.rec_, Got.rec_, Nd.fl]
    refine retK_intro rfl (Store.sub_refl _) ⟨?_, rfl⟩
    simp [V.erase, hce]
def bigQ (l : List Nd) : Bool := l.any fun n => decide ((300 : Int) < n.cnt)
def inv22 (l : List Nd) (i : Nat) (σ : Store) : St :=
  ⟨[.any, .any, .any, .any, .any, .sl .no 5 (l.map Nd.enc), .int .i64 l.length, .int .i64 (i : Nat)] ++ List.replicate 7 .any, [], σ⟩
theorem big_calls {τ : Tk} (l : List Nd) (σ : Store) (hb : l.length ≤ big) (hw : ∀ n ∈ l, n.wt ≤ big) : PCalls prog 22 [.sl τ 5 (l.map Nd.enc)] σ fun v σ' => v = .bool (bigQ l) ∧ σ' = σ := by
  simp only [big] at hb
  refine fn22.calls ?_
  simp only [slots, ac22, am, amo, amc, Nat.reduceAdd, decide_true, decide_false, Tree.rec_, Nd.rec_, Word.rec_, Got.rec_, Nd.fl]
  refine vc_loop (fun p : { i : Nat // i ≤ l.length ∧ bigQ (l.take i) = false } => inv22 l p.1 σ) (fun p => l.length - p.1) ?_ ?_
  · refine Upd.enter ⟨0, by simp, by simp [bigQ]⟩ ?_ LLLe.rfl OLe.rfl
    simp [inv22, List.replicate, am]
  rintro ⟨i, hi, ha⟩
  simp only [inv22, List.replicate, am]
  refine vcIf_split ?_ ?_
  · intro hlt
    have hlt : i < l.length := by simpa using hlt
    simp only [am, amo, amc, Nat.reduceAdd, encs_length, List.length_map, decide_true, decide_false, Tree.rec_, Nd.rec_, Word.rec_, Got.rec_, Nd.fl]
    refine idxL_intro (by omega) (nencs_at (List.getElem?_eq_getElem hlt)) ?_
    simp only [am, amo, amc, Nat.reduceAdd, encs_length, List.length_map, decide_true, decide_false, Tree.rec_, Nd.rec_, Word.rec_, Got.rec_, Nd.fl, Nd.r_ov]
    refine (many2_calls _ l[i] σ (Nat.le_refl _) (hw _ (List.getElem_mem hlt))).mono ?_
    rintro v σ ⟨rfl, rfl⟩
    simp only [am, amo, amc, Nat.reduceAdd, encs_length, List.length_map, decide_true, decide_false, Tree.rec_, Nd.rec_, Word.rec_, Got.rec_, Nd.fl]
    refine vcIf_split ?_ ?_
    · intro hg
      simp only [am, amo, amc, Nat.reduceAdd, encs_length, List.length_map, decide_true, decide_false, Tree.rec_, Nd.rec_, Word.rec_, Got.rec_, Nd.fl]
      refine retK_intro rfl (Store.sub_refl _) ⟨?_, rfl⟩
      rw [show bigQ l = true from List.any_eq_true.2 ⟨l[i], List.getElem_mem hlt, by simpa using hg⟩]; rfl
    · intro hg
      simp only [am, amo, amc, Nat.reduceAdd, encs_length, List.length_map, decide_true, decide_false, Tree.rec_, Nd.rec_, Word.rec_, Got.rec_, Nd.fl]
      rw [wrap_i64 (by omega) (by omega)]
      refine Upd.againD ⟨i + 1, hlt, ?_⟩ (by simp; omega) (by simp [List.replicate, am]) (by simp [am]) OLe.rfl rfl rfl
      unfold bigQ at ha ⊢
      rw [take_succ_of (List.getElem?_eq_getElem hlt), List.any_append, ha]
      simpa using hg
  intro hlt
  have hlt : i = l.length := by simp at hlt; omega
  subst hlt
  rw [List.take_length] at ha
  simp only [am, amo, amc, Nat.reduceAdd, encs_length, List.length_map, decide_true, decide_false, Tree.rec_, Nd.rec_, Word.rec_, Got.rec_, Nd.fl]
  refine retK_intro rfl (Store.sub_refl _) ⟨?_, rfl⟩
  simp [V.erase, eraseL, ha]
end Go.Proofs.Try

/-
  What trees are made of a line.
-/
namespace Go.Am
def delta (l : List Tok) (i : Nat) : Int := (if closing (kindAt l i) ≠ 0 then 1 else 0) - (if closesZ (kindAt l i) = true then 1 else 0)
theorem partnerF_succ {l : List Tok} {x n i : Nat} {d : Int} : partnerF l x (n + 1) i d = if d + delta l i = 0 then i else partnerF l x n (i + 1) (d + delta l i) := by
  simp only [partnerF, delta]
  have e : d + (if closing (kindAt l i) ≠ 0 then 1 else 0) - (if closesZ (kindAt l i) = true then 1 else 0) = d + ((if closing (kindAt l i) ≠ 0 then 1 else 0) - (if closesZ (kindAt l i) = true then 1 else 0)) := by omega
  rw [e]
  rfl
theorem delta_ge (l : List Tok) (i : Nat) : -1 ≤ delta l i := by unfold delta; split <;> split <;> omega
theorem delta_open {l : List Tok} {i : Nat} (h : closing (kindAt l i) ≠ 0) : delta l i = 1 := by
  unfold delta
  have : closesZ (kindAt l i) = false := by
    unfold closing at h
    unfold closesZ
    split at h
    · rename_i hk; rw [hk]; decide
    · split at h
      · rename_i hk; rcases hk with hk | hk <;> rw [hk] <;> decide
      · exact absurd rfl h
  rw [this, if_pos h]; simp
theorem partnerF_rng {l : List Tok} {x : Nat} : ∀ (n i : Nat) (d : Int), partnerF l x n i d = x ∨ i ≤ partnerF l x n i d
  | 0, _, _ => .inl rfl
  | n + 1, i, d => by
    rw [partnerF_succ]
    split
    · exact .inr (Nat.le_refl _)
    · rcases partnerF_rng n (i + 1) (d + delta l i) with h | h
      · exact .inl h
      · exact .inr (by omega)
theorem scan {l : List Tok} {x j : Nat} : ∀ (n i : Nat) (d : Int), i + n = l.length → 1 ≤ d → x < i → i ≤ j → j < partnerF l x n i d → ∃ d', 1 ≤ d' ∧ partnerF l x n i d = partnerF l x (l.length - j) j d'
  | 0, i, d, _, _, hx, hj, h => by simp only [partnerF] at h; omega
  | n + 1, i, d, hl, hd, hx, hj, h => by
    by_cases hij : i = j
    · subst hij
      exact ⟨d, hd, by rw [show l.length - i = n + 1 by omega]⟩
    rw [partnerF_succ] at h ⊢
    split at h
    · omega
    · rename_i he
      rw [if_neg he]
      have := delta_ge l i
      exact scan n (i + 1) _ (by omega) (by omega) (by omega) (by omega) h
theorem less {l : List Tok} {x y : Nat} : ∀ (n p : Nat) (a b : Int), 1 ≤ a → a < b → y < p → x < p → p ≤ partnerF l x n p b → partnerF l y n p a < partnerF l x n p b
  | 0, p, a, b, _, _, _, hx, h => by simp only [partnerF] at h; omega
  | n + 1, p, a, b, ha, hb, hy, hx, h => by
    have hd := delta_ge l p
    simp only [partnerF_succ] at h ⊢
    rw [if_neg (show ¬ b + delta l p = 0 by omega)] at h ⊢
    have h2 : p + 1 ≤ partnerF l x n (p + 1) (b + delta l p) := by rcases partnerF_rng (l := l) (x := x) n (p + 1) (b + delta l p) with e | e <;> omega
    split
    · omega
    · exact less n (p + 1) _ _ (by omega) (by omega) (by omega) (by omega) h2
theorem nest {l : List Tok} {i j : Nat} (hi : closing (kindAt l i) ≠ 0) (hj : closing (kindAt l j) ≠ 0) (h1 : i < j) (h2 : j < partner l i) (hl : i < l.length) : partner l j < partner l i := by
  have hp := partner_ge hl
  have e : partner l i = partnerF l i (l.length - i - 1) (i + 1) 1 := by
    unfold partner
    rw [show l.length - i = (l.length - i - 1) + 1 by omega, partnerF_succ, delta_open hi]
    simp
  rw [e] at h2
  obtain ⟨d, hd, e2⟩ := scan (l.length - i - 1) (i + 1) 1 (by omega) (by omega) (by omega) (by omega) h2
  have e3 : partnerF l i (l.length - j) j d = partnerF l i (l.length - j - 1) (j + 1) (d + 1) := by
    rw [show l.length - j = (l.length - j - 1) + 1 by omega, partnerF_succ, delta_open hj, if_neg (by omega)]
    simp
  have e4 : partner l j = partnerF l j (l.length - j - 1) (j + 1) 1 := by
    unfold partner
    rw [show l.length - j = (l.length - j - 1) + 1 by omega, partnerF_succ, delta_open hj]
    simp
  rw [e, e2, e3, e4]
  rw [e2, e3] at h2
  exact less _ _ _ _ (by omega) (by omega) (by omega) (by omega) (by rcases partnerF_rng (l := l) (x := i) (l.length - j - 1) (j + 1) (d + 1) with e | e <;> omega)
def Within (l : List Tok) (i to : Nat) : Prop := ∀ j, i ≤ j → j < to → closing (kindAt l j) ≠ 0 → partner l j < to
theorem treesF_many {l : List Tok} : ∀ (n i to : Nat), to ≤ l.length → Within l i to → manys (treesF l n i to) ≤ to - i
  | 0, _, _, _, _ => by simp [treesF, manys]
  | n + 1, i, to, hl, hw => by
    rw [treesF]
    split
    · rename_i hi
      split
      · rename_i hc
        have hp := partner_ge (l := l) (i := i) (by omega)
        have hq := hw i (Nat.le_refl _) hi hc
        have h1 := treesF_many n (i + 1) (partner l i) (by omega) fun j a b c => nest hc c (by omega) b (by omega)
        have h2 := treesF_many n (partner l i + 1) to hl fun j a b c => hw j (by omega) b c
        simp only [manys, Tree.many]; omega
      · have h2 := treesF_many n (i + 1) to hl fun j a b c => hw j (by omega) b c
        simp only [manys, Tree.many]; omega
    · simp [manys]

/-- A piece as lines have them. -/
def TokOk (t : Tok) : Prop := (t.kind = 97 ∧ nameR t.text = true) ∨ (t.kind ≠ 97 ∧ t.text = [UInt8.ofNat t.kind.toNat])
theorem lexF_ok : ∀ (n p : Nat) (r : List UInt8) (acc : List Tok), (∀ t ∈ acc, TokOk t) → ∀ t ∈ (lexF n p r acc).1, TokOk t
  | 0, _, r, acc, h => by cases r <;> simpa [lexF] using h
  | n + 1, p, [], acc, h => by simpa [lexF] using h
  | n + 1, p, c :: r, acc, h => by
    simp only [lexF]
    split
    · exact h
    · split
      · rename_i hr
        refine lexF_ok n _ _ _ fun t ht => ?_
        rcases List.mem_append.1 ht with ht | ht
        · exact h t ht
        · rw [List.mem_singleton.1 ht]; exact .inl ⟨rfl, hr.2⟩
      · split
        · rename_i hs
          refine lexF_ok n _ _ _ fun t ht => ?_
          rcases List.mem_append.1 ht with ht | ht
          · exact h t ht
          · rw [List.mem_singleton.1 ht]
            refine .inr ⟨fun e => ?_, ?_⟩
            · simp only at e
              rw [e] at hs
              revert hs; decide
            · simp
        · split
          · exact lexF_ok n _ _ _ h
          · simp
mutual
def Tree.Good : Tree → Prop
  | .mk t ks _ => TokOk t ∧ (closing t.kind = 0 → ks = []) ∧ Goods ks
def Goods : List Tree → Prop
  | [] => True
  | t :: ts => t.Good ∧ Goods ts
end
theorem goods_append : ∀ {a b : List Tree}, Goods (a ++ b) ↔ Goods a ∧ Goods b
  | [], b => by simp [Goods]
  | t :: ts, b => by simp only [List.cons_append, Goods, goods_append (a := ts), and_assoc]
theorem good_eq (t : Tree) : t.Good ↔ TokOk t.tok ∧ (closing t.tok.kind = 0 → t.kids = []) ∧ Goods t.kids := by cases t; simp only [Tree.Good, Tree.tok, Tree.kids]
theorem treesF_good {l : List Tok} (h : ∀ t ∈ l, TokOk t) : ∀ (n i to : Nat), to ≤ l.length → Goods (treesF l n i to)
  | 0, _, _, _ => by simp [treesF, Goods]
  | n + 1, i, to, hl => by
    rw [treesF]
    split
    · rename_i hi
      have ht : TokOk (tokN l i) := by
        have e : tokN l i = l[i] := by simp [tokN, List.getElem?_eq_getElem (show i < l.length by omega)]
        rw [e]; exact h _ (List.getElem_mem _)
      have hk : (tokN l i).kind = kindAt l i := by simp only [tokN, kindAt]; split <;> rfl
      split
      · rename_i hc
        have hp := partner_ge (l := l) (i := i) (by omega)
        simp only [Goods, Tree.Good]
        exact ⟨⟨ht, fun e => absurd (hk ▸ e) hc, treesF_good h n _ _ (by omega)⟩, treesF_good h n _ _ hl⟩
      · simp only [Goods, Tree.Good]
        exact ⟨⟨ht, fun _ => trivial, trivial⟩, treesF_good h n _ _ hl⟩
    · exact trivial
theorem line_good (s : List UInt8) : Goods (treeR (lexR s).1).1 := by
  unfold treeR
  split
  · exact trivial
  · exact treesF_good (lexF_ok _ _ _ _ (by simp)) _ _ _ (Nat.le_refl _)
theorem line_many (s : List UInt8) : manys (treeR (lexR s).1).1 ≤ s.length := by
  have hl := lexR_len s
  unfold treeR
  split
  · simp [manys]
  · have := treesF_many (l := (lexR s).1) (lexR s).1.length 0 (lexR s).1.length (Nat.le_refl _) fun j _ hj _ => (partner_ge hj).2
    simp only; omega
theorem tok_len {t : Tok} (h : TokOk t) : t.text.length ≤ 16 := by
  rcases h with ⟨_, h⟩ | ⟨_, h⟩
  · unfold nameR at h; simp only [Bool.and_eq_true, decide_eq_true_eq] at h; exact h.1
  · rw [h]; simp
end Go.Am

/-
  What is read is of the pieces that are read.
-/
namespace Go.Am

structure Eats (r r' : Rdr) (seg : List Tree) : Prop where
  ex : ∃ pre post, r.l = pre ++ seg ++ post ∧ r.at_ = (pre.length : Nat) ∧ r'.at_ = ((pre ++ seg).length : Nat)
  l : r'.l = r.l
  b : r.bad = none
  b' : r'.bad = none
theorem Eats.trans {r r' r'' : Rdr} {a b : List Tree} (h : Eats r r' a) (k : Eats r' r'' b) : Eats r r'' (a ++ b) := by
  obtain ⟨pre, post, e1, e2, e3⟩ := h.ex
  obtain ⟨pre', post', f1, f2, f3⟩ := k.ex
  refine ⟨⟨pre, post', ?_, e2, ?_⟩, k.l.trans h.l, h.b, k.b'⟩
  · have hl : (pre ++ a).length = pre'.length := by omega
    have : pre ++ a ++ post = pre' ++ (b ++ post') := by rw [← e1, ← h.l, f1, List.append_assoc]
    obtain ⟨g1, g2⟩ := List.append_inj this hl
    rw [e1, g2]; simp
  · rw [f3]
    have hl : (pre ++ a).length = pre'.length := by omega
    simp only [List.length_append] at hl ⊢
    omega
theorem Eats.good {r r' : Rdr} {a : List Tree} (h : Eats r r' a) (hg : Goods r.l) : Goods a := by
  obtain ⟨pre, post, e1, _, _⟩ := h.ex
  rw [e1, goods_append, goods_append] at hg
  exact hg.1.2
theorem take_eats {r : Rdr} {k : Int} (h : (r.take k).2.bad = none) : Eats r (r.take k).2 [(r.take k).1] ∧ (r.take k).1.tok.kind = k := by
  rcases r.take_at k with ⟨hs, h1, h2, h3, h4⟩ | ⟨_, _, h1⟩
  · have hs' := hs
    simp only [Rdr.sees, Rdr.ok, isK, Bool.and_eq_true, decide_eq_true_eq, Option.isNone_iff_eq_none] at hs'
    have hlt : r.at_.toNat < r.l.length := by omega
    have e : (r.take k).1 = r.l[r.at_.toNat] := by simp [Rdr.take, hs, List.getD, List.getElem?_eq_getElem hlt]
    refine ⟨⟨⟨r.l.take r.at_.toNat, r.l.drop (r.at_.toNat + 1), ?_, ?_, ?_⟩, r.take_l k, hs'.1, h2⟩, ?_⟩
    · rw [e, List.append_assoc, List.singleton_append, ← List.drop_eq_getElem_cons hlt, List.take_append_drop]
    · rw [List.length_take]; omega
    · rw [h1, List.length_append, List.length_take, List.length_singleton]; omega
    · rw [e]
      have := hs'.2.2
      rw [List.getElem?_eq_getElem hlt] at this
      simpa using this
  · exact absurd h h1

/-- How much there is to trees. -/
def szs (l : List Tree) : Nat := 26 * manys l
theorem szs_append (a b : List Tree) : szs (a ++ b) = szs a + szs b := by simp only [szs, manys_append]; omega
theorem szs_one (t : Tree) : szs [t] = 26 + szs t.kids := by simp only [szs, manys, many_eq]; omega

theorem textF_sign {t : Tok} (ht : t.kind ≠ 97) : ∀ (a : List Tok) (k : Option Int) (b : List Tok), textF k (a ++ t :: b) = textF k a ++ t.text ++ textF none b
  | [], k, b => by
    simp only [List.nil_append, textF, ht, and_false, if_false]
    cases b with
    | nil => rfl
    | cons u us => simp only [textF, Option.some.injEq, ht, false_and, if_false, reduceCtorEq]
  | x :: xs, k, b => by simp only [List.cons_append, textF, textF_sign ht xs (some x.kind) b, List.append_assoc]
theorem textR_sign {t : Tok} (ht : t.kind ≠ 97) (a b : List Tok) : textR (a ++ t :: b) = textR a ++ t.text ++ textR b := textF_sign ht a none b
theorem flats_append : ∀ a b : List Tree, flats (a ++ b) = flats a ++ flats b
  | [], b => rfl
  | t :: ts, b => by simp only [List.cons_append, flats, flats_append ts b, List.append_assoc]
theorem flats_one (t : Tree) : flats [t] = t.tok :: (if closing t.tok.kind ≠ 0 then flats t.kids ++ [⟨closing t.tok.kind, [UInt8.ofNat (closing t.tok.kind).toNat], t.fin⟩] else []) := by
  cases t; simp only [flats, Tree.flat, List.append_nil, Tree.tok, Tree.kids, Tree.fin]
  rfl
/-- A sign between. -/
theorem text_mid {t : Tree} (hk : t.tok.kind ≠ 97) (hc : closing t.tok.kind = 0) (a b : List Tree) : textR (flats (a ++ [t] ++ b)) = textR (flats a) ++ t.tok.text ++ textR (flats b) := by
  rw [flats_append, flats_append, flats_one, hc]
  simp only [ne_eq, not_true_eq_false, if_false, List.append_assoc, List.singleton_append]
  rw [← List.append_assoc (textR (flats a))]
  exact textR_sign hk _ _
theorem text_name {t : Tree} (hk : t.tok.kind = 97) : textR (flats [t]) = t.tok.text := by
  rw [flats_one, hk, show closing 97 = 0 from rfl]
  simp [textR, textF]
theorem text_in {t : Tree} (hc : closing t.tok.kind ≠ 0) : textR (flats [t]) = t.tok.text ++ textR (flats t.kids) ++ [UInt8.ofNat (closing t.tok.kind).toNat] := by
  have hk : t.tok.kind ≠ 97 := fun e => hc (by rw [e]; rfl)
  have hk2 : closing t.tok.kind ≠ 97 := by unfold closing; split; omega; split; omega; omega
  rw [flats_one, if_pos hc]
  have h1 := textR_sign hk [] (flats t.kids ++ [⟨closing t.tok.kind, [UInt8.ofNat (closing t.tok.kind).toNat], t.fin⟩])
  rw [List.nil_append] at h1
  rw [h1, textR_sign hk2]
  simp [textR, textF]
/-- A bracket after something. -/
theorem text_snoc {t : Tree} (hc : closing t.tok.kind ≠ 0) (a : List Tree) : textR (flats (a ++ [t])) = textR (flats a) ++ textR (flats [t]) := by
  have hk : t.tok.kind ≠ 97 := fun e => hc (by rw [e]; rfl)
  rw [flats_append, flats_one]
  have h1 := textR_sign hk [] (if closing t.tok.kind ≠ 0 then flats t.kids ++ [⟨closing t.tok.kind, [UInt8.ofNat (closing t.tok.kind).toNat], t.fin⟩] else [])
  rw [List.nil_append] at h1
  rw [textR_sign hk, h1, List.append_assoc]; rfl

/-- Reading one thing is sound. -/
def Sound {β : Type} (one : Rdr → β × Rdr) (T : β → List UInt8) (Q : β → Prop) (S : β → Nat) : Prop :=
  ∀ r, Goods r.l → (one r).2.bad = none → ∃ seg, Eats r (one r).2 seg ∧ textR (flats seg) = T (one r).1 ∧ Q (one r).1 ∧ S (one r).1 ≤ szs seg
theorem goG_bad {β : Type} {step : Rdr × List β → Rdr × List β} : ∀ {n : Nat} {a : Rdr × List β}, (goG step n a).1.bad = none → a.1.bad = none
  | 0, a, h => h
  | n + 1, a, h => by
    rw [goG] at h
    split at h
    · rename_i hs
      simp only [Rdr.sees, Rdr.ok, Bool.and_eq_true, Option.isNone_iff_eq_none] at hs
      exact hs.1
    · exact h
section
variable {β : Type} {one : Rdr → β × Rdr} {T : β → List UInt8} {Q : β → Prop} {S : β → Nat}
structure Has (T : β → List UInt8) (Q : β → Prop) (S : β → Nat) (seg : List Tree) (xs : List β) : Prop where
  t : textR (flats seg) = joinC (xs.map T)
  q : ∀ x ∈ xs, Q x
  s : (xs.map S).sum ≤ szs seg
  n : 0 < xs.length
theorem goG_sound (hs : Sound one T Q S) {r : Rdr} (hg : Goods r.l) : ∀ {n : Nat} {a : Rdr × List β} {seg : List Tree}, Eats r a.1 seg → Has T Q S seg a.2 → (goG (oStep one) n a).1.bad = none →
    ∃ seg', Eats r (goG (oStep one) n a).1 seg' ∧ Has T Q S seg' (goG (oStep one) n a).2
  | 0, a, seg, h, k, _ => ⟨seg, h, k⟩
  | n + 1, a, seg, h, k, hb => by
    rw [goG] at hb ⊢
    split
    · rename_i hsee
      rw [if_pos hsee] at hb
      have hb1 := goG_bad hb
      have hgl : Goods (a.1.take 44).2.l := by rw [Rdr.take_l, h.l]; exact hg
      obtain ⟨sg, e1, e2, e3, e4⟩ := hs (a.1.take 44).2 hgl hb1
      obtain ⟨t1, t2⟩ := take_eats e1.b
      refine goG_sound hs hg (seg := seg ++ [(a.1.take 44).1] ++ sg) ?_ ?_ hb
      · exact (h.trans t1).trans e1
      · have hgood : Goods [(a.1.take 44).1] := t1.good (by rw [h.l]; exact hg)
        have hok := ((good_eq _).1 hgood.1).1
        have htx : (a.1.take 44).1.tok.text = [44] := by
          rcases hok with ⟨h1, _⟩ | ⟨_, h1⟩
          · omega
          · rw [h1, t2]; rfl
        refine ⟨?_, ?_, ?_, ?_⟩
        · rw [text_mid (by rw [t2]; decide) (by rw [t2]; rfl), k.t, e2, htx]
          simp only [oStep, List.map_append, List.map_cons, List.map_nil]
          rw [joinC_snoc, if_pos (by simpa using k.n)]
        · intro x hx
          rcases List.mem_append.1 hx with hx | hx
          · exact k.q x hx
          · rw [List.mem_singleton.1 hx]; exact e3
        · have := k.s
          simp only [oStep, List.map_append, List.map_cons, List.map_nil, List.sum_append, List.sum_cons, List.sum_nil, szs_append]
          omega
        · simp [oStep]
    · exact ⟨seg, h, k⟩
theorem some_sound (hs : Sound one T Q S) {r : Rdr} (hg : Goods r.l) (hb : (someG (oStep one) r).1.bad = none) : ∃ seg, Eats r (someG (oStep one) r).1 seg ∧ Has T Q S seg (someG (oStep one) r).2 := by
  unfold someG at hb ⊢
  have hb1 := goG_bad hb
  obtain ⟨sg, e1, e2, e3, e4⟩ := hs r hg hb1
  refine goG_sound hs hg e1 ?_ hb
  refine ⟨?_, ?_, ?_, ?_⟩
  · simp only [oStep, List.nil_append, List.map_cons, List.map_nil, joinC, List.flatMap_nil, List.append_nil]; exact e2
  · intro x hx
    simp only [oStep, List.nil_append, List.mem_singleton] at hx
    rw [hx]; exact e3
  · simp only [oStep, List.nil_append, List.map_cons, List.map_nil, List.sum_cons, List.sum_nil]; omega
  · simp [oStep]
theorem close_ok {i : Rdr} (h : i.close.bad = none) : i.bad = none ∧ ¬ i.at_ < i.l.length := by
  unfold Rdr.close at h
  split at h
  · exact absurd h i.fail_ok
  · rename_i hc
    refine ⟨h, fun hl => hc ⟨by simp [Rdr.ok, h], hl⟩⟩
/-- What was read to the end of a bracket. -/
theorem all_in {t : Tree} {i : Rdr} {seg : List Tree} (h : Eats t.inner i seg) (hc : i.close.bad = none) : seg = t.kids := by
  obtain ⟨pre, post, e1, e2, e3⟩ := h.ex
  obtain ⟨_, h2⟩ := close_ok hc
  have hp : pre = [] := by
    have : t.inner.at_ = 0 := rfl
    rw [this] at e2
    exact List.length_eq_zero_iff.1 (by omega)
  subst hp
  have hq : post = [] := by
    rw [h.l, e3, e1] at h2
    simp only [List.nil_append, List.length_append] at h2
    exact List.length_eq_zero_iff.1 (by omega)
  subst hq
  simpa [Tree.inner] using e1.symm
theorem bracket_sound (hs : Sound one T Q S) {k : Int} {e : Bool} {r : Rdr} (hg : Goods r.l) (hb : (r.bracket (oStep one) k e).2.bad = none) :
    ∃ t, Eats r (r.bracket (oStep one) k e).2 [t] ∧ t.tok.kind = k ∧ textR (flats t.kids) = joinC ((r.bracket (oStep one) k e).1.1.map T) ∧ (∀ x ∈ (r.bracket (oStep one) k e).1.1, Q x) ∧ ((r.bracket (oStep one) k e).1.1.map S).sum ≤ szs t.kids ∧
      (e = false → 0 < (r.bracket (oStep one) k e).1.1.length) := by
  unfold Rdr.bracket at hb ⊢
  split
  · rename_i hok
    rw [if_pos hok] at hb
    have hb1 : (r.take k).2.bad = none := by simpa [Rdr.ok] using hok
    obtain ⟨t1, t2⟩ := take_eats hb1
    have hgood : (r.take k).1.Good := (t1.good hg).1
    have hgk : Goods (r.take k).1.kids := ((good_eq _).1 hgood).2.2
    have hb2 : (Rdr.inside (oStep one) e (r.take k).1).1.close.bad = none := hb
    refine ⟨(r.take k).1, ⟨t1.ex, t1.l, t1.b, hb⟩, t2, ?_⟩
    simp only
    generalize (r.take k).1 = t at *
    unfold Rdr.inside at hb2 ⊢
    split
    · rename_i he
      have hk : t.kids = [] := List.length_eq_zero_iff.1 he.2
      rw [hk]
      refine ⟨rfl, by simp, by simp, fun h => ?_⟩
      rw [h] at he; simp at he
    · rename_i he
      rw [if_neg he] at hb2
      obtain ⟨seg, e1, e2⟩ := some_sound hs (r := t.inner) hgk (close_ok hb2).1
      have hseg := all_in e1 hb2
      subst hseg
      exact ⟨e2.t, e2.q, e2.s, fun _ => e2.n⟩
  · rename_i hok
    rw [if_neg hok] at hb
    exact absurd hb (by simpa [Rdr.ok] using hok)
end
end Go.Am

/-
  What is read might have been read, and is of the pieces that are read.
-/
namespace Go.Am

theorem q_set {p : Int} {ws : List Word} (h : rightW ws = true) : (Nd.mk 3 p [] ws []).constQ = true := by
  rw [Nd.constQ_eq]; simp [Nd.kind, Nd.text, Nd.names, Nd.kids, h]
theorem q_tuple {p : Int} {ks : List Nd} (h : ∀ x ∈ ks, x.constQ = true) (h0 : 0 < ks.length) : (Nd.mk 4 p [] [] ks).constQ = true := by
  rw [Nd.constQ_eq]; simp [Nd.bareQ, Nd.kind, Nd.text, Nd.names, Nd.kids]
  exact ⟨h0, h⟩
theorem q_grid {p : Int} {ks : List Nd} (h : ∀ x ∈ ks, x.ruleQ = true) : (Nd.mk 5 p [] [] ks).constQ = true := by
  rw [Nd.constQ_eq]; simp [Nd.bareQ, Nd.kind, Nd.text, Nd.names, Nd.kids]
  exact h
theorem q_point {n : Nd} (hk : n.kind = 2) (h : n.leafQ = true) : n.constQ = true := by rw [Nd.constQ_eq, if_pos hk]; exact h
theorem q_var {n : Nd} (hk : n.kind = 1) (h : n.leafQ = true) : n.labelQ = true := by rw [Nd.labelQ_eq, if_pos hk]; exact h
theorem q_const {p : Int} {c : Nd} (h : c.constQ = true) : (Nd.mk 7 p [] [] [c]).labelQ = true := by
  rw [Nd.labelQ_eq]; simp [Nd.bareQ, Nd.kind, Nd.text, Nd.names, Nd.kids, headQ, h]
theorem q_join {k p : Int} {ks : List Nd} (hk : k = 8 ∨ k = 9) (h : ∀ x ∈ ks, x.labelQ = true) (h0 : 0 < ks.length) : (Nd.mk k p [] [] ks).labelQ = true := by
  rw [Nd.labelQ_eq]
  rcases hk with rfl | rfl
  all_goals
    simp [Nd.bareQ, Nd.kind, Nd.text, Nd.names, Nd.kids]
    exact ⟨h0, h⟩
theorem sign_text {t : Tree} {k : Int} (hg : t.Good) (hk : t.tok.kind = k) (h97 : k ≠ 97) : t.tok.text = [UInt8.ofNat k.toNat] := by
  rcases ((good_eq _).1 hg).1 with ⟨h, _⟩ | ⟨_, h⟩
  · omega
  · rw [h, hk]
theorem tree_len {t : Tree} (hg : t.Good) : t.tok.text.length ≤ 16 := tok_len ((good_eq _).1 hg).1
def SW (w : Word) : Nat := w.text.length + 1
def SN (n : Nd) : Nat := n.wt + 1
theorem word_sound : Sound Rdr.word Word.text (fun w => nameR w.text = true) SW := by
  intro r hg hb
  obtain ⟨t1, t2⟩ := take_eats (show (r.take 97).2.bad = none from hb)
  have hgood := (t1.good hg).1
  refine ⟨[(r.take 97).1], t1, text_name t2, ?_, ?_⟩
  · rcases ((good_eq _).1 hgood).1 with ⟨_, h⟩ | ⟨h, _⟩
    · exact h
    · exact absurd t2 h
  · have := tree_len hgood
    rw [szs_one]; simp only [SW, Rdr.word]; omega
theorem leaf_sound {k : Int} (hk : k = 1 ∨ k = 2) : Sound (Rdr.leaf k) Nd.txt (fun n => n.kind = k ∧ n.leafQ = true) SN := by
  intro r hg hb
  obtain ⟨seg, e1, e2, e3, e4⟩ := word_sound r hg hb
  refine ⟨seg, e1, ?_, ⟨rfl, ?_⟩, ?_⟩
  · rw [e2]; simp only [Rdr.leaf]; rw [Nd.txt, if_pos hk]
  · simp only [Rdr.leaf, Nd.leafQ, Nd.text, Nd.names, Nd.kids]; rw [e3]; rfl
  · simp only [SW] at e4
    simp only [Rdr.leaf, SN, Nd.wt, wsum, wts, List.map_nil, List.sum_nil]
    obtain ⟨t1, t2⟩ := take_eats (show (r.take 97).2.bad = none from hb)
    have hl := tree_len (t1.good hg).1
    have h0 : 26 ≤ szs seg := by
      obtain ⟨pre, post, q1, q2, q3⟩ := e1.ex
      rcases seg with _ | ⟨t, ts⟩
      · exfalso
        obtain ⟨p, q, r1, r2, r3⟩ := t1.ex
        have : r.word.2.at_ = (r.take 97).2.at_ := rfl
        simp only [List.length_append, List.length_nil, List.length_singleton] at q3 r3
        omega
      · simp only [szs, manys]; omega
    have : r.word.1.text.length ≤ 16 := hl
    omega
theorem wsum_S (l : List Word) : (l.map SW).sum = wsum l := rfl
theorem wts_S (l : List Nd) : (l.map SN).sum = wts l := by rw [wts_map]; rfl
theorem rightW_of {l : List Word} (h : ∀ w ∈ l, nameR w.text = true) : rightW l = true := List.all_eq_true.2 h
theorem words_sound {e : Bool} {r : Rdr} (hg : Goods r.l) (hb : (r.words e).2.bad = none) :
    ∃ t, Eats r (r.words e).2 [t] ∧ t.Good ∧ textR (flats [t]) = [123] ++ wtext (r.words e).1.1 ++ [125] ∧ rightW (r.words e).1.1 = true ∧ wsum (r.words e).1.1 + 26 ≤ szs [t] := by
  obtain ⟨t, h1, h2, h3, h4, h5, _⟩ := bracket_sound (one := Rdr.word) word_sound (k := 123) (e := e) hg hb
  have hgood := (h1.good hg).1
  refine ⟨t, h1, hgood, ?_, rightW_of h4, ?_⟩
  · rw [text_in (by rw [h2]; decide), h3, sign_text hgood h2 (by decide), h2]; rfl
  · rw [wsum_S] at h5
    rw [szs_one]
    have e : wsum (r.words e).1.1 = wsum (r.bracket (oStep Rdr.word) 123 e).1.1 := rfl
    omega
theorem nodes_sound {one : Rdr → Nd × Rdr} {Q : Nd → Prop} (hs : Sound one Nd.txt Q SN) {k : Int} (hk : k = 40 ∨ k = 91) {e : Bool} {r : Rdr} (hg : Goods r.l) (hb : (r.nodes one k e).2.bad = none) :
    ∃ t, Eats r (r.nodes one k e).2 [t] ∧ t.Good ∧ textR (flats [t]) = [UInt8.ofNat k.toNat] ++ joinC (txts (r.nodes one k e).1.1) ++ [UInt8.ofNat (closing k).toNat] ∧ (∀ x ∈ (r.nodes one k e).1.1, Q x) ∧ wts (r.nodes one k e).1.1 + 26 ≤ szs [t] ∧
      (e = false → 0 < (r.nodes one k e).1.1.length) := by
  obtain ⟨t, h1, h2, h3, h4, h5, h6⟩ := bracket_sound hs (k := k) (e := e) hg hb
  have hgood := (h1.good hg).1
  refine ⟨t, h1, hgood, ?_, h4, ?_, h6⟩
  · rw [text_in (by rw [h2]; rcases hk with rfl | rfl <;> decide), h3, sign_text hgood h2 (by omega), h2, txts_map]; rfl
  · rw [wts_S] at h5
    rw [szs_one]
    have e : wts (r.nodes one k e).1.1 = wts (r.bracket (oStep one) k e).1.1 := rfl
    omega
theorem rule_sound : Sound Rdr.rule Nd.txt (fun n => n.ruleQ = true) SN := by
  intro r hg hb
  have hb' : ((r.word.2.take 58).2.words true).2.bad = none := hb
  have l1 : r.word.2.l = r.l := r.take_l 97
  have l2 : (r.word.2.take 58).2.l = r.l := (Rdr.take_l _ 58).trans l1
  obtain ⟨t, h1, h2, h3, h4, h5⟩ := words_sound (by rw [l2]; exact hg) hb'
  obtain ⟨c1, c2⟩ := take_eats h1.b
  obtain ⟨seg, e1, e2, e3, e4⟩ := word_sound r hg c1.b
  have hgc := (c1.good (by rw [l1]; exact hg)).1
  refine ⟨seg ++ [(r.word.2.take 58).1] ++ [t], (e1.trans c1).trans h1, ?_, ?_, ?_⟩
  · rw [text_mid (by rw [c2]; decide) (by rw [c2]; rfl), e2, h3, sign_text hgc c2 (by decide)]
    simp only [Rdr.rule]
    rw [Nd.txt]; simp
  · simp only [Rdr.rule, Nd.ruleQ, Nd.kind, Nd.text, Nd.names, Nd.kids]
    rw [e3, h4]; rfl
  · simp only [Rdr.rule, SN, Nd.wt, wts, szs_append, szs_one]
    simp only [SW] at e4
    simp only [szs_one] at h5
    omega
theorem constant_sound : ∀ n, Sound (Rdr.constant n) Nd.txt (fun m => m.constQ = true) SN
  | 0 => fun r hg hb => by
    obtain ⟨seg, e1, e2, ⟨e3, e5⟩, e4⟩ := leaf_sound (.inr rfl) r hg hb
    refine ⟨seg, e1, e2, ?_, e4⟩
    exact q_point e3 e5
  | n + 1 => fun r hg hb => by
    simp only [Rdr.constant] at hb ⊢
    split
    · rename_i hs
      rw [if_pos hs] at hb
      obtain ⟨t, h1, h2, h3, h4, h5⟩ := words_sound hg hb
      refine ⟨[t], h1, ?_, ?_, ?_⟩
      · rw [h3, Nd.txt]; simp
      · exact q_set h4
      · simp only [SN, Nd.wt, wts, List.length_nil]; omega
    · rename_i hs
      rw [if_neg hs] at hb
      split
      · rename_i hs
        rw [if_pos hs] at hb
        obtain ⟨t, h1, h2, h3, h4, h5, h6⟩ := nodes_sound (constant_sound n) (.inl rfl) hg hb
        refine ⟨[t], h1, ?_, ?_, ?_⟩
        · rw [h3, Nd.txt]; simp only [show (closing 40).toNat = 41 from rfl]; rfl
        · exact q_tuple h4 (h6 rfl)
        · simp only [SN, Nd.wt, wsum, List.map_nil, List.sum_nil, List.length_nil]; omega
      · rename_i hs
        rw [if_neg hs] at hb
        split
        · rename_i hs
          rw [if_pos hs] at hb
          obtain ⟨t, h1, h2, h3, h4, h5, h6⟩ := nodes_sound rule_sound (.inr rfl) hg hb
          refine ⟨[t], h1, ?_, ?_, ?_⟩
          · rw [h3, Nd.txt]; simp only [show (closing 91).toNat = 93 from rfl]; rfl
          · exact q_grid h4
          · simp only [SN, Nd.wt, wsum, List.map_nil, List.sum_nil, List.length_nil]; omega
        · rename_i hs
          rw [if_neg hs] at hb
          obtain ⟨seg, e1, e2, ⟨e3, e5⟩, e4⟩ := leaf_sound (.inr rfl) r hg hb
          refine ⟨seg, e1, e2, ?_, e4⟩
          exact q_point e3 e5
theorem atom_sound (n : Nat) : Sound (Rdr.atom n) Nd.txt (fun m => m.atomQ = true) SN := by
  intro r hg hb
  simp only [Rdr.atom] at hb ⊢
  split
  · rename_i hs
    rw [if_pos hs] at hb
    have l1 : (r.take 35).2.l = r.l := r.take_l 35
    obtain ⟨seg, e1, e2, e3, e4⟩ := constant_sound n (r.take 35).2 (by rw [l1]; exact hg) hb
    obtain ⟨c1, c2⟩ := take_eats e1.b
    have hgc := (c1.good hg).1
    refine ⟨[(r.take 35).1] ++ seg, c1.trans e1, ?_, ?_, ?_⟩
    · have := text_mid (t := (r.take 35).1) (by rw [c2]; decide) (by rw [c2]; rfl) [] seg
      rw [List.nil_append] at this
      rw [this, sign_text hgc c2 (by decide), e2, Nd.txt]; simp [flats, textR, textF, txts, headT]
    · simp only [Nd.atomQ, q_const e3, Nd.kind]; rfl
    · simp only [SN, Nd.wt, wsum, wts, List.map_nil, List.sum_nil, List.length_nil, szs_append, szs_one] at e4 ⊢; omega
  · rename_i hs
    rw [if_neg hs] at hb
    obtain ⟨seg, e1, e2, ⟨e3, e5⟩, e4⟩ := leaf_sound (.inl rfl) r hg hb
    refine ⟨seg, e1, e2, ?_, e4⟩
    simp only [Nd.atomQ, q_var e3 e5, e3]; rfl
theorem atom_label {n : Nd} (h : n.atomQ = true) : n.labelQ = true := by simp only [Nd.atomQ, Bool.and_eq_true] at h; exact h.2
theorem label_sound : ∀ n, Sound (Rdr.label n) Nd.txt (fun m => m.labelQ = true) SN
  | 0 => fun r hg hb => by
    obtain ⟨seg, e1, e2, ⟨e3, e5⟩, e4⟩ := leaf_sound (.inl rfl) r hg hb
    refine ⟨seg, e1, e2, ?_, e4⟩
    exact q_var e3 e5
  | n + 1 => fun r hg hb => by
    simp only [Rdr.label] at hb ⊢
    split
    · rename_i hs
      rw [if_pos hs] at hb
      have l1 : (r.take 43).2.l = r.l := r.take_l 43
      obtain ⟨t, h1, h2, h3, h4, h5, h6⟩ := nodes_sound (label_sound n) (.inl rfl) (by rw [l1]; exact hg) hb
      obtain ⟨c1, c2⟩ := take_eats h1.b
      have hgc := (c1.good hg).1
      refine ⟨[(r.take 43).1] ++ [t], c1.trans h1, ?_, ?_, ?_⟩
      · have := text_mid (t := (r.take 43).1) (by rw [c2]; decide) (by rw [c2]; rfl) [] [t]
        rw [List.nil_append] at this
        rw [this, sign_text hgc c2 (by decide), h3, Nd.txt]; simp only [show (closing 40).toNat = 41 from rfl]; rfl
      · exact q_join (.inl rfl) h4 (h6 rfl)
      · simp only [SN, Nd.wt, wsum, List.map_nil, List.sum_nil, List.length_nil, szs_append, szs_one] at h5 ⊢; omega
    · rename_i hs
      rw [if_neg hs] at hb
      split
      · rename_i hs
        rw [if_pos hs] at hb
        have l1 : (r.take 38).2.l = r.l := r.take_l 38
        obtain ⟨t, h1, h2, h3, h4, h5, h6⟩ := nodes_sound (label_sound n) (.inl rfl) (by rw [l1]; exact hg) hb
        obtain ⟨c1, c2⟩ := take_eats h1.b
        have hgc := (c1.good hg).1
        refine ⟨[(r.take 38).1] ++ [t], c1.trans h1, ?_, ?_, ?_⟩
        · have := text_mid (t := (r.take 38).1) (by rw [c2]; decide) (by rw [c2]; rfl) [] [t]
          rw [List.nil_append] at this
          rw [this, sign_text hgc c2 (by decide), h3, Nd.txt]; simp only [show (closing 40).toNat = 41 from rfl]; rfl
        · exact q_join (.inr rfl) h4 (h6 rfl)
        · simp only [SN, Nd.wt, wsum, List.map_nil, List.sum_nil, List.length_nil, szs_append, szs_one] at h5 ⊢; omega
      · rename_i hs
        rw [if_neg hs] at hb
        obtain ⟨seg, e1, e2, e3, e4⟩ := atom_sound (n + 1) r hg hb
        exact ⟨seg, e1, e2, atom_label e3, e4⟩
theorem field_sound (n : Nat) : Sound (Rdr.field n) Nd.txt (fun m => m.fieldQ = true) SN := by
  intro r hg hb
  have hb' : ((r.word.2.take 61).2.atom n).2.bad = none := hb
  have l1 : r.word.2.l = r.l := r.take_l 97
  have l2 : (r.word.2.take 61).2.l = r.l := (Rdr.take_l _ 61).trans l1
  obtain ⟨sg, h1, h2, h3, h4⟩ := atom_sound n (r.word.2.take 61).2 (by rw [l2]; exact hg) hb'
  obtain ⟨c1, c2⟩ := take_eats h1.b
  obtain ⟨seg, e1, e2, e3, e4⟩ := word_sound r hg c1.b
  have hgc := (c1.good (by rw [l1]; exact hg)).1
  refine ⟨seg ++ [(r.word.2.take 61).1] ++ sg, (e1.trans c1).trans h1, ?_, ?_, ?_⟩
  · rw [text_mid (by rw [c2]; decide) (by rw [c2]; rfl), e2, h2, sign_text hgc c2 (by decide)]
    simp only [Rdr.field]
    rw [Nd.txt]; simp [txts, headT]
  · simp only [Rdr.field, Nd.fieldQ, Nd.kind, Nd.text, Nd.names, Nd.kids, headQ]
    rw [e3, h3]; rfl
  · simp only [Rdr.field, SN, Nd.wt, wts, wsum, List.map_nil, List.sum_nil, szs_append, szs_one] at h4 ⊢
    simp only [SW] at e4
    omega
end Go.Am

/-
  Rows; what is read at a place.
-/
namespace Go.Am
theorem q_row {p : Int} {ws : List Word} {ks : List Nd} (h1 : ws.length ≤ 1) (h2 : rightW ws = true) (h3 : ∀ x ∈ ks, x.fieldQ = true) : (Nd.mk 10 p [] ws ks).rowQ = true := by
  unfold Nd.rowQ
  simp [Nd.kind, Nd.text, Nd.names, Nd.kids, h2]
  exact ⟨decide_eq_true (by omega), h3⟩
theorem inner_none (t : Tree) : Eats t.inner t.inner [] := ⟨⟨[], t.kids, rfl, rfl, rfl⟩, rfl, rfl, rfl⟩
theorem fields_in {n : Nat} {t : Tree} (hg : Goods t.kids) {a : Rdr × List Nd} (ha : a = if t.inner.sees 124 = true then (t.inner, []) else someG (oStep (Rdr.field n)) t.inner) (hb : a.1.bad = none) :
    ∃ seg, Eats t.inner a.1 seg ∧ textR (flats seg) = joinC (txts a.2) ∧ (∀ x ∈ a.2, x.fieldQ = true) ∧ wts a.2 ≤ szs seg := by
  split at ha
  · subst ha
    exact ⟨[], inner_none t, rfl, by simp, by simp [wts]⟩
  · subst ha
    obtain ⟨seg, e1, e2⟩ := some_sound (field_sound n) (r := t.inner) hg hb
    refine ⟨seg, e1, ?_, e2.q, ?_⟩
    · rw [e2.t, txts_map]
    · have := e2.s; rwa [wts_S] at this
theorem rowIn_sound {n : Nat} {t : Tree} (hg : Goods t.kids) (hb : (Rdr.rowOf n t).1.1.bad = none) :
    ∃ seg, Eats t.inner (Rdr.rowOf n t).1.1 seg ∧ textR (flats seg) = joinC (txts (Rdr.rowOf n t).1.2) ++ (if 0 < (Rdr.rowOf n t).2.length then [124] ++ wtext (Rdr.rowOf n t).2 else []) ∧
      (∀ x ∈ (Rdr.rowOf n t).1.2, x.fieldQ = true) ∧ (Rdr.rowOf n t).2.length ≤ 1 ∧ rightW (Rdr.rowOf n t).2 = true ∧ wts (Rdr.rowOf n t).1.2 + wsum (Rdr.rowOf n t).2 ≤ szs seg := by
  unfold Rdr.rowOf at hb ⊢
  split
  · exact ⟨[], inner_none t, rfl, by simp, by simp, rfl, by simp [wts, wsum]⟩
  rename_i hne
  rw [if_neg hne] at hb
  unfold Rdr.rowIn at hb ⊢
  simp only at hb ⊢
  generalize ha : (if t.inner.sees 124 = true then (t.inner, []) else someG (oStep (Rdr.field n)) t.inner) = a at hb ⊢
  split
  · rename_i hs
    rw [if_pos hs] at hb
    have hba : a.1.bad = none := by
      simp only [Rdr.sees, Rdr.ok, Bool.and_eq_true, Option.isNone_iff_eq_none] at hs
      exact hs.1
    obtain ⟨seg, e1, e2, e3, e4⟩ := fields_in hg ha.symm hba
    have l1 : a.1.l = t.inner.l := e1.l
    have l2 : (a.1.take 124).2.l = t.inner.l := (Rdr.take_l _ 124).trans l1
    obtain ⟨sw, w1, w2, w3, w4⟩ := word_sound (a.1.take 124).2 (by rw [l2]; exact hg) hb
    obtain ⟨c1, c2⟩ := take_eats w1.b
    have hgc := (c1.good (by rw [l1]; exact hg)).1
    refine ⟨seg ++ [(a.1.take 124).1] ++ sw, (e1.trans c1).trans w1, ?_, e3, by simp, ?_, ?_⟩
    · rw [text_mid (by rw [c2]; decide) (by rw [c2]; rfl), e2, sign_text hgc c2 (by decide), w2]
      simp [wtext, joinC]
    · simp only [rightW, List.all_cons, List.all_nil, Bool.and_true]; exact w3
    · simp only [szs_append, szs_one, wsum, List.map_cons, List.map_nil, List.sum_cons, List.sum_nil]
      simp only [SW] at w4
      omega
  · rename_i hs
    rw [if_neg hs] at hb
    obtain ⟨seg, e1, e2, e3, e4⟩ := fields_in hg ha.symm hb
    exact ⟨seg, e1, by simpa using e2, e3, by simp, rfl, by simpa [wsum] using e4⟩
theorem row_sound (n : Nat) : Sound (Rdr.row n) Nd.txt (fun m => m.rowQ = true) SN := by
  intro r hg hb
  simp only [Rdr.row] at hb ⊢
  split
  · rename_i hs
    rw [if_pos hs] at hb
    have hb1 : (r.take 91).2.bad = none := by
      rcases r.take_at 91 with ⟨_, _, h, _⟩ | ⟨h, _⟩
      · exact h
      · rw [hs] at h; simp at h
    obtain ⟨c1, c2⟩ := take_eats hb1
    have hgc := (c1.good hg).1
    have hgk : Goods (r.take 91).1.kids := ((good_eq _).1 hgc).2.2
    have hb2 : (Rdr.rowOf n (r.take 91).1).1.1.close.bad = none := hb
    obtain ⟨seg, e1, e2, e3, e4, e5, e6⟩ := rowIn_sound (n := n) hgk (close_ok hb2).1
    have hseg := all_in e1 hb2
    subst hseg
    refine ⟨[(r.take 91).1], ⟨c1.ex, c1.l, c1.b, hb⟩, ?_, q_row e4 e5 e3, ?_⟩
    · rw [text_in (by rw [c2]; decide), sign_text hgc c2 (by decide), c2, e2, Nd.txt]
      simp only [show (closing 91).toNat = 93 from rfl]
      simp
    · simp only [SN, Nd.wt, szs_one, List.length_nil]; omega
  · rename_i hs
    rw [if_neg hs] at hb
    obtain ⟨seg, e1, e2, ⟨e3, e5⟩, e4⟩ := leaf_sound (.inl rfl) r hg hb
    refine ⟨seg, e1, e2, ?_, e4⟩
    have := q_var e3 e5
    show (r.leaf 1).1.rowQ = true
    unfold Nd.rowQ
    rw [e3, this]; rfl
/-- What is read at the first place. -/
theorem read_sound {one : Rdr → Nd × Rdr} {Q : Nd → Bool} (hs : Sound one Nd.txt (fun m => Q m = true) SN) {l : List Tree} (hg : Goods l) {fin : Int} (hn : (readAt one l 0 fin).2.2 = none) :
    ∃ k : Nat, (readAt one l 0 fin).2.1 = (k : Nat) ∧ 1 ≤ k ∧ k ≤ l.length ∧ (readAt one l 0 fin).1.txt = textR (flats (l.take k)) ∧ Q (readAt one l 0 fin).1 = true ∧ (readAt one l 0 fin).1.wt ≤ szs l := by
  unfold readAt at hn ⊢
  cases hb : (one ⟨l, 0, fin, none⟩).2.bad with
  | some b => rw [hb] at hn; simp at hn
  | none =>
    simp only
    obtain ⟨seg, e1, e2, e3, e4⟩ := hs ⟨l, 0, fin, none⟩ hg hb
    obtain ⟨pre, post, f1, f2, f3⟩ := e1.ex
    have hp : pre = [] := List.length_eq_zero_iff.1 (by simp only at f2; omega)
    subst hp
    simp only [List.nil_append] at f1 f3
    have hpos : 1 ≤ seg.length := by
      rcases seg with _ | ⟨t, ts⟩
      · simp [SN, szs, manys] at e4
      · simp
    have ht : l.take seg.length = seg := by rw [f1, List.take_left]
    refine ⟨seg.length, f3, hpos, by rw [f1, List.length_append]; omega, by rw [ht, e2], e3, ?_⟩
    have : szs seg ≤ szs l := by rw [f1, szs_append]; omega
    simp only [SN] at e4; omega
end Go.Am

/-
  Pieces as text, trees as pieces: the document's.
-/
namespace Go.Proofs.Try
open Go.Am
set_option maxRecDepth 4000
set_option maxHeartbeats 4000000

def tsum (l : List Tok) : Nat := (l.map fun t => t.text.length + 1).sum
theorem textF_len : ∀ (k : Option Int) (l : List Tok), (textF k l).length ≤ tsum l
  | _, [] => by simp [textF, tsum]
  | k, t :: ts => by
    have := textF_len (some t.kind) ts
    simp only [tsum, List.map_cons, List.sum_cons, textF, List.length_append] at this ⊢
    split <;> simp <;> omega
theorem textF_snoc {t : Tok} : ∀ (l : List Tok) (k : Option Int), textF k (l ++ [t]) = textF k l ++ ((if (match l.getLast? with | some u => some u.kind | none => k) = some 97 ∧ t.kind = 97 then [32] else []) ++ t.text)
  | [], k => by simp [textF]; rfl
  | [x], k => by simp [textF]
  | x :: y :: l, k => by
    have := textF_snoc (t := t) (y :: l) (some x.kind)
    simp only [List.cons_append, textF] at this ⊢
    rw [List.getLast?_cons_cons, this]
    have e : (match (y :: l).getLast? with | some u => some u.kind | none => some x.kind) = (match (y :: l).getLast? with | some u => some u.kind | none => k) := by
      rw [List.getLast?_cons]
    rw [e]; simp only [List.append_assoc]
theorem textR_at {l : List Tok} {i : Nat} (h : i < l.length) : textR (l.take (i + 1)) = textR (l.take i) ++ ((if 0 < i ∧ kindAt l (i - 1) = 97 ∧ kindAt l i = 97 then [32] else []) ++ (tokN l i).text) := by
  have e : l.take (i + 1) = l.take i ++ [tokN l i] := by rw [take_succ_of (List.getElem?_eq_getElem h)]; simp [tokN, h]
  rw [e]
  unfold textR
  rw [textF_snoc, kindAt_eq h]
  congr 2
  cases i with
  | zero => simp
  | succ i =>
    have h1 : (l.take (i + 1)).getLast? = some (tokN l i) := by
      rw [take_succ_of (List.getElem?_eq_getElem (show i < l.length by omega)), List.getLast?_concat]; simp [tokN, show i < l.length by omega]
    rw [h1]
    simp [kindAt_eq (show i < l.length by omega)]
theorem textR_take (l : List Tok) (i : Nat) : (textR (l.take i)).length ≤ tsum l := by
  refine Nat.le_trans (textF_len _ _) ?_
  have : tsum l = tsum (l.take i) + tsum (l.drop i) := by
    rw [tsum, tsum, tsum, ← List.sum_append, ← List.map_append, List.take_append_drop]
  omega
def inv20 {τ : Tk} (l : List Tok) (i : Nat) (σ : Store) : St :=
  ⟨[.sl τ 3 (l.map Tok.enc), .any, .any, .str (textR (l.take i)), .int .i64 (i : Nat)] ++ List.replicate 35 .any, [], σ⟩
theorem textL_calls {τ : Tk} (l : List Tok) (σ : Store) (hl : l.length ≤ big) (hs : tsum l ≤ big) : PCalls prog 20 [.sl τ 3 (l.map Tok.enc)] σ fun v σ' => v = .str (textR l) ∧ σ' = σ := by
  simp only [big] at hl hs
  refine fn20.calls ?_
  simp only [slots, ac20, am, amo, amc, Nat.reduceAdd, decide_true, decide_false, Tree.rec_, Nd.rec_, Word.rec_, Got.rec_]
  refine vc_loop (fun p : { i : Nat // i ≤ l.length } => inv20 (τ := τ) l p.1 σ) (fun p => l.length - p.1) ?_ ?_
  · refine Upd.enter ⟨0, by simp⟩ ?_ LLLe.rfl OLe.rfl
    simp [inv20, List.replicate, am, textR, textF]
  rintro ⟨i, hi⟩
  simp only [inv20, List.replicate, am, List.length_map]
  refine vcIf_split ?_ ?_
  · intro hlt
    have hlt : i < l.length := by simpa using hlt
    have hat := textR_at hlt
    have hle := textR_take l (i + 1)
    have wi : IntKind.i64.wrap ((i : Int) + 1) = (i : Int) + 1 := wrap_i64 (by omega) (by omega)
    rw [hat] at hle
    simp only [List.length_append] at hle
    have fin : ∀ (sp : List UInt8) (st : List V) (ls : List (List V)), (if 0 < i ∧ kindAt l (i - 1) = 97 ∧ kindAt l i = 97 then [32] else []) = sp →
        LLe st ([.sl τ 3 (l.map Tok.enc), .any, .any, .str (textR (l.take i) ++ sp ++ (tokN l i).text), .int .i64 ((i : Int) + 1)] ++ List.replicate 35 .any) →
        Upd ⟨st, ls, σ⟩ fun st' => ∃ j : { i : Nat // i ≤ l.length }, st' = inv20 (τ := τ) l j.1 σ ∧ l.length - j.1 < l.length - i := fun sp st ls hsp hst => by
      refine Upd.againD (I := fun p : { i : Nat // i ≤ l.length } => inv20 (τ := τ) l p.1 σ) (μ := fun p => l.length - p.1) ⟨i + 1, hlt⟩ (by simp; omega) ?_ (by simp [inv20, am]) OLe.rfl rfl rfl
      simp only [inv20, hat, hsp]
      simpa using hst
    simp only [am, amo, amc, Nat.reduceAdd, encs_length, List.length_map, decide_true, decide_false, Tree.rec_, Nd.rec_, Word.rec_, Got.rec_]
    by_cases h0 : 0 < i
    case' neg =>
      rw [if_neg (fun h => h0 h.1)] at hle fin
      simp only [List.length_nil] at hle
      simp only [am, amo, amc, Nat.reduceAdd, encs_length, List.length_map, decide_true, decide_false, Tree.rec_, Nd.rec_, Word.rec_, Got.rec_, decide_eq_false (show ¬ (0 : Int) < i by omega)]
    case' pos =>
      simp only [am, amo, amc, Nat.reduceAdd, encs_length, List.length_map, decide_true, decide_false, Tree.rec_, Nd.rec_, Word.rec_, Got.rec_, decide_eq_true (show (0 : Int) < i by omega), wrap_i64 (x := (i : Int) - 1) (by omega) (by omega)]
      rw [show ((i : Int) - 1) = ((i - 1 : Nat) : Int) by omega]
      refine idxL_intro (by omega) (tencs_at (show i - 1 < l.length by omega)) ?_
      simp only [am, amo, amc, Nat.reduceAdd, encs_length, List.length_map, decide_true, decide_false, Tree.rec_, Nd.rec_, Word.rec_, Got.rec_, Tok.enc]
      rw [← kindAt_eq (show i - 1 < l.length by omega)]
      by_cases k1 : kindAt l (i - 1) = 97
      case' neg =>
        rw [if_neg (fun h => k1 h.2.1)] at hle fin
        simp only [List.length_nil] at hle
        simp only [am, amo, amc, Nat.reduceAdd, encs_length, List.length_map, decide_true, decide_false, Tree.rec_, Nd.rec_, Word.rec_, Got.rec_, decide_eq_false k1]
      case' pos =>
        simp only [am, amo, amc, Nat.reduceAdd, encs_length, List.length_map, decide_true, decide_false, Tree.rec_, Nd.rec_, Word.rec_, Got.rec_, decide_eq_true k1]
        refine idxL_intro (by omega) (tencs_at hlt) ?_
        simp only [am, amo, amc, Nat.reduceAdd, encs_length, List.length_map, decide_true, decide_false, Tree.rec_, Nd.rec_, Word.rec_, Got.rec_, Tok.enc]
        rw [← kindAt_eq hlt]
        by_cases k2 : kindAt l i = 97
        case' neg =>
          rw [if_neg (fun h => k2 h.2.2)] at hle fin
          simp only [List.length_nil] at hle
          simp only [am, amo, amc, Nat.reduceAdd, encs_length, List.length_map, decide_true, decide_false, Tree.rec_, Nd.rec_, Word.rec_, Got.rec_, decide_eq_false k2]
        case' pos =>
          rw [if_pos ⟨h0, k1, k2⟩] at hle fin
          simp only [List.length_singleton] at hle
          simp only [am, amo, amc, Nat.reduceAdd, encs_length, List.length_map, decide_true, decide_false, Tree.rec_, Nd.rec_, Word.rec_, Got.rec_, decide_eq_true k2]
          refine ⟨by simp [big]; omega, ?_⟩
    all_goals
      refine idxL_intro (by omega) (tencs_at hlt) ?_
      simp only [am, amo, amc, Nat.reduceAdd, encs_length, List.length_map, decide_true, decide_false, Tree.rec_, Nd.rec_, Word.rec_, Got.rec_, Tok.enc]
      refine ⟨by simp [big]; omega, ?_⟩
      simp only [am, amo, amc, Nat.reduceAdd, encs_length, List.length_map, decide_true, decide_false, Tree.rec_, Nd.rec_, Word.rec_, Got.rec_, wi]
      refine fin _ _ _ rfl ?_
      simp [am, List.replicate]
  intro hlt
  have hlt : i = l.length := by simp at hlt; omega
  subst hlt
  rw [List.take_length]
  simp only [am, amo, amc, Nat.reduceAdd, encs_length, List.length_map, decide_true, decide_false, Tree.rec_, Nd.rec_, Word.rec_, Got.rec_]
  refine retK_intro rfl (Store.sub_refl _) ⟨?_, rfl⟩
  simp [V.erase, eraseL]
end Go.Proofs.Try

/-
  Trees as pieces again: the document's.
-/
namespace Go.Proofs.Try
open Go.Am
set_option maxRecDepth 4000
set_option maxHeartbeats 4000000

theorem flats_len : ∀ (n : Nat) (l : List Tree), manys l ≤ n → (flats l).length ≤ 2 * manys l
  | _, [], _ => by simp [flats, manys]
  | 0, t :: ts, h => by simp [manys] at h
  | n + 1, t :: ts, h => by
    have e : flats (t :: ts) = flats [t] ++ flats ts := flats_append [t] ts
    rw [e, flats_one, List.length_append]
    simp only [manys, many_eq] at h ⊢
    have h1 := flats_len n t.kids (by omega)
    have h2 := flats_len n ts (by omega)
    simp only [List.length_cons]
    split <;> simp only [List.length_append, List.length_cons, List.length_nil] <;> omega
theorem tsum_append (a b : List Tok) : tsum (a ++ b) = tsum a + tsum b := by simp [tsum]
theorem flats_tsum : ∀ (n : Nat) (l : List Tree), manys l ≤ n → Goods l → tsum (flats l) ≤ 34 * manys l
  | _, [], _, _ => by simp [flats, manys, tsum]
  | 0, t :: ts, h, _ => by simp [manys] at h
  | n + 1, t :: ts, h, hg => by
    have e : flats (t :: ts) = flats [t] ++ flats ts := flats_append [t] ts
    have hgt := (good_eq t).1 hg.1
    have hl := tok_len hgt.1
    rw [e, flats_one, tsum_append]
    simp only [manys, many_eq] at h ⊢
    have h1 := flats_tsum n t.kids (by omega) hgt.2.2
    have h2 := flats_tsum n ts (by omega) hg.2
    split
    · have e2 : tsum (t.tok :: (flats t.kids ++ [⟨closing t.tok.kind, [UInt8.ofNat (closing t.tok.kind).toNat], t.fin⟩])) = t.tok.text.length + 1 + tsum (flats t.kids) + 2 := by
        rw [← List.singleton_append, tsum_append, tsum_append]; simp [tsum]; omega
      rw [e2]; omega
    · have e2 : tsum (t.tok :: []) = t.tok.text.length + 1 := by simp [tsum]
      rw [e2]; omega
theorem flats_at {l : List Tree} {i : Nat} (h : i < l.length) : flats (l.take (i + 1)) = flats (l.take i) ++ [l[i].tok] ++ (if closing l[i].tok.kind ≠ 0 then flats l[i].kids ++ [⟨closing l[i].tok.kind, [UInt8.ofNat (closing l[i].tok.kind).toNat], l[i].fin⟩] else []) := by
  rw [take_succ_of (List.getElem?_eq_getElem h), flats_append, flats_one]; simp
theorem flats_pre (l : List Tree) (i : Nat) : (flats (l.take i)).length ≤ (flats l).length := by
  have := congrArg List.length (flats_append (l.take i) (l.drop i))
  rw [List.take_append_drop, List.length_append] at this
  omega
def inv21 {τ' : Tk} (l : List Tree) (i τ : Nat) (σ : Store) : St :=
  ⟨[.sl τ' 5 (encs l), .any, .any, .sl (.tk τ) 3 ((flats (l.take i)).map Tok.enc), .int .i64 (i : Nat)] ++ List.replicate 46 .any, [], σ.setTip τ (flats (l.take i)).length⟩
theorem flat_calls : ∀ (n : Nat) (τ' : Tk) (l : List Tree) (σ : Store), manys l ≤ n → 2 * manys l ≤ big → PCalls prog 21 [.sl τ' 5 (encs l)] σ fun v σ' => v = .sl .no 3 ((flats l).map Tok.enc) ∧ σ' = σ := by
  intro n
  induction n with
  | zero =>
    intro τ' l σ hm hb
    have : l = [] := by
      rcases l with _ | ⟨t, ts⟩
      · rfl
      · simp [manys] at hm
    subst this
    refine fn21.calls ?_
    simp only [slots, ac21, am, amo, amc, Nat.reduceAdd, decide_true, decide_false, Tree.rec_, Nd.rec_, Word.rec_, Got.rec_]
    refine vc_loop (fun p : { p : Nat // p = 0 ∧ σ.tip p = none ∨ σ.tip p = none } => inv21 (τ' := τ') [] 0 p.1 σ) (fun p => 0) ?_ ?_
    · refine Upd.tokEnter 0 fun τ hτ => ⟨⟨τ, .inr hτ⟩, ?_, rfl, rfl⟩
      simp [inv21, List.replicate, lto, encs, flats]
    rintro ⟨τ, hτ⟩
    have hτ : σ.tip τ = none := by rcases hτ with h | h; exact h.2; exact h
    simp only [inv21, List.replicate, am, encs_length, flats, List.take_nil]
    refine vcIf_split ?_ ?_
    · intro h; simp at h
    · intro _
      simp only [am, amo, amc, Nat.reduceAdd, encs_length, List.length_map, decide_true, decide_false, Tree.rec_, Nd.rec_, Word.rec_, Got.rec_]
      refine retK_intro rfl (sub_tip hτ) ⟨?_, rfl⟩
      simp [V.erase]
  | succ n ih =>
  intro τ' l σ hm hb
  have hfl := flats_len _ l (Nat.le_refl _)
  have hml := manys_ge l
  have hb' := hb
  simp only [big] at hb'
  refine fn21.calls ?_
  simp only [slots, ac21, am, amo, amc, Nat.reduceAdd, decide_true, decide_false, Tree.rec_, Nd.rec_, Word.rec_, Got.rec_]
  refine vc_loop (fun p : { p : Nat × Nat // p.1 ≤ l.length ∧ σ.tip p.2 = none } => inv21 (τ' := τ') l p.1.1 p.1.2 σ) (fun p => l.length - p.1.1) ?_ ?_
  · refine Upd.tokEnter 0 fun τ hτ => ⟨⟨(0, τ), by simp, hτ⟩, ?_, rfl, rfl⟩
    simp [inv21, List.replicate, lto, flats]
  rintro ⟨⟨i, τ⟩, hi, hτ⟩
  simp only at hi hτ
  simp only [inv21, List.replicate, am, encs_length]
  refine vcIf_split ?_ ?_
  · intro hlt
    have hlt : i < l.length := by simpa using hlt
    have hg := manys_get hlt
    have hat := flats_at hlt
    have hle := flats_pre l (i + 1)
    have hel : (encs l)[((i : Nat) : Int).toNat]? = some l[i].enc := by simp [encs_map, hlt]
    have wi : IntKind.i64.wrap ((i : Int) + 1) = (i : Int) + 1 := wrap_i64 (by omega) (by omega)
    rw [hat] at hle
    simp only [List.length_append, List.length_singleton] at hle
    simp only [am, amo, amc, Nat.reduceAdd, encs_length, List.length_map, decide_true, decide_false, Tree.rec_, Nd.rec_, Word.rec_, Got.rec_]
    refine idxL_intro (by omega) (hel) ?_
    simp only [am, amo, amc, Nat.reduceAdd, encs_length, List.length_map, decide_true, decide_false, Tree.rec_, Nd.rec_, Word.rec_, Got.rec_, enc_eq]
    refine app_tk (by simp [big]; omega) (by rw [List.length_map, setTip_tip_same]) ?_
    simp only [am, amo, amc, Nat.reduceAdd, encs_length, List.length_map, decide_true, decide_false, Tree.rec_, Nd.rec_, Word.rec_, Got.rec_, setTip_setTip]
    refine idxL_intro (by omega) (hel) ?_
    simp only [am, amo, amc, Nat.reduceAdd, encs_length, List.length_map, decide_true, decide_false, Tree.rec_, Nd.rec_, Word.rec_, Got.rec_, enc_eq]
    refine (closing_calls l[i].tok.kind _).mono ?_
    rintro v σ' ⟨rfl, rfl⟩
    simp only [am, amo, amc, Nat.reduceAdd, encs_length, List.length_map, decide_true, decide_false, Tree.rec_, Nd.rec_, Word.rec_, Got.rec_]
    have fin : ∀ (out : List Tok) (st : List V) (ls : List (List V)) (m : Nat), flats (l.take (i + 1)) = out → m = out.length →
        LLe st ([.sl τ' 5 (encs l), .any, .any, .sl (.tk τ) 3 (out.map Tok.enc), .int .i64 ((i : Int) + 1)] ++ List.replicate 46 .any) →
        Upd ⟨st, ls, σ.setTip τ m⟩ fun st' => ∃ j : { p : Nat × Nat // p.1 ≤ l.length ∧ σ.tip p.2 = none }, st' = inv21 (τ' := τ') l j.1.1 j.1.2 σ ∧ l.length - j.1.1 < l.length - i := fun out st ls m ho hm hst => by
      subst hm
      refine Upd.againD (I := fun p : { p : Nat × Nat // p.1 ≤ l.length ∧ σ.tip p.2 = none } => inv21 (τ' := τ') l p.1.1 p.1.2 σ) (μ := fun p => l.length - p.1.1) ⟨(i + 1, τ), hlt, hτ⟩ (by simp; omega) ?_ (by simp [inv21, am]) (by simp only [inv21, ho]; exact OLe.rfl) rfl rfl
      simp only [inv21, ho]
      simpa using hst
    by_cases hc : closing l[i].tok.kind = 0
    · simp only [am, amo, amc, Nat.reduceAdd, encs_length, List.length_map, decide_true, decide_false, Tree.rec_, Nd.rec_, Word.rec_, Got.rec_, decide_eq_true hc]
      simp only [hc, ne_eq, not_true_eq_false, if_false, List.append_nil] at hat
      rw [wi]
      exact fin _ _ _ _ hat (by simp) (by simp [am, List.replicate, Tok.enc])
    · simp only [hc, ne_eq, not_false_eq_true, if_true, List.length_append, List.length_singleton] at hat hle
      simp only [am, amo, amc, Nat.reduceAdd, encs_length, List.length_map, decide_true, decide_false, Tree.rec_, Nd.rec_, Word.rec_, Got.rec_, decide_eq_false hc]
      refine idxL_intro (by omega) (hel) ?_
      simp only [am, amo, amc, Nat.reduceAdd, encs_length, List.length_map, decide_true, decide_false, Tree.rec_, Nd.rec_, Word.rec_, Got.rec_, enc_eq]
      refine (ih _ l[i].kids _ (by omega) (by omega)).mono ?_
      rintro v σ' ⟨rfl, rfl⟩
      simp only [am, amo, amc, Nat.reduceAdd, encs_length, List.length_map, decide_true, decide_false, Tree.rec_, Nd.rec_, Word.rec_, Got.rec_]
      refine app_tk (by simp [big]; omega) (by simp [setTip_tip_same]) ?_
      simp only [am, amo, amc, Nat.reduceAdd, encs_length, List.length_map, decide_true, decide_false, Tree.rec_, Nd.rec_, Word.rec_, Got.rec_, setTip_setTip, d_cvBS]
      refine ⟨.full, [UInt8.ofNat (closing l[i].tok.kind).toNat], ?_, ?_⟩
      · have : ((UInt8.ofNat (closing l[i].tok.kind).toNat).toNat : Int) = closing l[i].tok.kind := by
          unfold closing at hc ⊢
          split
          · rfl
          · split
            · rename_i h; rcases h with h | h <;> rw [h] <;> rfl
            · rename_i h1 h2; simp [h1, h2] at hc
        simp only [encB, List.map_cons, List.map_nil, this]
      refine idxL_intro (by omega) (hel) ?_
      simp only [am, amo, amc, Nat.reduceAdd, encs_length, List.length_map, decide_true, decide_false, Tree.rec_, Nd.rec_, Word.rec_, Got.rec_, enc_eq]
      refine appD_tk (by simp [big]; omega) (by simp [setTip_tip_same]; omega) ?_
      simp only [am, amo, amc, Nat.reduceAdd, encs_length, List.length_map, decide_true, decide_false, Tree.rec_, Nd.rec_, Word.rec_, Got.rec_, setTip_setTip]
      rw [wi]
      refine fin _ _ _ _ hat (by simp; omega) (by simp [am, List.replicate, Tok.enc])
  intro hlt
  have hlt : i = l.length := by simp at hlt; omega
  subst hlt
  rw [List.take_length]
  simp only [am, amo, amc, Nat.reduceAdd, encs_length, List.length_map, decide_true, decide_false, Tree.rec_, Nd.rec_, Word.rec_, Got.rec_]
  refine retK_intro rfl (sub_tip hτ) ⟨?_, rfl⟩
  simp [V.erase]
end Go.Proofs.Try

/-
  The law of what is read of lines, walked.
-/
namespace Go.Proofs.Try
open Go.Am
set_option maxRecDepth 4000
set_option maxHeartbeats 4000000

theorem Nd.r_ov2 {x y : Nd} : over x.enc y.enc = y.enc := by rw [Nd.enc_eq x, Nd.enc_eq y]; rfl
structure Rd (L : List Tree) (Q : Nd → Bool) (o : Nd × Int × Option Int) : Prop where
  w : o.1.wt ≤ big
  s : o.2.2 = none → ∃ k : Nat, o.2.1 = (k : Nat) ∧ 1 ≤ k ∧ k ≤ L.length ∧ o.1.txt = textR (flats (L.take k)) ∧ Q o.1 = true
theorem rd_of {one : Rdr → Nd × Rdr} {Q : Nd → Bool} (hs : Sound one Nd.txt (fun m => Q m = true) SN) {L : List Tree} (hg : Goods L) (hw : szs L + 4 ≤ big) {fin : Int} : Rd L Q (readAt one L 0 fin) := by
  constructor
  · cases hb : (one ⟨L, 0, fin, none⟩).2.bad with
    | some b => simp only [readAt, hb, Nd.zero, Nd.wt, wsum, wts, List.map_nil, List.sum_nil, List.length_nil]; omega
    | none =>
      obtain ⟨k, _, _, _, _, _, h⟩ := read_sound hs hg (fin := fin) (by simp only [readAt, hb])
      omega
  · intro h
    obtain ⟨k, h1, h2, h3, h4, h5, _⟩ := read_sound hs hg h
    exact ⟨k, h1, h2, h3, h4, h5⟩
def inv4 (s : List UInt8) (L : List Tree) (i : Nat) (σ : Store) : St :=
  ⟨[.str s, .any, .any, .sl .no 5 (encs L), .int .i64 (i : Nat)] ++ List.replicate 74 .any, [], σ⟩
theorem termSound_calls (s : List UInt8) (σ : Store) (hb : s.length + 1 ≤ big) : PCalls prog 4 [.str s] σ fun v σ' => v = .bool true ∧ σ' = σ := by
  refine fn4.calls ?_
  simp only [slots, ac4, am, amo, amc, Nat.reduceAdd, decide_true, decide_false, Tree.rec_, Nd.rec_, Word.rec_, Got.rec_, Nd.fl]
  refine vcIf_split ?_ ?_
  · intro _
    simp only [am, amo, amc, Nat.reduceAdd, encs_length, List.length_map, decide_true, decide_false, Tree.rec_, Nd.rec_, Word.rec_, Got.rec_, Nd.fl]
    refine (alive_calls σ).mono ?_
    rintro v σ ⟨rfl, rfl⟩
    simp only [am, amo, amc, Nat.reduceAdd, encs_length, List.length_map, decide_true, decide_false, Tree.rec_, Nd.rec_, Word.rec_, Got.rec_, Nd.fl]
    refine retK_intro rfl (Store.sub_refl _) ⟨?_, rfl⟩
    simp [V.erase, eraseL]
  intro hs
  have hs : s.length ≤ 1000 := by simp at hs; omega
  simp only [am, amo, amc, Nat.reduceAdd, encs_length, List.length_map, decide_true, decide_false, Tree.rec_, Nd.rec_, Word.rec_, Got.rec_, Nd.fl]
  refine (line_calls s σ hb).mono ?_
  rintro v σ ⟨rfl, rfl⟩
  simp only [am, amo, amc, Nat.reduceAdd, encs_length, List.length_map, decide_true, decide_false, Tree.rec_, Nd.rec_, Word.rec_, Got.rec_, Nd.fl]
  have hgood : Goods (lineT s) := line_good s
  have hmany : manys (lineT s) ≤ s.length := line_many s
  generalize lineT s = L at hgood hmany ⊢
  have hbig : szs L + 4 ≤ big := by simp only [szs, big]; omega
  have hm1 : manys L + 1 ≤ big := by simp only [big]; omega
  have C1 := fun σ => Const_calls (n := manys L) (at_ := 0) (fin := s.length) (σ := σ) (Nat.le_refl _) hm1
  have C2 := fun σ => Label_calls (n := manys L) (at_ := 0) (fin := s.length) (σ := σ) (Nat.le_refl _) hm1
  have C3 := fun σ => Row_calls (n := manys L) (at_ := 0) (fin := s.length) (σ := σ) (Nat.le_refl _) hm1
  have R1 : Rd L Nd.constQ (readAt (Rdr.constant (manys L)) L 0 s.length) := rd_of (constant_sound _) hgood hbig
  have R2 : Rd L Nd.labelQ (readAt (Rdr.label (manys L)) L 0 s.length) := rd_of (label_sound _) hgood hbig
  have R3 : Rd L Nd.rowQ (readAt (Rdr.row (manys L)) L 0 s.length) := rd_of (row_sound _) hgood hbig
  generalize readAt (Rdr.constant (manys L)) L 0 s.length = o1 at C1 R1
  generalize readAt (Rdr.label (manys L)) L 0 s.length = o2 at C2 R2
  generalize readAt (Rdr.row (manys L)) L 0 s.length = o3 at C3 R3
  refine vc_loop (fun p : { i : Nat // i ≤ 3 } => inv4 s L p.1 σ) (fun p => 3 - p.1) ?_ ?_
  · refine Upd.enter ⟨0, by simp⟩ ?_ LLLe.rfl OLe.rfl
    simp [inv4, List.replicate, am]
  rintro ⟨i, hi⟩
  simp only [inv4, List.replicate, am]
  refine vcIf_split ?_ ?_
  case' refine_2 =>
    intro _
    simp only [am, amo, amc, Nat.reduceAdd, encs_length, List.length_map, decide_true, decide_false, Tree.rec_, Nd.rec_, Word.rec_, Got.rec_, Nd.fl]
    refine (alive_calls σ).mono ?_
    rintro v σ ⟨rfl, rfl⟩
    simp only [am, amo, amc, Nat.reduceAdd, encs_length, List.length_map, decide_true, decide_false, Tree.rec_, Nd.rec_, Word.rec_, Got.rec_, Nd.fl]
    refine retK_intro rfl (Store.sub_refl _) ⟨?_, rfl⟩
    simp [V.erase, eraseL]
  intro hlt
  have hlt : i < 3 := by simp at hlt; omega
  have wi : IntKind.i64.wrap ((i : Int) + 1) = (i : Int) + 1 := wrap_i64 (by omega) (by omega)
  simp only [am, amo, amc, Nat.reduceAdd, encs_length, List.length_map, decide_true, decide_false, Tree.rec_, Nd.rec_, Word.rec_, Got.rec_, Nd.fl]
  refine (C1 σ).mono ?_
  rintro v σ ⟨rfl, rfl⟩
  simp only [am, amo, amc, Nat.reduceAdd, encs_length, List.length_map, decide_true, decide_false, Tree.rec_, Nd.rec_, Word.rec_, Got.rec_, Nd.fl, fenc, Nd.r_ov]
  refine (const_is_calls _ o1.1 σ (Nat.le_refl _) R1.w).mono ?_
  rintro v σ ⟨rfl, rfl⟩
  simp only [am, amo, amc, Nat.reduceAdd, encs_length, List.length_map, decide_true, decide_false, Tree.rec_, Nd.rec_, Word.rec_, Got.rec_, Nd.fl]
  by_cases i1 : (i : Int) = 1
  · simp only [am, amo, amc, Nat.reduceAdd, encs_length, List.length_map, decide_true, decide_false, Tree.rec_, Nd.rec_, Word.rec_, Got.rec_, Nd.fl, decide_eq_true i1]
    refine (C2 σ).mono ?_
    rintro v σ ⟨rfl, rfl⟩
    simp only [am, amo, amc, Nat.reduceAdd, encs_length, List.length_map, decide_true, decide_false, Tree.rec_, Nd.rec_, Word.rec_, Got.rec_, Nd.fl, fenc, Nd.r_ov, Nd.r_ov2]
    refine (label_is_calls _ o2.1 σ (Nat.le_refl _) R2.w).mono ?_
    rintro v σ ⟨rfl, rfl⟩
    simp only [am, amo, amc, Nat.reduceAdd, encs_length, List.length_map, decide_true, decide_false, Tree.rec_, Nd.rec_, Word.rec_, Got.rec_, Nd.fl, decide_eq_false (show ¬ (i : Int) = 2 by omega)]
    rcases hf : o2.2.2 with _ | b
    · obtain ⟨k, e1, e2, e3, e4, e5⟩ := R2.s hf
      have h0 : IntKind.i64.wrap 0 = 0 := rfl
      have hbc : decide (badC none = 0) = true := rfl
      have hba : decide (badA none = 0) = true := rfl
      simp only [am, amo, amc, Nat.reduceAdd, encs_length, List.length_map, decide_true, decide_false, Tree.rec_, Nd.rec_, Word.rec_, Got.rec_, Nd.fl, hf, hbc, hba, e1, e5, decide_eq_false (show ¬ ((k : Nat) : Int) < 1 by omega), decide_eq_false (show ¬ (L.length : Int) < (k : Nat) by omega)]
      refine CallD.intro (text_calls _ o2.1 _ (Nat.le_refl _) R2.w) ?_
      simp only [am, amo, amc, Nat.reduceAdd, encs_length, List.length_map, decide_true, decide_false, Tree.rec_, Nd.rec_, Word.rec_, Got.rec_, Nd.fl]
      refine slcL_to (b := k) (by rw [encs_length]; exact e3) ?_
      rw [show (encs L).take k = encs (L.take k) by rw [encs_map, encs_map, List.map_take]]
      have hmk : manys (L.take k) ≤ manys L := by have := manys_append (L.take k) (L.drop k); rw [List.take_append_drop] at this; omega
      have hgk : Goods (L.take k) := (goods_append.1 (show Goods (L.take k ++ L.drop k) by rw [List.take_append_drop]; exact hgood)).1
      simp only [am, amo, amc, Nat.reduceAdd, encs_length, List.length_map, decide_true, decide_false, Tree.rec_, Nd.rec_, Word.rec_, Got.rec_, Nd.fl]
      refine CallD.intro (flat_calls _ .no (L.take k) _ (Nat.le_refl _) (by simp only [big]; omega)) ?_
      simp only [am, amo, amc, Nat.reduceAdd, encs_length, List.length_map, decide_true, decide_false, Tree.rec_, Nd.rec_, Word.rec_, Got.rec_, Nd.fl]
      have hf1 := flats_len _ (L.take k) (Nat.le_refl _)
      have hf2 := flats_tsum _ (L.take k) (Nat.le_refl _) hgk
      refine CallD.intro (textL_calls (flats (L.take k)) _ (by simp only [big]; omega) (by simp only [big]; omega)) ?_
      simp only [am, amo, amc, Nat.reduceAdd, encs_length, List.length_map, decide_true, decide_false, Tree.rec_, Nd.rec_, Word.rec_, Got.rec_, Nd.fl, e4, bne_self_eq_false]
      rw [wi]
      exact Upd.againD ⟨i + 1, hlt⟩ (by simp; omega) (by simp [List.replicate, am]) (by simp [am]) OLe.rfl rfl rfl
    · have hbc : decide (badC (some b) = 0) = false := rfl
      simp only [am, amo, amc, Nat.reduceAdd, encs_length, List.length_map, decide_true, decide_false, Tree.rec_, Nd.rec_, Word.rec_, Got.rec_, Nd.fl, hf, hbc, Bool.false_and, Bool.not_false]
      rw [wi]
      exact Upd.againD ⟨i + 1, hlt⟩ (by simp; omega) (by simp [List.replicate, am]) (by simp [am]) OLe.rfl rfl rfl
  simp only [am, amo, amc, Nat.reduceAdd, encs_length, List.length_map, decide_true, decide_false, Tree.rec_, Nd.rec_, Word.rec_, Got.rec_, Nd.fl, decide_eq_false i1]
  by_cases i2 : (i : Int) = 2
  · simp only [am, amo, amc, Nat.reduceAdd, encs_length, List.length_map, decide_true, decide_false, Tree.rec_, Nd.rec_, Word.rec_, Got.rec_, Nd.fl, decide_eq_true i2]
    refine (C3 σ).mono ?_
    rintro v σ ⟨rfl, rfl⟩
    simp only [am, amo, amc, Nat.reduceAdd, encs_length, List.length_map, decide_true, decide_false, Tree.rec_, Nd.rec_, Word.rec_, Got.rec_, Nd.fl, fenc, Nd.r_ov, Nd.r_ov2]
    refine (row_is_calls o3.1 σ R3.w).mono ?_
    rintro v σ ⟨rfl, rfl⟩
    simp only [am, amo, amc, Nat.reduceAdd, encs_length, List.length_map, decide_true, decide_false, Tree.rec_, Nd.rec_, Word.rec_, Got.rec_, Nd.fl]
    rcases hf : o3.2.2 with _ | b
    · obtain ⟨k, e1, e2, e3, e4, e5⟩ := R3.s hf
      have h0 : IntKind.i64.wrap 0 = 0 := rfl
      have hbc : decide (badC none = 0) = true := rfl
      have hba : decide (badA none = 0) = true := rfl
      simp only [am, amo, amc, Nat.reduceAdd, encs_length, List.length_map, decide_true, decide_false, Tree.rec_, Nd.rec_, Word.rec_, Got.rec_, Nd.fl, hf, hbc, hba, e1, e5, decide_eq_false (show ¬ ((k : Nat) : Int) < 1 by omega), decide_eq_false (show ¬ (L.length : Int) < (k : Nat) by omega)]
      refine CallD.intro (text_calls _ o3.1 _ (Nat.le_refl _) R3.w) ?_
      simp only [am, amo, amc, Nat.reduceAdd, encs_length, List.length_map, decide_true, decide_false, Tree.rec_, Nd.rec_, Word.rec_, Got.rec_, Nd.fl]
      refine slcL_to (b := k) (by rw [encs_length]; exact e3) ?_
      rw [show (encs L).take k = encs (L.take k) by rw [encs_map, encs_map, List.map_take]]
      have hmk : manys (L.take k) ≤ manys L := by have := manys_append (L.take k) (L.drop k); rw [List.take_append_drop] at this; omega
      have hgk : Goods (L.take k) := (goods_append.1 (show Goods (L.take k ++ L.drop k) by rw [List.take_append_drop]; exact hgood)).1
      simp only [am, amo, amc, Nat.reduceAdd, encs_length, List.length_map, decide_true, decide_false, Tree.rec_, Nd.rec_, Word.rec_, Got.rec_, Nd.fl]
      refine CallD.intro (flat_calls _ .no (L.take k) _ (Nat.le_refl _) (by simp only [big]; omega)) ?_
      simp only [am, amo, amc, Nat.reduceAdd, encs_length, List.length_map, decide_true, decide_false, Tree.rec_, Nd.rec_, Word.rec_, Got.rec_, Nd.fl]
      have hf1 := flats_len _ (L.take k) (Nat.le_refl _)
      have hf2 := flats_tsum _ (L.take k) (Nat.le_refl _) hgk
      refine CallD.intro (textL_calls (flats (L.take k)) _ (by simp only [big]; omega) (by simp only [big]; omega)) ?_
      simp only [am, amo, amc, Nat.reduceAdd, encs_length, List.length_map, decide_true, decide_false, Tree.rec_, Nd.rec_, Word.rec_, Got.rec_, Nd.fl, e4, bne_self_eq_false]
      rw [wi]
      exact Upd.againD ⟨i + 1, hlt⟩ (by simp; omega) (by simp [List.replicate, am]) (by simp [am]) OLe.rfl rfl rfl
    · have hbc : decide (badC (some b) = 0) = false := rfl
      simp only [am, amo, amc, Nat.reduceAdd, encs_length, List.length_map, decide_true, decide_false, Tree.rec_, Nd.rec_, Word.rec_, Got.rec_, Nd.fl, hf, hbc, Bool.false_and, Bool.not_false]
      rw [wi]
      exact Upd.againD ⟨i + 1, hlt⟩ (by simp; omega) (by simp [List.replicate, am]) (by simp [am]) OLe.rfl rfl rfl
  simp only [am, amo, amc, Nat.reduceAdd, encs_length, List.length_map, decide_true, decide_false, Tree.rec_, Nd.rec_, Word.rec_, Got.rec_, Nd.fl, decide_eq_false i2]
  rcases hf : o1.2.2 with _ | b
  · obtain ⟨k, e1, e2, e3, e4, e5⟩ := R1.s hf
    have h0 : IntKind.i64.wrap 0 = 0 := rfl
    have hbc : decide (badC none = 0) = true := rfl
    have hba : decide (badA none = 0) = true := rfl
    simp only [am, amo, amc, Nat.reduceAdd, encs_length, List.length_map, decide_true, decide_false, Tree.rec_, Nd.rec_, Word.rec_, Got.rec_, Nd.fl, hf, hbc, hba, e1, e5, decide_eq_false (show ¬ ((k : Nat) : Int) < 1 by omega), decide_eq_false (show ¬ (L.length : Int) < (k : Nat) by omega)]
    refine CallD.intro (text_calls _ o1.1 _ (Nat.le_refl _) R1.w) ?_
    simp only [am, amo, amc, Nat.reduceAdd, encs_length, List.length_map, decide_true, decide_false, Tree.rec_, Nd.rec_, Word.rec_, Got.rec_, Nd.fl]
    refine slcL_to (b := k) (by rw [encs_length]; exact e3) ?_
    rw [show (encs L).take k = encs (L.take k) by rw [encs_map, encs_map, List.map_take]]
    have hmk : manys (L.take k) ≤ manys L := by have := manys_append (L.take k) (L.drop k); rw [List.take_append_drop] at this; omega
    have hgk : Goods (L.take k) := (goods_append.1 (show Goods (L.take k ++ L.drop k) by rw [List.take_append_drop]; exact hgood)).1
    simp only [am, amo, amc, Nat.reduceAdd, encs_length, List.length_map, decide_true, decide_false, Tree.rec_, Nd.rec_, Word.rec_, Got.rec_, Nd.fl]
    refine CallD.intro (flat_calls _ .no (L.take k) _ (Nat.le_refl _) (by simp only [big]; omega)) ?_
    simp only [am, amo, amc, Nat.reduceAdd, encs_length, List.length_map, decide_true, decide_false, Tree.rec_, Nd.rec_, Word.rec_, Got.rec_, Nd.fl]
    have hf1 := flats_len _ (L.take k) (Nat.le_refl _)
    have hf2 := flats_tsum _ (L.take k) (Nat.le_refl _) hgk
    refine CallD.intro (textL_calls (flats (L.take k)) _ (by simp only [big]; omega) (by simp only [big]; omega)) ?_
    simp only [am, amo, amc, Nat.reduceAdd, encs_length, List.length_map, decide_true, decide_false, Tree.rec_, Nd.rec_, Word.rec_, Got.rec_, Nd.fl, e4, bne_self_eq_false]
    rw [wi]
    exact Upd.againD ⟨i + 1, hlt⟩ (by simp; omega) (by simp [List.replicate, am]) (by simp [am]) OLe.rfl rfl rfl
  · have hbc : decide (badC (some b) = 0) = false := rfl
    simp only [am, amo, amc, Nat.reduceAdd, encs_length, List.length_map, decide_true, decide_false, Tree.rec_, Nd.rec_, Word.rec_, Got.rec_, Nd.fl, hf, hbc, Bool.false_and, Bool.not_false]
    rw [wi]
    exact Upd.againD ⟨i + 1, hlt⟩ (by simp; omega) (by simp [List.replicate, am]) (by simp [am]) OLe.rfl rfl rfl
end Go.Proofs.Try

/-
  Texts as pieces: what lexing gives of a node's text.
-/
namespace Go.Am
abbrev Sh := Int × List UInt8
def Tok.sh (t : Tok) : Sh := (t.kind, t.text)
def sgn (c : UInt8) : Sh := ((c.toNat : Nat), [c])
def nmS (t : List UInt8) : Sh := (97, t)
def commaS : List (List Sh) → List Sh
  | [] => []
  | x :: xs => x ++ xs.flatMap fun y => sgn 44 :: y
def headS : List (List Sh) → List Sh
  | [] => []
  | x :: _ => x
def wshp (ws : List Word) : List Sh := commaS (ws.map fun w => [nmS w.text])
mutual
def Nd.shp : Nd → List Sh
  | .mk k _ t ws ks =>
    if k = 1 ∨ k = 2 then [nmS t]
    else if k = 3 then [sgn 123] ++ wshp ws ++ [sgn 125]
    else if k = 4 then [sgn 40] ++ commaS (shps ks) ++ [sgn 41]
    else if k = 5 then [sgn 91] ++ commaS (shps ks) ++ [sgn 93]
    else if k = 6 then [nmS t] ++ [sgn 58] ++ ([sgn 123] ++ wshp ws ++ [sgn 125])
    else if k = 7 then [sgn 35] ++ headS (shps ks)
    else if k = 8 then [sgn 43] ++ ([sgn 40] ++ commaS (shps ks) ++ [sgn 41])
    else if k = 9 then [sgn 38] ++ ([sgn 40] ++ commaS (shps ks) ++ [sgn 41])
    else if k = 10 then [sgn 91] ++ (commaS (shps ks) ++ (if 0 < ws.length then [sgn 124] ++ wshp ws else [])) ++ [sgn 93]
    else if k = 11 then [nmS t] ++ [sgn 61] ++ headS (shps ks)
    else []
def shps : List Nd → List (List Sh)
  | [] => []
  | n :: ns => n.shp :: shps ns
end
theorem shps_map : ∀ l, shps l = l.map Nd.shp
  | [] => rfl
  | n :: ns => by simp [shps, shps_map ns]
def LexTo (s : List UInt8) (ks : List Sh) : Prop := ∀ (n p : Nat) (acc : List Tok), s.length ≤ n → ∃ toks, lexF n p s acc = (acc ++ toks, none) ∧ toks.map Tok.sh = ks
def Stop : List UInt8 → Prop
  | [] => True
  | c :: _ => goesB c = false
theorem lex_nil : LexTo [] [] := fun n p acc _ => ⟨[], by cases n <;> simp [lexF], rfl⟩
theorem runR_no {c : UInt8} {s : List UInt8} (h : goesB c = false) : runR (c :: s) = [] := by simp [runR, List.takeWhile_cons, h]
theorem lex_sign {c : UInt8} (h1 : signZ (c.toNat : Nat) = true) (h2 : goesB c = false) (h3 : c.toNat ≠ 45) {s : List UInt8} {ks : List Sh} (h : LexTo s ks) : LexTo ([c] ++ s) ([sgn c] ++ ks) := by
  intro n p acc hn
  rcases n with _ | n
  · simp at hn
  obtain ⟨toks, e1, e2⟩ := h n (p + 1) (acc ++ [⟨(c.toNat : Nat), [c], p⟩]) (by simpa using hn)
  refine ⟨⟨(c.toNat : Nat), [c], p⟩ :: toks, ?_, by simp [Tok.sh, sgn, e2]⟩
  rw [List.singleton_append, lexF]
  rw [if_neg (fun h => h3 h.1), runR_no h2, if_neg (by simp), if_pos h1, e1]
  simp
theorem takeWhile_all {α : Type} {f : α → Bool} : ∀ {t s : List α}, t.all f = true → (∀ c r, s = c :: r → f c = false) → (t ++ s).takeWhile f = t
  | [], s, _, h => by
    cases s with
    | nil => rfl
    | cons c r => simp [List.takeWhile_cons, h c r rfl]
  | x :: t, s, ht, h => by
    simp only [List.all_cons, Bool.and_eq_true] at ht
    simp [List.takeWhile_cons, ht.1, takeWhile_all ht.2 h]
theorem name_all {t : List UInt8} (h : nameR t = true) : t.all goesB = true ∧ (∃ c r, t = c :: r ∧ letB c = true) := by
  unfold nameR at h
  rcases t with _ | ⟨c, r⟩
  · simp at h
  · simp only [Bool.and_eq_true] at h
    refine ⟨?_, c, r, rfl, h.2.1⟩
    simp only [List.all_cons, Bool.and_eq_true]
    refine ⟨?_, h.2.2⟩
    have := h.2.1
    simp only [letB, goesB, letZ, goesZ] at this ⊢
    simp_all
theorem lex_name {t : List UInt8} (ht : nameR t = true) {s : List UInt8} {ks : List Sh} (hs : Stop s) (h : LexTo s ks) : LexTo (t ++ s) ([nmS t] ++ ks) := by
  intro n p acc hn
  obtain ⟨hall, c, r, rfl, hc⟩ := name_all ht
  rcases n with _ | n
  · simp at hn
  have hrun : runR (c :: r ++ s) = c :: r := takeWhile_all hall fun c' r' e => by subst e; exact hs
  obtain ⟨toks, e1, e2⟩ := h n (p + (c :: r).length) (acc ++ [⟨97, c :: r, p⟩]) (by simp at hn ⊢; omega)
  refine ⟨⟨97, c :: r, p⟩ :: toks, ?_, by simp [Tok.sh, nmS, e2]⟩
  have h45 : c.toNat ≠ 45 := fun e => by
    simp only [letB, letZ, e] at hc
    revert hc; decide
  rw [List.cons_append] at hrun ⊢
  rw [lexF, if_neg (fun h => h45 h.1), hrun, if_pos ⟨by simp, ht⟩]
  rw [show (c :: (r ++ s)).drop (c :: r).length = s by rw [← List.cons_append, List.drop_left], e1]
  simp
def LexN (tx : List UInt8) (sh : List Sh) : Prop := ∀ s ks, Stop s → LexTo s ks → LexTo (tx ++ s) (sh ++ ks)
def LexS (tx : List UInt8) (sh : List Sh) : Prop := ∀ s ks, LexTo s ks → LexTo (tx ++ s) (sh ++ ks)
theorem LexS.n {t : List UInt8} {k : List Sh} (h : LexS t k) : LexN t k := fun s ks _ hl => h s ks hl
theorem lexS (c : UInt8) (h : (signZ (c.toNat : Nat) && !goesB c && decide (c.toNat ≠ 45)) = true) : LexS [c] [sgn c] := fun _ _ hl => by
  simp only [Bool.and_eq_true, Bool.not_eq_true', decide_eq_true_eq] at h
  exact lex_sign h.1.1 h.1.2 h.2 hl
theorem lexN {t : List UInt8} (h : nameR t = true) : LexN t [nmS t] := fun _ _ hs hl => lex_name h hs hl
theorem LexS.app {a b : List UInt8} {x y : List Sh} (h : LexS a x) (k : LexS b y) : LexS (a ++ b) (x ++ y) := fun s ks hl => by
  rw [List.append_assoc, List.append_assoc]; exact h _ _ (k _ _ hl)
/-- A name, then a sign. -/
theorem LexN.sign {a : List UInt8} {c : UInt8} {x : List Sh} (h : LexN a x) (hc : (signZ (c.toNat : Nat) && !goesB c && decide (c.toNat ≠ 45)) = true) : LexS (a ++ [c]) (x ++ [sgn c]) := fun s ks hl => by
  rw [List.append_assoc, List.append_assoc]
  have := hc
  simp only [Bool.and_eq_true, Bool.not_eq_true', decide_eq_true_eq] at this
  exact h _ _ this.1.2 (lexS c hc _ _ hl)
theorem LexS.nn {a b : List UInt8} {x y : List Sh} (h : LexS a x) (k : LexN b y) : LexN (a ++ b) (x ++ y) := fun s ks hs hl => by
  rw [List.append_assoc, List.append_assoc]; exact h _ _ (k _ _ hs hl)
theorem lex_tail {β : Type} {T : β → List UInt8} {S : β → List Sh} : ∀ {l : List β}, (∀ x ∈ l, LexN (T x) (S x)) → ∀ s ks, Stop s → LexTo s ks → Stop ((l.map T).flatMap (fun y => 44 :: y) ++ s) ∧ LexTo ((l.map T).flatMap (fun y => 44 :: y) ++ s) ((l.map S).flatMap (fun y => sgn 44 :: y) ++ ks)
  | [], _, s, ks, hs, hl => ⟨hs, hl⟩
  | x :: xs, h, s, ks, hs, hl => by
    obtain ⟨h1, h2⟩ := lex_tail (l := xs) (fun y hy => h y (by simp [hy])) s ks hs hl
    simp only [List.map_cons, List.flatMap_cons, List.append_assoc, List.cons_append]
    refine ⟨rfl, ?_⟩
    exact lexS 44 (by decide) _ _ (h x (by simp) _ _ h1 h2)
theorem lex_comma {β : Type} {T : β → List UInt8} {S : β → List Sh} {l : List β} (h : ∀ x ∈ l, LexN (T x) (S x)) : LexN (joinC (l.map T)) (commaS (l.map S)) := by
  intro s ks hs hl
  cases l with
  | nil => exact hl
  | cons x xs =>
    obtain ⟨h1, h2⟩ := lex_tail (l := xs) (fun y hy => h y (by simp [hy])) s ks hs hl
    simp only [List.map_cons, joinC, commaS, List.append_assoc]
    exact h x (by simp) _ _ h1 h2
theorem lex_words {ws : List Word} (h : rightW ws = true) : LexN (wtext ws) (wshp ws) := lex_comma (T := Word.text) (S := fun w => [nmS w.text]) fun w hw => lexN (List.all_eq_true.1 h w hw)
theorem lex_set {ws : List Word} (h : rightW ws = true) : LexS ([123] ++ wtext ws ++ [125]) ([sgn 123] ++ wshp ws ++ [sgn 125]) := LexN.sign ((lexS 123 (by decide)).nn (lex_words h)) (by decide)
theorem lex_in {a b : UInt8} {ks : List Nd} (ha : (signZ (a.toNat : Nat) && !goesB a && decide (a.toNat ≠ 45)) = true) (hb : (signZ (b.toNat : Nat) && !goesB b && decide (b.toNat ≠ 45)) = true) (h : ∀ n ∈ ks, LexN n.txt n.shp) :
    LexS ([a] ++ joinC (txts ks) ++ [b]) ([sgn a] ++ commaS (shps ks) ++ [sgn b]) := by
  rw [txts_map, shps_map]
  exact LexN.sign ((lexS a ha).nn (lex_comma h)) hb
end Go.Am

/-
  Lexing a node's text.
-/
namespace Go.Am
theorem Nd.txt_eq (n : Nd) : n.txt = if n.kind = 1 ∨ n.kind = 2 then n.text else if n.kind = 3 then [123] ++ wtext n.names ++ [125] else if n.kind = 4 then [40] ++ joinC (txts n.kids) ++ [41] else if n.kind = 5 then [91] ++ joinC (txts n.kids) ++ [93]
    else if n.kind = 6 then n.text ++ [58, 123] ++ wtext n.names ++ [125] else if n.kind = 7 then [35] ++ headT (txts n.kids) else if n.kind = 8 then [43, 40] ++ joinC (txts n.kids) ++ [41] else if n.kind = 9 then [38, 40] ++ joinC (txts n.kids) ++ [41]
    else if n.kind = 10 then ([91] ++ joinC (txts n.kids)) ++ (if 0 < n.names.length then [124] ++ wtext n.names else []) ++ [93] else if n.kind = 11 then n.text ++ [61] ++ headT (txts n.kids) else [] := by cases n; rw [Nd.txt]; rfl
theorem Nd.shp_eq (n : Nd) : n.shp = if n.kind = 1 ∨ n.kind = 2 then [nmS n.text] else if n.kind = 3 then [sgn 123] ++ wshp n.names ++ [sgn 125] else if n.kind = 4 then [sgn 40] ++ commaS (shps n.kids) ++ [sgn 41] else if n.kind = 5 then [sgn 91] ++ commaS (shps n.kids) ++ [sgn 93]
    else if n.kind = 6 then [nmS n.text] ++ [sgn 58] ++ ([sgn 123] ++ wshp n.names ++ [sgn 125]) else if n.kind = 7 then [sgn 35] ++ headS (shps n.kids) else if n.kind = 8 then [sgn 43] ++ ([sgn 40] ++ commaS (shps n.kids) ++ [sgn 41]) else if n.kind = 9 then [sgn 38] ++ ([sgn 40] ++ commaS (shps n.kids) ++ [sgn 41])
    else if n.kind = 10 then [sgn 91] ++ (commaS (shps n.kids) ++ (if 0 < n.names.length then [sgn 124] ++ wshp n.names else [])) ++ [sgn 93] else if n.kind = 11 then [nmS n.text] ++ [sgn 61] ++ headS (shps n.kids) else [] := by cases n; rw [Nd.shp]; rfl
theorem kidw {n m : Nd} (hm : m ∈ n.kids) : m.wt + 5 ≤ n.wt := by
  have h1 := wt_mem hm
  have h2 : wts n.kids + 4 ≤ n.wt := by cases n; simp only [Nd.wt, Nd.kids]; omega
  omega
def Lx (n : Nd) : Prop := LexN n.txt n.shp
theorem lx_leaf {n : Nd} (hk : n.kind = 1 ∨ n.kind = 2) (h : n.leafQ = true) : Lx n := by
  unfold Lx
  rw [Nd.txt_eq, Nd.shp_eq, if_pos hk, if_pos hk]
  simp only [Nd.leafQ, Bool.and_eq_true] at h
  exact lexN h.1
theorem rule_spec {n : Nd} (h : n.ruleQ = true) : n.kind = 6 ∧ nameR n.text = true ∧ rightW n.names = true ∧ n.kids = [] := by
  simp only [Nd.ruleQ, Bool.and_eq_true, decide_eq_true_eq] at h
  exact ⟨h.1.1.1, h.1.1.2, h.1.2, List.length_eq_zero_iff.1 (by omega)⟩
theorem lx_rule {n : Nd} (h : n.ruleQ = true) : Lx n := by
  obtain ⟨k, h1, h2, _⟩ := rule_spec h
  unfold Lx
  rw [Nd.txt_eq, Nd.shp_eq]
  simp only [k, show ¬ ((6 : Int) = 1 ∨ (6 : Int) = 2) by omega, show ¬ (6 : Int) = 3 by omega, show ¬ (6 : Int) = 4 by omega, show ¬ (6 : Int) = 5 by omega, if_false, if_true]
  have e : n.text ++ [58, 123] ++ wtext n.names ++ [125] = (n.text ++ [58]) ++ ([123] ++ wtext n.names ++ [125]) := by simp
  rw [e]
  exact (((lexN h1).sign (by decide)).app (lex_set h2)).n
theorem const_spec {n : Nd} (h : n.constQ = true) : (n.kind = 2 ∧ n.leafQ = true) ∨ (n.kind = 3 ∧ n.text = [] ∧ rightW n.names = true ∧ n.kids = []) ∨ (n.kind = 4 ∧ n.text = [] ∧ n.names = [] ∧ n.kids ≠ [] ∧ ∀ x ∈ n.kids, x.constQ = true) ∨ (n.kind = 5 ∧ n.text = [] ∧ n.names = [] ∧ ∀ x ∈ n.kids, x.ruleQ = true) := by
  rw [Nd.constQ_eq] at h
  split at h
  · rename_i k; exact .inl ⟨k, h⟩
  split at h
  · rename_i k
    simp only [Bool.and_eq_true, decide_eq_true_eq] at h
    exact .inr (.inl ⟨k, h.1.1, h.1.2, List.length_eq_zero_iff.1 (by omega)⟩)
  split at h
  · rename_i k
    simp only [Nd.bareQ, Bool.and_eq_true, decide_eq_true_eq] at h
    exact .inr (.inr (.inl ⟨k, h.1.1.1, List.length_eq_zero_iff.1 (by omega), fun e => by rw [e] at h; simp at h, List.all_eq_true.1 h.2⟩))
  split at h
  · rename_i k
    simp only [Nd.bareQ, Bool.and_eq_true, decide_eq_true_eq] at h
    exact .inr (.inr (.inr ⟨k, h.1.1, List.length_eq_zero_iff.1 (by omega), List.all_eq_true.1 h.2⟩))
  · simp at h
theorem lx_const : ∀ (k : Nat) (n : Nd), n.wt ≤ k → n.constQ = true → Lx n := by
  intro k
  induction k with
  | zero => intro n h _; cases n; simp only [Nd.wt] at h; omega
  | succ k ih =>
    intro n hk h
    rcases const_spec h with ⟨h1, h2⟩ | ⟨h1, _, h2, _⟩ | ⟨h1, _, _, _, h2⟩ | ⟨h1, _, _, h2⟩
    · exact lx_leaf (.inr h1) h2
    · unfold Lx
      rw [Nd.txt_eq, Nd.shp_eq, h1]
      exact (lex_set h2).n
    · unfold Lx
      rw [Nd.txt_eq, Nd.shp_eq, h1]
      exact (lex_in (by decide) (by decide) fun m hm => ih m (by have := kidw hm; omega) (h2 m hm)).n
    · unfold Lx
      rw [Nd.txt_eq, Nd.shp_eq, h1]
      exact (lex_in (by decide) (by decide) fun m hm => lx_rule (h2 m hm)).n
theorem label_spec {n : Nd} (h : n.labelQ = true) : (n.kind = 1 ∧ n.leafQ = true) ∨ (n.kind = 7 ∧ n.text = [] ∧ n.names = [] ∧ ∃ c, n.kids = [c] ∧ c.constQ = true) ∨ ((n.kind = 8 ∨ n.kind = 9) ∧ n.text = [] ∧ n.names = [] ∧ n.kids ≠ [] ∧ ∀ x ∈ n.kids, x.labelQ = true) := by
  rw [Nd.labelQ_eq] at h
  split at h
  · rename_i k; exact .inl ⟨k, h⟩
  split at h
  · rename_i k
    simp only [Nd.bareQ, Bool.and_eq_true, decide_eq_true_eq] at h
    refine .inr (.inl ⟨k, h.1.1.1, List.length_eq_zero_iff.1 (by omega), ?_⟩)
    match hq : n.kids, h.1.2 with
    | [c], _ => exact ⟨c, rfl, by have := h.2; rw [hq] at this; exact this⟩
    | [], e => simp at e
    | _ :: _ :: _, e => simp at e; omega
  split at h
  · rename_i k
    simp only [Nd.bareQ, Bool.and_eq_true, decide_eq_true_eq] at h
    exact .inr (.inr ⟨k, h.1.1.1, List.length_eq_zero_iff.1 (by omega), fun e => by rw [e] at h; simp at h, List.all_eq_true.1 h.2⟩)
  · simp at h
theorem lx_label : ∀ (k : Nat) (n : Nd), n.wt ≤ k → n.labelQ = true → Lx n := by
  intro k
  induction k with
  | zero => intro n h _; cases n; simp only [Nd.wt] at h; omega
  | succ k ih =>
    intro n hk h
    rcases label_spec h with ⟨h1, h2⟩ | ⟨h1, _, _, c, h2, h3⟩ | ⟨h1, _, _, _, h2⟩
    · exact lx_leaf (.inl h1) h2
    · unfold Lx
      rw [Nd.txt_eq, Nd.shp_eq, h1, h2]
      exact (lexS 35 (by decide)).nn (lx_const _ c (Nat.le_refl _) h3)
    · have hin := lex_in (a := 40) (b := 41) (by decide) (by decide) fun m hm => ih m (by have := kidw hm; omega) (h2 m hm)
      unfold Lx
      rw [Nd.txt_eq, Nd.shp_eq]
      rcases h1 with h1 | h1
      · rw [h1]
        exact ((lexS 43 (by decide)).app hin).n
      · rw [h1]
        exact ((lexS 38 (by decide)).app hin).n
theorem field_spec {n : Nd} (h : n.fieldQ = true) : n.kind = 11 ∧ nameR n.text = true ∧ n.names = [] ∧ ∃ c, n.kids = [c] ∧ c.atomQ = true := by
  simp only [Nd.fieldQ, Bool.and_eq_true, decide_eq_true_eq] at h
  refine ⟨h.1.1.1.1, h.1.1.1.2, List.length_eq_zero_iff.1 (by omega), ?_⟩
  match hq : n.kids, h.1.2 with
  | [c], _ => exact ⟨c, rfl, by have := h.2; rw [hq] at this; exact this⟩
  | [], e => simp at e
  | _ :: _ :: _, e => simp at e; omega
theorem lx_field {n : Nd} (h : n.fieldQ = true) : Lx n := by
  obtain ⟨k, h1, _, c, h2, h3⟩ := field_spec h
  unfold Lx
  rw [Nd.txt_eq, Nd.shp_eq, k, h2]
  exact ((lexN h1).sign (by decide)).nn (lx_label _ c (Nat.le_refl _) (atom_label h3))
theorem row_spec {n : Nd} (h : n.rowQ = true) : (n.kind = 10 ∧ n.text = [] ∧ (n.names = [] ∨ ∃ w, n.names = [w] ∧ nameR w.text = true) ∧ ∀ x ∈ n.kids, x.fieldQ = true) ∨ (n.kind = 1 ∧ n.labelQ = true) := by
  unfold Nd.rowQ at h
  split at h
  · rename_i k
    simp only [Bool.and_eq_true, decide_eq_true_eq] at h
    refine .inl ⟨k, h.1.1.1, ?_, List.all_eq_true.1 h.2⟩
    match hq : n.names, h.1.1.2 with
    | [], _ => exact .inl rfl
    | [w], _ => exact .inr ⟨w, rfl, by have := h.1.2; rw [hq] at this; simpa [rightW] using this⟩
    | _ :: _ :: _, e => simp at e; omega
  · simp only [Bool.and_eq_true, decide_eq_true_eq] at h
    exact .inr h
theorem lx_row {n : Nd} (h : n.rowQ = true) : Lx n := by
  rcases row_spec h with ⟨k, _, hn, hf⟩ | ⟨_, h⟩
  · have hk : LexN (joinC (txts n.kids)) (commaS (shps n.kids)) := by rw [txts_map, shps_map]; exact lex_comma fun m hm => lx_field (hf m hm)
    unfold Lx
    rw [Nd.txt_eq, Nd.shp_eq, k]
    rcases hn with hn | ⟨w, hn, hw⟩
    · rw [hn]
      have e1 : ([91] : List UInt8) ++ joinC (txts n.kids) ++ [] = [91] ++ joinC (txts n.kids) := by simp
      have e2 : [sgn 91] ++ (commaS (shps n.kids) ++ []) ++ [sgn 93] = [sgn 91] ++ commaS (shps n.kids) ++ [sgn 93] := by simp
      show LexN (([91] ++ joinC (txts n.kids)) ++ [] ++ [93]) ([sgn 91] ++ (commaS (shps n.kids) ++ []) ++ [sgn 93])
      rw [e1, e2]
      exact (((lexS 91 (by decide)).nn hk).sign (by decide)).n
    · rw [hn]
      have e1 : (([91] : List UInt8) ++ joinC (txts n.kids)) ++ ([124] ++ wtext [w]) ++ [93] = (([91] ++ joinC (txts n.kids)) ++ [124]) ++ (wtext [w] ++ [93]) := by simp
      have e2 : [sgn 91] ++ (commaS (shps n.kids) ++ ([sgn 124] ++ wshp [w])) ++ [sgn 93] = (([sgn 91] ++ commaS (shps n.kids)) ++ [sgn 124]) ++ (wshp [w] ++ [sgn 93]) := by simp
      show LexN (([91] ++ joinC (txts n.kids)) ++ ([124] ++ wtext [w]) ++ [93]) ([sgn 91] ++ (commaS (shps n.kids) ++ ([sgn 124] ++ wshp [w])) ++ [sgn 93])
      rw [e1, e2]
      exact ((((lexS 91 (by decide)).nn hk).sign (by decide)).app ((lex_words (by simp [rightW, hw])).sign (by decide))).n
  · exact lx_label _ n (Nat.le_refl _) h
/-- A node's text, lexed. -/
theorem lex_node {n : Nd} (h : Lx n) : (lexR n.txt).2 = none ∧ (lexR n.txt).1.map Tok.sh = n.shp := by
  have := h [] [] trivial lex_nil
  rw [List.append_nil, List.append_nil] at this
  obtain ⟨toks, e1, e2⟩ := this n.txt.length 0 [] (Nat.le_refl _)
  unfold lexR
  rw [e1]
  exact ⟨rfl, by simpa using e2⟩
end Go.Am

/-
  Trees of pieces that are of trees.
-/
namespace Go.Am
mutual
def Tree.WF : Tree → Prop
  | .mk t ks e => closesZ t.kind = false ∧ (closing t.kind = 0 → ks = [] ∧ e = t.pos) ∧ WFs ks
def WFs : List Tree → Prop
  | [] => True
  | t :: ts => t.WF ∧ WFs ts
end
theorem WFs_append : ∀ {a b : List Tree}, WFs (a ++ b) ↔ WFs a ∧ WFs b
  | [], b => by simp [WFs]
  | t :: ts, b => by simp only [List.cons_append, WFs, WFs_append (a := ts), and_assoc]
theorem kindAt_mid {a r : List Tok} {t : Tok} : kindAt (a ++ t :: r) a.length = t.kind := by simp [kindAt]
theorem tokN_mid {a r : List Tok} {t : Tok} : tokN (a ++ t :: r) a.length = t := by simp [tokN]
theorem posAt_mid {a r : List Tok} {t : Tok} : posAt (a ++ t :: r) a.length = t.pos := by simp [posAt]
theorem closing_close {c : Int} (h : closing c ≠ 0) : closesZ (closing c) = true ∧ closing (closing c) = 0 := by
  have : c = 40 ∨ c = 123 ∨ c = 91 := by
    unfold closing at h
    split at h
    · rename_i k; exact .inl k
    · split at h
      · rename_i k; exact .inr k
      · exact absurd rfl h
  rcases this with rfl | rfl | rfl <;> decide
theorem flats_cons (t : Tree) (ts : List Tree) : flats (t :: ts) = t.flat ++ flats ts := rfl
theorem bal {l : List Tok} {x : Nat} : ∀ (k : Nat) (us : List Tree) (a b : List Tok) (n : Nat) (d : Int), manys us ≤ k → WFs us → l = a ++ flats us ++ b → 1 ≤ d → partnerF l x (n + (flats us).length) a.length d = partnerF l x n (a ++ flats us).length d
  | _, [], a, b, n, d, _, _, _, _ => by simp [flats]
  | 0, t :: ts, a, b, n, d, h, _, _, _ => by simp [manys] at h
  | k + 1, .mk t ks e :: ts, a, b, n, d, h, hw, hl, hd => by
    simp only [manys, Tree.many] at h
    obtain ⟨⟨w1, w2, w3⟩, w4⟩ := hw
    rw [flats_cons] at hl ⊢
    by_cases hc : closing t.kind = 0
    · have ef : (Tree.mk t ks e).flat = [t] := by simp [Tree.flat, hc]
      rw [ef] at hl ⊢
      have hk : kindAt l a.length = t.kind := by rw [hl]; simp only [List.append_assoc, List.singleton_append, List.cons_append]; exact kindAt_mid
      have hd0 : delta l a.length = 0 := by unfold delta; rw [hk, hc, w1]; simp
      rw [show n + ([t] ++ flats ts).length = (n + (flats ts).length) + 1 by simp; omega, partnerF_succ, hd0, if_neg (by omega), Int.add_zero]
      have := bal (l := l) (x := x) k ts (a ++ [t]) b n d (by omega) w4 (by rw [hl]; simp) hd
      rw [show (a ++ [t]).length = a.length + 1 by simp] at this
      rw [this]
      simp
    · have ef : (Tree.mk t ks e).flat = t :: (flats ks ++ [⟨closing t.kind, [UInt8.ofNat (closing t.kind).toNat], e⟩]) := by simp [Tree.flat, hc]
      generalize hcl : (⟨closing t.kind, [UInt8.ofNat (closing t.kind).toNat], e⟩ : Tok) = c at ef
      have hck : c.kind = closing t.kind := by rw [← hcl]
      obtain ⟨c1, c2⟩ := closing_close hc
      rw [ef] at hl ⊢
      have hk : kindAt l a.length = t.kind := by rw [hl]; simp only [List.append_assoc, List.cons_append]; exact kindAt_mid
      have hd1 : delta l a.length = 1 := delta_open (by rw [hk]; exact hc)
      have hk2 : kindAt l (a ++ [t] ++ flats ks).length = c.kind := by
        rw [hl]
        have : a ++ (t :: (flats ks ++ [c]) ++ flats ts) ++ b = (a ++ [t] ++ flats ks) ++ c :: (flats ts ++ b) := by simp
        rw [this]; exact kindAt_mid
      have hd2 : delta l (a ++ [t] ++ flats ks).length = -1 := by unfold delta; rw [hk2, hck, c2, c1]; simp
      rw [show n + (t :: (flats ks ++ [c]) ++ flats ts).length = ((n + (flats ts).length + 1) + (flats ks).length) + 1 by simp; omega, partnerF_succ, hd1, if_neg (by omega)]
      have h1 := bal (l := l) (x := x) k ks (a ++ [t]) ([c] ++ flats ts ++ b) (n + (flats ts).length + 1) (d + 1) (by omega) w3 (by rw [hl]; simp) (by omega)
      rw [show (a ++ [t]).length = a.length + 1 by simp] at h1
      rw [h1, partnerF_succ, hd2, if_neg (by omega), show d + 1 + -1 = d by omega]
      have h2 := bal (l := l) (x := x) k ts (a ++ [t] ++ flats ks ++ [c]) b n d (by omega) w4 (by rw [hl]; simp) hd
      rw [show (a ++ [t] ++ flats ks ++ [c]).length = (a ++ [t] ++ flats ks).length + 1 by simp; omega] at h2
      rw [h2]
      simp
theorem partner_at {l : List Tok} {t c : Tok} {ks : List Tree} {a b : List Tok} (hl : l = a ++ [t] ++ flats ks ++ c :: b) (hw : WFs ks) (hc : closing t.kind ≠ 0) (hck : c.kind = closing t.kind) : partner l a.length = (a ++ [t] ++ flats ks).length := by
  obtain ⟨c1, c2⟩ := closing_close hc
  have hk : kindAt l a.length = t.kind := by rw [hl]; simp only [List.append_assoc, List.singleton_append]; exact kindAt_mid
  have hd1 : delta l a.length = 1 := delta_open (by rw [hk]; exact hc)
  have hk2 : kindAt l (a ++ [t] ++ flats ks).length = c.kind := by rw [hl]; exact kindAt_mid
  have hd2 : delta l (a ++ [t] ++ flats ks).length = -1 := by unfold delta; rw [hk2, hck, c2, c1]; simp
  unfold partner
  rw [show l.length - a.length = ((b.length + 1) + (flats ks).length) + 1 by rw [hl]; simp; omega, partnerF_succ, hd1, if_neg (by omega)]
  have h1 := bal (l := l) (x := a.length) _ ks (a ++ [t]) (c :: b) (b.length + 1) (0 + 1) (Nat.le_refl _) hw hl (by omega)
  rw [show (a ++ [t]).length = a.length + 1 by simp] at h1
  rw [h1, partnerF_succ, hd2, if_pos (by omega)]
theorem treesF_flats {l : List Tok} : ∀ (k : Nat) (us : List Tree) (a b : List Tok) (n : Nat), manys us ≤ k → WFs us → l = a ++ flats us ++ b → (flats us).length ≤ n → treesF l n a.length (a.length + (flats us).length) = us
  | _, [], a, b, n, _, _, _, _ => by cases n <;> simp [flats, treesF]
  | 0, t :: ts, a, b, n, h, _, _, _ => by simp [manys] at h
  | k + 1, .mk t ks e :: ts, a, b, n, h, hw, hl, hn => by
    simp only [manys, Tree.many] at h
    obtain ⟨⟨w1, w2, w3⟩, w4⟩ := hw
    rw [flats_cons] at hl hn ⊢
    by_cases hc : closing t.kind = 0
    · have ef : (Tree.mk t ks e).flat = [t] := by simp [Tree.flat, hc]
      obtain ⟨w5, w6⟩ := w2 hc
      rw [ef] at hl hn ⊢
      have hl' : l = a ++ t :: (flats ts ++ b) := by rw [hl]; simp
      have hk : kindAt l a.length = t.kind := by rw [hl']; exact kindAt_mid
      have ht : tokN l a.length = t := by rw [hl']; exact tokN_mid
      have hp : posAt l a.length = t.pos := by rw [hl']; exact posAt_mid
      simp only [List.length_append, List.length_singleton] at hn ⊢
      obtain ⟨m, rfl⟩ : ∃ m, n = m + 1 := ⟨n - 1, by omega⟩
      rw [treesF, if_pos (by omega), if_neg (by rw [hk]; simpa using hc), ht, hp]
      have := treesF_flats (l := l) k ts (a ++ [t]) b m (by omega) w4 (by rw [hl]; simp) (by omega)
      rw [show (a ++ [t]).length = a.length + 1 by simp, show a.length + 1 + (flats ts).length = a.length + (1 + (flats ts).length) by omega] at this
      rw [this, w5, w6]
    · have ef : (Tree.mk t ks e).flat = t :: (flats ks ++ [⟨closing t.kind, [UInt8.ofNat (closing t.kind).toNat], e⟩]) := by simp [Tree.flat, hc]
      generalize hcl : (⟨closing t.kind, [UInt8.ofNat (closing t.kind).toNat], e⟩ : Tok) = c at ef
      have hck : c.kind = closing t.kind := by rw [← hcl]
      have hce : c.pos = e := by rw [← hcl]
      rw [ef] at hl hn ⊢
      have hl1 : l = a ++ t :: (flats ks ++ [c] ++ flats ts ++ b) := by rw [hl]; simp
      have hl2 : l = a ++ [t] ++ flats ks ++ c :: (flats ts ++ b) := by rw [hl]; simp
      have hk : kindAt l a.length = t.kind := by rw [hl1]; exact kindAt_mid
      have ht : tokN l a.length = t := by rw [hl1]; exact tokN_mid
      have hpa := partner_at hl2 w3 hc hck
      have hp : posAt l (a ++ [t] ++ flats ks).length = e := by rw [← hce]; conv => lhs; rw [hl2]
                                                                exact posAt_mid
      simp only [List.length_append, List.length_singleton, List.length_cons, List.length_nil] at hn
      obtain ⟨m, rfl⟩ : ∃ m, n = m + 1 := ⟨n - 1, by omega⟩
      rw [treesF, if_pos (by simp), if_pos (by rw [hk]; exact hc), ht, hpa, hp]
      have h1 := treesF_flats (l := l) k ks (a ++ [t]) (c :: (flats ts ++ b)) m (by omega) w3 hl2 (by omega)
      have h2 := treesF_flats (l := l) k ts (a ++ [t] ++ flats ks ++ [c]) b m (by omega) w4 (by rw [hl]; simp) (by omega)
      have e1 : (a ++ [t] ++ flats ks).length = (a ++ [t]).length + (flats ks).length := List.length_append
      have e2 : a.length + 1 = (a ++ [t]).length := by simp
      have e3 : (a ++ [t]).length + (flats ks).length + 1 = (a ++ [t] ++ flats ks ++ [c]).length := by simp only [List.length_append, List.length_singleton]
      have e4 : a.length + (t :: (flats ks ++ [c]) ++ flats ts).length = (a ++ [t] ++ flats ks ++ [c]).length + (flats ts).length := by simp only [List.length_append, List.length_cons, List.length_nil]; omega
      rw [e1, e2, h1, e3, e4, h2]
/-- Trees' pieces give the trees again. -/
theorem tree_back {us : List Tree} (hw : WFs us) (h : (treeR (flats us)).2 = none) : (treeR (flats us)).1 = us := by
  unfold treeR at h ⊢
  split
  · rename_i h0; rw [if_pos h0] at h; simp at h
  · have := treesF_flats (l := flats us) _ us [] [] (flats us).length (Nat.le_refl _) hw (by simp) (Nat.le_refl _)
    simpa using this
end Go.Am
