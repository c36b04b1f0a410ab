/-
  The law TermWords answers true for every list of trees, every place and every end, where what comes in is of bulk at most 1048576; conditions: those of the given row alone.
-/
import Derived.ProofKit
import Derived.OpenShut
import Derived.JoinedCond
import Derived.ChangeStays
import Derived.ReadAgain
import Derived.Test.YtdggjnhfjimneaaRows
import Derived.Test.YtdggjnhfjimneaaWords4
set_option linter.unusedVariables false
set_option linter.unusedSimpArgs false
set_option linter.defProp false

/-
  The texts of nodes.
-/
namespace Go.Proofs.Try
open Go.Am
set_option maxRecDepth 4000
set_option maxHeartbeats 4000000

def inv77 (n : Nat) (g : FuncId) (cap : List V) (f : Nat → List UInt8) (σ : Store) (i τ : Nat) : St :=
  ⟨[.int .i64 (n : Nat), .fn (.func g) [] cap, .any, .any, .any, .sl (.tk τ) 1 (encB (joinC ((List.range i).map f))), .any, .int .i64 (n : Nat), .int .i64 (i : Nat)] ++ List.replicate 15 .any, [], σ.setTip τ (joinC ((List.range i).map f)).length⟩
theorem range_snoc (f : Nat → List UInt8) (i : Nat) : joinC ((List.range (i + 1)).map f) = joinC ((List.range i).map f) ++ (if 0 < i then [44] else []) ++ f i := by
  rw [List.range_succ, List.map_append, List.map_singleton, joinC_snoc]; simp
theorem range_mono (f : Nat → List UInt8) {i n : Nat} (h : i ≤ n) : (joinC ((List.range i).map f)).length ≤ (joinC ((List.range n).map f)).length := by
  induction n with
  | zero => have : i = 0 := by omega
            rw [this]; exact Nat.le_refl _
  | succ n ih =>
    by_cases hi : i = n + 1
    · rw [hi]; exact Nat.le_refl _
    · have := ih (by omega)
      rw [range_snoc]; simp only [List.length_append]; omega
theorem commas_calls {n : Nat} {g : FuncId} {cap : List V} {f : Nat → List UInt8} {σ : Store} (hnol : nolL cap = true) (hn : n ≤ big) (hb : (joinC ((List.range n).map f)).length ≤ big)
    (h : ∀ i, i < n → ∀ σ1 : Store, σ1.box = σ.box → PCalls prog g (.int .i64 (i : Nat) :: cap) σ1 fun v σ' => v = .str (f i) ∧ σ' = σ1) :
    PCalls prog 77 [.int .i64 (n : Nat), .fn (.func g) [] cap] σ fun v σ' => v = .str (joinC ((List.range n).map f)) ∧ σ' = σ := by
  refine fn77.calls ?_
  simp only [slots, ac77, am, amo, amc, Nat.reduceAdd, decide_true, decide_false, Tree.rec_, Nd.rec_, Word.rec_, Got.rec_]
  refine vc_loop (fun p : { p : Nat × Nat // σ.tip p.2 = none ∧ p.1 ≤ n } => inv77 n g cap f σ p.1.1 p.1.2) (fun p => n - p.1.1) ?_ ?_
  · refine Upd.tokEnter 0 fun τ hτ => ⟨⟨(0, τ), hτ, by simp⟩, ?_, rfl, rfl⟩
    simp [inv77, List.replicate, lto, joinC, encB]
  · rintro ⟨⟨i, τ⟩, hτ, hi⟩
    simp only at hτ hi
    simp only [inv77, List.replicate, am]
    refine vcIf_split ?_ ?_
    · intro hlt
      have hlt : i < n := by simpa using hlt
      have hs := range_snoc f i
      have hm := range_mono f (i := i + 1) (n := n) (by omega)
      simp only [big] at hn hb
      rw [hs] at hm
      simp only [List.length_append] at hm
      have wi : IntKind.i64.wrap ((i : Int) + 1) = (i : Int) + 1 := wrap_i64 (by omega) (by omega)
      simp only [am, amo, amc, Nat.reduceAdd, encs_length, List.length_map, decide_true, decide_false, Tree.rec_, Nd.rec_, Word.rec_, Got.rec_]
      by_cases h0 : 0 < i
      case' pos =>
        rw [if_pos h0] at hs hm
        simp only [am, amo, amc, Nat.reduceAdd, encs_length, List.length_map, decide_true, decide_false, Tree.rec_, Nd.rec_, Word.rec_, Got.rec_, decide_eq_true (show (0 : Int) < i by omega)]
        refine app_tk (by simp [encB_length, big]; simp at hm; omega) (by rw [encB_length, setTip_tip_same]) ?_
        simp only [am, amo, amc, Nat.reduceAdd, encs_length, List.length_map, decide_true, decide_false, Tree.rec_, Nd.rec_, Word.rec_, Got.rec_, setTip_setTip]
        rw [show encB (joinC ((List.range i).map f)) ++ [[.int .u8 44]] = encB (joinC ((List.range i).map f) ++ [44]) by simp [encB], show (encB (joinC ((List.range i).map f))).length + 1 = (joinC ((List.range i).map f) ++ [44]).length by simp [encB]]
      case' neg =>
        rw [if_neg h0, List.append_nil] at hs
        rw [if_neg h0] at hm
        simp only [am, amo, amc, Nat.reduceAdd, encs_length, List.length_map, decide_true, decide_false, Tree.rec_, Nd.rec_, Word.rec_, Got.rec_, decide_eq_false (show ¬ (0 : Int) < i by omega)]
      all_goals
        refine ⟨hnol, ?_⟩
        refine (h i hlt (σ.setTip τ _) rfl).mono ?_
        rintro v σ' ⟨rfl, rfl⟩
        simp only [am, amo, amc, Nat.reduceAdd, encs_length, List.length_map, decide_true, decide_false, Tree.rec_, Nd.rec_, Word.rec_, Got.rec_]
        refine ⟨_, rfl, ?_⟩
        refine app_tk (by simp [encB_length, big]; simp at hm; omega) (by rw [encB_length, setTip_tip_same]) ?_
        simp only [am, amo, amc, Nat.reduceAdd, encs_length, List.length_map, decide_true, decide_false, Tree.rec_, Nd.rec_, Word.rec_, Got.rec_, setTip_setTip, wi]
        rw [← encB_append, encB_length, encB_length, ← List.length_append, ← hs]
        exact Upd.again ⟨(i + 1, τ), hτ, hlt⟩ (by simp; omega) (by simp [am, List.replicate]) LLLe.rfl OLe.rfl
    · intro hlt
      have hlt : i = n := by simp at hlt; omega
      subst hlt
      simp only [am, amo, amc, Nat.reduceAdd, encs_length, List.length_map, decide_true, decide_false, Tree.rec_, Nd.rec_, Word.rec_, Got.rec_]
      refine ⟨_, _, rfl, ?_⟩
      refine retK_intro rfl (sub_tip hτ) ⟨?_, rfl⟩
      simp [V.erase]

theorem names1_text {n : Nd} {i q : Nat} {σ : Store} (hi : i < n.names.length) (hq : σ.box q = some n.enc) : PCalls prog 78 [.int .i64 (i : Nat), .ptr (.out q) 0] σ fun v σ' => v = .str (n.names[i].text) ∧ σ' = σ := by
  refine fn78.calls ?_
  simp only [slots, ac78, am, amo, amc, Nat.reduceAdd, decide_true, decide_false, Tree.rec_, Nd.rec_, Word.rec_, Got.rec_]
  simp only [am, amo, amc, Nat.reduceAdd, encs_length, List.length_map, decide_true, decide_false, Tree.rec_, Nd.rec_, Word.rec_, Got.rec_, hq, Nd.fl]
  refine idxL_intro (by omega) (wencs_at (show n.names[i]? = some n.names[i] by simp [hi])) ?_
  simp only [am, amo, amc, Nat.reduceAdd, encs_length, List.length_map, decide_true, decide_false, Tree.rec_, Nd.rec_, Word.rec_, Got.rec_, Word.enc]
  refine retK_intro rfl (Store.sub_refl _) ⟨?_, rfl⟩
  simp [V.erase, eraseL]
theorem kids1_text {n : Nd} {i q : Nat} {σ : Store} (hi : i < n.kids.length) (hq : σ.box q = some n.enc) (ih : ∀ m ∈ n.kids, ∀ σ, PCalls prog 19 [.agg m.enc] σ fun v σ' => v = .str m.txt ∧ σ' = σ) :
    PCalls prog 79 [.int .i64 (i : Nat), .ptr (.out q) 0] σ fun v σ' => v = .str (n.kids[i].txt) ∧ σ' = σ := by
  refine fn79.calls ?_
  simp only [slots, ac79, am, amo, amc, Nat.reduceAdd, decide_true, decide_false, Tree.rec_, Nd.rec_, Word.rec_, Got.rec_]
  simp only [am, amo, amc, Nat.reduceAdd, encs_length, List.length_map, decide_true, decide_false, Tree.rec_, Nd.rec_, Word.rec_, Got.rec_, hq, Nd.fl]
  refine idxL_intro (by omega) (nencs_at (show n.kids[i]? = some n.kids[i] by simp [hi])) ?_
  simp only [am, amo, amc, Nat.reduceAdd, encs_length, List.length_map, decide_true, decide_false, Tree.rec_, Nd.rec_, Word.rec_, Got.rec_]
  refine (ih n.kids[i] (List.getElem_mem hi) σ).mono ?_
  rintro v σ ⟨rfl, rfl⟩
  simp only [am, amo, amc, Nat.reduceAdd, encs_length, List.length_map, decide_true, decide_false, Tree.rec_, Nd.rec_, Word.rec_, Got.rec_]
  refine retK_intro rfl (Store.sub_refl _) ⟨?_, rfl⟩
  simp [V.erase, eraseL]
theorem range_map {α : Type} (l : List α) (f : α → List UInt8) (d : List UInt8) : (List.range l.length).map (fun i => if h : i < l.length then f l[i] else d) = l.map f := by
  apply List.ext_getElem?
  intro i
  by_cases h : i < l.length <;> simp [h]
theorem names_text {n : Nd} {σ : Store} (hw : n.wt ≤ big) : PCalls prog 47 [.agg n.enc] σ fun v σ' => v = .str (wtext n.names) ∧ σ' = σ := by
  have h1 := wtext_len n.names
  have h2 : n.names.length ≤ wsum n.names := by
    unfold wsum; generalize n.names = l
    induction l with
    | nil => simp
    | cons w ws ih => simp only [List.map_cons, List.sum_cons, List.length_cons]; omega
  have h3 : wsum n.names ≤ n.wt := by cases n; simp only [Nd.wt, Nd.names]; omega
  have e : joinC ((List.range n.names.length).map (fun i => if h : i < n.names.length then n.names[i].text else [])) = wtext n.names := by
    rw [range_map n.names (fun w => w.text) []]; rfl
  refine fn47.calls ?_
  simp only [slots, ac47, am, amo, amc, Nat.reduceAdd, decide_true, decide_false, Tree.rec_, Nd.rec_, Word.rec_, Got.rec_]
  refine kO_intro fun q hq => ?_
  simp only [am, amo, amc, Nat.reduceAdd, encs_length, List.length_map, decide_true, decide_false, Tree.rec_, Nd.rec_, Word.rec_, Got.rec_, Nd.fl]
  refine (commas_calls (f := fun i => if h : i < n.names.length then n.names[i].text else []) rfl (by omega) (by rw [e]; omega) (fun i hi σ1 h1 => ?_)).mono ?_
  · rw [dif_pos hi]
    exact names1_text hi (by rw [h1]; exact Store.set_same _ _ _)
  rintro v σ' ⟨rfl, rfl⟩
  simp only [am, amo, amc, Nat.reduceAdd, encs_length, List.length_map, decide_true, decide_false, Tree.rec_, Nd.rec_, Word.rec_, Got.rec_]
  refine retK_intro rfl (sub_set hq) ⟨?_, rfl⟩
  rw [e]; simp [V.erase]
theorem kids_text {n : Nd} {σ : Store} (hw : n.wt ≤ big) (ih : ∀ m ∈ n.kids, ∀ σ, PCalls prog 19 [.agg m.enc] σ fun v σ' => v = .str m.txt ∧ σ' = σ) : PCalls prog 48 [.agg n.enc] σ fun v σ' => v = .str (joinC (txts n.kids)) ∧ σ' = σ := by
  have h1 := ktext_len n.kids (txt_lens n.kids)
  have h2 : n.kids.length ≤ wts n.kids := by
    rw [wts_map]; generalize n.kids = l
    induction l with
    | nil => simp
    | cons w ws ih => simp only [List.map_cons, List.sum_cons, List.length_cons]; omega
  have h3 : wts n.kids ≤ n.wt := by cases n; simp only [Nd.wt, Nd.kids]; omega
  have e : joinC ((List.range n.kids.length).map (fun i => if h : i < n.kids.length then n.kids[i].txt else [])) = joinC (txts n.kids) := by
    rw [range_map n.kids (fun w => w.txt) [], txts_map]
  refine fn48.calls ?_
  simp only [slots, ac48, am, amo, amc, Nat.reduceAdd, decide_true, decide_false, Tree.rec_, Nd.rec_, Word.rec_, Got.rec_]
  refine kO_intro fun q hq => ?_
  simp only [am, amo, amc, Nat.reduceAdd, encs_length, List.length_map, decide_true, decide_false, Tree.rec_, Nd.rec_, Word.rec_, Got.rec_, Nd.fl]
  refine (commas_calls (f := fun i => if h : i < n.kids.length then n.kids[i].txt else []) rfl (by omega) (by rw [e]; omega) (fun i hi σ1 h1 => ?_)).mono ?_
  · rw [dif_pos hi]
    exact kids1_text hi (by rw [h1]; exact Store.set_same _ _ _) ih
  rintro v σ' ⟨rfl, rfl⟩
  simp only [am, amo, amc, Nat.reduceAdd, encs_length, List.length_map, decide_true, decide_false, Tree.rec_, Nd.rec_, Word.rec_, Got.rec_]
  refine retK_intro rfl (sub_set hq) ⟨?_, rfl⟩
  rw [e]; simp [V.erase]
theorem first_text {n : Nd} {σ : Store} (ih : ∀ m ∈ n.kids, ∀ σ, PCalls prog 19 [.agg m.enc] σ fun v σ' => v = .str m.txt ∧ σ' = σ) : PCalls prog 49 [.agg n.enc] σ fun v σ' => v = .str (headT (txts n.kids)) ∧ σ' = σ := by
  refine fn49.calls ?_
  simp only [slots, ac49, am, amo, amc, Nat.reduceAdd, decide_true, decide_false, Tree.rec_, Nd.rec_, Word.rec_, Got.rec_]
  simp only [am, amo, amc, Nat.reduceAdd, encs_length, List.length_map, decide_true, decide_false, Tree.rec_, Nd.rec_, Word.rec_, Got.rec_, Nd.fl]
  cases hk : n.kids with
  | nil =>
    simp only [am, amo, amc, Nat.reduceAdd, encs_length, List.length_map, decide_true, decide_false, Tree.rec_, Nd.rec_, Word.rec_, Got.rec_, List.map_nil, List.length_nil, Int.natCast_zero]
    refine retK_intro rfl (Store.sub_refl _) ⟨?_, rfl⟩
    simp [V.erase, eraseL, headT, txts]
  | cons m ms =>
    simp only [am, amo, amc, Nat.reduceAdd, encs_length, List.length_map, decide_true, decide_false, Tree.rec_, Nd.rec_, Word.rec_, Got.rec_, decide_eq_false (show ¬ (((m :: ms).length : Nat) : Int) = 0 by simp; omega), Nd.fl, hk]
    refine idxL_intro (by omega) (c := m.enc) (by simp) ?_
    simp only [am, amo, amc, Nat.reduceAdd, encs_length, List.length_map, decide_true, decide_false, Tree.rec_, Nd.rec_, Word.rec_, Got.rec_]
    refine (ih m (by rw [hk]; simp) σ).mono ?_
    rintro v σ ⟨rfl, rfl⟩
    simp only [am, amo, amc, Nat.reduceAdd, encs_length, List.length_map, decide_true, decide_false, Tree.rec_, Nd.rec_, Word.rec_, Got.rec_]
    refine retK_intro rfl (Store.sub_refl _) ⟨?_, rfl⟩
    simp [V.erase, eraseL, headT, txts]
theorem row_text {n : Nd} {σ : Store} (hw : n.wt ≤ big) (ih : ∀ m ∈ n.kids, ∀ σ, PCalls prog 19 [.agg m.enc] σ fun v σ' => v = .str m.txt ∧ σ' = σ) :
    PCalls prog 50 [.agg n.enc] σ fun v σ' => v = .str (([91] ++ joinC (txts n.kids)) ++ (if 0 < n.names.length then [124] ++ wtext n.names else []) ++ [93]) ∧ σ' = σ := by
  have h1 := ktext_len n.kids (txt_lens n.kids)
  have h2 := wtext_len n.names
  have h3 : wts n.kids + wsum n.names + 4 ≤ n.wt := by cases n; simp only [Nd.wt, Nd.kids, Nd.names]; omega
  refine fn50.calls ?_
  simp only [slots, ac50, am, amo, amc, Nat.reduceAdd, decide_true, decide_false, Tree.rec_, Nd.rec_, Word.rec_, Got.rec_]
  refine (kids_text hw ih).mono ?_
  rintro v σ ⟨rfl, rfl⟩
  simp only [am, amo, amc, Nat.reduceAdd, encs_length, List.length_map, decide_true, decide_false, Tree.rec_, Nd.rec_, Word.rec_, Got.rec_]
  refine ⟨by simp; omega, ?_⟩
  simp only [am, amo, amc, Nat.reduceAdd, encs_length, List.length_map, decide_true, decide_false, Tree.rec_, Nd.rec_, Word.rec_, Got.rec_, Nd.fl]
  by_cases h0 : 0 < n.names.length
  · simp only [am, amo, amc, Nat.reduceAdd, encs_length, List.length_map, decide_true, decide_false, Tree.rec_, Nd.rec_, Word.rec_, Got.rec_, decide_eq_true (show (0 : Int) < n.names.length by omega)]
    refine (names_text hw).mono ?_
    rintro v σ ⟨rfl, rfl⟩
    simp only [am, amo, amc, Nat.reduceAdd, encs_length, List.length_map, decide_true, decide_false, Tree.rec_, Nd.rec_, Word.rec_, Got.rec_, catL_str]
    refine ⟨by simp; omega, by simp; omega, by simp; omega, ?_⟩
    refine retK_intro rfl (Store.sub_refl _) ⟨?_, rfl⟩
    simp [V.erase, eraseL, h0]
  · simp only [am, amo, amc, Nat.reduceAdd, encs_length, List.length_map, decide_true, decide_false, Tree.rec_, Nd.rec_, Word.rec_, Got.rec_, decide_eq_false (show ¬ (0 : Int) < n.names.length by omega)]
    refine ⟨by simp; omega, ?_⟩
    refine retK_intro rfl (Store.sub_refl _) ⟨?_, rfl⟩
    simp [V.erase, eraseL, h0]

theorem text_calls : ∀ (k : Nat) (n : Nd) (σ : Store), n.wt ≤ k → n.wt ≤ big → PCalls prog 19 [.agg n.enc] σ fun v σ' => v = .str n.txt ∧ σ' = σ := by
  intro k
  induction k with
  | zero => intro n σ h _; cases n; simp only [Nd.wt] at h; omega
  | succ k ihk =>
    intro n σ hk hw
    have ih : ∀ m ∈ n.kids, ∀ σ, PCalls prog 19 [.agg m.enc] σ fun v σ' => v = .str m.txt ∧ σ' = σ := fun m hm σ => by
      have h1 := wt_mem hm
      have h2 : wts n.kids + 4 ≤ n.wt := by cases n; simp only [Nd.wt, Nd.kids]; omega
      exact ihk m σ (by omega) (by omega)
    have h1 := ktext_len n.kids (txt_lens n.kids)
    have h2 := wtext_len n.names
    have h3 : n.text.length + wts n.kids + wsum n.names + 4 ≤ n.wt := by cases n; simp only [Nd.wt, Nd.kids, Nd.names, Nd.text]; omega
    have h4 := head_len n.kids (txt_lens n.kids)
    have e : n.txt = if n.kind = 1 ∨ n.kind = 2 then n.text else if n.kind = 3 then [123] ++ wtext n.names ++ [125] else if n.kind = 4 then [40] ++ joinC (txts n.kids) ++ [41] else if n.kind = 5 then [91] ++ joinC (txts n.kids) ++ [93]
        else if n.kind = 6 then n.text ++ [58, 123] ++ wtext n.names ++ [125] else if n.kind = 7 then [35] ++ headT (txts n.kids) else if n.kind = 8 then [43, 40] ++ joinC (txts n.kids) ++ [41] else if n.kind = 9 then [38, 40] ++ joinC (txts n.kids) ++ [41]
        else if n.kind = 10 then ([91] ++ joinC (txts n.kids)) ++ (if 0 < n.names.length then [124] ++ wtext n.names else []) ++ [93] else if n.kind = 11 then n.text ++ [61] ++ headT (txts n.kids) else [] := by cases n; rw [Nd.txt]; rfl
    rw [e]
    refine fn19.calls ?_
    simp only [slots, ac19, am, amo, amc, Nat.reduceAdd, decide_true, decide_false, Tree.rec_, Nd.rec_, Word.rec_, Got.rec_]
    simp only [am, amo, amc, Nat.reduceAdd, encs_length, List.length_map, decide_true, decide_false, Tree.rec_, Nd.rec_, Word.rec_, Got.rec_, Nd.fl]
    by_cases k1 : n.kind = 1
    · simp only [am, amo, amc, Nat.reduceAdd, encs_length, List.length_map, decide_true, decide_false, Tree.rec_, Nd.rec_, Word.rec_, Got.rec_, decide_eq_true k1, Nd.fl]
      refine retK_intro rfl (Store.sub_refl _) ⟨?_, rfl⟩
      simp [V.erase, eraseL, k1]
    simp only [am, amo, amc, Nat.reduceAdd, encs_length, List.length_map, decide_true, decide_false, Tree.rec_, Nd.rec_, Word.rec_, Got.rec_, decide_eq_false k1]
    by_cases k2 : n.kind = 2
    · simp only [am, amo, amc, Nat.reduceAdd, encs_length, List.length_map, decide_true, decide_false, Tree.rec_, Nd.rec_, Word.rec_, Got.rec_, decide_eq_true k2, Nd.fl]
      refine retK_intro rfl (Store.sub_refl _) ⟨?_, rfl⟩
      simp [V.erase, eraseL, k2]
    simp only [am, amo, amc, Nat.reduceAdd, encs_length, List.length_map, decide_true, decide_false, Tree.rec_, Nd.rec_, Word.rec_, Got.rec_, decide_eq_false k2]
    by_cases k3 : n.kind = 3
    · simp only [am, amo, amc, Nat.reduceAdd, encs_length, List.length_map, decide_true, decide_false, Tree.rec_, Nd.rec_, Word.rec_, Got.rec_, decide_eq_true k3]
      refine (names_text hw).mono ?_
      rintro v σ ⟨rfl, rfl⟩
      simp only [am, amo, amc, Nat.reduceAdd, encs_length, List.length_map, decide_true, decide_false, Tree.rec_, Nd.rec_, Word.rec_, Got.rec_]
      refine ⟨by simp; omega, by simp; omega, ?_⟩
      refine retK_intro rfl (Store.sub_refl _) ⟨?_, rfl⟩
      simp [V.erase, eraseL, k3]
    simp only [am, amo, amc, Nat.reduceAdd, encs_length, List.length_map, decide_true, decide_false, Tree.rec_, Nd.rec_, Word.rec_, Got.rec_, decide_eq_false k3]
    by_cases k4 : n.kind = 4
    · simp only [am, amo, amc, Nat.reduceAdd, encs_length, List.length_map, decide_true, decide_false, Tree.rec_, Nd.rec_, Word.rec_, Got.rec_, decide_eq_true k4]
      refine (kids_text hw ih).mono ?_
      rintro v σ ⟨rfl, rfl⟩
      simp only [am, amo, amc, Nat.reduceAdd, encs_length, List.length_map, decide_true, decide_false, Tree.rec_, Nd.rec_, Word.rec_, Got.rec_]
      refine ⟨by simp; omega, by simp; omega, ?_⟩
      refine retK_intro rfl (Store.sub_refl _) ⟨?_, rfl⟩
      simp [V.erase, eraseL, k4]
    simp only [am, amo, amc, Nat.reduceAdd, encs_length, List.length_map, decide_true, decide_false, Tree.rec_, Nd.rec_, Word.rec_, Got.rec_, decide_eq_false k4]
    by_cases k5 : n.kind = 5
    · simp only [am, amo, amc, Nat.reduceAdd, encs_length, List.length_map, decide_true, decide_false, Tree.rec_, Nd.rec_, Word.rec_, Got.rec_, decide_eq_true k5]
      refine (kids_text hw ih).mono ?_
      rintro v σ ⟨rfl, rfl⟩
      simp only [am, amo, amc, Nat.reduceAdd, encs_length, List.length_map, decide_true, decide_false, Tree.rec_, Nd.rec_, Word.rec_, Got.rec_]
      refine ⟨by simp; omega, by simp; omega, ?_⟩
      refine retK_intro rfl (Store.sub_refl _) ⟨?_, rfl⟩
      simp [V.erase, eraseL, k5]
    simp only [am, amo, amc, Nat.reduceAdd, encs_length, List.length_map, decide_true, decide_false, Tree.rec_, Nd.rec_, Word.rec_, Got.rec_, decide_eq_false k5]
    by_cases k6 : n.kind = 6
    · simp only [am, amo, amc, Nat.reduceAdd, encs_length, List.length_map, decide_true, decide_false, Tree.rec_, Nd.rec_, Word.rec_, Got.rec_, decide_eq_true k6, Nd.fl]
      refine ⟨by simp; omega, ?_⟩
      refine CallD.intro (names_text hw) ?_
      simp only [am, amo, amc, Nat.reduceAdd, encs_length, List.length_map, decide_true, decide_false, Tree.rec_, Nd.rec_, Word.rec_, Got.rec_, Nd.fl]
      refine ⟨by simp; omega, by simp; omega, ?_⟩
      refine retK_intro rfl (Store.sub_refl _) ⟨?_, rfl⟩
      simp [V.erase, eraseL, k6]
    simp only [am, amo, amc, Nat.reduceAdd, encs_length, List.length_map, decide_true, decide_false, Tree.rec_, Nd.rec_, Word.rec_, Got.rec_, decide_eq_false k6]
    by_cases k7 : n.kind = 7
    · simp only [am, amo, amc, Nat.reduceAdd, encs_length, List.length_map, decide_true, decide_false, Tree.rec_, Nd.rec_, Word.rec_, Got.rec_, decide_eq_true k7]
      refine (first_text ih).mono ?_
      rintro v σ ⟨rfl, rfl⟩
      simp only [am, amo, amc, Nat.reduceAdd, encs_length, List.length_map, decide_true, decide_false, Tree.rec_, Nd.rec_, Word.rec_, Got.rec_]
      refine ⟨by simp; omega, ?_⟩
      refine retK_intro rfl (Store.sub_refl _) ⟨?_, rfl⟩
      simp [V.erase, eraseL, k7]
    simp only [am, amo, amc, Nat.reduceAdd, encs_length, List.length_map, decide_true, decide_false, Tree.rec_, Nd.rec_, Word.rec_, Got.rec_, decide_eq_false k7]
    by_cases k8 : n.kind = 8
    · simp only [am, amo, amc, Nat.reduceAdd, encs_length, List.length_map, decide_true, decide_false, Tree.rec_, Nd.rec_, Word.rec_, Got.rec_, decide_eq_true k8]
      refine (kids_text hw ih).mono ?_
      rintro v σ ⟨rfl, rfl⟩
      simp only [am, amo, amc, Nat.reduceAdd, encs_length, List.length_map, decide_true, decide_false, Tree.rec_, Nd.rec_, Word.rec_, Got.rec_]
      refine ⟨by simp; omega, by simp; omega, ?_⟩
      refine retK_intro rfl (Store.sub_refl _) ⟨?_, rfl⟩
      simp [V.erase, eraseL, k8]
    simp only [am, amo, amc, Nat.reduceAdd, encs_length, List.length_map, decide_true, decide_false, Tree.rec_, Nd.rec_, Word.rec_, Got.rec_, decide_eq_false k8]
    by_cases k9 : n.kind = 9
    · simp only [am, amo, amc, Nat.reduceAdd, encs_length, List.length_map, decide_true, decide_false, Tree.rec_, Nd.rec_, Word.rec_, Got.rec_, decide_eq_true k9]
      refine (kids_text hw ih).mono ?_
      rintro v σ ⟨rfl, rfl⟩
      simp only [am, amo, amc, Nat.reduceAdd, encs_length, List.length_map, decide_true, decide_false, Tree.rec_, Nd.rec_, Word.rec_, Got.rec_]
      refine ⟨by simp; omega, by simp; omega, ?_⟩
      refine retK_intro rfl (Store.sub_refl _) ⟨?_, rfl⟩
      simp [V.erase, eraseL, k9]
    simp only [am, amo, amc, Nat.reduceAdd, encs_length, List.length_map, decide_true, decide_false, Tree.rec_, Nd.rec_, Word.rec_, Got.rec_, decide_eq_false k9]
    by_cases k10 : n.kind = 10
    · simp only [am, amo, amc, Nat.reduceAdd, encs_length, List.length_map, decide_true, decide_false, Tree.rec_, Nd.rec_, Word.rec_, Got.rec_, decide_eq_true k10]
      refine (row_text hw ih).mono ?_
      rintro v σ ⟨rfl, rfl⟩
      simp only [am, amo, amc, Nat.reduceAdd, encs_length, List.length_map, decide_true, decide_false, Tree.rec_, Nd.rec_, Word.rec_, Got.rec_]
      refine retK_intro rfl (Store.sub_refl _) ⟨?_, rfl⟩
      simp [V.erase, eraseL, k10]
    simp only [am, amo, amc, Nat.reduceAdd, encs_length, List.length_map, decide_true, decide_false, Tree.rec_, Nd.rec_, Word.rec_, Got.rec_, decide_eq_false k10]
    by_cases k11 : n.kind = 11
    · simp only [am, amo, amc, Nat.reduceAdd, encs_length, List.length_map, decide_true, decide_false, Tree.rec_, Nd.rec_, Word.rec_, Got.rec_, decide_eq_true k11, Nd.fl]
      refine ⟨by simp; omega, ?_⟩
      refine CallD.intro (first_text ih) ?_
      simp only [am, amo, amc, Nat.reduceAdd, encs_length, List.length_map, decide_true, decide_false, Tree.rec_, Nd.rec_, Word.rec_, Got.rec_, Nd.fl]
      refine ⟨by simp; omega, ?_⟩
      refine retK_intro rfl (Store.sub_refl _) ⟨?_, rfl⟩
      simp [V.erase, eraseL, k11]
    simp only [am, amo, amc, Nat.reduceAdd, encs_length, List.length_map, decide_true, decide_false, Tree.rec_, Nd.rec_, Word.rec_, Got.rec_, decide_eq_false k11]
    refine retK_intro rfl (Store.sub_refl _) ⟨?_, rfl⟩
    simp [V.erase, eraseL, k1, k2, k3, k4, k5, k6, k7, k8, k9, k10, k11]
end Go.Proofs.Try

/-
  The chapter's example.
-/
namespace Go.Proofs.Try
open Go.Am
set_option maxRecDepth 4000
set_option maxHeartbeats 4000000

def lineT (s : List UInt8) : List Tree := (treeR (lexR s).1).1
theorem line_calls (s : List UInt8) (σ : Store) (hb : s.length + 1 ≤ big) : PCalls prog 12 [.str s] σ fun v σ' => v = .sl .no 5 (encs (lineT s)) ∧ σ' = σ := by
  have hl := lexR_len s
  refine fn12.calls ?_
  simp only [slots, ac12, am, amo, amc, Nat.reduceAdd, decide_true, decide_false, Tree.rec_, Nd.rec_, Word.rec_, Got.rec_]
  refine (lex_calls s σ hb).mono ?_
  rintro v σ ⟨rfl, rfl⟩
  simp only [am, amo, amc, Nat.reduceAdd, encs_length, List.length_map, decide_true, decide_false, Tree.rec_, Nd.rec_, Word.rec_, Got.rec_, badL]
  refine (tree_calls (lexR s).1 σ (by omega)).mono ?_
  rintro v σ ⟨rfl, rfl⟩
  simp only [am, amo, amc, Nat.reduceAdd, encs_length, List.length_map, decide_true, decide_false, Tree.rec_, Nd.rec_, Word.rec_, Got.rec_, fenc]
  refine retK_intro rfl (Store.sub_refl _) ⟨?_, rfl⟩
  simp [V.erase, eraseL, lineT]
def s1 : List UInt8 := [43, 40, 120, 44, 35, 123, 97, 44, 98, 125, 41]
def s2 : List UInt8 := [43, 40, 41]
def s3 : List UInt8 := [91, 102, 61, 120, 44, 103, 61, 35, 104, 105, 124, 114, 93]
theorem al_many1 : manys (lineT s1) ≤ 20 := by decide +kernel
theorem al_many2 : manys (lineT s2) ≤ 20 := by decide +kernel
theorem al_many3 : manys (lineT s3) ≤ 20 := by decide +kernel
theorem al_a : (readAt (Rdr.label 20) (lineT s1) 0 20).2.2 = none := by decide +kernel
theorem al_b : (readAt (Rdr.label 20) (lineT s1) 0 20).2.1 = 2 := by decide +kernel
theorem al_c : (readAt (Rdr.label 20) (lineT s1) 0 20).1.kind = 8 := by decide +kernel
theorem al_d : (readAt (Rdr.label 20) (lineT s1) 0 20).1.kids.length = 2 := by decide +kernel
theorem al_e : (readAt (Rdr.label 20) (lineT s2) 0 20).2.2 = some 2 := by decide +kernel
theorem al_f : (readAt (Rdr.row 20) (lineT s3) 0 20).2.2 = none := by decide +kernel
theorem al_g : (readAt (Rdr.row 20) (lineT s3) 0 20).1.txt = s3 := by decide +kernel
theorem al_h : (readAt (Rdr.row 20) (lineT s3) 0 20).1.wt ≤ 100 := by decide +kernel

theorem alive_calls (σ : Store) : PCalls prog 8 [] σ fun v σ' => v = .bool true ∧ σ' = σ := by
  have hbig : ∀ k, k ≤ 20 → k + 1 ≤ big := fun k h => by simp only [big]; omega
  refine fn8.calls ?_
  simp only [slots, ac8, am, amo, amc, Nat.reduceAdd, decide_true, decide_false, Tree.rec_, Nd.rec_, Word.rec_, Got.rec_]
  refine (line_calls s1 σ (by decide)).mono ?_
  rintro v σ ⟨rfl, rfl⟩
  simp only [am, amo, amc, Nat.reduceAdd, encs_length, List.length_map, decide_true, decide_false, Tree.rec_, Nd.rec_, Word.rec_, Got.rec_]
  refine (Label_calls (n := 20) (at_ := 0) (fin := 20) al_many1 (hbig _ al_many1)).mono ?_
  rintro v σ ⟨rfl, rfl⟩
  have a := al_a; have b := al_b; have c := al_c; have d := al_d
  generalize readAt (Rdr.label 20) (lineT s1) 0 20 = o1 at a b c d ⊢
  simp only [am, amo, amc, Nat.reduceAdd, encs_length, List.length_map, decide_true, decide_false, Tree.rec_, Nd.rec_, Word.rec_, Got.rec_, fenc]
  refine (line_calls s2 σ (by decide)).mono ?_
  rintro v σ ⟨rfl, rfl⟩
  simp only [am, amo, amc, Nat.reduceAdd, encs_length, List.length_map, decide_true, decide_false, Tree.rec_, Nd.rec_, Word.rec_, Got.rec_]
  refine (Label_calls (n := 20) (at_ := 0) (fin := 20) al_many2 (hbig _ al_many2)).mono ?_
  rintro v σ ⟨rfl, rfl⟩
  have e := al_e
  generalize readAt (Rdr.label 20) (lineT s2) 0 20 = o2 at e ⊢
  simp only [am, amo, amc, Nat.reduceAdd, encs_length, List.length_map, decide_true, decide_false, Tree.rec_, Nd.rec_, Word.rec_, Got.rec_, fenc]
  refine (line_calls s3 σ (by decide)).mono ?_
  rintro v σ ⟨rfl, rfl⟩
  simp only [am, amo, amc, Nat.reduceAdd, encs_length, List.length_map, decide_true, decide_false, Tree.rec_, Nd.rec_, Word.rec_, Got.rec_]
  refine (Row_calls (n := 20) (at_ := 0) (fin := 20) al_many3 (hbig _ al_many3)).mono ?_
  rintro v σ ⟨rfl, rfl⟩
  have f := al_f; have g := al_g; have h := al_h
  generalize readAt (Rdr.row 20) (lineT s3) 0 20 = o3 at f g h ⊢
  simp only [am, amo, amc, Nat.reduceAdd, encs_length, List.length_map, decide_true, decide_false, Tree.rec_, Nd.rec_, Word.rec_, Got.rec_, fenc, a, b, c, d, e, f, badC, badA, Nd.fl, show decide (((2 : Nat) : Int) = 2) = true from rfl]
  refine (text_calls 100 o3.1 σ h (by simp only [big]; omega)).mono ?_
  rintro v σ ⟨rfl, rfl⟩
  simp only [am, amo, amc, Nat.reduceAdd, encs_length, List.length_map, decide_true, decide_false, Tree.rec_, Nd.rec_, Word.rec_, Got.rec_, g]
  refine retK_intro rfl (Store.sub_refl _) ⟨?_, rfl⟩
  simp [V.erase, eraseL, s3]
end Go.Proofs.Try

/-
  The names of a tree: the program's reading and the reference's answer alike.
-/
namespace Go.Am
theorem sees_eq (l : List Tree) (a fin k : Int) : (⟨l, a, fin, none⟩ : Rdr).sees k = isK l a k := by simp [Rdr.sees, Rdr.ok]
theorem spot_eq (l : List Tree) (a fin : Int) (b : Option Int) : (⟨l, a, fin, b⟩ : Rdr).spot = spotOf l a fin := rfl
theorem take_yes {l : List Tree} {a fin k : Int} (h : isK l a k = true) : (⟨l, a, fin, none⟩ : Rdr).take k = (treeAt l a, ⟨l, a + 1, fin, none⟩) := by
  obtain ⟨j, t, rfl, hj, _, hl⟩ := isK_spec h
  simp [Rdr.take, sees_eq, h, treeAt, hj, List.getD]
theorem take_no {l : List Tree} {a fin k : Int} (h : isK l a k = false) : (⟨l, a, fin, none⟩ : Rdr).take k = (.zero, ⟨l, a, fin, some (spotOf l a fin)⟩) := by
  simp [Rdr.take, sees_eq, h, Rdr.fail, spot_eq]
theorem tokAt_eq {l : List Tree} {a k : Int} (h : isK l a k = true) : (treeAt l a).tok = tokAt l a := by
  obtain ⟨j, t, rfl, hj, _, _⟩ := isK_spec h
  simp [treeAt, tokAt, hj]
theorem goG_bad {β : Type} {step : Rdr × List β → Rdr × List β} {a : Rdr × List β} (h : a.1.bad ≠ none) : ∀ n, goG step n a = a
  | 0 => rfl
  | n + 1 => by
    have : a.1.sees 44 = false := by
      simp only [Rdr.sees, Rdr.ok]
      cases hb : a.1.bad with
      | none => exact absurd hb h
      | some _ => simp
    simp [goG, this]
theorem goG_no {β : Type} {step : Rdr × List β → Rdr × List β} {a : Rdr × List β} (h : a.1.sees 44 = false) : ∀ n, goG step n a = a
  | 0 => rfl
  | n + 1 => by simp [goG, h]
theorem nameAt_yes {l : List Tree} {a fin : Int} (h : isK l a 97 = true) : nameAt l a fin = ⟨.mk 0 (tokAt l a).pos (tokAt l a).text [] [], a + 1, false, 0⟩ := by simp [nameAt, h]
theorem nameAt_no {l : List Tree} {a fin : Int} (h : isK l a 97 = false) : nameAt l a fin = wrongAt l a fin := by simp [nameAt, h]
theorem some_words (l : List Tree) (fin : Int) : ∀ (m n : Nat) (a : Nat) (out : List Nd) (ws : List Word), ws = wordsOf out → l.length + 1 ≤ m + a → l.length ≤ n + a → a ≤ l.length →
    (someAt (fun i => nameAt l i fin) l m a out).2.bad = true ∧ (goG wStep n (wStep (⟨l, a, fin, none⟩, ws))).1.bad = some (someAt (fun i => nameAt l i fin) l m a out).2.pos ∨
    (someAt (fun i => nameAt l i fin) l m a out).2.bad = false ∧ goG wStep n (wStep (⟨l, a, fin, none⟩, ws)) = (⟨l, (someAt (fun i => nameAt l i fin) l m a out).2.next, fin, none⟩, wordsOf (someAt (fun i => nameAt l i fin) l m a out).1)
  | 0, n, a, out, ws, hws, hm, hn, ha => by omega
  | m + 1, n, a, out, ws, hws, hm, hn, ha => by
    cases hk : isK l a 97
    · left
      have e : wStep (⟨l, a, fin, none⟩, ws) = (⟨l, a, fin, some (spotOf l a fin)⟩, ws ++ [⟨[], 0⟩]) := by simp [wStep, Rdr.word, take_no hk, Tree.zero, Tree.tok]
      rw [e, goG_bad (by simp)]
      simp [someAt, nameAt_no hk, wrongAt]
    · obtain ⟨j, t, hj, _, _, hl⟩ := isK_spec hk
      have e : wStep (⟨l, a, fin, none⟩, ws) = (⟨l, (a : Int) + 1, fin, none⟩, ws ++ [⟨(tokAt l a).text, (tokAt l a).pos⟩]) := by simp [wStep, Rdr.word, take_yes hk, tokAt_eq hk]
      rw [e]
      simp only [someAt, nameAt_yes hk, Bool.false_eq_true, if_false]
      cases h44 : isK l ((a : Int) + 1) 44
      · right
        rw [goG_no (by simp [sees_eq, h44])]
        simp [hws, wordsOf, Nd.text, Nd.pos]
      · obtain ⟨j2, t2, hj2, _, _, hl2⟩ := isK_spec h44
        obtain ⟨n, rfl⟩ : ∃ k, n = k + 1 := ⟨n - 1, by omega⟩
        simp only [goG, sees_eq, h44, if_true, take_yes h44]
        have ih := some_words l fin m n (a + 2) (out ++ [.mk 0 (tokAt l a).pos (tokAt l a).text [] []]) (ws ++ [⟨(tokAt l a).text, (tokAt l a).pos⟩]) (by simp [hws, wordsOf, Nd.text, Nd.pos]) (by omega) (by omega) (by omega)
        rw [show (a : Int) + 1 + 1 = ((a + 2 : Nat) : Int) by omega]
        exact ih
/-- The names that the program reads are the reference's. -/
theorem words_law (l : List Tree) (a fin : Int) :
    (refWords l a fin).2.bad = true ∧ wordsAt l a fin = ([], some (refWords l a fin).2.pos) ∨ (refWords l a fin).2.bad = false ∧ wordsAt l a fin = ((refWords l a fin).1, none) := by
  cases h : isK l a 123
  · left
    have e : (⟨l, a, fin, none⟩ : Rdr).words false = (([], 0), ⟨l, a, fin, some (spotOf l a fin)⟩) := by
      simp [Rdr.words, Rdr.bracket, take_no h, Rdr.ok]
    simp [refWords, h, wrongAt, wordsAt, e]
  · have ht : ∃ t, treeAt l a = t := ⟨_, rfl⟩
    obtain ⟨t, ht⟩ := ht
    have hw : (⟨l, a, fin, none⟩ : Rdr).words false = (((someG wStep t.inner).2, t.tok.pos), (⟨l, a + 1, fin, none⟩ : Rdr).under (someG wStep t.inner).1) := by
      simp [Rdr.words, Rdr.bracket, take_yes h, Rdr.ok, Rdr.inside, ht]
    have hs := some_words t.kids t.fin (t.kids.length + 1) t.kids.length 0 [] [] rfl (by omega) (by omega) (by omega)
    have hg : someG wStep t.inner = goG wStep t.kids.length (wStep (⟨t.kids, ((0 : Nat) : Int), t.fin, none⟩, [])) := rfl
    rw [← hg] at hs
    have hr : refWords l a fin = (wordsOf (wholeAt nameAt t false).1, (wholeAt nameAt t false).2) := by simp [refWords, h, ht]
    have hwh : wholeAt nameAt t false = if (someAt (fun i => nameAt t.kids i t.fin) t.kids (t.kids.length + 1) ((0 : Nat) : Int) []).2.bad = false ∧ (someAt (fun i => nameAt t.kids i t.fin) t.kids (t.kids.length + 1) ((0 : Nat) : Int) []).2.next < t.kids.length then ([], wrongAt t.kids (someAt (fun i => nameAt t.kids i t.fin) t.kids (t.kids.length + 1) ((0 : Nat) : Int) []).2.next t.fin)
        else someAt (fun i => nameAt t.kids i t.fin) t.kids (t.kids.length + 1) ((0 : Nat) : Int) [] := by simp [wholeAt]
    generalize someAt (fun i => nameAt t.kids i t.fin) t.kids (t.kids.length + 1) ((0 : Nat) : Int) [] = S at hs hwh
    generalize someG wStep t.inner = G at hs hw
    rcases hs with ⟨h1, h2⟩ | ⟨h1, h2⟩
    · left
      rw [h1] at hwh
      simp only [Bool.true_eq_false, false_and, if_false] at hwh
      refine ⟨by rw [hr, hwh]; exact h1, ?_⟩
      rw [hr, hwh]
      have hc : G.1.close = G.1 := by simp [Rdr.close, Rdr.ok, h2]
      simp [wordsAt, hw, Rdr.under, hc, h2]
    · rw [h1] at hwh
      simp only [true_and] at hwh
      rw [h2] at hw
      by_cases hn : S.2.next < t.kids.length
      · left
        rw [if_pos hn] at hwh
        refine ⟨by rw [hr, hwh]; rfl, ?_⟩
        rw [hr, hwh]
        simp [wordsAt, hw, Rdr.under, Rdr.close, Rdr.ok, hn, Rdr.fail, spot_eq, wrongAt]
      · right
        rw [if_neg hn] at hwh
        refine ⟨by rw [hr, hwh]; exact h1, ?_⟩
        rw [hr, hwh]
        simp [wordsAt, hw, Rdr.under, Rdr.close, hn]
end Go.Am

/-
  The law of the names, walked.
-/
namespace Go.Proofs.Try
open Go.Am
set_option maxRecDepth 4000
set_option maxHeartbeats 4000000

def inv7 (l : List Tree) (i : { i : Nat // i ≤ l.length }) (σ : Store) : St :=
  ⟨[.sl .no 5 (encs l), .any, .any, .int .i64 (l.length + (manys (l.take i) - i : Int)), .int .i64 (i : Nat)] ++ List.replicate 17 .any, [], σ⟩
theorem many_calls : ∀ (n : Nat) (l : List Tree) (σ : Store), manys l = n → manys l ≤ big → PCalls prog 7 [.sl .no 5 (encs l)] σ fun v σ' => v = .int .i64 (manys l) ∧ σ' = σ := by
  intro n
  induction n using Nat.strongRecOn with
  | ind n ih =>
  intro l σ hn hb
  refine fn7.calls ?_
  simp only [slots, ac7, am, amo, amc, Nat.reduceAdd, decide_true, decide_false, Tree.rec_, Nd.rec_, Word.rec_, Got.rec_]
  simp only [encs_length]
  refine vc_loop (fun i => inv7 l i σ) (fun i => l.length - i.1) ?_ ?_
  · refine Upd.enter ⟨0, by omega⟩ ?_ LLLe.rfl OLe.rfl
    simp [inv7, List.replicate, am, manys]
  · rintro ⟨i, hi⟩
    simp only [inv7, List.replicate, am, encs_length]
    refine vcIf_split ?_ ?_
    · intro hlt
      have hlt : i < l.length := by simpa using hlt
      simp only [am]
      refine idxL_intro (by omega) (c := l[i].enc) (by simp [encs_map, hlt]) ?_
      simp only [am, enc_eq, Nat.reduceAdd]
      have hg := manys_get hlt
      refine ((ih _ (by omega) l[i].kids σ rfl (by omega)).mono ?_)
      rintro v σ' ⟨rfl, rfl⟩
      simp only [am]
      have := manys_ge (l.take i)
      have hl := List.length_take (l := l) (i := i)
      have hs := take_succ_many hlt
      have hgl := manys_ge l
      simp only [big] at hb
      rw [wrap_i64 (by omega) (by omega), wrap_i64 (x := (i : Int) + 1) (by omega) (by omega)]
      refine Upd.again ⟨i + 1, hlt⟩ (by simp; omega) ?_ LLLe.rfl OLe.rfl
      simp [List.replicate, am, hs]
      omega
    · intro hlt
      have hlt : i = l.length := by simp at hlt; omega
      subst hlt
      simp only [am]
      refine retK_intro rfl (Store.sub_refl _) ⟨?_, rfl⟩
      simp [V.erase]; omega

def inv11 (l : List Word) (i : Nat) (σ : Store) : St :=
  ⟨[.sl .no 2 (l.map Word.enc), .sl .no 2 (l.map Word.enc), .any, .any, .any, .int .i64 (i : Nat)] ++ List.replicate 20 .any, [], σ⟩
theorem words2_same (l : List Word) (σ : Store) (hb : l.length ≤ big) : PCalls prog 11 [.sl .no 2 (l.map Word.enc), .sl .no 2 (l.map Word.enc)] σ fun v σ' => v = .bool true ∧ σ' = σ := by
  simp only [big] at hb
  refine fn11.calls ?_
  simp only [slots, ac11, am, amo, amc, Nat.reduceAdd, decide_true, decide_false, Tree.rec_, Nd.rec_, Word.rec_, Got.rec_]
  refine vc_loop (fun p : { i : Nat // i ≤ l.length } => inv11 l p.1 σ) (fun p => l.length - p.1) ?_ ?_
  · refine Upd.enter ⟨0, by simp⟩ ?_ LLLe.rfl OLe.rfl
    simp [inv11, List.replicate, am]
  · rintro ⟨i, hi⟩
    simp only [inv11, List.replicate, am, List.length_map]
    refine vcIf_split ?_ ?_
    · intro hlt
      have hlt : i < l.length := by simpa using hlt
      have hn : l[i]? = some l[i] := by simp [hlt]
      simp only [am, amo, amc, Nat.reduceAdd, encs_length, List.length_map, decide_true, decide_false, Tree.rec_, Nd.rec_, Word.rec_, Got.rec_]
      refine idxL_intro (by omega) (wencs_at hn) ?_
      simp only [am, amo, amc, Nat.reduceAdd, encs_length, List.length_map, decide_true, decide_false, Tree.rec_, Nd.rec_, Word.rec_, Got.rec_, Word.enc]
      refine idxL_intro (by omega) (wencs_at hn) ?_
      simp only [am, amo, amc, Nat.reduceAdd, encs_length, List.length_map, decide_true, decide_false, Tree.rec_, Nd.rec_, Word.rec_, Got.rec_, Word.enc]
      rw [wrap_i64 (by omega) (by omega)]
      exact Upd.again ⟨i + 1, hlt⟩ (by simp; omega) (by simp [am, List.replicate]) LLLe.rfl OLe.rfl
    · intro hlt
      simp only [am, amo, amc, Nat.reduceAdd, encs_length, List.length_map, decide_true, decide_false, Tree.rec_, Nd.rec_, Word.rec_, Got.rec_]
      refine retK_intro rfl (Store.sub_refl _) ⟨?_, rfl⟩
      simp [V.erase, eraseL]

theorem wordsAt_len (l : List Tree) (a fin : Int) (hm : manys l + 1 ≤ big) : (refWords l a fin).1.length ≤ big := by
  unfold refWords
  split
  · rename_i h
    obtain ⟨j, t, rfl, hj, _, hl⟩ := isK_spec h
    have ht : treeAt l (j : Nat) = t := by simp [treeAt, hj]
    have h1 := manys_kids hl
    have h2 := manys_ge t.kids
    have h3 : l[j] = t := by rw [List.getElem?_eq_getElem hl] at hj; simpa using hj
    rw [h3] at h1
    have := whole_len (one := nameAt) t false
    rw [ht]; simp only [wordsOf, List.length_map]; omega
  · simp
theorem termWords_calls (l : List Tree) (a fin : Int) (σ : Store) (hm : manys l + 1 ≤ big) : PCalls prog 3 [.sl .no 5 (encs l), .int .i64 a, .int .i64 fin] σ fun v σ' => v = .bool true ∧ σ' = σ := by
  have hlaw := words_law l a fin
  have hlen := wordsAt_len l a fin hm
  refine fn3.calls ?_
  simp only [slots, ac3, am, amo, amc, Nat.reduceAdd, decide_true, decide_false, Tree.rec_, Nd.rec_, Word.rec_, Got.rec_]
  refine (many_calls _ l σ rfl (by omega)).mono ?_
  rintro v σ ⟨rfl, rfl⟩
  simp only [am, amo, amc, Nat.reduceAdd, encs_length, List.length_map, decide_true, decide_false, Tree.rec_, Nd.rec_, Word.rec_, Got.rec_]
  refine vcIf_split ?_ ?_
  · intro _
    simp only [am, amo, amc, Nat.reduceAdd, encs_length, List.length_map, decide_true, decide_false, Tree.rec_, Nd.rec_, Word.rec_, Got.rec_]
    refine (alive_calls σ).mono ?_
    rintro v σ ⟨rfl, rfl⟩
    simp only [am, amo, amc, Nat.reduceAdd, encs_length, List.length_map, decide_true, decide_false, Tree.rec_, Nd.rec_, Word.rec_, Got.rec_]
    refine retK_intro rfl (Store.sub_refl _) ⟨?_, rfl⟩
    simp [V.erase, eraseL]
  · intro _
    simp only [am, amo, amc, Nat.reduceAdd, encs_length, List.length_map, decide_true, decide_false, Tree.rec_, Nd.rec_, Word.rec_, Got.rec_]
    refine (Words_calls (at_ := a) (fin := fin) hm).mono ?_
    rintro v σ ⟨rfl, rfl⟩
    generalize wordsAt l a fin = A at hlaw ⊢
    simp only [am, amo, amc, Nat.reduceAdd, encs_length, List.length_map, decide_true, decide_false, Tree.rec_, Nd.rec_, Word.rec_, Got.rec_, fenc]
    refine (Words_ref_calls l a fin σ hm).mono ?_
    rintro v σ ⟨rfl, rfl⟩
    generalize refWords l a fin = B at hlaw hlen ⊢
    simp only [am, amo, amc, Nat.reduceAdd, encs_length, List.length_map, decide_true, decide_false, Tree.rec_, Nd.rec_, Word.rec_, Got.rec_, Got.enc]
    rcases hlaw with ⟨h1, h2⟩ | ⟨h1, h2⟩
    · subst h2
      simp only [am, amo, amc, Nat.reduceAdd, encs_length, List.length_map, decide_true, decide_false, Tree.rec_, Nd.rec_, Word.rec_, Got.rec_, h1, List.map_nil, List.length_nil, Int.natCast_zero, badC, badA]
      refine (alive_calls σ).mono ?_
      rintro v σ ⟨rfl, rfl⟩
      simp only [am, amo, amc, Nat.reduceAdd, encs_length, List.length_map, decide_true, decide_false, Tree.rec_, Nd.rec_, Word.rec_, Got.rec_]
      refine retK_intro rfl (Store.sub_refl _) ⟨?_, rfl⟩
      simp [V.erase, eraseL]
    · subst h2
      simp only [am, amo, amc, Nat.reduceAdd, encs_length, List.length_map, decide_true, decide_false, Tree.rec_, Nd.rec_, Word.rec_, Got.rec_, h1]
      refine (words2_same B.1 σ hlen).mono ?_
      rintro v σ ⟨rfl, rfl⟩
      simp only [am, amo, amc, Nat.reduceAdd, encs_length, List.length_map, decide_true, decide_false, Tree.rec_, Nd.rec_, Word.rec_, Got.rec_, badC, badA]
      refine (alive_calls σ).mono ?_
      rintro v σ ⟨rfl, rfl⟩
      simp only [am, amo, amc, Nat.reduceAdd, encs_length, List.length_map, decide_true, decide_false, Tree.rec_, Nd.rec_, Word.rec_, Got.rec_]
      refine retK_intro rfl (Store.sub_refl _) ⟨?_, rfl⟩
      simp [V.erase, eraseL]
end Go.Proofs.Try

/-
  What comes in, told in the logic's words; what is left, read again.
-/
namespace Go.Am
open Go.ChangeShapes Go.WideShapes Go.ChangeAt Go.RowKit

/-- A measure of readings. -/
structure BulkFn {H : Type} (B : DataW H → Nat) (BA : List (DataW H) → Nat) : Prop where
  str : ∀ b, B (.lit (.string b)) = b.length + 1
  int : ∀ k n, B (.lit (.int k n)) = 1
  bool : ∀ b, B (.lit (.bool b)) = 1
  nil : B .nil = 1
  slice : ∀ e s, B (.slice e s) = BA e + BA s + 1
  agg : ∀ p, B (.agg p) = BA p + 1
  no : BA [] = 0
  cons : ∀ d r, BA (d :: r) = B d + BA r

/-- All memory is as it came. -/
def envOf (W : World) : Env := ⟨W, fun _ => .const, fun _ => none, fun _ => none⟩
def noStore : Store := ⟨fun _ => none, fun _ => none⟩
theorem envOf_ok (W : World) : (envOf W).ok noStore := ⟨fun _ _ h => by simp [noStore] at h, fun _ _ h => by simp [noStore] at h, fun _ _ => rfl, ⟨0, fun _ _ => rfl⟩⟩

section
variable {H : Type} {enc : TypeId × Value → H} {P : Program} {W : World} {sp : Nat → Bool} {B : DataW H → Nat} {BA : List (DataW H) → Nat}

theorem rd_int {t : TypeId} {k : IntKind} {n : Nat} {cs : List Value} {x : DataW H × List MemPlace} (ht : P.underlying t = some (.int k)) (hB : BulkFn B BA) (h : DataW.trod enc P W 0 sp true n t cs = some x) :
    ∃ i : Int, RL (envOf W) [.int k i] cs ∧ (∀ v ∈ cs, v.oneCell' = true) ∧ B x.1 = 1 ∧ (Lit.int k i).wf = true := by
  obtain ⟨i, rfl, rfl, hw⟩ := DataW.trod_int ht h
  exact ⟨i, by simp [RL, R], by simp [Value.oneCell'], hB.int _ _, hw⟩
theorem rd_bool {t : TypeId} {n : Nat} {cs : List Value} {x : DataW H × List MemPlace} (ht : P.underlying t = some .bool) (hB : BulkFn B BA) (h : DataW.trod enc P W 0 sp true n t cs = some x) :
    ∃ i : Bool, RL (envOf W) [.bool i] cs ∧ (∀ v ∈ cs, v.oneCell' = true) ∧ B x.1 = 1 := by
  obtain ⟨i, rfl, rfl⟩ := DataW.trod_bool ht h
  exact ⟨i, by simp [RL, R], by simp [Value.oneCell'], hB.bool _⟩
theorem rd_str {t : TypeId} {n : Nat} {cs : List Value} {x : DataW H × List MemPlace} (ht : P.underlying t = some .string) (hB : BulkFn B BA) (h : DataW.trod enc P W 0 sp true n t cs = some x) :
    ∃ s : List UInt8, RL (envOf W) [.str s] cs ∧ (∀ v ∈ cs, v.oneCell' = true) ∧ s.length + 1 = B x.1 := by
  obtain ⟨s, rfl, rfl, _⟩ := DataW.trod_string ht h
  exact ⟨s.data.toList, by simp [RL, R], by simp [Value.oneCell'], (hB.str _).symm⟩

theorem rd_rows {α : Type} (ea : α → List V) (sz : α → Nat) {e : TypeId} {k n : Nat} (hB : BulkFn B BA) (hk : P.cellsOf e = k) (hlen : ∀ y, (ea y).length = k)
    (hel : ∀ cs x, DataW.trod enc P W 0 sp true n e cs = some x → ∃ y : α, RL (envOf W) (ea y) cs ∧ (∀ v ∈ cs, v.oneCell' = true) ∧ sz y ≤ B x.1) {b o : Nat} :
    ∀ (els : List (DataW H × List MemPlace)) (i : Nat), (∀ j, j < els.length → (W.cells? 0 (Addr.add ⟨b, o, none⟩ ((i + j) * k)) k).bind (DataW.trod enc P W 0 sp true n e) = els[j]?) →
      ∃ l : List α, l.length = els.length ∧ REs (envOf W).nl k (l.map ea) b (o + i * k) ∧ (l.map sz).sum ≤ BA (els.map (·.1))
  | [], i, _ => ⟨[], rfl, by simp [REs], by simp⟩
  | x :: els, i, h => by
    obtain ⟨l, h1, h2, h3⟩ := rd_rows ea sz hB hk hlen hel els (i + 1) fun j hj => by
      have := h (j + 1) (by simp; omega)
      rw [show i + (j + 1) = i + 1 + j by omega] at this
      simpa using this
    have h0 := h 0 (by simp)
    simp only [Nat.add_zero, List.getElem?_cons_zero] at h0
    obtain ⟨cs, hc, hr⟩ := Option.bind_eq_some_iff.1 h0
    obtain ⟨y, k1, k2, k3⟩ := hel cs x hr
    obtain ⟨_, hl, hcell⟩ := World.cells?_some hc
    refine ⟨y :: l, by simp [h1], ?_, ?_⟩
    · simp only [List.map_cons, REs]
      refine ⟨hlen y, RAs_mk k1 k2 (fun j v hv => ?_) (fun _ _ => trivial), by rw [show o + i * k + k = o + (i + 1) * k by rw [Nat.add_mul]; omega]; exact h2⟩
      have hj : j < k := by have := (List.getElem?_eq_some_iff.1 hv).1; omega
      have := hcell j hj
      rw [addr_add, addr_add] at this
      show W.cell? _ = _
      rw [this, hv]
    · simp only [List.map_cons, List.sum_cons, hB.cons]; omega

theorem rd_slice {α : Type} (ea : α → List V) (sz : α → Nat) {t e : TypeId} {k fuel : Nat} (hB : BulkFn B BA) (ht : P.underlying t = some (.slice e)) (hk : P.cellsOf e = k) (hpos : 0 < k) (hlen : ∀ y, (ea y).length = k)
    (hel : ∀ n, n < fuel → ∀ cs x, DataW.trod enc P W 0 sp true n e cs = some x → ∃ y : α, RL (envOf W) (ea y) cs ∧ (∀ v ∈ cs, v.oneCell' = true) ∧ sz y ≤ B x.1)
    {cs : List Value} {x : DataW H × List MemPlace} (h : DataW.trod enc P W 0 sp true fuel t cs = some x) :
    ∃ l : List α, RL (envOf W) [.sl .no k (l.map ea)] cs ∧ (∀ v ∈ cs, v.oneCell' = true) ∧ (l.map sz).sum + 1 ≤ B x.1 := by
  rcases DataW.trod_slice ht h with ⟨rfl, rfl⟩ | ⟨a, len, cap, elems, rest, n, rfl, rfl, rfl, _, hle, _, hl, hels, _, _⟩
  · refine ⟨[], ?_, by simp [Value.oneCell'], by simp [hB.nil]⟩
    simp only [RL, R, List.map_nil, and_true]
    exact ⟨none, 0, rfl, by simp, by simp, trivial⟩
  · have ha : elems = [] ∨ ∃ b o, a = ⟨b, o, none⟩ := by
      cases elems with
      | nil => exact .inl rfl
      | cons y ys =>
        right
        have h0 := hels 0 (by rw [← hl]; simp)
        simp only [List.getElem?_cons_zero] at h0
        obtain ⟨cs', hc, _⟩ := Option.bind_eq_some_iff.1 h0
        obtain ⟨_, hl', hcell⟩ := World.cells?_some hc
        have h1 := hcell 0 (by rw [hk]; exact hpos)
        have h2 : cs'[0]? = some (cs'[0]'(by rw [hl', hk]; exact hpos)) := List.getElem?_eq_getElem _
        rw [h2] at h1
        obtain ⟨b, o, s⟩ := a
        refine ⟨b, o, ?_⟩
        simp only [World.cell?] at h1
        cases s with
        | none => rfl
        | some s =>
          split at h1
          · simp [Addr.add] at h1
          · simp at h1
    rcases ha with rfl | ⟨b, o, rfl⟩
    · refine ⟨[], ?_, by simp [Value.oneCell'], by simp [hB.slice]⟩
      simp only [List.length_nil] at hl
      subst hl
      simp only [RL, R, List.map_nil, and_true]
      exact ⟨some a, cap, rfl, by simp, by simp, trivial⟩
    · obtain ⟨l, h1, h2, h3⟩ := rd_rows (B := B) (BA := BA) (sp := sp) (enc := enc) (P := P) (W := W) (n := n) ea sz hB hk hlen (hel n (Nat.lt_succ_self n)) elems 0 (fun j hj => by
        have := hels j (by omega)
        rw [hk] at this
        rw [Nat.zero_add]; exact this)
      refine ⟨l, ?_, by simp [Value.oneCell'], ?_⟩
      · simp only [RL, R, List.length_map, and_true]
        exact ⟨some ⟨b, o, none⟩, cap, by rw [h1, hl], by omega, .inr ⟨b, o, rfl, by simpa using h2⟩, trivial⟩
      · rw [hB.slice]; omega
end

/-- What a call leaves behind is read as it was. -/
theorem post_am {H : Type} {enc : TypeId × Value → H} {P : Program} {f : Func} {s : ChangeSpec} {W : World} {args : Array Value} {ds : List (DataW H)} {before : List MemPlace} {tb : TypeId}
    (hl : laidOutB P = true) (hm : mapsRowed P = true) (hz : ((List.range P.types.size).all fun t => match P.underlying t with | some (.slice e) => decide (0 < P.cellsOf e) | _ => true) = true)
    (hres : f.resultTypes = #[tb]) (htb : P.underlying tb = some .bool) (hpar : ∀ t ∈ f.params.toList, t < P.types.size) (hvars : s.vars = []) (hfn : (s.fn H ds).results = [.lit (.bool true)] ∧ (s.fn H ds).args = ds ∧ (s.fn H ds).vars = [])
    (hW : DataW.Whole enc P f.params.toList s.vars false W args.toList ds [] before) {E' : Env} (hfr : Fr (envOf W) E') :
    s.post enc P f false true false false W args (.bool true) E'.w := by
  have hW' := hW
  obtain ⟨p, q, hA, hV, rfl, hfz, hnd⟩ := hW
  rw [hvars] at hV
  obtain ⟨_, rfl⟩ := trodVars_none hV
  have hsame : ∀ b, b < W.heap.size → E'.w.heap[b]? = W.heap[b]? := fun b hb => (hfr.same b hb (.inl rfl)).1
  have hkept : W.keptBut E'.w (fun _ => False) := by
    refine ⟨hfr.os, hfr.output, fun i hi => ?_⟩
    rw [hsame i hi]
    cases W.heap[i]? with
    | none => rfl
    | some ob => cases ob <;> simp
  simp only [List.append_nil] at hW'
  have hds : s.fn H (ds ++ []) = s.fn H ds := by rw [List.append_nil]
  refine post_of_same (pa := p) (pv := []) hW' (fun b sp' hd => ?_) (fun sp' hs => ?_) (fun sp' hs => ?_) (by simp) (World.keptBut_mono (fun _ h => h.elim) hkept) ?_ (ok_one hres rfl (okWide_bool_mk htb _))
  · rw [hds, hfn.1, hres]
    exact trodAll_cons_mk (shut_bool htb _) trodAll_mk0
  · rw [hds, hfn.2.1]
    have hlt := DataW.TrodAll.lt hA
    have key : ∀ (ts : List TypeId) (vs : List Value) (ds : List (DataW H)) (ps : List MemPlace), (∀ t ∈ ts, t < P.types.size) → DataW.TrodAll enc P W 0 (fun _ => true) true ts vs ds ps → (∀ x ∈ ps, x.block < W.heap.size) → (∀ x ∈ ps, sp' x.block = true) → DataW.TrodAll enc P E'.w 0 sp' true ts vs ds ps := by
      intro ts
      induction ts with
      | nil => intro vs ds ps _ h _ _; cases vs <;> cases ds <;> first | exact h | exact h.elim
      | cons t ts ih =>
        intro vs ds ps hT h hlt hs
        cases vs with
        | nil => exact h.elim
        | cons v vs =>
          cases ds with
          | nil => exact h.elim
          | cons d ds =>
            obtain ⟨p, q, ⟨n, h1⟩, h2, rfl⟩ := h
            refine ⟨p, q, ⟨n, ?_⟩, ih vs ds q (fun t ht => hT t (by simp [ht])) h2 (fun x hx => hlt x (by simp [hx])) (fun x hx => hs x (by simp [hx])), rfl⟩
            refine DataW.trod_stays (kids_rows hl hm) (fun {t e} ht he => slices_full_of P hz t e ht he) (by simp) (hT t (by simp)) h1 (fun x hx => ?_) (fun x hx => hs x (by simp [hx]))
            have hb := hlt x (by simp [hx])
            cases x with
            | cell b off => exact cell_same (hsame b hb)
            | map b => exact hsame b hb
    exact key _ _ _ _ hpar hA (fun x hx => hlt x hx) (fun x hx => hs x (by simpa using hx))
  · rw [hds, hfn.2.2, hvars]
    rfl
  · exact hfr.frz

section
variable {P : Program} {W : World} {r : Reach} {b : Nat} {t : TypeId} {v : Value} {E : Env}
theorem val_slice {e : TypeId} {x : V} (ht : P.underlying t = some (.slice e)) (hv : Value.okWide P W r b t v) (h : RL E [x] v.cells.toList) : R E x v := by
  obtain ⟨a, len, cap, rfl⟩ := okWide_slice ht hv
  simpa [Value.cells, RL] using h
theorem val_int {k : IntKind} {x : V} (ht : P.underlying t = some (.int k)) (hv : Value.okWide P W r b t v) (h : RL E [x] v.cells.toList) : R E x v := by
  obtain ⟨a, rfl⟩ := okWide_int ht hv
  simpa [Value.cells, RL] using h
theorem val_bool {x : V} (ht : P.underlying t = some .bool) (hv : Value.okWide P W r b t v) (h : RL E [x] v.cells.toList) : R E x v := by
  obtain ⟨a, rfl⟩ := okWide_bool ht hv
  simpa [Value.cells, RL] using h
theorem val_string {x : V} (ht : P.underlying t = some .string) (hv : Value.okWide P W r b t v) (h : RL E [x] v.cells.toList) : R E x v := by
  obtain ⟨a, rfl⟩ := okWide_string ht hv
  simpa [Value.cells, RL] using h
theorem val_struct {fs : Array Field} {xs : List V} (ht : P.underlying t = some (.struct fs)) (hv : Value.okWide P W r b t v) (h : RL E xs v.cells.toList) : R E (.agg xs) v := by
  obtain ⟨cs, rfl, _⟩ := okWide_struct ht hv
  simp only [R]
  exact ⟨cs, rfl, by simpa [Value.cells] using h⟩
end
/-- A law that was walked: what its statement asks. -/
theorem law_calls {H : Type} {enc : TypeId × Value → H} {P : Program} {n : FuncId} {f : Func} {s : ChangeSpec} {W : World} {args : Array Value} {vs : List V} {ds : List (DataW H)} {before : List MemPlace} {tb : TypeId}
    (hP : PCalls P n vs noStore fun v σ' => v = .bool true ∧ σ' = noStore) (hR : RL (envOf W) vs args.toList)
    (hl : laidOutB P = true) (hm : mapsRowed P = true) (hz : ((List.range P.types.size).all fun t => match P.underlying t with | some (.slice e) => decide (0 < P.cellsOf e) | _ => true) = true)
    (hres : f.resultTypes = #[tb]) (htb : P.underlying tb = some .bool) (hpar : ∀ t ∈ f.params.toList, t < P.types.size) (hvars : s.vars = []) (hfn : (s.fn H ds).results = [.lit (.bool true)] ∧ (s.fn H ds).args = ds ∧ (s.fn H ds).vars = [])
    (hW : DataW.Whole enc P f.params.toList s.vars false W args.toList ds [] before) :
    Calls P n args W fun e W' => ∃ v, e = .returned v ∧ s.post enc P f false true false false W args v W' := by
  refine (hP.2 (envOf W) args (fun _ => rfl) (envOf_ok W) hR).mono ?_
  rintro e w' ⟨v, x, E', σ', rfl, rfl, _, _, hRv, hfr, rfl, _⟩
  simp only [R] at hRv
  subst hRv
  exact ⟨_, rfl, post_am hl hm hz hres htb hpar hvars hfn hW hfr⟩
end Go.Am

/-
  The data of the terms, as they come in.
-/
namespace Go.Proofs.Try
open Go.Am Go.ChangeShapes Go.WideShapes Go.ChangeAt Go.RowKit
open Go.Proofs.Ytdggjnhfjimneaa (Rows.uptoBulk Rows.uptoBulkAll Rows.uptoSmall)

theorem bulkFn (H : Type) : BulkFn (H := H) Rows.uptoBulk Rows.uptoBulkAll :=
  ⟨fun _ => by simp only [Rows.uptoBulk], fun _ _ => by simp only [Rows.uptoBulk], fun _ => by simp only [Rows.uptoBulk], by simp only [Rows.uptoBulk], fun _ _ => by simp only [Rows.uptoBulk], fun _ => by simp only [Rows.uptoBulk], by simp only [Rows.uptoBulkAll], fun _ _ => by simp only [Rows.uptoBulkAll]⟩
theorem laid : laidOutB prog = true := by kernel_rfl
theorem rowed : mapsRowed prog = true := by kernel_rfl
theorem fulls : ((List.range prog.types.size).all fun t => match prog.underlying t with | some (.slice e) => decide (0 < prog.cellsOf e) | _ => true) = true := by kernel_rfl
theorem own : ownKnob prog.godebug = none := by kernel_rfl
theorem c55 : prog.cellsOf 55 = 3 := by kernel_rfl
theorem c57 : prog.cellsOf 57 = 5 := by kernel_rfl
theorem c22 : prog.cellsOf 22 = 1 := by kernel_rfl
theorem c3 : prog.cellsOf 3 = 1 := by kernel_rfl
theorem c5 : prog.cellsOf 5 = 1 := by kernel_rfl
theorem c9 : prog.cellsOf 9 = 1 := by kernel_rfl

theorem len3 {α : Type} {l : List α} (h : l.length = 3) : ∃ a b c, l = [a, b, c] := by
  match l, h with
  | [a, b, c], _ => exact ⟨a, b, c, rfl⟩
theorem len5 {α : Type} {l : List α} (h : l.length = 5) : ∃ a b c d e, l = [a, b, c, d, e] := by
  match l, h with
  | [a, b, c, d, e], _ => exact ⟨a, b, c, d, e, rfl⟩

section
variable {H : Type} {enc : TypeId × Value → H} {W : World} {sp : Nat → Bool}
theorem RL_one {E : Env} {x : V} {v : Value} : RL E [x] [v] ↔ R E x v := by simp [RL]
theorem rd_tok {n : Nat} {cs : List Value} {x : DataW H × List MemPlace} (h : DataW.trod enc prog W 0 sp true n 55 cs = some x) :
    ∃ t : Tok, RL (envOf W) [.int .u8 t.kind, .str t.text, .int .i64 t.pos] cs ∧ (∀ v ∈ cs, v.oneCell' = true) ∧ t.text.length + 3 ≤ Rows.uptoBulk x.1 := by
  obtain ⟨xs, m, rfl, rfl, hl, hx, hf⟩ := DataW.trod_struct underlying55 h
  rw [c55] at hl
  obtain ⟨a, b, c, rfl⟩ := len3 hl
  obtain ⟨x0, x1, x2, rfl⟩ := len3 hx
  have h0 : DataW.trod enc prog W 0 sp true m 5 ((([a, b, c] : List Value).drop 0).take (prog.cellsOf 5)) = some x0 := hf 0 _ rfl
  have h1 : DataW.trod enc prog W 0 sp true m 9 ((([a, b, c] : List Value).drop 1).take (prog.cellsOf 9)) = some x1 := hf 1 _ rfl
  have h2 : DataW.trod enc prog W 0 sp true m 3 ((([a, b, c] : List Value).drop 2).take (prog.cellsOf 3)) = some x2 := hf 2 _ rfl
  rw [c5] at h0; rw [c9] at h1; rw [c3] at h2
  obtain ⟨i, r0, o0, b0, _⟩ := rd_int underlying5 (bulkFn H) h0
  obtain ⟨s, r1, o1, b1⟩ := rd_str underlying9 (bulkFn H) h1
  obtain ⟨j, r2, o2, b2, _⟩ := rd_int underlying3 (bulkFn H) h2
  simp only [List.drop_zero, List.drop_succ_cons, List.take_succ_cons, List.take_zero, RL_one] at r0 r1 r2 o0 o1 o2
  refine ⟨⟨i, s, j⟩, ?_, ?_, ?_⟩
  · simp only [RL]; exact ⟨r0, r1, r2, trivial⟩
  · intro v hv
    simp only [List.mem_cons, List.not_mem_nil, or_false] at hv o0 o1 o2
    rcases hv with rfl | rfl | rfl
    · exact o0 _ rfl
    · exact o1 _ rfl
    · exact o2 _ rfl
  · simp only [List.map_cons, List.map_nil, Rows.uptoBulk, Rows.uptoBulkAll]; omega
theorem sum_manys : ∀ l : List Tree, (l.map fun t => 1 + t.many).sum = manys l
  | [] => rfl
  | t :: ts => by simp only [List.map_cons, List.sum_cons, sum_manys ts, manys]
theorem rd_trees : ∀ (n : Nat) (cs : List Value) (x : DataW H × List MemPlace), DataW.trod enc prog W 0 sp true n 22 cs = some x →
    ∃ l : List Tree, RL (envOf W) [.sl .no 5 (encs l)] cs ∧ (∀ v ∈ cs, v.oneCell' = true) ∧ manys l + 1 ≤ Rows.uptoBulk x.1 := by
  intro n
  induction n using Nat.strongRecOn with
  | ind n ih =>
  intro cs x h
  have := rd_slice (α := Tree) Tree.enc (fun t => 1 + t.many) (bulkFn H) underlying22 c57 (by omega) (fun t => Tree.r_len) (fun m hm cs x h => ?_) h
  · obtain ⟨l, h1, h2, h3⟩ := this
    rw [sum_manys] at h3
    exact ⟨l, by rw [encs_map]; exact h1, h2, h3⟩
  obtain ⟨xs, m, rfl, rfl, hl, hx, hf⟩ := DataW.trod_struct underlying57 h
  rw [c57] at hl
  obtain ⟨a, b, c, d, e, rfl⟩ := len5 hl
  obtain ⟨x0, x1, x2, rfl⟩ := len3 hx
  have h0 : DataW.trod enc prog W 0 sp true m 55 ((([a, b, c, d, e] : List Value).drop 0).take (prog.cellsOf 55)) = some x0 := hf 0 _ rfl
  have h1 : DataW.trod enc prog W 0 sp true m 22 ((([a, b, c, d, e] : List Value).drop 3).take (prog.cellsOf 22)) = some x1 := hf 1 _ rfl
  have h2 : DataW.trod enc prog W 0 sp true m 3 ((([a, b, c, d, e] : List Value).drop 4).take (prog.cellsOf 3)) = some x2 := hf 2 _ rfl
  rw [c55] at h0; rw [c22] at h1; rw [c3] at h2
  obtain ⟨t, r0, o0, b0⟩ := rd_tok h0
  obtain ⟨ks, r1, o1, b1⟩ := ih m (by omega) _ _ h1
  obtain ⟨j, r2, o2, b2, _⟩ := rd_int underlying3 (bulkFn H) h2
  simp only [List.drop_zero, List.drop_succ_cons, List.take_succ_cons, List.take_zero, RL_one] at r0 r1 r2 o0 o1 o2
  refine ⟨.mk t ks j, ?_, ?_, ?_⟩
  · simp only [RL] at r0
    simp only [Tree.enc, RL]; exact ⟨r0.1, r0.2.1, r0.2.2.1, r1, r2, trivial⟩
  · intro v hv
    simp only [List.mem_cons, List.not_mem_nil, or_false] at hv o0 o1 o2
    rcases hv with rfl | rfl | rfl | rfl | rfl
    · exact o0 _ (.inl rfl)
    · exact o0 _ (.inr (.inl rfl))
    · exact o0 _ (.inr (.inr rfl))
    · exact o1 _ rfl
    · exact o2 _ rfl
  · simp only [List.map_cons, List.map_nil, Rows.uptoBulk, Rows.uptoBulkAll, Tree.many]; omega
end
end Go.Proofs.Try

/-
  For every list of trees, every place and every end: the law of the names of a tree holds (TermWords), where what comes in is of bulk at most 1048576.
-/
namespace Go.Proofs.Try
open Go.Am Go.ChangeShapes Go.WideShapes Go.ChangeAt Go.RowKit
open Go.Proofs.Ytdggjnhfjimneaa

theorem termWords_contract (H : Type) (enc : TypeId × Value → H) (W : World) (base : Nat) (args : Array Value) (ds gs : List (DataW H)) (before : List MemPlace)
    (hval : ∀ (j : Nat) t v, f3.params[j]? = some t → args[j]? = some v → Value.okWide prog W .any base t v)
    (hW : DataW.Whole enc prog f3.params.toList Rows.termWordsSpec.vars false W args.toList ds gs before) (hk : Rows.uptoSmall H (ds ++ gs) = true) :
    Calls prog 3 args W fun e W' => ∃ v, e = .returned v ∧ Rows.termWordsSpec.post enc prog f3 false true false false W args v W' := by
  have hW' := hW
  obtain ⟨p, q, hA0, hV, rfl, hfz, hnd⟩ := hW
  have hA : DataW.TrodAll enc prog W 0 (fun _ => true) true f3.params.toList args.toList ds p := hA0
  rw [params3] at hA hval
  obtain ⟨v0, vs0, d0, ds0, p0, q0, hargs, rfl, rfl, ⟨n0, h0⟩, r0⟩ := trodAll_cons hA
  obtain ⟨v1, vs1, d1, ds1, p1, q1, rfl, rfl, rfl, ⟨n1, h1⟩, r1⟩ := trodAll_cons r0
  obtain ⟨v2, vs2, d2, ds2, p2, q2, rfl, rfl, rfl, ⟨n2, h2⟩, r2⟩ := trodAll_cons r1
  obtain ⟨rfl, rfl, rfl⟩ := trodAll_nil r2
  obtain rfl : args = #[v0, v1, v2] := by cases args; simp_all
  obtain ⟨rfl, rfl⟩ := trodVars_none hV
  obtain ⟨l, a0, _, b0⟩ := rd_trees n0 _ _ h0
  obtain ⟨i, a1, _, b1, _⟩ := rd_int underlying3 (bulkFn H) h1
  obtain ⟨j, a2, _, b2, _⟩ := rd_int underlying3 (bulkFn H) h2
  have hb : Rows.uptoBulkAll [d0, d1, d2] ≤ 1048576 := by have := of_decide_eq_true hk; simpa using this
  simp only [Rows.uptoBulkAll] at hb
  have hm : manys l + 1 ≤ big := by simp only at b0; simp only [big]; omega
  simp only [List.append_nil] at hW'
  refine law_calls (termWords_calls l i j noStore hm) ?_ laid rowed fulls rfl underlying4 (by rw [params3]; decide +kernel) rfl ⟨rfl, rfl, rfl⟩ hW'
  simp only [RL, and_true]
  exact ⟨val_slice underlying22 (hval 0 22 v0 rfl rfl) a0, val_int underlying3 (hval 1 3 v1 rfl rfl) a1, val_int underlying3 (hval 2 3 v2 rfl rfl) a2⟩

set_option maxRecDepth 100000 in
theorem termWords_lifted (os : Os) (started : os.Started) (H : Type) (enc : TypeId × Value → H) (F : Stop.Interp) :
    ReturnsInHanded {} checked os 3 .any ((Rows.OpenSpec.upto Rows.termWordsSpec).pre6 enc prog f3 Rows.termWordsUptoRow.domain false) (((Rows.OpenSpec.upto Rows.termWordsSpec).at F).post enc prog f3 false true false false) := by
  refine returnsInHanded_of_cond (C := checked) (s := Rows.OpenSpec.upto Rows.termWordsSpec) (k := Rows.uptoSmall) rfl own started (by kernel_rfl) func3
    (OpenSpec.witness (enc := enc) (C := checked) (s := Rows.OpenSpec.upto Rows.termWordsSpec) (k := Rows.uptoSmall) rfl false ⟨#[], #[.slice none 0 0, .int .i64 0, .int .i64 0], []⟩ 8 (by kernel_rfl) (by kernel_rfl) (by kernel_rfl)
      (x := ([.nil, .lit (.int .i64 0), .lit (.int .i64 0)], [], [])) (by kernel_rfl) rfl (by kernel_rfl)) ?_
  intro W base args ds gs before hval hW _ hk _
  exact termWords_contract H enc W base args ds gs before hval hW hk

theorem termWords_proved : Rows.TermWordsUptoSaid :=
  OpenClaim.holds_of_cond 3 f3 rfl rfl rfl rfl rfl rfl rfl ⟨rfl, rfl, rfl, rfl, rfl⟩ rfl rfl rfl rfl rfl (by kernel_rfl) func3 (by kernel_rfl)
    (of_decide_eq_true (by kernel_rfl)) (by unfold Func.isWrapper; first | (rw [if_pos (by decide +kernel)]; kernel_rfl) | (rw [if_neg (by decide +kernel)]; exact ⟨rfl, rfl⟩))
    (fun os started H enc _ F => termWords_lifted os started H enc F)
end Go.Proofs.Try

namespace Go.Proofs.Ytdggjnhfjimneaa
/-- The law TermWords answers true for every list of trees, every place and every end, where what comes in is of bulk at most 1048576; conditions: those of the given row alone. -/
theorem termWords_proved_holds : Rows.TermWordsUptoSaid := Go.Proofs.Try.termWords_proved
end Go.Proofs.Ytdggjnhfjimneaa
