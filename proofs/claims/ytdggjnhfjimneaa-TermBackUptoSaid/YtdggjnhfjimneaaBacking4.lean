/-
  Part 4 of the proof of TermBackUptoSaid: a logic over the model, the forms of the functions that the law reaches, and what they compute.
-/
import Derived.Test.YtdggjnhfjimneaaProg
import Derived.Test.YtdggjnhfjimneaaBacking3
set_option linter.unusedVariables false
set_option linter.unusedSimpArgs false
set_option linter.defProp false

/-
  The reference's names, what stands in a bracket, and its words.
-/
namespace Go.Proofs.Try
open Go.Am
set_option maxRecDepth 4000
set_option maxHeartbeats 4000000

def inv36 (l : List Nd) (σ : Store) (i τ : Nat) : St :=
  ⟨[.sl .no 5 (l.map Nd.enc), .any, .any, .sl (.tk τ) 2 ((wordsOf (l.take i)).map Word.enc), .int .i64 (i : Nat)] ++ List.replicate 21 .any, [], σ.setTip τ i⟩
theorem names_ref_calls (l : List Nd) (σ : Store) (hb : l.length ≤ big) : PCalls prog 36 [.sl .no 5 (l.map Nd.enc)] σ fun v σ' => v = .sl .no 2 ((wordsOf l).map Word.enc) ∧ σ' = σ := by
  refine fn36.calls ?_
  simp only [slots, ac36, am, amo, amc, Nat.reduceAdd, decide_true, decide_false, Tree.rec_, Nd.rec_, Word.rec_, Got.rec_]
  refine vc_loop (fun p : { p : Nat × Nat // σ.tip p.2 = none ∧ p.1 ≤ l.length } => inv36 l σ p.1.1 p.1.2) (fun p => l.length - p.1.1) ?_ ?_
  · refine Upd.tokEnter 0 fun τ hτ => ⟨⟨(0, τ), hτ, by simp⟩, ?_, rfl, rfl⟩
    simp [inv36, List.replicate, lto, wordsOf]
  · rintro ⟨⟨i, τ⟩, hτ, hi⟩
    simp only at hτ hi
    simp only [inv36, List.replicate, am, List.length_map]
    refine vcIf_split ?_ ?_
    · intro hlt
      have hlt : i < l.length := by simpa using hlt
      have hn : l[i]? = some l[i] := by simp [hlt]
      have hwl : (wordsOf (l.take i)).length = i := by simp [wordsOf]; omega
      simp only [big] at hb
      simp only [am, amo, amc, Nat.reduceAdd, encs_length, List.length_map, decide_true, decide_false, Tree.rec_, Nd.rec_, Word.rec_, Got.rec_]
      refine idxL_intro (by omega) (nencs_at hn) ?_
      simp only [am, amo, amc, Nat.reduceAdd, encs_length, List.length_map, decide_true, decide_false, Tree.rec_, Nd.rec_, Word.rec_, Got.rec_, Nd.enc_eq, Nat.reduceAdd]
      refine idxL_intro (by omega) (nencs_at hn) ?_
      simp only [am, amo, amc, Nat.reduceAdd, encs_length, List.length_map, decide_true, decide_false, Tree.rec_, Nd.rec_, Word.rec_, Got.rec_, Nd.enc_eq, Nat.reduceAdd]
      refine appD_tk (by rw [List.length_map, hwl]; simp [big]; omega) (by rw [List.length_map, setTip_tip_same, hwl]) ?_
      simp only [am, amo, amc, Nat.reduceAdd, encs_length, List.length_map, decide_true, decide_false, Tree.rec_, Nd.rec_, Word.rec_, Got.rec_, setTip_setTip]
      rw [wrap_i64 (by omega) (by omega)]
      refine Upd.again ⟨(i + 1, τ), hτ, hlt⟩ (by simp; omega) ?_ LLLe.rfl (by rw [hwl]; exact OLe.rfl)
      have e : (wordsOf (l.take (i + 1))).map Word.enc = (wordsOf (l.take i)).map Word.enc ++ [[.str l[i].text, .int .i64 l[i].pos]] := by rw [take_succ_of hn]; simp only [wordsOf, List.map_append, List.map_cons, List.map_nil, Word.enc]
      simp only [am, e]; simp
    · intro hlt
      have hlt : i = l.length := by simp at hlt; omega
      subst hlt
      simp only [am, amo, amc, Nat.reduceAdd, encs_length, List.length_map, decide_true, decide_false, Tree.rec_, Nd.rec_, Word.rec_, Got.rec_]
      refine retK_intro rfl (sub_tip hτ) ⟨?_, rfl⟩
      simp [V.erase]

theorem whole_calls (t : Tree) (empty : Bool) (σ : Store) (hb : t.kids.length + 1 ≤ big) : PCalls prog 35 [.int .i64 6, .agg t.enc, .bool empty] σ fun v σ' => v = .tup [.sl .no 5 ((wholeAt nameAt t empty).1.map Nd.enc), .agg (wholeAt nameAt t empty).2.enc] ∧ σ' = σ := by
  refine fn35.calls ?_
  simp only [slots, ac35, am, enc_eq, Nat.reduceAdd, encs_length]
  have main : ∀ (hne : ¬(empty = true ∧ t.kids.length = 0)), wholeAt nameAt t empty = if (someAt (fun i => nameAt t.kids i t.fin) t.kids (t.kids.length + 1) 0 []).2.bad = false ∧ (someAt (fun i => nameAt t.kids i t.fin) t.kids (t.kids.length + 1) 0 []).2.next < t.kids.length then ([], wrongAt t.kids (someAt (fun i => nameAt t.kids i t.fin) t.kids (t.kids.length + 1) 0 []).2.next t.fin) else (someAt (fun i => nameAt t.kids i t.fin) t.kids (t.kids.length + 1) 0 []) := fun hne => by
    unfold wholeAt
    rw [if_neg hne]
  by_cases hc : empty = true ∧ t.kids.length = 0
  · obtain ⟨rfl, hk⟩ := hc
    simp only [am, amo, amc, Nat.reduceAdd, encs_length, List.length_map, decide_true, decide_false, Tree.rec_, Nd.rec_, Word.rec_, Got.rec_, encs_length, hk, Int.natCast_zero, decide_true]
    refine retK_intro rfl (Store.sub_refl _) ⟨?_, rfl⟩
    simp [V.erase, eraseL, wholeAt, hk, Got.enc, Nd.zero, Nd.kind, Nd.pos, Nd.text, Nd.names, Nd.kids]
  · have main := main hc
    cases empty
    case' true =>
      have hk : ¬((t.kids.length : Int) = 0) := by simp at hc ⊢; exact hc
      simp only [am, amo, amc, Nat.reduceAdd, encs_length, List.length_map, decide_true, decide_false, Tree.rec_, Nd.rec_, Word.rec_, Got.rec_, encs_length, hk, decide_false]
    case' false =>
      simp only [am, amo, amc, Nat.reduceAdd, encs_length, List.length_map, decide_true, decide_false, Tree.rec_, Nd.rec_, Word.rec_, Got.rec_]
    all_goals
      refine (some_ref_calls t.kids t.fin σ hb).mono ?_
      rintro v σ ⟨rfl, rfl⟩
      generalize (someAt (fun i => nameAt t.kids i t.fin) t.kids (t.kids.length + 1) 0 []) = R at main ⊢
      simp only [am, amo, amc, Nat.reduceAdd, encs_length, List.length_map, decide_true, decide_false, Tree.rec_, Nd.rec_, Word.rec_, Got.rec_, Got.enc, Nat.reduceAdd, encs_length]
      cases hbad : R.2.bad
      · simp only [am, amo, amc, Nat.reduceAdd, encs_length, List.length_map, decide_true, decide_false, Tree.rec_, Nd.rec_, Word.rec_, Got.rec_]
        by_cases hn : R.2.next < t.kids.length
        · simp only [am, amo, amc, Nat.reduceAdd, encs_length, List.length_map, decide_true, decide_false, Tree.rec_, Nd.rec_, Word.rec_, Got.rec_, hn, decide_true]
          refine (wrong_calls t.kids R.2.next t.fin σ).mono ?_
          rintro v σ ⟨rfl, rfl⟩
          simp only [am, amo, amc, Nat.reduceAdd, encs_length, List.length_map, decide_true, decide_false, Tree.rec_, Nd.rec_, Word.rec_, Got.rec_, Got.enc]
          refine retK_intro rfl (Store.sub_refl _) ⟨?_, rfl⟩
          simp [V.erase, eraseL, main, hbad, hn, Got.enc]
        · simp only [am, amo, amc, Nat.reduceAdd, encs_length, List.length_map, decide_true, decide_false, Tree.rec_, Nd.rec_, Word.rec_, Got.rec_, hn, decide_false]
          refine retK_intro rfl (Store.sub_refl _) ⟨?_, rfl⟩
          simp [V.erase, eraseL, main, hbad, hn, Got.enc]
      · simp only [am, amo, amc, Nat.reduceAdd, encs_length, List.length_map, decide_true, decide_false, Tree.rec_, Nd.rec_, Word.rec_, Got.rec_]
        refine retK_intro rfl (Store.sub_refl _) ⟨?_, rfl⟩
        simp [V.erase, eraseL, main, hbad, Got.enc]

theorem Words_ref_calls (l : List Tree) (i fin : Int) (σ : Store) (hm : manys l + 1 ≤ big) : PCalls prog 10 [.sl .no 5 (encs l), .int .i64 i, .int .i64 fin] σ fun v σ' => v = .tup [.sl .no 2 ((refWords l i fin).1.map Word.enc), .agg (refWords l i fin).2.enc] ∧ σ' = σ := by
  refine fn10.calls ?_
  simp only [slots, ac10, am, amo, amc, Nat.reduceAdd, decide_true, decide_false, Tree.rec_, Nd.rec_, Word.rec_, Got.rec_]
  refine (is_calls l i 123 σ).mono ?_
  rintro v σ ⟨rfl, rfl⟩
  cases h : isK l i 123
  · simp only [am, amo, amc, Nat.reduceAdd, encs_length, List.length_map, decide_true, decide_false, Tree.rec_, Nd.rec_, Word.rec_, Got.rec_]
    refine (wrong_calls l i fin σ).mono ?_
    rintro v σ ⟨rfl, rfl⟩
    simp only [am, amo, amc, Nat.reduceAdd, encs_length, List.length_map, decide_true, decide_false, Tree.rec_, Nd.rec_, Word.rec_, Got.rec_, Got.enc]
    refine retK_intro rfl (Store.sub_refl _) ⟨?_, rfl⟩
    simp [V.erase, eraseL, refWords, h, Got.enc]
  · obtain ⟨j, t, rfl, hj, hk, hl⟩ := isK_spec h
    have ht : treeAt l (j : Nat) = t := by simp [treeAt, hj]
    have hmk : t.kids.length + 1 ≤ manys l := by
      have h1 := manys_kids hl
      have h2 := manys_ge t.kids
      have h3 : l[j] = t := by rw [List.getElem?_eq_getElem hl] at hj; simpa using hj
      rw [h3] at h1; omega
    simp only [am, amo, amc, Nat.reduceAdd, encs_length, List.length_map, decide_true, decide_false, Tree.rec_, Nd.rec_, Word.rec_, Got.rec_]
    refine idxL_intro (by omega) (encs_at hj) ?_
    simp only [am, amo, amc, Nat.reduceAdd, encs_length, List.length_map, decide_true, decide_false, Tree.rec_, Nd.rec_, Word.rec_, Got.rec_]
    refine (whole_calls t false σ (by omega)).mono ?_
    rintro v σ ⟨rfl, rfl⟩
    have hres : refWords l (j : Nat) fin = (wordsOf (wholeAt nameAt t false).1, (wholeAt nameAt t false).2) := by simp [refWords, h, ht]
    have hlen : (wholeAt nameAt t false).1.length ≤ t.kids.length + 1 := whole_len t false
    generalize wholeAt nameAt t false = R at hres hlen ⊢
    simp only [am, amo, amc, Nat.reduceAdd, encs_length, List.length_map, decide_true, decide_false, Tree.rec_, Nd.rec_, Word.rec_, Got.rec_, Got.enc]
    refine CallD.intro (names_ref_calls R.1 σ (by omega)) ?_
    simp only [am, amo, amc, Nat.reduceAdd, encs_length, List.length_map, decide_true, decide_false, Tree.rec_, Nd.rec_, Word.rec_, Got.rec_, Got.enc]
    refine retK_intro rfl (Store.sub_refl _) ⟨?_, rfl⟩
    simp [V.erase, eraseL, hres, Got.enc]
end Go.Proofs.Try

namespace Go.Proofs.Try
open Go.Am

/-- clearance/term.commas -/
def ac77 : AC :=
  .seq (.reg [⟨(some 4), .mv (.c (.str [])), none⟩])
  (.seq (.reg [⟨(some 5), .mv (.c (.sl .full 1 [])), none⟩])
   (.seq (.seq (.reg [⟨(some 7), .mv (.s 0), none⟩,
        ⟨(some 8), .mv (.c (.int .i64 0)), none⟩])
     (.block 0 (.loop (.seq (.reg [⟨(some 9), .binI .lss (.s 8) (.s 7), none⟩])
        (.seq (.cond (.s 9) (.skip)
          (.exit 0))
         (.seq (.block 1 (.seq (.reg [⟨(some 10), .mv (.s 8), none⟩,
               ⟨(some 6), .mv (.s 10), none⟩])
            (.seq (.seq (.reg [⟨(some 11), .mv (.s 6), none⟩,
                 ⟨(some 12), .binI .gtr (.s 11) (.c (.int .i64 0)), none⟩])
              (.cond (.s 12) (.reg [⟨(some 13), .mv (.s 5), none⟩,
                  ⟨(some 14), .bslice 1 [(.c (.int .u8 44))], none⟩,
                  ⟨(some 15), .app 1 (.s 13) (.s 14), none⟩,
                  ⟨(some 5), .mv (.s 15), none⟩])
               (.skip)))
             (.reg [⟨(some 16), .mv (.s 5), none⟩,
                ⟨(some 17), .mv (.s 1), none⟩,
                ⟨(some 18), .mv (.s 6), none⟩,
                ⟨(some 19), .callv (.s 17) [(.s 18)], none⟩,
                ⟨(some 20), .appS (.s 16) (.s 19), none⟩,
                ⟨(some 5), .mv (.s 20), none⟩]))))
          (.reg [⟨(some 21), .binI .add (.s 8) (.c (.int .i64 1)), none⟩,
             ⟨(some 8), .mv (.s 21), none⟩])))))))
    (.seq (.reg [⟨(some 22), .mv (.s 5), none⟩,
        ⟨(some 23), .cvBS (.s 22), none⟩,
        ⟨(some 4), .mv (.s 23), none⟩])
     (.ret))))
theorem fn77 : IsFn prog 77 ac77 [.tmp 4] 24 := ⟨f77, ⟨[], []⟩, func77, by kernel_rfl, by kernel_rfl, by kernel_rfl, by kernel_rfl⟩

/-- clearance/term.names$1 -/
def ac78 : AC :=
  .seq (.reg [⟨(some 3), .mv (.c (.str [])), none⟩])
  (.seq (.reg [⟨(some 4), .fld 3 (.s 1), none⟩,
      ⟨(some 5), .load false 1 (.s 4), none⟩,
      ⟨(some 6), .mv (.s 0), none⟩,
      ⟨(some 7), .idxA 2 (.s 5) (.s 6), none⟩,
      ⟨(some 8), .fld 0 (.s 7), none⟩,
      ⟨(some 9), .load false 1 (.s 8), none⟩,
      ⟨(some 3), .mv (.s 9), none⟩])
   (.ret))
theorem fn78 : IsFn prog 78 ac78 [.tmp 3] 10 := ⟨f78, ⟨[], []⟩, func78, by kernel_rfl, by kernel_rfl, by kernel_rfl, by kernel_rfl⟩

/-- clearance/term.kids$1 -/
def ac79 : AC :=
  .seq (.reg [⟨(some 3), .mv (.c (.str [])), none⟩])
  (.seq (.reg [⟨(some 4), .fld 4 (.s 1), none⟩,
      ⟨(some 5), .load false 1 (.s 4), none⟩,
      ⟨(some 6), .mv (.s 0), none⟩,
      ⟨(some 7), .idxA 5 (.s 5) (.s 6), none⟩,
      ⟨(some 8), .load true 5 (.s 7), none⟩,
      ⟨(some 9), .call 19 [(.s 8)], none⟩,
      ⟨(some 3), .mv (.s 9), none⟩])
   (.ret))
theorem fn79 : IsFn prog 79 ac79 [.tmp 3] 10 := ⟨f79, ⟨[], []⟩, func79, by kernel_rfl, by kernel_rfl, by kernel_rfl, by kernel_rfl⟩

/-- clearance/term.names -/
def ac47 : AC :=
  .seq (.reg [⟨(some 1), .boxO 5 (.s 0), none⟩,
     ⟨(some 2), .mv (.c (.str [])), none⟩])
  (.seq (.reg [⟨(some 3), .fld 3 (.s 1), none⟩,
      ⟨(some 4), .load false 1 (.s 3), none⟩,
      ⟨(some 5), .lenS (.s 4), none⟩,
      ⟨(some 6), .mkfn (.func 78) [] [(.s 1)], none⟩,
      ⟨(some 7), .call 77 [(.s 5), (.s 6)], none⟩,
      ⟨(some 2), .mv (.s 7), none⟩])
   (.ret))
theorem fn47 : IsFn prog 47 ac47 [.tmp 2] 8 := ⟨f47, ⟨[1], []⟩, func47, by kernel_rfl, by kernel_rfl, by kernel_rfl, by kernel_rfl⟩

/-- clearance/term.kids -/
def ac48 : AC :=
  .seq (.reg [⟨(some 1), .boxO 5 (.s 0), none⟩,
     ⟨(some 2), .mv (.c (.str [])), none⟩])
  (.seq (.reg [⟨(some 3), .fld 4 (.s 1), none⟩,
      ⟨(some 4), .load false 1 (.s 3), none⟩,
      ⟨(some 5), .lenS (.s 4), none⟩,
      ⟨(some 6), .mkfn (.func 79) [] [(.s 1)], none⟩,
      ⟨(some 7), .call 77 [(.s 5), (.s 6)], none⟩,
      ⟨(some 2), .mv (.s 7), none⟩])
   (.ret))
theorem fn48 : IsFn prog 48 ac48 [.tmp 2] 8 := ⟨f48, ⟨[1], []⟩, func48, by kernel_rfl, by kernel_rfl, by kernel_rfl, by kernel_rfl⟩

/-- clearance/term.first -/
def ac49 : AC :=
  .seq (.reg [⟨(some 1), .box 5 (.s 0), none⟩,
     ⟨(some 2), .mv (.c (.str [])), none⟩])
  (.seq (.seq (.reg [⟨(some 3), .fld 4 (.s 1), none⟩,
       ⟨(some 4), .load false 1 (.s 3), none⟩,
       ⟨(some 5), .lenS (.s 4), none⟩,
       ⟨(some 6), .binI .eql (.s 5) (.c (.int .i64 0)), none⟩])
    (.cond (.s 6) (.seq (.reg [⟨(some 2), .mv (.c (.str [])), none⟩])
      (.ret))
     (.skip)))
   (.seq (.reg [⟨(some 7), .fld 4 (.s 1), none⟩,
       ⟨(some 8), .load false 1 (.s 7), none⟩,
       ⟨(some 9), .idxA 5 (.s 8) (.c (.int .i64 0)), none⟩,
       ⟨(some 10), .load true 5 (.s 9), none⟩,
       ⟨(some 11), .call 19 [(.s 10)], none⟩,
       ⟨(some 2), .mv (.s 11), none⟩])
    (.ret)))
theorem fn49 : IsFn prog 49 ac49 [.tmp 2] 12 := ⟨f49, ⟨[], []⟩, func49, by kernel_rfl, by kernel_rfl, by kernel_rfl, by kernel_rfl⟩

/-- clearance/term.row -/
def ac50 : AC :=
  .seq (.reg [⟨(some 1), .box 5 (.s 0), none⟩,
     ⟨(some 2), .mv (.c (.str [])), none⟩])
  (.seq (.reg [⟨(some 4), .load true 5 (.s 1), none⟩,
      ⟨(some 5), .call 48 [(.s 4)], none⟩,
      ⟨(some 6), .cat (.c (.str [91])) (.s 5), none⟩,
      ⟨(some 3), .mv (.s 6), none⟩])
   (.seq (.seq (.reg [⟨(some 7), .fld 3 (.s 1), none⟩,
        ⟨(some 8), .load false 1 (.s 7), none⟩,
        ⟨(some 9), .lenS (.s 8), none⟩,
        ⟨(some 10), .binI .gtr (.s 9) (.c (.int .i64 0)), none⟩])
     (.cond (.s 10) (.reg [⟨(some 11), .mv (.s 3), none⟩,
         ⟨(some 12), .load true 5 (.s 1), none⟩,
         ⟨(some 13), .call 47 [(.s 12)], none⟩,
         ⟨(some 14), .cat (.c (.str [124])) (.s 13), none⟩,
         ⟨(some 15), .cat (.s 11) (.s 14), none⟩,
         ⟨(some 3), .mv (.s 15), none⟩])
      (.skip)))
    (.seq (.reg [⟨(some 16), .mv (.s 3), none⟩,
        ⟨(some 17), .cat (.s 16) (.c (.str [93])), none⟩,
        ⟨(some 2), .mv (.s 17), none⟩])
     (.ret))))
theorem fn50 : IsFn prog 50 ac50 [.tmp 2] 18 := ⟨f50, ⟨[], []⟩, func50, by kernel_rfl, by kernel_rfl, by kernel_rfl, by kernel_rfl⟩

/-- clearance/term.Text -/
def ac19 : AC :=
  .seq (.reg [⟨(some 1), .box 5 (.s 0), none⟩,
     ⟨(some 2), .mv (.c (.str [])), none⟩])
  (.seq (.seq (.reg [⟨(some 3), .fld 0 (.s 1), none⟩,
       ⟨(some 4), .load false 1 (.s 3), none⟩])
    (.block 0 (.seq (.seq (.reg [⟨(some 6), .binI .eql (.s 4) (.c (.int .i64 1)), none⟩,
          ⟨(some 5), .mv (.s 6), none⟩])
       (.cond (.s 5) (.skip)
        (.reg [⟨(some 7), .binI .eql (.s 4) (.c (.int .i64 2)), none⟩,
           ⟨(some 5), .mv (.s 7), none⟩])))
      (.cond (.s 5) (.seq (.reg [⟨(some 8), .fld 2 (.s 1), none⟩,
           ⟨(some 9), .load false 1 (.s 8), none⟩,
           ⟨(some 2), .mv (.s 9), none⟩])
        (.ret))
       (.seq (.reg [⟨(some 11), .binI .eql (.s 4) (.c (.int .i64 3)), none⟩,
           ⟨(some 10), .mv (.s 11), none⟩])
        (.cond (.s 10) (.seq (.reg [⟨(some 12), .load true 5 (.s 1), none⟩,
             ⟨(some 13), .call 47 [(.s 12)], none⟩,
             ⟨(some 14), .cat (.c (.str [123])) (.s 13), none⟩,
             ⟨(some 15), .cat (.s 14) (.c (.str [125])), none⟩,
             ⟨(some 2), .mv (.s 15), none⟩])
          (.ret))
         (.seq (.reg [⟨(some 17), .binI .eql (.s 4) (.c (.int .i64 4)), none⟩,
             ⟨(some 16), .mv (.s 17), none⟩])
          (.cond (.s 16) (.seq (.reg [⟨(some 18), .load true 5 (.s 1), none⟩,
               ⟨(some 19), .call 48 [(.s 18)], none⟩,
               ⟨(some 20), .cat (.c (.str [40])) (.s 19), none⟩,
               ⟨(some 21), .cat (.s 20) (.c (.str [41])), none⟩,
               ⟨(some 2), .mv (.s 21), none⟩])
            (.ret))
           (.seq (.reg [⟨(some 23), .binI .eql (.s 4) (.c (.int .i64 5)), none⟩,
               ⟨(some 22), .mv (.s 23), none⟩])
            (.cond (.s 22) (.seq (.reg [⟨(some 24), .load true 5 (.s 1), none⟩,
                 ⟨(some 25), .call 48 [(.s 24)], none⟩,
                 ⟨(some 26), .cat (.c (.str [91])) (.s 25), none⟩,
                 ⟨(some 27), .cat (.s 26) (.c (.str [93])), none⟩,
                 ⟨(some 2), .mv (.s 27), none⟩])
              (.ret))
             (.seq (.reg [⟨(some 29), .binI .eql (.s 4) (.c (.int .i64 6)), none⟩,
                 ⟨(some 28), .mv (.s 29), none⟩])
              (.cond (.s 28) (.seq (.draw [(⟨(some 30), .fld 2 (.s 1), none⟩, []),
                   (⟨(some 31), .load false 1 (.s 30), none⟩, [1]),
                   (⟨(some 32), .cat (.s 31) (.c (.str [58, 123])), none⟩, []),
                   (⟨(some 33), .load true 5 (.s 1), none⟩, []),
                   (⟨(some 34), .call 47 [(.s 33)], none⟩, []),
                   (⟨(some 35), .cat (.s 32) (.s 34), none⟩, []),
                   (⟨(some 36), .cat (.s 35) (.c (.str [125])), none⟩, []),
                   (⟨(some 2), .mv (.s 36), none⟩, [])])
                (.ret))
               (.seq (.reg [⟨(some 38), .binI .eql (.s 4) (.c (.int .i64 7)), none⟩,
                   ⟨(some 37), .mv (.s 38), none⟩])
                (.cond (.s 37) (.seq (.reg [⟨(some 39), .load true 5 (.s 1), none⟩,
                     ⟨(some 40), .call 49 [(.s 39)], none⟩,
                     ⟨(some 41), .cat (.c (.str [35])) (.s 40), none⟩,
                     ⟨(some 2), .mv (.s 41), none⟩])
                  (.ret))
                 (.seq (.reg [⟨(some 43), .binI .eql (.s 4) (.c (.int .i64 8)), none⟩,
                     ⟨(some 42), .mv (.s 43), none⟩])
                  (.cond (.s 42) (.seq (.reg [⟨(some 44), .load true 5 (.s 1), none⟩,
                       ⟨(some 45), .call 48 [(.s 44)], none⟩,
                       ⟨(some 46), .cat (.c (.str [43, 40])) (.s 45), none⟩,
                       ⟨(some 47), .cat (.s 46) (.c (.str [41])), none⟩,
                       ⟨(some 2), .mv (.s 47), none⟩])
                    (.ret))
                   (.seq (.reg [⟨(some 49), .binI .eql (.s 4) (.c (.int .i64 9)), none⟩,
                       ⟨(some 48), .mv (.s 49), none⟩])
                    (.cond (.s 48) (.seq (.reg [⟨(some 50), .load true 5 (.s 1), none⟩,
                         ⟨(some 51), .call 48 [(.s 50)], none⟩,
                         ⟨(some 52), .cat (.c (.str [38, 40])) (.s 51), none⟩,
                         ⟨(some 53), .cat (.s 52) (.c (.str [41])), none⟩,
                         ⟨(some 2), .mv (.s 53), none⟩])
                      (.ret))
                     (.seq (.reg [⟨(some 55), .binI .eql (.s 4) (.c (.int .i64 10)), none⟩,
                         ⟨(some 54), .mv (.s 55), none⟩])
                      (.cond (.s 54) (.seq (.reg [⟨(some 56), .load true 5 (.s 1), none⟩,
                           ⟨(some 57), .call 50 [(.s 56)], none⟩,
                           ⟨(some 2), .mv (.s 57), none⟩])
                        (.ret))
                       (.seq (.reg [⟨(some 59), .binI .eql (.s 4) (.c (.int .i64 11)), none⟩,
                           ⟨(some 58), .mv (.s 59), none⟩])
                        (.cond (.s 58) (.seq (.draw [(⟨(some 60), .fld 2 (.s 1), none⟩, []),
                             (⟨(some 61), .load false 1 (.s 60), none⟩, [1]),
                             (⟨(some 62), .cat (.s 61) (.c (.str [61])), none⟩, []),
                             (⟨(some 63), .load true 5 (.s 1), none⟩, []),
                             (⟨(some 64), .call 49 [(.s 63)], none⟩, []),
                             (⟨(some 65), .cat (.s 62) (.s 64), none⟩, []),
                             (⟨(some 2), .mv (.s 65), none⟩, [])])
                          (.ret))
                         (.skip)))))))))))))))))))))))
   (.seq (.reg [⟨(some 2), .mv (.c (.str [])), none⟩])
    (.ret)))
theorem fn19 : IsFn prog 19 ac19 [.tmp 2] 66 := ⟨f19, ⟨[], []⟩, func19, by kernel_rfl, by kernel_rfl, by kernel_rfl, by kernel_rfl⟩

/-- clearance/clearanceref10.list -/
def ac53 : AC :=
  .seq (.reg [⟨(some 4), .mv (.c (.str [])), none⟩])
  (.seq (.reg [⟨(some 5), .mv (.c (.str [])), none⟩])
   (.seq (.seq (.reg [⟨(some 6), .mv (.c (.int .i64 0)), none⟩])
     (.block 0 (.loop (.seq (.seq (.reg [⟨(some 8), .mv (.s 6), none⟩,
            ⟨(some 9), .mv (.s 0), none⟩,
            ⟨(some 10), .lenS (.s 9), none⟩,
            ⟨(some 11), .binI .lss (.s 8) (.s 10), none⟩])
         (.cond (.s 11) (.skip)
          (.exit 0)))
        (.seq (.block 1 (.seq (.seq (.reg [⟨(some 14), .mv (.s 6), none⟩,
               ⟨(some 15), .binI .gtr (.s 14) (.c (.int .i64 0)), none⟩])
            (.cond (.s 15) (.reg [⟨(some 16), .mv (.s 5), none⟩,
                ⟨(some 17), .cat (.s 16) (.c (.str [44])), none⟩,
                ⟨(some 5), .mv (.s 17), none⟩])
             (.skip)))
           (.reg [⟨(some 18), .mv (.s 5), none⟩,
              ⟨(some 19), .mv (.s 0), none⟩,
              ⟨(some 20), .mv (.s 6), none⟩,
              ⟨(some 21), .idxA 5 (.s 19) (.s 20), none⟩,
              ⟨(some 22), .load true 5 (.s 21), none⟩,
              ⟨(some 23), .call 23 [(.s 22)], none⟩,
              ⟨(some 24), .cat (.s 18) (.s 23), none⟩,
              ⟨(some 5), .mv (.s 24), none⟩])))
         (.reg [⟨(some 12), .mv (.s 6), none⟩,
            ⟨(some 13), .binI .add (.s 12) (.c (.int .i64 1)), none⟩,
            ⟨(some 6), .mv (.s 13), none⟩]))))))
    (.seq (.seq (.reg [⟨(some 7), .mv (.c (.int .i64 0)), none⟩])
      (.block 2 (.loop (.seq (.seq (.reg [⟨(some 25), .mv (.s 7), none⟩,
             ⟨(some 26), .mv (.s 1), none⟩,
             ⟨(some 27), .lenS (.s 26), none⟩,
             ⟨(some 28), .binI .lss (.s 25) (.s 27), none⟩])
          (.cond (.s 28) (.skip)
           (.exit 2)))
         (.seq (.block 3 (.seq (.seq (.reg [⟨(some 31), .mv (.s 7), none⟩,
                ⟨(some 32), .binI .gtr (.s 31) (.c (.int .i64 0)), none⟩])
             (.cond (.s 32) (.reg [⟨(some 33), .mv (.s 5), none⟩,
                 ⟨(some 34), .cat (.s 33) (.c (.str [44])), none⟩,
                 ⟨(some 5), .mv (.s 34), none⟩])
              (.skip)))
            (.reg [⟨(some 35), .mv (.s 5), none⟩,
               ⟨(some 36), .mv (.s 1), none⟩,
               ⟨(some 37), .mv (.s 7), none⟩,
               ⟨(some 38), .idxA 2 (.s 36) (.s 37), none⟩,
               ⟨(some 39), .fld 0 (.s 38), none⟩,
               ⟨(some 40), .load false 1 (.s 39), none⟩,
               ⟨(some 41), .cat (.s 35) (.s 40), none⟩,
               ⟨(some 5), .mv (.s 41), none⟩])))
          (.reg [⟨(some 29), .mv (.s 7), none⟩,
             ⟨(some 30), .binI .add (.s 29) (.c (.int .i64 1)), none⟩,
             ⟨(some 7), .mv (.s 30), none⟩]))))))
     (.seq (.reg [⟨(some 42), .mv (.s 5), none⟩,
         ⟨(some 4), .mv (.s 42), none⟩])
      (.ret)))))
theorem fn53 : IsFn prog 53 ac53 [.tmp 4] 43 := ⟨f53, ⟨[], []⟩, func53, by kernel_rfl, by kernel_rfl, by kernel_rfl, by kernel_rfl⟩

/-- clearance/clearanceref10.Text -/
def ac23 : AC :=
  .seq (.reg [⟨(some 1), .box 5 (.s 0), none⟩,
     ⟨(some 2), .mv (.c (.str [])), none⟩])
  (.seq (.seq (.reg [⟨(some 3), .fld 0 (.s 1), none⟩,
       ⟨(some 4), .load false 1 (.s 3), none⟩])
    (.block 0 (.seq (.seq (.reg [⟨(some 6), .binI .eql (.s 4) (.c (.int .i64 1)), none⟩,
          ⟨(some 5), .mv (.s 6), none⟩])
       (.cond (.s 5) (.skip)
        (.reg [⟨(some 7), .binI .eql (.s 4) (.c (.int .i64 2)), none⟩,
           ⟨(some 5), .mv (.s 7), none⟩])))
      (.cond (.s 5) (.seq (.reg [⟨(some 8), .fld 2 (.s 1), none⟩,
           ⟨(some 9), .load false 1 (.s 8), none⟩,
           ⟨(some 2), .mv (.s 9), none⟩])
        (.ret))
       (.seq (.reg [⟨(some 11), .binI .eql (.s 4) (.c (.int .i64 3)), none⟩,
           ⟨(some 10), .mv (.s 11), none⟩])
        (.cond (.s 10) (.seq (.reg [⟨(some 12), .fld 3 (.s 1), none⟩,
             ⟨(some 13), .load false 1 (.s 12), none⟩,
             ⟨(some 14), .call 53 [(.c (.sl .full 5 [])), (.s 13)], none⟩,
             ⟨(some 15), .cat (.c (.str [123])) (.s 14), none⟩,
             ⟨(some 16), .cat (.s 15) (.c (.str [125])), none⟩,
             ⟨(some 2), .mv (.s 16), none⟩])
          (.ret))
         (.seq (.reg [⟨(some 18), .binI .eql (.s 4) (.c (.int .i64 4)), none⟩,
             ⟨(some 17), .mv (.s 18), none⟩])
          (.cond (.s 17) (.seq (.reg [⟨(some 19), .fld 4 (.s 1), none⟩,
               ⟨(some 20), .load false 1 (.s 19), none⟩,
               ⟨(some 21), .call 53 [(.s 20), (.c (.sl .full 2 []))], none⟩,
               ⟨(some 22), .cat (.c (.str [40])) (.s 21), none⟩,
               ⟨(some 23), .cat (.s 22) (.c (.str [41])), none⟩,
               ⟨(some 2), .mv (.s 23), none⟩])
            (.ret))
           (.seq (.reg [⟨(some 25), .binI .eql (.s 4) (.c (.int .i64 5)), none⟩,
               ⟨(some 24), .mv (.s 25), none⟩])
            (.cond (.s 24) (.seq (.reg [⟨(some 26), .fld 4 (.s 1), none⟩,
                 ⟨(some 27), .load false 1 (.s 26), none⟩,
                 ⟨(some 28), .call 53 [(.s 27), (.c (.sl .full 2 []))], none⟩,
                 ⟨(some 29), .cat (.c (.str [91])) (.s 28), none⟩,
                 ⟨(some 30), .cat (.s 29) (.c (.str [93])), none⟩,
                 ⟨(some 2), .mv (.s 30), none⟩])
              (.ret))
             (.seq (.reg [⟨(some 32), .binI .eql (.s 4) (.c (.int .i64 6)), none⟩,
                 ⟨(some 31), .mv (.s 32), none⟩])
              (.cond (.s 31) (.seq (.draw [(⟨(some 33), .fld 2 (.s 1), none⟩, []),
                   (⟨(some 34), .load false 1 (.s 33), none⟩, [1]),
                   (⟨(some 35), .cat (.s 34) (.c (.str [58, 123])), none⟩, []),
                   (⟨(some 36), .fld 3 (.s 1), none⟩, []),
                   (⟨(some 37), .load false 1 (.s 36), none⟩, []),
                   (⟨(some 38), .call 53 [(.c (.sl .full 5 [])), (.s 37)], none⟩, []),
                   (⟨(some 39), .cat (.s 35) (.s 38), none⟩, []),
                   (⟨(some 40), .cat (.s 39) (.c (.str [125])), none⟩, []),
                   (⟨(some 2), .mv (.s 40), none⟩, [])])
                (.ret))
               (.seq (.reg [⟨(some 42), .binI .eql (.s 4) (.c (.int .i64 7)), none⟩,
                   ⟨(some 41), .mv (.s 42), none⟩])
                (.cond (.s 41) (.seq (.seq (.reg [⟨(some 43), .fld 4 (.s 1), none⟩,
                      ⟨(some 44), .load false 1 (.s 43), none⟩,
                      ⟨(some 45), .lenS (.s 44), none⟩,
                      ⟨(some 46), .binI .eql (.s 45) (.c (.int .i64 0)), none⟩])
                   (.cond (.s 46) (.seq (.reg [⟨(some 2), .mv (.c (.str [35])), none⟩])
                     (.ret))
                    (.skip)))
                  (.seq (.reg [⟨(some 47), .fld 4 (.s 1), none⟩,
                      ⟨(some 48), .load false 1 (.s 47), none⟩,
                      ⟨(some 49), .idxA 5 (.s 48) (.c (.int .i64 0)), none⟩,
                      ⟨(some 50), .load true 5 (.s 49), none⟩,
                      ⟨(some 51), .call 23 [(.s 50)], none⟩,
                      ⟨(some 52), .cat (.c (.str [35])) (.s 51), none⟩,
                      ⟨(some 2), .mv (.s 52), none⟩])
                   (.ret)))
                 (.seq (.reg [⟨(some 54), .binI .eql (.s 4) (.c (.int .i64 8)), none⟩,
                     ⟨(some 53), .mv (.s 54), none⟩])
                  (.cond (.s 53) (.seq (.reg [⟨(some 55), .fld 4 (.s 1), none⟩,
                       ⟨(some 56), .load false 1 (.s 55), none⟩,
                       ⟨(some 57), .call 53 [(.s 56), (.c (.sl .full 2 []))], none⟩,
                       ⟨(some 58), .cat (.c (.str [43, 40])) (.s 57), none⟩,
                       ⟨(some 59), .cat (.s 58) (.c (.str [41])), none⟩,
                       ⟨(some 2), .mv (.s 59), none⟩])
                    (.ret))
                   (.seq (.reg [⟨(some 61), .binI .eql (.s 4) (.c (.int .i64 9)), none⟩,
                       ⟨(some 60), .mv (.s 61), none⟩])
                    (.cond (.s 60) (.seq (.reg [⟨(some 62), .fld 4 (.s 1), none⟩,
                         ⟨(some 63), .load false 1 (.s 62), none⟩,
                         ⟨(some 64), .call 53 [(.s 63), (.c (.sl .full 2 []))], none⟩,
                         ⟨(some 65), .cat (.c (.str [38, 40])) (.s 64), none⟩,
                         ⟨(some 66), .cat (.s 65) (.c (.str [41])), none⟩,
                         ⟨(some 2), .mv (.s 66), none⟩])
                      (.ret))
                     (.seq (.reg [⟨(some 68), .binI .eql (.s 4) (.c (.int .i64 10)), none⟩,
                         ⟨(some 67), .mv (.s 68), none⟩])
                      (.cond (.s 67) (.seq (.seq (.reg [⟨(some 69), .fld 3 (.s 1), none⟩,
                            ⟨(some 70), .load false 1 (.s 69), none⟩,
                            ⟨(some 71), .lenS (.s 70), none⟩,
                            ⟨(some 72), .binI .eql (.s 71) (.c (.int .i64 0)), none⟩])
                         (.cond (.s 72) (.seq (.reg [⟨(some 73), .fld 4 (.s 1), none⟩,
                              ⟨(some 74), .load false 1 (.s 73), none⟩,
                              ⟨(some 75), .call 53 [(.s 74), (.c (.sl .full 2 []))], none⟩,
                              ⟨(some 76), .cat (.c (.str [91])) (.s 75), none⟩,
                              ⟨(some 77), .cat (.s 76) (.c (.str [93])), none⟩,
                              ⟨(some 2), .mv (.s 77), none⟩])
                           (.ret))
                          (.skip)))
                        (.seq (.draw [(⟨(some 78), .fld 4 (.s 1), none⟩, []),
                            (⟨(some 79), .load false 1 (.s 78), none⟩, []),
                            (⟨(some 80), .call 53 [(.s 79), (.c (.sl .full 2 []))], none⟩, []),
                            (⟨(some 81), .cat (.c (.str [91])) (.s 80), none⟩, []),
                            (⟨(some 82), .cat (.s 81) (.c (.str [124])), none⟩, []),
                            (⟨(some 83), .fld 3 (.s 1), none⟩, []),
                            (⟨(some 84), .load false 1 (.s 83), none⟩, [0]),
                            (⟨(some 85), .call 53 [(.c (.sl .full 5 [])), (.s 84)], none⟩, []),
                            (⟨(some 86), .cat (.s 82) (.s 85), none⟩, []),
                            (⟨(some 87), .cat (.s 86) (.c (.str [93])), none⟩, []),
                            (⟨(some 2), .mv (.s 87), none⟩, [])])
                         (.ret)))
                       (.seq (.reg [⟨(some 89), .binI .eql (.s 4) (.c (.int .i64 11)), none⟩,
                           ⟨(some 88), .mv (.s 89), none⟩])
                        (.cond (.s 88) (.seq (.seq (.reg [⟨(some 90), .fld 4 (.s 1), none⟩,
                              ⟨(some 91), .load false 1 (.s 90), none⟩,
                              ⟨(some 92), .lenS (.s 91), none⟩,
                              ⟨(some 93), .binI .eql (.s 92) (.c (.int .i64 0)), none⟩])
                           (.cond (.s 93) (.seq (.reg [⟨(some 94), .fld 2 (.s 1), none⟩,
                                ⟨(some 95), .load false 1 (.s 94), none⟩,
                                ⟨(some 96), .cat (.s 95) (.c (.str [61])), none⟩,
                                ⟨(some 2), .mv (.s 96), none⟩])
                             (.ret))
                            (.skip)))
                          (.seq (.draw [(⟨(some 97), .fld 2 (.s 1), none⟩, []),
                              (⟨(some 98), .load false 1 (.s 97), none⟩, [1]),
                              (⟨(some 99), .cat (.s 98) (.c (.str [61])), none⟩, []),
                              (⟨(some 100), .fld 4 (.s 1), none⟩, []),
                              (⟨(some 101), .load false 1 (.s 100), none⟩, []),
                              (⟨(some 102), .idxA 5 (.s 101) (.c (.int .i64 0)), none⟩, []),
                              (⟨(some 103), .load true 5 (.s 102), none⟩, []),
                              (⟨(some 104), .call 23 [(.s 103)], none⟩, []),
                              (⟨(some 105), .cat (.s 99) (.s 104), none⟩, []),
                              (⟨(some 2), .mv (.s 105), none⟩, [])])
                           (.ret)))
                         (.skip)))))))))))))))))))))))
   (.seq (.reg [⟨(some 2), .mv (.c (.str [])), none⟩])
    (.ret)))
theorem fn23 : IsFn prog 23 ac23 [.tmp 2] 106 := ⟨f23, ⟨[], []⟩, func23, by kernel_rfl, by kernel_rfl, by kernel_rfl, by kernel_rfl⟩

/-- clearance/term.Same -/
def ac24 : AC :=
  .seq (.reg [⟨(some 2), .box 5 (.s 0), none⟩,
     ⟨(some 3), .box 5 (.s 1), none⟩,
     ⟨(some 4), .mv (.c (.bool false)), none⟩])
  (.seq (.seq (.reg [⟨(some 7), .fld 0 (.s 2), none⟩,
       ⟨(some 8), .load false 1 (.s 7), none⟩,
       ⟨(some 9), .fld 0 (.s 3), none⟩,
       ⟨(some 10), .load false 1 (.s 9), none⟩,
       ⟨(some 11), .binI .neq (.s 8) (.s 10), none⟩,
       ⟨(some 12), .mv (.s 11), none⟩,
       ⟨(some 13), .fld 2 (.s 2), (some (12, false))⟩,
       ⟨(some 14), .load false 1 (.s 13), (some (12, false))⟩,
       ⟨(some 15), .fld 2 (.s 3), (some (12, false))⟩,
       ⟨(some 16), .load false 1 (.s 15), (some (12, false))⟩,
       ⟨(some 17), .binS .neq (.s 14) (.s 16), (some (12, false))⟩,
       ⟨(some 18), .pick (.s 12) (.c (.bool true)) (.s 17), none⟩,
       ⟨(some 19), .mv (.s 18), none⟩,
       ⟨(some 20), .fld 3 (.s 2), (some (19, false))⟩,
       ⟨(some 21), .load false 1 (.s 20), (some (19, false))⟩,
       ⟨(some 22), .lenS (.s 21), (some (19, false))⟩,
       ⟨(some 23), .fld 3 (.s 3), (some (19, false))⟩,
       ⟨(some 24), .load false 1 (.s 23), (some (19, false))⟩,
       ⟨(some 25), .lenS (.s 24), (some (19, false))⟩,
       ⟨(some 26), .binI .neq (.s 22) (.s 25), (some (19, false))⟩,
       ⟨(some 27), .pick (.s 19) (.c (.bool true)) (.s 26), none⟩,
       ⟨(some 28), .mv (.s 27), none⟩,
       ⟨(some 29), .fld 4 (.s 2), (some (28, false))⟩,
       ⟨(some 30), .load false 1 (.s 29), (some (28, false))⟩,
       ⟨(some 31), .lenS (.s 30), (some (28, false))⟩,
       ⟨(some 32), .fld 4 (.s 3), (some (28, false))⟩,
       ⟨(some 33), .load false 1 (.s 32), (some (28, false))⟩,
       ⟨(some 34), .lenS (.s 33), (some (28, false))⟩,
       ⟨(some 35), .binI .neq (.s 31) (.s 34), (some (28, false))⟩,
       ⟨(some 36), .pick (.s 28) (.c (.bool true)) (.s 35), none⟩])
    (.cond (.s 36) (.seq (.reg [⟨(some 4), .mv (.c (.bool false)), none⟩])
      (.ret))
     (.skip)))
   (.seq (.seq (.reg [⟨(some 37), .fld 3 (.s 2), none⟩,
        ⟨(some 38), .load false 1 (.s 37), none⟩,
        ⟨(some 39), .lenS (.s 38), none⟩,
        ⟨(some 40), .mv (.c (.int .i64 0)), none⟩])
     (.block 0 (.loop (.seq (.reg [⟨(some 41), .binI .lss (.s 40) (.s 39), none⟩])
        (.seq (.cond (.s 41) (.skip)
          (.exit 0))
         (.seq (.block 1 (.seq (.reg [⟨(some 42), .mv (.s 40), none⟩,
               ⟨(some 5), .mv (.s 42), none⟩])
            (.seq (.draw [(⟨(some 43), .fld 3 (.s 2), none⟩, []),
                (⟨(some 44), .load false 1 (.s 43), none⟩, []),
                (⟨(some 45), .mv (.s 5), none⟩, []),
                (⟨(some 46), .idxA 2 (.s 44) (.s 45), none⟩, []),
                (⟨(some 47), .fld 0 (.s 46), none⟩, []),
                (⟨(some 48), .load false 1 (.s 47), none⟩, []),
                (⟨(some 49), .fld 3 (.s 3), none⟩, []),
                (⟨(some 50), .load false 1 (.s 49), none⟩, []),
                (⟨(some 51), .mv (.s 5), none⟩, []),
                (⟨(some 52), .idxA 2 (.s 50) (.s 51), none⟩, []),
                (⟨(some 53), .fld 0 (.s 52), none⟩, []),
                (⟨(some 54), .load false 1 (.s 53), none⟩, []),
                (⟨(some 55), .binS .neq (.s 48) (.s 54), none⟩, [])])
             (.cond (.s 55) (.seq (.reg [⟨(some 4), .mv (.c (.bool false)), none⟩])
               (.ret))
              (.skip)))))
          (.reg [⟨(some 56), .binI .add (.s 40) (.c (.int .i64 1)), none⟩,
             ⟨(some 40), .mv (.s 56), none⟩])))))))
    (.seq (.seq (.reg [⟨(some 57), .fld 4 (.s 2), none⟩,
         ⟨(some 58), .load false 1 (.s 57), none⟩,
         ⟨(some 59), .lenS (.s 58), none⟩,
         ⟨(some 60), .mv (.c (.int .i64 0)), none⟩])
      (.block 2 (.loop (.seq (.reg [⟨(some 61), .binI .lss (.s 60) (.s 59), none⟩])
         (.seq (.cond (.s 61) (.skip)
           (.exit 2))
          (.seq (.block 3 (.seq (.reg [⟨(some 62), .mv (.s 60), none⟩,
                ⟨(some 6), .mv (.s 62), none⟩])
             (.seq (.draw [(⟨(some 63), .fld 4 (.s 2), none⟩, []),
                 (⟨(some 64), .load false 1 (.s 63), none⟩, []),
                 (⟨(some 65), .mv (.s 6), none⟩, []),
                 (⟨(some 66), .idxA 5 (.s 64) (.s 65), none⟩, []),
                 (⟨(some 67), .load true 5 (.s 66), none⟩, []),
                 (⟨(some 68), .fld 4 (.s 3), none⟩, []),
                 (⟨(some 69), .load false 1 (.s 68), none⟩, []),
                 (⟨(some 70), .mv (.s 6), none⟩, []),
                 (⟨(some 71), .idxA 5 (.s 69) (.s 70), none⟩, []),
                 (⟨(some 72), .load true 5 (.s 71), none⟩, []),
                 (⟨(some 73), .call 24 [(.s 67), (.s 72)], none⟩, []),
                 (⟨(some 74), .not (.s 73), none⟩, [])])
              (.cond (.s 74) (.seq (.reg [⟨(some 4), .mv (.c (.bool false)), none⟩])
                (.ret))
               (.skip)))))
           (.reg [⟨(some 75), .binI .add (.s 60) (.c (.int .i64 1)), none⟩,
              ⟨(some 60), .mv (.s 75), none⟩])))))))
     (.seq (.reg [⟨(some 4), .mv (.c (.bool true)), none⟩])
      (.ret)))))
theorem fn24 : IsFn prog 24 ac24 [.tmp 4] 76 := ⟨f24, ⟨[], []⟩, func24, by kernel_rfl, by kernel_rfl, by kernel_rfl, by kernel_rfl⟩

/-- clearance/clearanceref10.Same -/
def ac25 : AC :=
  .seq (.reg [⟨(some 2), .box 5 (.s 0), none⟩,
     ⟨(some 3), .box 5 (.s 1), none⟩,
     ⟨(some 4), .mv (.c (.bool false)), none⟩])
  (.seq (.seq (.reg [⟨(some 7), .fld 0 (.s 2), none⟩,
       ⟨(some 8), .load false 1 (.s 7), none⟩,
       ⟨(some 9), .fld 0 (.s 3), none⟩,
       ⟨(some 10), .load false 1 (.s 9), none⟩,
       ⟨(some 11), .binI .neq (.s 8) (.s 10), none⟩,
       ⟨(some 12), .mv (.s 11), none⟩,
       ⟨(some 13), .fld 2 (.s 2), (some (12, false))⟩,
       ⟨(some 14), .load false 1 (.s 13), (some (12, false))⟩,
       ⟨(some 15), .fld 2 (.s 3), (some (12, false))⟩,
       ⟨(some 16), .load false 1 (.s 15), (some (12, false))⟩,
       ⟨(some 17), .binS .neq (.s 14) (.s 16), (some (12, false))⟩,
       ⟨(some 18), .pick (.s 12) (.c (.bool true)) (.s 17), none⟩,
       ⟨(some 19), .mv (.s 18), none⟩,
       ⟨(some 20), .fld 3 (.s 2), (some (19, false))⟩,
       ⟨(some 21), .load false 1 (.s 20), (some (19, false))⟩,
       ⟨(some 22), .lenS (.s 21), (some (19, false))⟩,
       ⟨(some 23), .fld 3 (.s 3), (some (19, false))⟩,
       ⟨(some 24), .load false 1 (.s 23), (some (19, false))⟩,
       ⟨(some 25), .lenS (.s 24), (some (19, false))⟩,
       ⟨(some 26), .binI .neq (.s 22) (.s 25), (some (19, false))⟩,
       ⟨(some 27), .pick (.s 19) (.c (.bool true)) (.s 26), none⟩,
       ⟨(some 28), .mv (.s 27), none⟩,
       ⟨(some 29), .fld 4 (.s 2), (some (28, false))⟩,
       ⟨(some 30), .load false 1 (.s 29), (some (28, false))⟩,
       ⟨(some 31), .lenS (.s 30), (some (28, false))⟩,
       ⟨(some 32), .fld 4 (.s 3), (some (28, false))⟩,
       ⟨(some 33), .load false 1 (.s 32), (some (28, false))⟩,
       ⟨(some 34), .lenS (.s 33), (some (28, false))⟩,
       ⟨(some 35), .binI .neq (.s 31) (.s 34), (some (28, false))⟩,
       ⟨(some 36), .pick (.s 28) (.c (.bool true)) (.s 35), none⟩])
    (.cond (.s 36) (.seq (.reg [⟨(some 4), .mv (.c (.bool false)), none⟩])
      (.ret))
     (.skip)))
   (.seq (.seq (.reg [⟨(some 5), .mv (.c (.int .i64 0)), none⟩])
     (.block 0 (.loop (.seq (.seq (.reg [⟨(some 37), .mv (.s 5), none⟩,
            ⟨(some 38), .fld 3 (.s 2), none⟩,
            ⟨(some 39), .load false 1 (.s 38), none⟩,
            ⟨(some 40), .lenS (.s 39), none⟩,
            ⟨(some 41), .binI .lss (.s 37) (.s 40), none⟩])
         (.cond (.s 41) (.skip)
          (.exit 0)))
        (.seq (.block 1 (.seq (.draw [(⟨(some 44), .fld 3 (.s 2), none⟩, []),
              (⟨(some 45), .load false 1 (.s 44), none⟩, []),
              (⟨(some 46), .mv (.s 5), none⟩, []),
              (⟨(some 47), .idxA 2 (.s 45) (.s 46), none⟩, []),
              (⟨(some 48), .fld 0 (.s 47), none⟩, []),
              (⟨(some 49), .load false 1 (.s 48), none⟩, []),
              (⟨(some 50), .fld 3 (.s 3), none⟩, []),
              (⟨(some 51), .load false 1 (.s 50), none⟩, []),
              (⟨(some 52), .mv (.s 5), none⟩, []),
              (⟨(some 53), .idxA 2 (.s 51) (.s 52), none⟩, []),
              (⟨(some 54), .fld 0 (.s 53), none⟩, []),
              (⟨(some 55), .load false 1 (.s 54), none⟩, []),
              (⟨(some 56), .binS .neq (.s 49) (.s 55), none⟩, [])])
           (.cond (.s 56) (.seq (.reg [⟨(some 4), .mv (.c (.bool false)), none⟩])
             (.ret))
            (.skip))))
         (.reg [⟨(some 42), .mv (.s 5), none⟩,
            ⟨(some 43), .binI .add (.s 42) (.c (.int .i64 1)), none⟩,
            ⟨(some 5), .mv (.s 43), none⟩]))))))
    (.seq (.seq (.reg [⟨(some 6), .mv (.c (.int .i64 0)), none⟩])
      (.block 2 (.loop (.seq (.seq (.reg [⟨(some 57), .mv (.s 6), none⟩,
             ⟨(some 58), .fld 4 (.s 2), none⟩,
             ⟨(some 59), .load false 1 (.s 58), none⟩,
             ⟨(some 60), .lenS (.s 59), none⟩,
             ⟨(some 61), .binI .lss (.s 57) (.s 60), none⟩])
          (.cond (.s 61) (.skip)
           (.exit 2)))
         (.seq (.block 3 (.seq (.draw [(⟨(some 64), .fld 4 (.s 2), none⟩, []),
               (⟨(some 65), .load false 1 (.s 64), none⟩, []),
               (⟨(some 66), .mv (.s 6), none⟩, []),
               (⟨(some 67), .idxA 5 (.s 65) (.s 66), none⟩, []),
               (⟨(some 68), .load true 5 (.s 67), none⟩, []),
               (⟨(some 69), .fld 4 (.s 3), none⟩, []),
               (⟨(some 70), .load false 1 (.s 69), none⟩, []),
               (⟨(some 71), .mv (.s 6), none⟩, []),
               (⟨(some 72), .idxA 5 (.s 70) (.s 71), none⟩, []),
               (⟨(some 73), .load true 5 (.s 72), none⟩, []),
               (⟨(some 74), .call 25 [(.s 68), (.s 73)], none⟩, []),
               (⟨(some 75), .not (.s 74), none⟩, [])])
            (.cond (.s 75) (.seq (.reg [⟨(some 4), .mv (.c (.bool false)), none⟩])
              (.ret))
             (.skip))))
          (.reg [⟨(some 62), .mv (.s 6), none⟩,
             ⟨(some 63), .binI .add (.s 62) (.c (.int .i64 1)), none⟩,
             ⟨(some 6), .mv (.s 63), none⟩]))))))
     (.seq (.reg [⟨(some 4), .mv (.c (.bool true)), none⟩])
      (.ret)))))
theorem fn25 : IsFn prog 25 ac25 [.tmp 4] 76 := ⟨f25, ⟨[], []⟩, func25, by kernel_rfl, by kernel_rfl, by kernel_rfl, by kernel_rfl⟩

/-- clearance/term.right -/
def ac40 : AC :=
  .seq (.reg [⟨(some 2), .mv (.c (.bool false)), none⟩])
  (.seq (.seq (.reg [⟨(some 5), .mv (.s 0), none⟩,
       ⟨(some 6), .lenS (.s 5), none⟩,
       ⟨(some 7), .mv (.c (.int .i64 0)), none⟩])
    (.block 0 (.loop (.seq (.reg [⟨(some 8), .binI .lss (.s 7) (.s 6), none⟩])
       (.seq (.cond (.s 8) (.skip)
         (.exit 0))
        (.seq (.block 1 (.seq (.reg [⟨(some 9), .idxA 2 (.s 5) (.s 7), none⟩,
              ⟨(some 10), .load true 2 (.s 9), none⟩,
              ⟨(some 4), .alloc [(.str []), (.int .i64 0)], none⟩,
              ⟨none, .store 2 (.s 4) (.s 10), none⟩])
           (.seq (.reg [⟨(some 11), .fld 0 (.s 4), none⟩,
               ⟨(some 12), .load false 1 (.s 11), none⟩,
               ⟨(some 13), .call 70 [(.s 12)], none⟩,
               ⟨(some 14), .not (.s 13), none⟩])
            (.cond (.s 14) (.seq (.reg [⟨(some 2), .mv (.c (.bool false)), none⟩])
              (.ret))
             (.skip)))))
         (.reg [⟨(some 15), .binI .add (.s 7) (.c (.int .i64 1)), none⟩,
            ⟨(some 7), .mv (.s 15), none⟩])))))))
   (.seq (.reg [⟨(some 2), .mv (.c (.bool true)), none⟩])
    (.ret)))
theorem fn40 : IsFn prog 40 ac40 [.tmp 2] 16 := ⟨f40, ⟨[], []⟩, func40, by kernel_rfl, by kernel_rfl, by kernel_rfl, by kernel_rfl⟩

/-- clearance/term.leaf -/
def ac39 : AC :=
  .seq (.reg [⟨(some 1), .box 5 (.s 0), none⟩,
     ⟨(some 2), .mv (.c (.bool false)), none⟩])
  (.seq (.reg [⟨(some 3), .fld 2 (.s 1), none⟩,
      ⟨(some 4), .load false 1 (.s 3), none⟩,
      ⟨(some 5), .call 70 [(.s 4)], none⟩,
      ⟨(some 6), .mv (.s 5), none⟩,
      ⟨(some 7), .fld 3 (.s 1), (some (6, true))⟩,
      ⟨(some 8), .load false 1 (.s 7), (some (6, true))⟩,
      ⟨(some 9), .lenS (.s 8), (some (6, true))⟩,
      ⟨(some 10), .fld 4 (.s 1), (some (6, true))⟩,
      ⟨(some 11), .load false 1 (.s 10), (some (6, true))⟩,
      ⟨(some 12), .lenS (.s 11), (some (6, true))⟩,
      ⟨(some 13), .binI .add (.s 9) (.s 12), (some (6, true))⟩,
      ⟨(some 14), .binI .eql (.s 13) (.c (.int .i64 0)), (some (6, true))⟩,
      ⟨(some 15), .pick (.s 6) (.s 14) (.c (.bool false)), none⟩,
      ⟨(some 2), .mv (.s 15), none⟩])
   (.ret))
theorem fn39 : IsFn prog 39 ac39 [.tmp 2] 16 := ⟨f39, ⟨[], []⟩, func39, by kernel_rfl, by kernel_rfl, by kernel_rfl, by kernel_rfl⟩

/-- clearance/term.bare -/
def ac41 : AC :=
  .seq (.reg [⟨(some 1), .box 5 (.s 0), none⟩,
     ⟨(some 2), .mv (.c (.bool false)), none⟩])
  (.seq (.reg [⟨(some 3), .fld 2 (.s 1), none⟩,
      ⟨(some 4), .load false 1 (.s 3), none⟩,
      ⟨(some 5), .binS .eql (.s 4) (.c (.str [])), none⟩,
      ⟨(some 6), .mv (.s 5), none⟩,
      ⟨(some 7), .fld 3 (.s 1), (some (6, true))⟩,
      ⟨(some 8), .load false 1 (.s 7), (some (6, true))⟩,
      ⟨(some 9), .lenS (.s 8), (some (6, true))⟩,
      ⟨(some 10), .binI .eql (.s 9) (.c (.int .i64 0)), (some (6, true))⟩,
      ⟨(some 11), .pick (.s 6) (.s 10) (.c (.bool false)), none⟩,
      ⟨(some 2), .mv (.s 11), none⟩])
   (.ret))
theorem fn41 : IsFn prog 41 ac41 [.tmp 2] 12 := ⟨f41, ⟨[], []⟩, func41, by kernel_rfl, by kernel_rfl, by kernel_rfl, by kernel_rfl⟩

/-- clearance/term.all -/
def ac42 : AC :=
  .seq (.reg [⟨(some 4), .mv (.c (.bool false)), none⟩])
  (.seq (.seq (.reg [⟨(some 7), .mv (.s 0), none⟩,
       ⟨(some 8), .lenS (.s 7), none⟩,
       ⟨(some 9), .mv (.c (.int .i64 0)), none⟩])
    (.block 0 (.loop (.seq (.reg [⟨(some 10), .binI .lss (.s 9) (.s 8), none⟩])
       (.seq (.cond (.s 10) (.skip)
         (.exit 0))
        (.seq (.block 1 (.seq (.reg [⟨(some 11), .idxA 5 (.s 7) (.s 9), none⟩,
              ⟨(some 12), .load true 5 (.s 11), none⟩,
              ⟨(some 6), .alloc [(.int .i64 0), (.int .i64 0), (.str []), (.sl .full 2 []), (.sl .full 5 [])], none⟩,
              ⟨none, .store 5 (.s 6) (.s 12), none⟩])
           (.seq (.reg [⟨(some 13), .mv (.s 1), none⟩,
               ⟨(some 14), .load true 5 (.s 6), none⟩,
               ⟨(some 15), .callv (.s 13) [(.s 14)], none⟩,
               ⟨(some 16), .not (.s 15), none⟩])
            (.cond (.s 16) (.seq (.reg [⟨(some 4), .mv (.c (.bool false)), none⟩])
              (.ret))
             (.skip)))))
         (.reg [⟨(some 17), .binI .add (.s 9) (.c (.int .i64 1)), none⟩,
            ⟨(some 9), .mv (.s 17), none⟩])))))))
   (.seq (.reg [⟨(some 4), .mv (.c (.bool true)), none⟩])
    (.ret)))
theorem fn42 : IsFn prog 42 ac42 [.tmp 4] 18 := ⟨f42, ⟨[], []⟩, func42, by kernel_rfl, by kernel_rfl, by kernel_rfl, by kernel_rfl⟩

/-- clearance/term.isRule -/
def ac43 : AC :=
  .seq (.reg [⟨(some 1), .box 5 (.s 0), none⟩,
     ⟨(some 2), .mv (.c (.bool false)), none⟩])
  (.seq (.reg [⟨(some 3), .fld 0 (.s 1), none⟩,
      ⟨(some 4), .load false 1 (.s 3), none⟩,
      ⟨(some 5), .binI .eql (.s 4) (.c (.int .i64 6)), none⟩,
      ⟨(some 6), .mv (.s 5), none⟩,
      ⟨(some 7), .fld 2 (.s 1), (some (6, true))⟩,
      ⟨(some 8), .load false 1 (.s 7), (some (6, true))⟩,
      ⟨(some 9), .call 70 [(.s 8)], (some (6, true))⟩,
      ⟨(some 10), .pick (.s 6) (.s 9) (.c (.bool false)), none⟩,
      ⟨(some 11), .mv (.s 10), none⟩,
      ⟨(some 12), .fld 3 (.s 1), (some (11, true))⟩,
      ⟨(some 13), .load false 1 (.s 12), (some (11, true))⟩,
      ⟨(some 14), .call 40 [(.s 13)], (some (11, true))⟩,
      ⟨(some 15), .pick (.s 11) (.s 14) (.c (.bool false)), none⟩,
      ⟨(some 16), .mv (.s 15), none⟩,
      ⟨(some 17), .fld 4 (.s 1), (some (16, true))⟩,
      ⟨(some 18), .load false 1 (.s 17), (some (16, true))⟩,
      ⟨(some 19), .lenS (.s 18), (some (16, true))⟩,
      ⟨(some 20), .binI .eql (.s 19) (.c (.int .i64 0)), (some (16, true))⟩,
      ⟨(some 21), .pick (.s 16) (.s 20) (.c (.bool false)), none⟩,
      ⟨(some 2), .mv (.s 21), none⟩])
   (.ret))
theorem fn43 : IsFn prog 43 ac43 [.tmp 2] 22 := ⟨f43, ⟨[], []⟩, func43, by kernel_rfl, by kernel_rfl, by kernel_rfl, by kernel_rfl⟩

/-- clearance/term.isAtom -/
def ac76 : AC :=
  .seq (.reg [⟨(some 1), .box 5 (.s 0), none⟩,
     ⟨(some 2), .mv (.c (.bool false)), none⟩])
  (.seq (.reg [⟨(some 3), .fld 0 (.s 1), none⟩,
      ⟨(some 4), .load false 1 (.s 3), none⟩,
      ⟨(some 5), .binI .eql (.s 4) (.c (.int .i64 1)), none⟩,
      ⟨(some 6), .mv (.s 5), none⟩,
      ⟨(some 7), .fld 0 (.s 1), (some (6, false))⟩,
      ⟨(some 8), .load false 1 (.s 7), (some (6, false))⟩,
      ⟨(some 9), .binI .eql (.s 8) (.c (.int .i64 7)), (some (6, false))⟩,
      ⟨(some 10), .pick (.s 6) (.c (.bool true)) (.s 9), none⟩,
      ⟨(some 11), .mv (.s 10), none⟩,
      ⟨(some 12), .load true 5 (.s 1), (some (11, true))⟩,
      ⟨(some 13), .call 16 [(.s 12)], (some (11, true))⟩,
      ⟨(some 14), .pick (.s 11) (.s 13) (.c (.bool false)), none⟩,
      ⟨(some 2), .mv (.s 14), none⟩])
   (.ret))
theorem fn76 : IsFn prog 76 ac76 [.tmp 2] 15 := ⟨f76, ⟨[], []⟩, func76, by kernel_rfl, by kernel_rfl, by kernel_rfl, by kernel_rfl⟩

/-- clearance/term.isField -/
def ac46 : AC :=
  .seq (.reg [⟨(some 1), .box 5 (.s 0), none⟩,
     ⟨(some 2), .mv (.c (.bool false)), none⟩])
  (.seq (.reg [⟨(some 3), .fld 0 (.s 1), none⟩,
      ⟨(some 4), .load false 1 (.s 3), none⟩,
      ⟨(some 5), .binI .eql (.s 4) (.c (.int .i64 11)), none⟩,
      ⟨(some 6), .mv (.s 5), none⟩,
      ⟨(some 7), .fld 2 (.s 1), (some (6, true))⟩,
      ⟨(some 8), .load false 1 (.s 7), (some (6, true))⟩,
      ⟨(some 9), .call 70 [(.s 8)], (some (6, true))⟩,
      ⟨(some 10), .pick (.s 6) (.s 9) (.c (.bool false)), none⟩,
      ⟨(some 11), .mv (.s 10), none⟩,
      ⟨(some 12), .fld 3 (.s 1), (some (11, true))⟩,
      ⟨(some 13), .load false 1 (.s 12), (some (11, true))⟩,
      ⟨(some 14), .lenS (.s 13), (some (11, true))⟩,
      ⟨(some 15), .binI .eql (.s 14) (.c (.int .i64 0)), (some (11, true))⟩,
      ⟨(some 16), .pick (.s 11) (.s 15) (.c (.bool false)), none⟩,
      ⟨(some 17), .mv (.s 16), none⟩,
      ⟨(some 18), .fld 4 (.s 1), (some (17, true))⟩,
      ⟨(some 19), .load false 1 (.s 18), (some (17, true))⟩,
      ⟨(some 20), .lenS (.s 19), (some (17, true))⟩,
      ⟨(some 21), .binI .eql (.s 20) (.c (.int .i64 1)), (some (17, true))⟩,
      ⟨(some 22), .pick (.s 17) (.s 21) (.c (.bool false)), none⟩,
      ⟨(some 23), .mv (.s 22), none⟩,
      ⟨(some 24), .fld 4 (.s 1), (some (23, true))⟩,
      ⟨(some 25), .load false 1 (.s 24), (some (23, true))⟩,
      ⟨(some 26), .idxA 5 (.s 25) (.c (.int .i64 0)), (some (23, true))⟩,
      ⟨(some 27), .load true 5 (.s 26), (some (23, true))⟩,
      ⟨(some 28), .call 76 [(.s 27)], (some (23, true))⟩,
      ⟨(some 29), .pick (.s 23) (.s 28) (.c (.bool false)), none⟩,
      ⟨(some 2), .mv (.s 29), none⟩])
   (.ret))
theorem fn46 : IsFn prog 46 ac46 [.tmp 2] 30 := ⟨f46, ⟨[], []⟩, func46, by kernel_rfl, by kernel_rfl, by kernel_rfl, by kernel_rfl⟩

/-- clearance/term.IsConst -/
def ac14 : AC :=
  .seq (.reg [⟨(some 1), .box 5 (.s 0), none⟩,
     ⟨(some 2), .mv (.c (.bool false)), none⟩])
  (.seq (.seq (.reg [⟨(some 3), .fld 0 (.s 1), none⟩,
       ⟨(some 4), .load false 1 (.s 3), none⟩])
    (.block 0 (.seq (.reg [⟨(some 6), .binI .eql (.s 4) (.c (.int .i64 2)), none⟩,
         ⟨(some 5), .mv (.s 6), none⟩])
      (.cond (.s 5) (.seq (.reg [⟨(some 7), .load true 5 (.s 1), none⟩,
           ⟨(some 8), .call 39 [(.s 7)], none⟩,
           ⟨(some 2), .mv (.s 8), none⟩])
        (.ret))
       (.seq (.reg [⟨(some 10), .binI .eql (.s 4) (.c (.int .i64 3)), none⟩,
           ⟨(some 9), .mv (.s 10), none⟩])
        (.cond (.s 9) (.seq (.reg [⟨(some 11), .fld 2 (.s 1), none⟩,
             ⟨(some 12), .load false 1 (.s 11), none⟩,
             ⟨(some 13), .binS .eql (.s 12) (.c (.str [])), none⟩,
             ⟨(some 14), .mv (.s 13), none⟩,
             ⟨(some 15), .fld 3 (.s 1), (some (14, true))⟩,
             ⟨(some 16), .load false 1 (.s 15), (some (14, true))⟩,
             ⟨(some 17), .call 40 [(.s 16)], (some (14, true))⟩,
             ⟨(some 18), .pick (.s 14) (.s 17) (.c (.bool false)), none⟩,
             ⟨(some 19), .mv (.s 18), none⟩,
             ⟨(some 20), .fld 4 (.s 1), (some (19, true))⟩,
             ⟨(some 21), .load false 1 (.s 20), (some (19, true))⟩,
             ⟨(some 22), .lenS (.s 21), (some (19, true))⟩,
             ⟨(some 23), .binI .eql (.s 22) (.c (.int .i64 0)), (some (19, true))⟩,
             ⟨(some 24), .pick (.s 19) (.s 23) (.c (.bool false)), none⟩,
             ⟨(some 2), .mv (.s 24), none⟩])
          (.ret))
         (.seq (.reg [⟨(some 26), .binI .eql (.s 4) (.c (.int .i64 4)), none⟩,
             ⟨(some 25), .mv (.s 26), none⟩])
          (.cond (.s 25) (.seq (.reg [⟨(some 27), .load true 5 (.s 1), none⟩,
               ⟨(some 28), .call 41 [(.s 27)], none⟩,
               ⟨(some 29), .mv (.s 28), none⟩,
               ⟨(some 30), .fld 4 (.s 1), (some (29, true))⟩,
               ⟨(some 31), .load false 1 (.s 30), (some (29, true))⟩,
               ⟨(some 32), .lenS (.s 31), (some (29, true))⟩,
               ⟨(some 33), .binI .gtr (.s 32) (.c (.int .i64 0)), (some (29, true))⟩,
               ⟨(some 34), .pick (.s 29) (.s 33) (.c (.bool false)), none⟩,
               ⟨(some 35), .mv (.s 34), none⟩,
               ⟨(some 36), .fld 4 (.s 1), (some (35, true))⟩,
               ⟨(some 37), .load false 1 (.s 36), (some (35, true))⟩,
               ⟨(some 38), .call 42 [(.s 37), (.c (.fn (.func 14) [] []))], (some (35, true))⟩,
               ⟨(some 39), .pick (.s 35) (.s 38) (.c (.bool false)), none⟩,
               ⟨(some 2), .mv (.s 39), none⟩])
            (.ret))
           (.seq (.reg [⟨(some 41), .binI .eql (.s 4) (.c (.int .i64 5)), none⟩,
               ⟨(some 40), .mv (.s 41), none⟩])
            (.cond (.s 40) (.seq (.reg [⟨(some 42), .load true 5 (.s 1), none⟩,
                 ⟨(some 43), .call 41 [(.s 42)], none⟩,
                 ⟨(some 44), .mv (.s 43), none⟩,
                 ⟨(some 45), .fld 4 (.s 1), (some (44, true))⟩,
                 ⟨(some 46), .load false 1 (.s 45), (some (44, true))⟩,
                 ⟨(some 47), .call 42 [(.s 46), (.c (.fn (.func 43) [] []))], (some (44, true))⟩,
                 ⟨(some 48), .pick (.s 44) (.s 47) (.c (.bool false)), none⟩,
                 ⟨(some 2), .mv (.s 48), none⟩])
              (.ret))
             (.skip)))))))))))
   (.seq (.reg [⟨(some 2), .mv (.c (.bool false)), none⟩])
    (.ret)))
theorem fn14 : IsFn prog 14 ac14 [.tmp 2] 49 := ⟨f14, ⟨[], []⟩, func14, by kernel_rfl, by kernel_rfl, by kernel_rfl, by kernel_rfl⟩

/-- clearance/term.IsLabel -/
def ac16 : AC :=
  .seq (.reg [⟨(some 1), .box 5 (.s 0), none⟩,
     ⟨(some 2), .mv (.c (.bool false)), none⟩])
  (.seq (.seq (.reg [⟨(some 3), .fld 0 (.s 1), none⟩,
       ⟨(some 4), .load false 1 (.s 3), none⟩])
    (.block 0 (.seq (.reg [⟨(some 6), .binI .eql (.s 4) (.c (.int .i64 1)), none⟩,
         ⟨(some 5), .mv (.s 6), none⟩])
      (.cond (.s 5) (.seq (.reg [⟨(some 7), .load true 5 (.s 1), none⟩,
           ⟨(some 8), .call 39 [(.s 7)], none⟩,
           ⟨(some 2), .mv (.s 8), none⟩])
        (.ret))
       (.seq (.reg [⟨(some 10), .binI .eql (.s 4) (.c (.int .i64 7)), none⟩,
           ⟨(some 9), .mv (.s 10), none⟩])
        (.cond (.s 9) (.seq (.reg [⟨(some 11), .load true 5 (.s 1), none⟩,
             ⟨(some 12), .call 41 [(.s 11)], none⟩,
             ⟨(some 13), .mv (.s 12), none⟩,
             ⟨(some 14), .fld 4 (.s 1), (some (13, true))⟩,
             ⟨(some 15), .load false 1 (.s 14), (some (13, true))⟩,
             ⟨(some 16), .lenS (.s 15), (some (13, true))⟩,
             ⟨(some 17), .binI .eql (.s 16) (.c (.int .i64 1)), (some (13, true))⟩,
             ⟨(some 18), .pick (.s 13) (.s 17) (.c (.bool false)), none⟩,
             ⟨(some 19), .mv (.s 18), none⟩,
             ⟨(some 20), .fld 4 (.s 1), (some (19, true))⟩,
             ⟨(some 21), .load false 1 (.s 20), (some (19, true))⟩,
             ⟨(some 22), .idxA 5 (.s 21) (.c (.int .i64 0)), (some (19, true))⟩,
             ⟨(some 23), .load true 5 (.s 22), (some (19, true))⟩,
             ⟨(some 24), .call 14 [(.s 23)], (some (19, true))⟩,
             ⟨(some 25), .pick (.s 19) (.s 24) (.c (.bool false)), none⟩,
             ⟨(some 2), .mv (.s 25), none⟩])
          (.ret))
         (.seq (.seq (.reg [⟨(some 27), .binI .eql (.s 4) (.c (.int .i64 8)), none⟩,
              ⟨(some 26), .mv (.s 27), none⟩])
           (.cond (.s 26) (.skip)
            (.reg [⟨(some 28), .binI .eql (.s 4) (.c (.int .i64 9)), none⟩,
               ⟨(some 26), .mv (.s 28), none⟩])))
          (.cond (.s 26) (.seq (.reg [⟨(some 29), .load true 5 (.s 1), none⟩,
               ⟨(some 30), .call 41 [(.s 29)], none⟩,
               ⟨(some 31), .mv (.s 30), none⟩,
               ⟨(some 32), .fld 4 (.s 1), (some (31, true))⟩,
               ⟨(some 33), .load false 1 (.s 32), (some (31, true))⟩,
               ⟨(some 34), .lenS (.s 33), (some (31, true))⟩,
               ⟨(some 35), .binI .gtr (.s 34) (.c (.int .i64 0)), (some (31, true))⟩,
               ⟨(some 36), .pick (.s 31) (.s 35) (.c (.bool false)), none⟩,
               ⟨(some 37), .mv (.s 36), none⟩,
               ⟨(some 38), .fld 4 (.s 1), (some (37, true))⟩,
               ⟨(some 39), .load false 1 (.s 38), (some (37, true))⟩,
               ⟨(some 40), .call 42 [(.s 39), (.c (.fn (.func 16) [] []))], (some (37, true))⟩,
               ⟨(some 41), .pick (.s 37) (.s 40) (.c (.bool false)), none⟩,
               ⟨(some 2), .mv (.s 41), none⟩])
            (.ret))
           (.skip)))))))))
   (.seq (.reg [⟨(some 2), .mv (.c (.bool false)), none⟩])
    (.ret)))
theorem fn16 : IsFn prog 16 ac16 [.tmp 2] 42 := ⟨f16, ⟨[], []⟩, func16, by kernel_rfl, by kernel_rfl, by kernel_rfl, by kernel_rfl⟩

/-- clearance/term.IsRow -/
def ac18 : AC :=
  .seq (.reg [⟨(some 1), .box 5 (.s 0), none⟩,
     ⟨(some 2), .mv (.c (.bool false)), none⟩])
  (.seq (.seq (.reg [⟨(some 3), .fld 0 (.s 1), none⟩,
       ⟨(some 4), .load false 1 (.s 3), none⟩,
       ⟨(some 5), .binI .eql (.s 4) (.c (.int .i64 10)), none⟩])
    (.cond (.s 5) (.seq (.reg [⟨(some 6), .fld 2 (.s 1), none⟩,
         ⟨(some 7), .load false 1 (.s 6), none⟩,
         ⟨(some 8), .binS .eql (.s 7) (.c (.str [])), none⟩,
         ⟨(some 9), .mv (.s 8), none⟩,
         ⟨(some 10), .fld 3 (.s 1), (some (9, true))⟩,
         ⟨(some 11), .load false 1 (.s 10), (some (9, true))⟩,
         ⟨(some 12), .lenS (.s 11), (some (9, true))⟩,
         ⟨(some 13), .binI .leq (.s 12) (.c (.int .i64 1)), (some (9, true))⟩,
         ⟨(some 14), .pick (.s 9) (.s 13) (.c (.bool false)), none⟩,
         ⟨(some 15), .mv (.s 14), none⟩,
         ⟨(some 16), .fld 3 (.s 1), (some (15, true))⟩,
         ⟨(some 17), .load false 1 (.s 16), (some (15, true))⟩,
         ⟨(some 18), .call 40 [(.s 17)], (some (15, true))⟩,
         ⟨(some 19), .pick (.s 15) (.s 18) (.c (.bool false)), none⟩,
         ⟨(some 20), .mv (.s 19), none⟩,
         ⟨(some 21), .fld 4 (.s 1), (some (20, true))⟩,
         ⟨(some 22), .load false 1 (.s 21), (some (20, true))⟩,
         ⟨(some 23), .call 42 [(.s 22), (.c (.fn (.func 46) [] []))], (some (20, true))⟩,
         ⟨(some 24), .pick (.s 20) (.s 23) (.c (.bool false)), none⟩,
         ⟨(some 2), .mv (.s 24), none⟩])
      (.ret))
     (.skip)))
   (.seq (.reg [⟨(some 25), .fld 0 (.s 1), none⟩,
       ⟨(some 26), .load false 1 (.s 25), none⟩,
       ⟨(some 27), .binI .eql (.s 26) (.c (.int .i64 1)), none⟩,
       ⟨(some 28), .mv (.s 27), none⟩,
       ⟨(some 29), .load true 5 (.s 1), (some (28, true))⟩,
       ⟨(some 30), .call 16 [(.s 29)], (some (28, true))⟩,
       ⟨(some 31), .pick (.s 28) (.s 30) (.c (.bool false)), none⟩,
       ⟨(some 2), .mv (.s 31), none⟩])
    (.ret)))
theorem fn18 : IsFn prog 18 ac18 [.tmp 2] 32 := ⟨f18, ⟨[], []⟩, func18, by kernel_rfl, by kernel_rfl, by kernel_rfl, by kernel_rfl⟩

/-- clearance/clearanceref10.all -/
def ac56 : AC :=
  .seq (.reg [⟨(some 4), .mv (.c (.bool false)), none⟩])
  (.seq (.seq (.reg [⟨(some 5), .mv (.c (.int .i64 0)), none⟩])
    (.block 0 (.loop (.seq (.seq (.reg [⟨(some 8), .mv (.s 5), none⟩,
           ⟨(some 9), .mv (.s 1), none⟩,
           ⟨(some 10), .lenS (.s 9), none⟩,
           ⟨(some 11), .binI .lss (.s 8) (.s 10), none⟩])
        (.cond (.s 11) (.skip)
         (.exit 0)))
       (.seq (.block 1 (.seq (.reg [⟨(some 14), .mv (.s 1), none⟩,
             ⟨(some 15), .mv (.s 5), none⟩,
             ⟨(some 16), .idxA 5 (.s 14) (.s 15), none⟩,
             ⟨(some 17), .load true 5 (.s 16), none⟩,
             ⟨(some 6), .alloc [(.int .i64 0), (.int .i64 0), (.str []), (.sl .full 2 []), (.sl .full 5 [])], none⟩,
             ⟨none, .store 5 (.s 6) (.s 17), none⟩])
          (.seq (.reg [⟨(some 18), .mv (.s 0), none⟩,
              ⟨(some 19), .binI .eql (.s 18) (.c (.int .i64 1)), none⟩,
              ⟨(some 20), .mv (.s 19), none⟩,
              ⟨(some 21), .load true 5 (.s 6), (some (20, true))⟩,
              ⟨(some 22), .call 26 [(.s 21)], (some (20, true))⟩,
              ⟨(some 23), .pick (.s 20) (.s 22) (.c (.bool false)), none⟩,
              ⟨(some 24), .mv (.s 23), none⟩,
              ⟨(some 25), .mv (.s 0), (some (24, false))⟩,
              ⟨(some 26), .binI .eql (.s 25) (.c (.int .i64 3)), (some (24, false))⟩,
              ⟨(some 27), .mv (.s 26), (some (24, false))⟩,
              ⟨(some 28), .load true 5 (.s 6), (some (27, true))⟩,
              ⟨(some 29), .call 27 [(.s 28)], (some (27, true))⟩,
              ⟨(some 30), .pick (.s 27) (.s 29) (.c (.bool false)), (some (24, false))⟩,
              ⟨(some 31), .pick (.s 24) (.c (.bool true)) (.s 30), none⟩,
              ⟨(some 7), .mv (.s 31), none⟩])
           (.seq (.seq (.reg [⟨(some 32), .mv (.s 0), none⟩,
                ⟨(some 33), .binI .eql (.s 32) (.c (.int .i64 2)), none⟩])
             (.cond (.s 33) (.reg [⟨(some 34), .fld 0 (.s 6), none⟩,
                 ⟨(some 35), .load false 1 (.s 34), none⟩,
                 ⟨(some 36), .binI .eql (.s 35) (.c (.int .i64 6)), none⟩,
                 ⟨(some 37), .mv (.s 36), none⟩,
                 ⟨(some 38), .fld 2 (.s 6), (some (37, true))⟩,
                 ⟨(some 39), .load false 1 (.s 38), (some (37, true))⟩,
                 ⟨(some 40), .call 54 [(.s 39)], (some (37, true))⟩,
                 ⟨(some 41), .pick (.s 37) (.s 40) (.c (.bool false)), none⟩,
                 ⟨(some 42), .mv (.s 41), none⟩,
                 ⟨(some 43), .fld 3 (.s 6), (some (42, true))⟩,
                 ⟨(some 44), .load false 1 (.s 43), (some (42, true))⟩,
                 ⟨(some 45), .call 55 [(.s 44)], (some (42, true))⟩,
                 ⟨(some 46), .pick (.s 42) (.s 45) (.c (.bool false)), none⟩,
                 ⟨(some 47), .mv (.s 46), none⟩,
                 ⟨(some 48), .fld 4 (.s 6), (some (47, true))⟩,
                 ⟨(some 49), .load false 1 (.s 48), (some (47, true))⟩,
                 ⟨(some 50), .lenS (.s 49), (some (47, true))⟩,
                 ⟨(some 51), .binI .eql (.s 50) (.c (.int .i64 0)), (some (47, true))⟩,
                 ⟨(some 52), .pick (.s 47) (.s 51) (.c (.bool false)), none⟩,
                 ⟨(some 7), .mv (.s 52), none⟩])
              (.skip)))
            (.seq (.seq (.reg [⟨(some 53), .mv (.s 0), none⟩,
                 ⟨(some 54), .binI .eql (.s 53) (.c (.int .i64 4)), none⟩])
              (.cond (.s 54) (.reg [⟨(some 55), .fld 0 (.s 6), none⟩,
                  ⟨(some 56), .load false 1 (.s 55), none⟩,
                  ⟨(some 57), .binI .eql (.s 56) (.c (.int .i64 11)), none⟩,
                  ⟨(some 58), .mv (.s 57), none⟩,
                  ⟨(some 59), .fld 2 (.s 6), (some (58, true))⟩,
                  ⟨(some 60), .load false 1 (.s 59), (some (58, true))⟩,
                  ⟨(some 61), .call 54 [(.s 60)], (some (58, true))⟩,
                  ⟨(some 62), .pick (.s 58) (.s 61) (.c (.bool false)), none⟩,
                  ⟨(some 63), .mv (.s 62), none⟩,
                  ⟨(some 64), .fld 3 (.s 6), (some (63, true))⟩,
                  ⟨(some 65), .load false 1 (.s 64), (some (63, true))⟩,
                  ⟨(some 66), .lenS (.s 65), (some (63, true))⟩,
                  ⟨(some 67), .binI .eql (.s 66) (.c (.int .i64 0)), (some (63, true))⟩,
                  ⟨(some 68), .pick (.s 63) (.s 67) (.c (.bool false)), none⟩,
                  ⟨(some 69), .mv (.s 68), none⟩,
                  ⟨(some 70), .fld 4 (.s 6), (some (69, true))⟩,
                  ⟨(some 71), .load false 1 (.s 70), (some (69, true))⟩,
                  ⟨(some 72), .lenS (.s 71), (some (69, true))⟩,
                  ⟨(some 73), .binI .eql (.s 72) (.c (.int .i64 1)), (some (69, true))⟩,
                  ⟨(some 74), .pick (.s 69) (.s 73) (.c (.bool false)), none⟩,
                  ⟨(some 75), .mv (.s 74), none⟩,
                  ⟨(some 76), .fld 4 (.s 6), (some (75, true))⟩,
                  ⟨(some 77), .load false 1 (.s 76), (some (75, true))⟩,
                  ⟨(some 78), .idxA 5 (.s 77) (.c (.int .i64 0)), (some (75, true))⟩,
                  ⟨(some 79), .load true 5 (.s 78), (some (75, true))⟩,
                  ⟨(some 80), .call 27 [(.s 79)], (some (75, true))⟩,
                  ⟨(some 81), .pick (.s 75) (.s 80) (.c (.bool false)), none⟩,
                  ⟨(some 82), .mv (.s 81), none⟩,
                  ⟨(some 83), .fld 4 (.s 6), (some (82, true))⟩,
                  ⟨(some 84), .load false 1 (.s 83), (some (82, true))⟩,
                  ⟨(some 85), .idxA 5 (.s 84) (.c (.int .i64 0)), (some (82, true))⟩,
                  ⟨(some 86), .fld 0 (.s 85), (some (82, true))⟩,
                  ⟨(some 87), .load false 1 (.s 86), (some (82, true))⟩,
                  ⟨(some 88), .binI .neq (.s 87) (.c (.int .i64 8)), (some (82, true))⟩,
                  ⟨(some 89), .pick (.s 82) (.s 88) (.c (.bool false)), none⟩,
                  ⟨(some 90), .mv (.s 89), none⟩,
                  ⟨(some 91), .fld 4 (.s 6), (some (90, true))⟩,
                  ⟨(some 92), .load false 1 (.s 91), (some (90, true))⟩,
                  ⟨(some 93), .idxA 5 (.s 92) (.c (.int .i64 0)), (some (90, true))⟩,
                  ⟨(some 94), .fld 0 (.s 93), (some (90, true))⟩,
                  ⟨(some 95), .load false 1 (.s 94), (some (90, true))⟩,
                  ⟨(some 96), .binI .neq (.s 95) (.c (.int .i64 9)), (some (90, true))⟩,
                  ⟨(some 97), .pick (.s 90) (.s 96) (.c (.bool false)), none⟩,
                  ⟨(some 7), .mv (.s 97), none⟩])
               (.skip)))
             (.seq (.reg [⟨(some 98), .mv (.s 7), none⟩,
                 ⟨(some 99), .not (.s 98), none⟩])
              (.cond (.s 99) (.seq (.reg [⟨(some 4), .mv (.c (.bool false)), none⟩])
                (.ret))
               (.skip))))))))
        (.reg [⟨(some 12), .mv (.s 5), none⟩,
           ⟨(some 13), .binI .add (.s 12) (.c (.int .i64 1)), none⟩,
           ⟨(some 5), .mv (.s 13), none⟩]))))))
   (.seq (.reg [⟨(some 4), .mv (.c (.bool true)), none⟩])
    (.ret)))
theorem fn56 : IsFn prog 56 ac56 [.tmp 4] 100 := ⟨f56, ⟨[], []⟩, func56, by kernel_rfl, by kernel_rfl, by kernel_rfl, by kernel_rfl⟩

/-- clearance/clearanceref10.IsConst -/
def ac26 : AC :=
  .seq (.reg [⟨(some 1), .box 5 (.s 0), none⟩,
     ⟨(some 2), .mv (.c (.bool false)), none⟩])
  (.seq (.seq (.reg [⟨(some 3), .fld 0 (.s 1), none⟩,
       ⟨(some 4), .load false 1 (.s 3), none⟩])
    (.block 0 (.seq (.reg [⟨(some 6), .binI .eql (.s 4) (.c (.int .i64 2)), none⟩,
         ⟨(some 5), .mv (.s 6), none⟩])
      (.cond (.s 5) (.seq (.reg [⟨(some 7), .fld 2 (.s 1), none⟩,
           ⟨(some 8), .load false 1 (.s 7), none⟩,
           ⟨(some 9), .call 54 [(.s 8)], none⟩,
           ⟨(some 10), .mv (.s 9), none⟩,
           ⟨(some 11), .fld 3 (.s 1), (some (10, true))⟩,
           ⟨(some 12), .load false 1 (.s 11), (some (10, true))⟩,
           ⟨(some 13), .lenS (.s 12), (some (10, true))⟩,
           ⟨(some 14), .fld 4 (.s 1), (some (10, true))⟩,
           ⟨(some 15), .load false 1 (.s 14), (some (10, true))⟩,
           ⟨(some 16), .lenS (.s 15), (some (10, true))⟩,
           ⟨(some 17), .binI .add (.s 13) (.s 16), (some (10, true))⟩,
           ⟨(some 18), .binI .eql (.s 17) (.c (.int .i64 0)), (some (10, true))⟩,
           ⟨(some 19), .pick (.s 10) (.s 18) (.c (.bool false)), none⟩,
           ⟨(some 2), .mv (.s 19), none⟩])
        (.ret))
       (.seq (.reg [⟨(some 21), .binI .eql (.s 4) (.c (.int .i64 3)), none⟩,
           ⟨(some 20), .mv (.s 21), none⟩])
        (.cond (.s 20) (.seq (.reg [⟨(some 22), .fld 2 (.s 1), none⟩,
             ⟨(some 23), .load false 1 (.s 22), none⟩,
             ⟨(some 24), .binS .eql (.s 23) (.c (.str [])), none⟩,
             ⟨(some 25), .mv (.s 24), none⟩,
             ⟨(some 26), .fld 3 (.s 1), (some (25, true))⟩,
             ⟨(some 27), .load false 1 (.s 26), (some (25, true))⟩,
             ⟨(some 28), .call 55 [(.s 27)], (some (25, true))⟩,
             ⟨(some 29), .pick (.s 25) (.s 28) (.c (.bool false)), none⟩,
             ⟨(some 30), .mv (.s 29), none⟩,
             ⟨(some 31), .fld 4 (.s 1), (some (30, true))⟩,
             ⟨(some 32), .load false 1 (.s 31), (some (30, true))⟩,
             ⟨(some 33), .lenS (.s 32), (some (30, true))⟩,
             ⟨(some 34), .binI .eql (.s 33) (.c (.int .i64 0)), (some (30, true))⟩,
             ⟨(some 35), .pick (.s 30) (.s 34) (.c (.bool false)), none⟩,
             ⟨(some 2), .mv (.s 35), none⟩])
          (.ret))
         (.seq (.reg [⟨(some 37), .binI .eql (.s 4) (.c (.int .i64 4)), none⟩,
             ⟨(some 36), .mv (.s 37), none⟩])
          (.cond (.s 36) (.seq (.reg [⟨(some 38), .fld 2 (.s 1), none⟩,
               ⟨(some 39), .load false 1 (.s 38), none⟩,
               ⟨(some 40), .binS .eql (.s 39) (.c (.str [])), none⟩,
               ⟨(some 41), .mv (.s 40), none⟩,
               ⟨(some 42), .fld 3 (.s 1), (some (41, true))⟩,
               ⟨(some 43), .load false 1 (.s 42), (some (41, true))⟩,
               ⟨(some 44), .lenS (.s 43), (some (41, true))⟩,
               ⟨(some 45), .binI .eql (.s 44) (.c (.int .i64 0)), (some (41, true))⟩,
               ⟨(some 46), .pick (.s 41) (.s 45) (.c (.bool false)), none⟩,
               ⟨(some 47), .mv (.s 46), none⟩,
               ⟨(some 48), .fld 4 (.s 1), (some (47, true))⟩,
               ⟨(some 49), .load false 1 (.s 48), (some (47, true))⟩,
               ⟨(some 50), .lenS (.s 49), (some (47, true))⟩,
               ⟨(some 51), .binI .gtr (.s 50) (.c (.int .i64 0)), (some (47, true))⟩,
               ⟨(some 52), .pick (.s 47) (.s 51) (.c (.bool false)), none⟩,
               ⟨(some 53), .mv (.s 52), none⟩,
               ⟨(some 54), .fld 4 (.s 1), (some (53, true))⟩,
               ⟨(some 55), .load false 1 (.s 54), (some (53, true))⟩,
               ⟨(some 56), .call 56 [(.c (.int .i64 1)), (.s 55)], (some (53, true))⟩,
               ⟨(some 57), .pick (.s 53) (.s 56) (.c (.bool false)), none⟩,
               ⟨(some 2), .mv (.s 57), none⟩])
            (.ret))
           (.seq (.reg [⟨(some 59), .binI .eql (.s 4) (.c (.int .i64 5)), none⟩,
               ⟨(some 58), .mv (.s 59), none⟩])
            (.cond (.s 58) (.seq (.reg [⟨(some 60), .fld 2 (.s 1), none⟩,
                 ⟨(some 61), .load false 1 (.s 60), none⟩,
                 ⟨(some 62), .binS .eql (.s 61) (.c (.str [])), none⟩,
                 ⟨(some 63), .mv (.s 62), none⟩,
                 ⟨(some 64), .fld 3 (.s 1), (some (63, true))⟩,
                 ⟨(some 65), .load false 1 (.s 64), (some (63, true))⟩,
                 ⟨(some 66), .lenS (.s 65), (some (63, true))⟩,
                 ⟨(some 67), .binI .eql (.s 66) (.c (.int .i64 0)), (some (63, true))⟩,
                 ⟨(some 68), .pick (.s 63) (.s 67) (.c (.bool false)), none⟩,
                 ⟨(some 69), .mv (.s 68), none⟩,
                 ⟨(some 70), .fld 4 (.s 1), (some (69, true))⟩,
                 ⟨(some 71), .load false 1 (.s 70), (some (69, true))⟩,
                 ⟨(some 72), .call 56 [(.c (.int .i64 2)), (.s 71)], (some (69, true))⟩,
                 ⟨(some 73), .pick (.s 69) (.s 72) (.c (.bool false)), none⟩,
                 ⟨(some 2), .mv (.s 73), none⟩])
              (.ret))
             (.skip)))))))))))
   (.seq (.reg [⟨(some 2), .mv (.c (.bool false)), none⟩])
    (.ret)))
theorem fn26 : IsFn prog 26 ac26 [.tmp 2] 74 := ⟨f26, ⟨[], []⟩, func26, by kernel_rfl, by kernel_rfl, by kernel_rfl, by kernel_rfl⟩

/-- clearance/clearanceref10.IsLabel -/
def ac27 : AC :=
  .seq (.reg [⟨(some 1), .box 5 (.s 0), none⟩,
     ⟨(some 2), .mv (.c (.bool false)), none⟩])
  (.seq (.seq (.reg [⟨(some 3), .fld 0 (.s 1), none⟩,
       ⟨(some 4), .load false 1 (.s 3), none⟩])
    (.block 0 (.seq (.reg [⟨(some 6), .binI .eql (.s 4) (.c (.int .i64 1)), none⟩,
         ⟨(some 5), .mv (.s 6), none⟩])
      (.cond (.s 5) (.seq (.reg [⟨(some 7), .fld 2 (.s 1), none⟩,
           ⟨(some 8), .load false 1 (.s 7), none⟩,
           ⟨(some 9), .call 54 [(.s 8)], none⟩,
           ⟨(some 10), .mv (.s 9), none⟩,
           ⟨(some 11), .fld 3 (.s 1), (some (10, true))⟩,
           ⟨(some 12), .load false 1 (.s 11), (some (10, true))⟩,
           ⟨(some 13), .lenS (.s 12), (some (10, true))⟩,
           ⟨(some 14), .fld 4 (.s 1), (some (10, true))⟩,
           ⟨(some 15), .load false 1 (.s 14), (some (10, true))⟩,
           ⟨(some 16), .lenS (.s 15), (some (10, true))⟩,
           ⟨(some 17), .binI .add (.s 13) (.s 16), (some (10, true))⟩,
           ⟨(some 18), .binI .eql (.s 17) (.c (.int .i64 0)), (some (10, true))⟩,
           ⟨(some 19), .pick (.s 10) (.s 18) (.c (.bool false)), none⟩,
           ⟨(some 2), .mv (.s 19), none⟩])
        (.ret))
       (.seq (.reg [⟨(some 21), .binI .eql (.s 4) (.c (.int .i64 7)), none⟩,
           ⟨(some 20), .mv (.s 21), none⟩])
        (.cond (.s 20) (.seq (.reg [⟨(some 22), .fld 2 (.s 1), none⟩,
             ⟨(some 23), .load false 1 (.s 22), none⟩,
             ⟨(some 24), .binS .eql (.s 23) (.c (.str [])), none⟩,
             ⟨(some 25), .mv (.s 24), none⟩,
             ⟨(some 26), .fld 3 (.s 1), (some (25, true))⟩,
             ⟨(some 27), .load false 1 (.s 26), (some (25, true))⟩,
             ⟨(some 28), .lenS (.s 27), (some (25, true))⟩,
             ⟨(some 29), .binI .eql (.s 28) (.c (.int .i64 0)), (some (25, true))⟩,
             ⟨(some 30), .pick (.s 25) (.s 29) (.c (.bool false)), none⟩,
             ⟨(some 31), .mv (.s 30), none⟩,
             ⟨(some 32), .fld 4 (.s 1), (some (31, true))⟩,
             ⟨(some 33), .load false 1 (.s 32), (some (31, true))⟩,
             ⟨(some 34), .lenS (.s 33), (some (31, true))⟩,
             ⟨(some 35), .binI .eql (.s 34) (.c (.int .i64 1)), (some (31, true))⟩,
             ⟨(some 36), .pick (.s 31) (.s 35) (.c (.bool false)), none⟩,
             ⟨(some 37), .mv (.s 36), none⟩,
             ⟨(some 38), .fld 4 (.s 1), (some (37, true))⟩,
             ⟨(some 39), .load false 1 (.s 38), (some (37, true))⟩,
             ⟨(some 40), .call 56 [(.c (.int .i64 1)), (.s 39)], (some (37, true))⟩,
             ⟨(some 41), .pick (.s 37) (.s 40) (.c (.bool false)), none⟩,
             ⟨(some 2), .mv (.s 41), none⟩])
          (.ret))
         (.seq (.seq (.reg [⟨(some 43), .binI .eql (.s 4) (.c (.int .i64 8)), none⟩,
              ⟨(some 42), .mv (.s 43), none⟩])
           (.cond (.s 42) (.skip)
            (.reg [⟨(some 44), .binI .eql (.s 4) (.c (.int .i64 9)), none⟩,
               ⟨(some 42), .mv (.s 44), none⟩])))
          (.cond (.s 42) (.seq (.reg [⟨(some 45), .fld 2 (.s 1), none⟩,
               ⟨(some 46), .load false 1 (.s 45), none⟩,
               ⟨(some 47), .binS .eql (.s 46) (.c (.str [])), none⟩,
               ⟨(some 48), .mv (.s 47), none⟩,
               ⟨(some 49), .fld 3 (.s 1), (some (48, true))⟩,
               ⟨(some 50), .load false 1 (.s 49), (some (48, true))⟩,
               ⟨(some 51), .lenS (.s 50), (some (48, true))⟩,
               ⟨(some 52), .binI .eql (.s 51) (.c (.int .i64 0)), (some (48, true))⟩,
               ⟨(some 53), .pick (.s 48) (.s 52) (.c (.bool false)), none⟩,
               ⟨(some 54), .mv (.s 53), none⟩,
               ⟨(some 55), .fld 4 (.s 1), (some (54, true))⟩,
               ⟨(some 56), .load false 1 (.s 55), (some (54, true))⟩,
               ⟨(some 57), .lenS (.s 56), (some (54, true))⟩,
               ⟨(some 58), .binI .gtr (.s 57) (.c (.int .i64 0)), (some (54, true))⟩,
               ⟨(some 59), .pick (.s 54) (.s 58) (.c (.bool false)), none⟩,
               ⟨(some 60), .mv (.s 59), none⟩,
               ⟨(some 61), .fld 4 (.s 1), (some (60, true))⟩,
               ⟨(some 62), .load false 1 (.s 61), (some (60, true))⟩,
               ⟨(some 63), .call 56 [(.c (.int .i64 3)), (.s 62)], (some (60, true))⟩,
               ⟨(some 64), .pick (.s 60) (.s 63) (.c (.bool false)), none⟩,
               ⟨(some 2), .mv (.s 64), none⟩])
            (.ret))
           (.skip)))))))))
   (.seq (.reg [⟨(some 2), .mv (.c (.bool false)), none⟩])
    (.ret)))
theorem fn27 : IsFn prog 27 ac27 [.tmp 2] 65 := ⟨f27, ⟨[], []⟩, func27, by kernel_rfl, by kernel_rfl, by kernel_rfl, by kernel_rfl⟩

/-- clearance/clearanceref10.IsRow -/
def ac28 : AC :=
  .seq (.reg [⟨(some 1), .box 5 (.s 0), none⟩,
     ⟨(some 2), .mv (.c (.bool false)), none⟩])
  (.seq (.seq (.reg [⟨(some 3), .fld 0 (.s 1), none⟩,
       ⟨(some 4), .load false 1 (.s 3), none⟩,
       ⟨(some 5), .binI .eql (.s 4) (.c (.int .i64 10)), none⟩])
    (.cond (.s 5) (.seq (.reg [⟨(some 6), .fld 2 (.s 1), none⟩,
         ⟨(some 7), .load false 1 (.s 6), none⟩,
         ⟨(some 8), .binS .eql (.s 7) (.c (.str [])), none⟩,
         ⟨(some 9), .mv (.s 8), none⟩,
         ⟨(some 10), .fld 3 (.s 1), (some (9, true))⟩,
         ⟨(some 11), .load false 1 (.s 10), (some (9, true))⟩,
         ⟨(some 12), .lenS (.s 11), (some (9, true))⟩,
         ⟨(some 13), .binI .leq (.s 12) (.c (.int .i64 1)), (some (9, true))⟩,
         ⟨(some 14), .pick (.s 9) (.s 13) (.c (.bool false)), none⟩,
         ⟨(some 15), .mv (.s 14), none⟩,
         ⟨(some 16), .fld 3 (.s 1), (some (15, true))⟩,
         ⟨(some 17), .load false 1 (.s 16), (some (15, true))⟩,
         ⟨(some 18), .call 55 [(.s 17)], (some (15, true))⟩,
         ⟨(some 19), .pick (.s 15) (.s 18) (.c (.bool false)), none⟩,
         ⟨(some 20), .mv (.s 19), none⟩,
         ⟨(some 21), .fld 4 (.s 1), (some (20, true))⟩,
         ⟨(some 22), .load false 1 (.s 21), (some (20, true))⟩,
         ⟨(some 23), .call 56 [(.c (.int .i64 4)), (.s 22)], (some (20, true))⟩,
         ⟨(some 24), .pick (.s 20) (.s 23) (.c (.bool false)), none⟩,
         ⟨(some 2), .mv (.s 24), none⟩])
      (.ret))
     (.skip)))
   (.seq (.reg [⟨(some 25), .fld 0 (.s 1), none⟩,
       ⟨(some 26), .load false 1 (.s 25), none⟩,
       ⟨(some 27), .binI .eql (.s 26) (.c (.int .i64 1)), none⟩,
       ⟨(some 28), .mv (.s 27), none⟩,
       ⟨(some 29), .load true 5 (.s 1), (some (28, true))⟩,
       ⟨(some 30), .call 27 [(.s 29)], (some (28, true))⟩,
       ⟨(some 31), .pick (.s 28) (.s 30) (.c (.bool false)), none⟩,
       ⟨(some 2), .mv (.s 31), none⟩])
    (.ret)))
theorem fn28 : IsFn prog 28 ac28 [.tmp 2] 32 := ⟨f28, ⟨[], []⟩, func28, by kernel_rfl, by kernel_rfl, by kernel_rfl, by kernel_rfl⟩

end Go.Proofs.Try

namespace Go.Proofs.Try
open Go.Am

/-- clearance/clearanceref08.Text -/
def ac20 : AC :=
  .seq (.reg [⟨(some 2), .mv (.c (.str [])), none⟩])
  (.seq (.reg [⟨(some 3), .mv (.c (.str [])), none⟩])
   (.seq (.seq (.reg [⟨(some 4), .mv (.c (.int .i64 0)), none⟩])
     (.block 0 (.loop (.seq (.seq (.reg [⟨(some 5), .mv (.s 4), none⟩,
            ⟨(some 6), .mv (.s 0), none⟩,
            ⟨(some 7), .lenS (.s 6), none⟩,
            ⟨(some 8), .binI .lss (.s 5) (.s 7), none⟩])
         (.cond (.s 8) (.skip)
          (.exit 0)))
        (.seq (.block 1 (.seq (.seq (.reg [⟨(some 11), .mv (.s 4), none⟩,
               ⟨(some 12), .binI .gtr (.s 11) (.c (.int .i64 0)), none⟩,
               ⟨(some 13), .mv (.s 12), none⟩,
               ⟨(some 14), .mv (.s 0), (some (13, true))⟩,
               ⟨(some 15), .mv (.s 4), (some (13, true))⟩,
               ⟨(some 16), .binI .sub (.s 15) (.c (.int .i64 1)), (some (13, true))⟩,
               ⟨(some 17), .idxA 3 (.s 14) (.s 16), (some (13, true))⟩,
               ⟨(some 18), .fld 0 (.s 17), (some (13, true))⟩,
               ⟨(some 19), .load false 1 (.s 18), (some (13, true))⟩,
               ⟨(some 20), .binI .eql (.s 19) (.c (.int .u8 97)), (some (13, true))⟩,
               ⟨(some 21), .pick (.s 13) (.s 20) (.c (.bool false)), none⟩,
               ⟨(some 22), .mv (.s 21), none⟩,
               ⟨(some 23), .mv (.s 0), (some (22, true))⟩,
               ⟨(some 24), .mv (.s 4), (some (22, true))⟩,
               ⟨(some 25), .idxA 3 (.s 23) (.s 24), (some (22, true))⟩,
               ⟨(some 26), .fld 0 (.s 25), (some (22, true))⟩,
               ⟨(some 27), .load false 1 (.s 26), (some (22, true))⟩,
               ⟨(some 28), .binI .eql (.s 27) (.c (.int .u8 97)), (some (22, true))⟩,
               ⟨(some 29), .pick (.s 22) (.s 28) (.c (.bool false)), none⟩])
            (.cond (.s 29) (.reg [⟨(some 30), .mv (.s 3), none⟩,
                ⟨(some 31), .cat (.s 30) (.c (.str [32])), none⟩,
                ⟨(some 3), .mv (.s 31), none⟩])
             (.skip)))
           (.reg [⟨(some 32), .mv (.s 3), none⟩,
              ⟨(some 33), .mv (.s 0), none⟩,
              ⟨(some 34), .mv (.s 4), none⟩,
              ⟨(some 35), .idxA 3 (.s 33) (.s 34), none⟩,
              ⟨(some 36), .fld 1 (.s 35), none⟩,
              ⟨(some 37), .load false 1 (.s 36), none⟩,
              ⟨(some 38), .cat (.s 32) (.s 37), none⟩,
              ⟨(some 3), .mv (.s 38), none⟩])))
         (.reg [⟨(some 9), .mv (.s 4), none⟩,
            ⟨(some 10), .binI .add (.s 9) (.c (.int .i64 1)), none⟩,
            ⟨(some 4), .mv (.s 10), none⟩]))))))
    (.seq (.reg [⟨(some 39), .mv (.s 3), none⟩,
        ⟨(some 2), .mv (.s 39), none⟩])
     (.ret))))
theorem fn20 : IsFn prog 20 ac20 [.tmp 2] 40 := ⟨f20, ⟨[], []⟩, func20, by kernel_rfl, by kernel_rfl, by kernel_rfl, by kernel_rfl⟩

/-- clearance/clearanceref09.Flat -/
def ac21 : AC :=
  .seq (.reg [⟨(some 2), .mv (.c (.sl .full 3 [])), none⟩])
  (.seq (.reg [⟨(some 3), .mv (.c (.sl .full 3 [])), none⟩])
   (.seq (.seq (.reg [⟨(some 4), .mv (.c (.int .i64 0)), none⟩])
     (.block 0 (.loop (.seq (.seq (.reg [⟨(some 6), .mv (.s 4), none⟩,
            ⟨(some 7), .mv (.s 0), none⟩,
            ⟨(some 8), .lenS (.s 7), none⟩,
            ⟨(some 9), .binI .lss (.s 6) (.s 8), none⟩])
         (.cond (.s 9) (.skip)
          (.exit 0)))
        (.seq (.block 1 (.seq (.reg [⟨(some 12), .mv (.s 3), none⟩,
              ⟨(some 13), .mv (.s 0), none⟩,
              ⟨(some 14), .mv (.s 4), none⟩,
              ⟨(some 15), .idxA 5 (.s 13) (.s 14), none⟩,
              ⟨(some 16), .fld 0 (.s 15), none⟩,
              ⟨(some 17), .load true 3 (.s 16), none⟩,
              ⟨(some 18), .bslice 3 [(.s 17)], none⟩,
              ⟨(some 19), .app 3 (.s 12) (.s 18), none⟩,
              ⟨(some 3), .mv (.s 19), none⟩])
           (.seq (.reg [⟨(some 20), .mv (.s 0), none⟩,
               ⟨(some 21), .mv (.s 4), none⟩,
               ⟨(some 22), .idxA 5 (.s 20) (.s 21), none⟩,
               ⟨(some 23), .fld 0 (.s 22), none⟩,
               ⟨(some 24), .fld 0 (.s 23), none⟩,
               ⟨(some 25), .load false 1 (.s 24), none⟩,
               ⟨(some 26), .call 51 [(.s 25)], none⟩,
               ⟨(some 5), .mv (.s 26), none⟩])
            (.seq (.reg [⟨(some 27), .mv (.s 5), none⟩,
                ⟨(some 28), .binI .neq (.s 27) (.c (.int .u8 0)), none⟩])
             (.cond (.s 28) (.seq (.reg [⟨(some 29), .mv (.s 3), none⟩,
                  ⟨(some 30), .mv (.s 0), none⟩,
                  ⟨(some 31), .mv (.s 4), none⟩,
                  ⟨(some 32), .idxA 5 (.s 30) (.s 31), none⟩,
                  ⟨(some 33), .fld 3 (.s 32), none⟩,
                  ⟨(some 34), .load false 1 (.s 33), none⟩,
                  ⟨(some 35), .call 21 [(.s 34)], none⟩,
                  ⟨(some 36), .app 3 (.s 29) (.s 35), none⟩,
                  ⟨(some 3), .mv (.s 36), none⟩])
               (.draw [(⟨(some 37), .mv (.s 3), none⟩, []),
                  (⟨(some 38), .mv (.s 5), none⟩, []),
                  (⟨(some 39), .mv (.s 5), none⟩, []),
                  (⟨(some 40), .bslice 1 [(.s 39)], none⟩, []),
                  (⟨(some 41), .cvBS (.s 40), none⟩, []),
                  (⟨(some 42), .mv (.s 0), none⟩, []),
                  (⟨(some 43), .mv (.s 4), none⟩, []),
                  (⟨(some 44), .idxA 5 (.s 42) (.s 43), none⟩, []),
                  (⟨(some 45), .fld 4 (.s 44), none⟩, []),
                  (⟨(some 46), .load false 1 (.s 45), none⟩, []),
                  (⟨(some 47), .build [(.int .u8 0), (.str []), (.int .i64 0)] [(0, 1, (.s 38)), (1, 1, (.s 41)), (2, 1, (.s 46))], none⟩, []),
                  (⟨(some 48), .bslice 3 [(.s 47)], none⟩, []),
                  (⟨(some 49), .app 3 (.s 37) (.s 48), none⟩, []),
                  (⟨(some 3), .mv (.s 49), none⟩, [])]))
              (.skip))))))
         (.reg [⟨(some 10), .mv (.s 4), none⟩,
            ⟨(some 11), .binI .add (.s 10) (.c (.int .i64 1)), none⟩,
            ⟨(some 4), .mv (.s 11), none⟩]))))))
    (.seq (.reg [⟨(some 50), .mv (.s 3), none⟩,
        ⟨(some 2), .mv (.s 50), none⟩])
     (.ret))))
theorem fn21 : IsFn prog 21 ac21 [.tmp 2] 51 := ⟨f21, ⟨[], []⟩, func21, by kernel_rfl, by kernel_rfl, by kernel_rfl, by kernel_rfl⟩

/-- clearance/clearancelaw10.Big -/
def ac22 : AC :=
  .seq (.reg [⟨(some 2), .mv (.c (.bool false)), none⟩])
  (.seq (.seq (.reg [⟨(some 5), .mv (.s 0), none⟩,
       ⟨(some 6), .lenS (.s 5), none⟩,
       ⟨(some 7), .mv (.c (.int .i64 0)), none⟩])
    (.block 0 (.loop (.seq (.reg [⟨(some 8), .binI .lss (.s 7) (.s 6), none⟩])
       (.seq (.cond (.s 8) (.skip)
         (.exit 0))
        (.seq (.block 1 (.seq (.reg [⟨(some 9), .idxA 5 (.s 5) (.s 7), none⟩,
              ⟨(some 10), .load true 5 (.s 9), none⟩,
              ⟨(some 4), .alloc [(.int .i64 0), (.int .i64 0), (.str []), (.sl .full 2 []), (.sl .full 5 [])], none⟩,
              ⟨none, .store 5 (.s 4) (.s 10), none⟩])
           (.seq (.reg [⟨(some 11), .load true 5 (.s 4), none⟩,
               ⟨(some 12), .call 52 [(.s 11)], none⟩,
               ⟨(some 13), .binI .gtr (.s 12) (.c (.int .i64 300)), none⟩])
            (.cond (.s 13) (.seq (.reg [⟨(some 2), .mv (.c (.bool true)), none⟩])
              (.ret))
             (.skip)))))
         (.reg [⟨(some 14), .binI .add (.s 7) (.c (.int .i64 1)), none⟩,
            ⟨(some 7), .mv (.s 14), none⟩])))))))
   (.seq (.reg [⟨(some 2), .mv (.c (.bool false)), none⟩])
    (.ret)))
theorem fn22 : IsFn prog 22 ac22 [.tmp 2] 15 := ⟨f22, ⟨[], []⟩, func22, by kernel_rfl, by kernel_rfl, by kernel_rfl, by kernel_rfl⟩

/-- clearance/clearanceref08.Read -/
def ac29 : AC :=
  .seq (.reg [⟨(some 2), .mv (.c (.sl .full 3 [])), none⟩,
     ⟨(some 3), .alloc [(.int .i64 0), (.int .i64 0)], none⟩])
  (.seq (.reg [⟨(some 4), .mv (.c (.sl .full 3 [])), none⟩])
   (.seq (.reg [⟨(some 5), .mv (.c (.int .i64 0)), none⟩])
    (.seq (.block 0 (.loop (.seq (.seq (.reg [⟨(some 8), .mv (.s 5), none⟩,
            ⟨(some 9), .mv (.s 0), none⟩,
            ⟨(some 10), .lenT (.s 9), none⟩,
            ⟨(some 11), .binI .lss (.s 8) (.s 10), none⟩])
         (.cond (.s 11) (.skip)
          (.exit 0)))
        (.block 1 (.seq (.reg [⟨(some 12), .mv (.s 0), none⟩,
             ⟨(some 13), .mv (.s 5), none⟩,
             ⟨(some 14), .idxS (.s 12) (.s 13), none⟩,
             ⟨(some 6), .mv (.s 14), none⟩])
          (.seq (.reg [⟨(some 15), .mv (.s 0), none⟩,
              ⟨(some 16), .mv (.s 5), none⟩,
              ⟨(some 17), .call 57 [(.s 15), (.s 16)], none⟩,
              ⟨(some 7), .mv (.s 17), none⟩])
           (.seq (.seq (.reg [⟨(some 18), .mv (.s 6), none⟩,
                ⟨(some 19), .binI .eql (.s 18) (.c (.int .u8 45)), none⟩,
                ⟨(some 20), .mv (.s 19), none⟩,
                ⟨(some 21), .mv (.s 5), (some (20, true))⟩,
                ⟨(some 22), .binI .add (.s 21) (.c (.int .i64 1)), (some (20, true))⟩,
                ⟨(some 23), .mv (.s 0), (some (20, true))⟩,
                ⟨(some 24), .lenT (.s 23), (some (20, true))⟩,
                ⟨(some 25), .binI .lss (.s 22) (.s 24), (some (20, true))⟩,
                ⟨(some 26), .pick (.s 20) (.s 25) (.c (.bool false)), none⟩,
                ⟨(some 27), .mv (.s 26), none⟩,
                ⟨(some 28), .mv (.s 0), (some (27, true))⟩,
                ⟨(some 29), .mv (.s 5), (some (27, true))⟩,
                ⟨(some 30), .binI .add (.s 29) (.c (.int .i64 1)), (some (27, true))⟩,
                ⟨(some 31), .idxS (.s 28) (.s 30), (some (27, true))⟩,
                ⟨(some 32), .binI .eql (.s 31) (.c (.int .u8 45)), (some (27, true))⟩,
                ⟨(some 33), .pick (.s 27) (.s 32) (.c (.bool false)), none⟩])
             (.cond (.s 33) (.seq (.reg [⟨(some 34), .mv (.s 4), none⟩,
                  ⟨(some 35), .build [(.int .i64 0), (.int .i64 0)] [], none⟩,
                  ⟨(some 2), .mv (.s 34), none⟩,
                  ⟨none, .store 2 (.s 3) (.s 35), none⟩])
               (.ret))
              (.skip)))
            (.seq (.reg [⟨(some 36), .mv (.s 7), none⟩,
                ⟨(some 37), .binI .gtr (.s 36) (.c (.int .i64 0)), none⟩,
                ⟨(some 38), .mv (.s 37), none⟩,
                ⟨(some 39), .mv (.s 0), (some (38, true))⟩,
                ⟨(some 40), .mv (.s 5), (some (38, true))⟩,
                ⟨(some 41), .mv (.s 5), (some (38, true))⟩,
                ⟨(some 42), .mv (.s 7), (some (38, true))⟩,
                ⟨(some 43), .binI .add (.s 41) (.s 42), (some (38, true))⟩,
                ⟨(some 44), .slS (.s 39) (some (.s 40)) (some (.s 43)), (some (38, true))⟩,
                ⟨(some 45), .call 54 [(.s 44)], (some (38, true))⟩,
                ⟨(some 46), .pick (.s 38) (.s 45) (.c (.bool false)), none⟩])
             (.cond (.s 46) (.seq (.reg [⟨(some 47), .mv (.s 4), none⟩,
                  ⟨(some 48), .mv (.s 0), none⟩,
                  ⟨(some 49), .mv (.s 5), none⟩,
                  ⟨(some 50), .mv (.s 5), none⟩,
                  ⟨(some 51), .mv (.s 7), none⟩,
                  ⟨(some 52), .binI .add (.s 50) (.s 51), none⟩,
                  ⟨(some 53), .slS (.s 48) (some (.s 49)) (some (.s 52)), none⟩,
                  ⟨(some 54), .mv (.s 5), none⟩,
                  ⟨(some 55), .build [(.int .u8 0), (.str []), (.int .i64 0)] [(0, 1, (.c (.int .u8 97))), (1, 1, (.s 53)), (2, 1, (.s 54))], none⟩,
                  ⟨(some 56), .bslice 3 [(.s 55)], none⟩,
                  ⟨(some 57), .app 3 (.s 47) (.s 56), none⟩,
                  ⟨(some 4), .mv (.s 57), none⟩])
               (.reg [⟨(some 58), .mv (.s 5), none⟩,
                  ⟨(some 59), .mv (.s 7), none⟩,
                  ⟨(some 60), .binI .add (.s 58) (.s 59), none⟩,
                  ⟨(some 5), .mv (.s 60), none⟩]))
              (.seq (.reg [⟨(some 61), .mv (.s 6), none⟩,
                  ⟨(some 62), .call 58 [(.s 61)], none⟩])
               (.cond (.s 62) (.seq (.reg [⟨(some 63), .mv (.s 4), none⟩,
                    ⟨(some 64), .mv (.s 6), none⟩,
                    ⟨(some 65), .mv (.s 0), none⟩,
                    ⟨(some 66), .mv (.s 5), none⟩,
                    ⟨(some 67), .mv (.s 5), none⟩,
                    ⟨(some 68), .binI .add (.s 67) (.c (.int .i64 1)), none⟩,
                    ⟨(some 69), .slS (.s 65) (some (.s 66)) (some (.s 68)), none⟩,
                    ⟨(some 70), .mv (.s 5), none⟩,
                    ⟨(some 71), .build [(.int .u8 0), (.str []), (.int .i64 0)] [(0, 1, (.s 64)), (1, 1, (.s 69)), (2, 1, (.s 70))], none⟩,
                    ⟨(some 72), .bslice 3 [(.s 71)], none⟩,
                    ⟨(some 73), .app 3 (.s 63) (.s 72), none⟩,
                    ⟨(some 4), .mv (.s 73), none⟩])
                 (.reg [⟨(some 74), .mv (.s 5), none⟩,
                    ⟨(some 75), .binI .add (.s 74) (.c (.int .i64 1)), none⟩,
                    ⟨(some 5), .mv (.s 75), none⟩]))
                (.seq (.reg [⟨(some 76), .mv (.s 6), none⟩,
                    ⟨(some 77), .binI .eql (.s 76) (.c (.int .u8 32)), none⟩,
                    ⟨(some 78), .mv (.s 77), none⟩,
                    ⟨(some 79), .mv (.s 6), (some (78, false))⟩,
                    ⟨(some 80), .binI .eql (.s 79) (.c (.int .u8 9)), (some (78, false))⟩,
                    ⟨(some 81), .pick (.s 78) (.c (.bool true)) (.s 80), none⟩])
                 (.cond (.s 81) (.reg [⟨(some 82), .mv (.s 5), none⟩,
                     ⟨(some 83), .binI .add (.s 82) (.c (.int .i64 1)), none⟩,
                     ⟨(some 5), .mv (.s 83), none⟩])
                  (.seq (.reg [⟨(some 84), .mv (.s 5), none⟩,
                      ⟨(some 85), .build [(.int .i64 0), (.int .i64 0)] [(0, 1, (.c (.int .i64 1))), (1, 1, (.s 84))], none⟩,
                      ⟨(some 2), .mv (.c (.sl .full 3 [])), none⟩,
                      ⟨none, .store 2 (.s 3) (.s 85), none⟩])
                   (.ret)))))))))))))))
     (.seq (.reg [⟨(some 86), .mv (.s 4), none⟩,
         ⟨(some 87), .build [(.int .i64 0), (.int .i64 0)] [], none⟩,
         ⟨(some 2), .mv (.s 86), none⟩,
         ⟨none, .store 2 (.s 3) (.s 87), none⟩])
      (.ret)))))
theorem fn29 : IsFn prog 29 ac29 [.tmp 2, .cell 3 true 2] 88 := ⟨f29, ⟨[], []⟩, func29, by kernel_rfl, by kernel_rfl, by kernel_rfl, by kernel_rfl⟩

/-- clearance/clearanceref09.Read -/
def ac30 : AC :=
  .seq (.reg [⟨(some 2), .mv (.c (.sl .full 5 [])), none⟩,
     ⟨(some 3), .alloc [(.int .i64 0), (.int .i64 0)], none⟩])
  (.seq (.reg [⟨(some 5), .mv (.s 0), none⟩,
      ⟨(some 6), .call 59 [(.s 5)], none⟩,
      ⟨(some 4), .mv (.s 6), none⟩])
   (.seq (.seq (.reg [⟨(some 7), .mv (.s 4), none⟩,
        ⟨(some 8), .binI .geq (.s 7) (.c (.int .i64 0)), none⟩])
     (.cond (.s 8) (.seq (.draw [(⟨(some 9), .mv (.s 0), none⟩, []),
          (⟨(some 10), .mv (.s 4), none⟩, []),
          (⟨(some 11), .idxA 3 (.s 9) (.s 10), none⟩, []),
          (⟨(some 12), .fld 2 (.s 11), none⟩, []),
          (⟨(some 13), .load false 1 (.s 12), none⟩, []),
          (⟨(some 14), .build [(.int .i64 0), (.int .i64 0)] [(0, 1, (.c (.int .i64 2))), (1, 1, (.s 13))], none⟩, []),
          (⟨(some 2), .mv (.c (.sl .full 5 [])), none⟩, []),
          (⟨none, .store 2 (.s 3) (.s 14), none⟩, [])])
       (.ret))
      (.skip)))
    (.seq (.reg [⟨(some 15), .mv (.s 0), none⟩,
        ⟨(some 16), .mv (.s 0), none⟩,
        ⟨(some 17), .lenS (.s 16), none⟩,
        ⟨(some 18), .call 60 [(.s 15), (.c (.int .i64 0)), (.s 17)], none⟩,
        ⟨(some 19), .build [(.int .i64 0), (.int .i64 0)] [], none⟩,
        ⟨(some 2), .mv (.s 18), none⟩,
        ⟨none, .store 2 (.s 3) (.s 19), none⟩])
     (.ret))))
theorem fn30 : IsFn prog 30 ac30 [.tmp 2, .cell 3 true 2] 20 := ⟨f30, ⟨[], []⟩, func30, by kernel_rfl, by kernel_rfl, by kernel_rfl, by kernel_rfl⟩

/-- clearance/clearanceref09.closing -/
def ac51 : AC :=
  .seq (.reg [⟨(some 2), .mv (.c (.int .u8 0)), none⟩])
  (.seq (.seq (.reg [⟨(some 3), .mv (.s 0), none⟩,
       ⟨(some 4), .binI .eql (.s 3) (.c (.int .u8 40)), none⟩])
    (.cond (.s 4) (.seq (.reg [⟨(some 2), .mv (.c (.int .u8 41)), none⟩])
      (.ret))
     (.skip)))
   (.seq (.seq (.reg [⟨(some 5), .mv (.s 0), none⟩,
        ⟨(some 6), .binI .eql (.s 5) (.c (.int .u8 123)), none⟩,
        ⟨(some 7), .mv (.s 6), none⟩,
        ⟨(some 8), .mv (.s 0), (some (7, false))⟩,
        ⟨(some 9), .binI .eql (.s 8) (.c (.int .u8 91)), (some (7, false))⟩,
        ⟨(some 10), .pick (.s 7) (.c (.bool true)) (.s 9), none⟩])
     (.cond (.s 10) (.seq (.reg [⟨(some 11), .mv (.s 0), none⟩,
          ⟨(some 12), .binI .add (.s 11) (.c (.int .u8 2)), none⟩,
          ⟨(some 2), .mv (.s 12), none⟩])
       (.ret))
      (.skip)))
    (.seq (.reg [⟨(some 2), .mv (.c (.int .u8 0)), none⟩])
     (.ret))))
theorem fn51 : IsFn prog 51 ac51 [.tmp 2] 13 := ⟨f51, ⟨[], []⟩, func51, by kernel_rfl, by kernel_rfl, by kernel_rfl, by kernel_rfl⟩

/-- clearance/clearanceref08.run -/
def ac57 : AC :=
  .seq (.reg [⟨(some 4), .mv (.c (.int .i64 0)), none⟩])
  (.seq (.reg [⟨(some 5), .mv (.c (.int .i64 0)), none⟩])
   (.seq (.block 0 (.loop (.seq (.seq (.reg [⟨(some 6), .mv (.s 1), none⟩,
           ⟨(some 7), .mv (.s 5), none⟩,
           ⟨(some 8), .binI .add (.s 6) (.s 7), none⟩,
           ⟨(some 9), .mv (.s 0), none⟩,
           ⟨(some 10), .lenT (.s 9), none⟩,
           ⟨(some 11), .binI .lss (.s 8) (.s 10), none⟩,
           ⟨(some 12), .mv (.s 11), none⟩,
           ⟨(some 13), .mv (.s 0), (some (12, true))⟩,
           ⟨(some 14), .mv (.s 1), (some (12, true))⟩,
           ⟨(some 15), .mv (.s 5), (some (12, true))⟩,
           ⟨(some 16), .binI .add (.s 14) (.s 15), (some (12, true))⟩,
           ⟨(some 17), .idxS (.s 13) (.s 16), (some (12, true))⟩,
           ⟨(some 18), .call 81 [(.s 17)], (some (12, true))⟩,
           ⟨(some 19), .pick (.s 12) (.s 18) (.c (.bool false)), none⟩])
        (.cond (.s 19) (.skip)
         (.exit 0)))
       (.block 1 (.reg [⟨(some 20), .mv (.s 5), none⟩,
           ⟨(some 21), .binI .add (.s 20) (.c (.int .i64 1)), none⟩,
           ⟨(some 5), .mv (.s 21), none⟩])))))
    (.seq (.reg [⟨(some 22), .mv (.s 5), none⟩,
        ⟨(some 4), .mv (.s 22), none⟩])
     (.ret))))
theorem fn57 : IsFn prog 57 ac57 [.tmp 4] 23 := ⟨f57, ⟨[], []⟩, func57, by kernel_rfl, by kernel_rfl, by kernel_rfl, by kernel_rfl⟩

/-- clearance/clearanceref08.sign -/
def ac58 : AC :=
  .seq (.reg [⟨(some 2), .mv (.c (.bool false)), none⟩])
  (.seq (.reg [⟨(some 5), .bslice 1 [(.c (.int .u8 35)), (.c (.int .u8 43)), (.c (.int .u8 38)), (.c (.int .u8 40)), (.c (.int .u8 41)), (.c (.int .u8 123)), (.c (.int .u8 125)), (.c (.int .u8 91)), (.c (.int .u8 93)), (.c (.int .u8 44)), (.c (.int .u8 58)), (.c (.int .u8 61)), (.c (.int .u8 124)), (.c (.int .u8 60))], none⟩,
      ⟨(some 3), .mv (.s 5), none⟩])
   (.seq (.seq (.reg [⟨(some 4), .mv (.c (.int .i64 0)), none⟩])
     (.block 0 (.loop (.seq (.seq (.reg [⟨(some 6), .mv (.s 4), none⟩,
            ⟨(some 7), .mv (.s 3), none⟩,
            ⟨(some 8), .lenS (.s 7), none⟩,
            ⟨(some 9), .binI .lss (.s 6) (.s 8), none⟩])
         (.cond (.s 9) (.skip)
          (.exit 0)))
        (.seq (.block 1 (.seq (.reg [⟨(some 12), .mv (.s 3), none⟩,
              ⟨(some 13), .mv (.s 4), none⟩,
              ⟨(some 14), .idxA 1 (.s 12) (.s 13), none⟩,
              ⟨(some 15), .load false 1 (.s 14), none⟩,
              ⟨(some 16), .mv (.s 0), none⟩,
              ⟨(some 17), .binI .eql (.s 15) (.s 16), none⟩])
           (.cond (.s 17) (.seq (.reg [⟨(some 2), .mv (.c (.bool true)), none⟩])
             (.ret))
            (.skip))))
         (.reg [⟨(some 10), .mv (.s 4), none⟩,
            ⟨(some 11), .binI .add (.s 10) (.c (.int .i64 1)), none⟩,
            ⟨(some 4), .mv (.s 11), none⟩]))))))
    (.seq (.reg [⟨(some 2), .mv (.c (.bool false)), none⟩])
     (.ret))))
theorem fn58 : IsFn prog 58 ac58 [.tmp 2] 18 := ⟨f58, ⟨[], []⟩, func58, by kernel_rfl, by kernel_rfl, by kernel_rfl, by kernel_rfl⟩

/-- clearance/clearanceref09.fault -/
def ac59 : AC :=
  .seq (.reg [⟨(some 2), .mv (.c (.int .i64 0)), none⟩])
  (.seq (.reg [⟨(some 3), .own .nil [], none⟩])
   (.seq (.seq (.reg [⟨(some 4), .mv (.c (.int .i64 0)), none⟩])
     (.block 0 (.loop (.seq (.seq (.reg [⟨(some 6), .mv (.s 4), none⟩,
            ⟨(some 7), .mv (.s 0), none⟩,
            ⟨(some 8), .lenS (.s 7), none⟩,
            ⟨(some 9), .binI .lss (.s 6) (.s 8), none⟩])
         (.cond (.s 9) (.skip)
          (.exit 0)))
        (.seq (.block 1 (.seq (.reg [⟨(some 12), .mv (.s 0), none⟩,
              ⟨(some 13), .mv (.s 4), none⟩,
              ⟨(some 14), .idxA 3 (.s 12) (.s 13), none⟩,
              ⟨(some 15), .fld 0 (.s 14), none⟩,
              ⟨(some 16), .load false 1 (.s 15), none⟩,
              ⟨(some 5), .mv (.s 16), none⟩])
           (.seq (.seq (.reg [⟨(some 17), .mv (.s 5), none⟩,
                ⟨(some 18), .call 51 [(.s 17)], none⟩,
                ⟨(some 19), .binI .neq (.s 18) (.c (.int .u8 0)), none⟩])
             (.cond (.s 19) (.seq (.seq (.reg [⟨(some 20), .mv (.s 3), none⟩,
                   ⟨(some 21), .own .len [(.s 20)], none⟩,
                   ⟨(some 22), .binI .geq (.s 21) (.c (.int .i64 24)), none⟩])
                (.cond (.s 22) (.seq (.reg [⟨(some 23), .mv (.s 4), none⟩,
                     ⟨(some 2), .mv (.s 23), none⟩])
                  (.ret))
                 (.skip)))
               (.reg [⟨(some 24), .mv (.s 3), none⟩,
                  ⟨(some 25), .mv (.s 4), none⟩,
                  ⟨(some 26), .bslice 1 [(.s 25)], none⟩,
                  ⟨(some 27), .own (.app 1) [(.s 24), (.s 26)], none⟩,
                  ⟨(some 3), .mv (.s 27), none⟩]))
              (.skip)))
            (.seq (.reg [⟨(some 28), .mv (.s 5), none⟩,
                ⟨(some 29), .call 82 [(.s 28)], none⟩])
             (.cond (.s 29) (.seq (.seq (.reg [⟨(some 30), .mv (.s 3), none⟩,
                   ⟨(some 31), .own .len [(.s 30)], none⟩,
                   ⟨(some 32), .binI .eql (.s 31) (.c (.int .i64 0)), none⟩,
                   ⟨(some 33), .mv (.s 32), none⟩,
                   ⟨(some 34), .mv (.s 0), (some (33, false))⟩,
                   ⟨(some 35), .mv (.s 3), (some (33, false))⟩,
                   ⟨(some 36), .mv (.s 3), (some (33, false))⟩,
                   ⟨(some 37), .own .len [(.s 36)], (some (33, false))⟩,
                   ⟨(some 38), .binI .sub (.s 37) (.c (.int .i64 1)), (some (33, false))⟩,
                   ⟨(some 39), .own (.idx 1) [(.s 35), (.s 38)], (some (33, false))⟩,
                   ⟨(some 40), .load false 1 (.s 39), (some (33, false))⟩,
                   ⟨(some 41), .idxA 3 (.s 34) (.s 40), (some (33, false))⟩,
                   ⟨(some 42), .fld 0 (.s 41), (some (33, false))⟩,
                   ⟨(some 43), .load false 1 (.s 42), (some (33, false))⟩,
                   ⟨(some 44), .call 51 [(.s 43)], (some (33, false))⟩,
                   ⟨(some 45), .mv (.s 5), (some (33, false))⟩,
                   ⟨(some 46), .binI .neq (.s 44) (.s 45), (some (33, false))⟩,
                   ⟨(some 47), .pick (.s 33) (.c (.bool true)) (.s 46), none⟩])
                (.cond (.s 47) (.seq (.reg [⟨(some 48), .mv (.s 4), none⟩,
                     ⟨(some 2), .mv (.s 48), none⟩])
                  (.ret))
                 (.skip)))
               (.reg [⟨(some 49), .mv (.s 3), none⟩,
                  ⟨(some 50), .mv (.s 3), none⟩,
                  ⟨(some 51), .own .len [(.s 50)], none⟩,
                  ⟨(some 52), .binI .sub (.s 51) (.c (.int .i64 1)), none⟩,
                  ⟨(some 53), .own (.slc 1 false true false) [(.s 49), (.s 52)], none⟩,
                  ⟨(some 3), .mv (.s 53), none⟩]))
              (.skip))))))
         (.reg [⟨(some 10), .mv (.s 4), none⟩,
            ⟨(some 11), .binI .add (.s 10) (.c (.int .i64 1)), none⟩,
            ⟨(some 4), .mv (.s 11), none⟩]))))))
    (.seq (.seq (.reg [⟨(some 54), .mv (.s 3), none⟩,
         ⟨(some 55), .own .len [(.s 54)], none⟩,
         ⟨(some 56), .binI .gtr (.s 55) (.c (.int .i64 0)), none⟩])
      (.cond (.s 56) (.seq (.reg [⟨(some 57), .mv (.s 3), none⟩,
           ⟨(some 58), .mv (.s 3), none⟩,
           ⟨(some 59), .own .len [(.s 58)], none⟩,
           ⟨(some 60), .binI .sub (.s 59) (.c (.int .i64 1)), none⟩,
           ⟨(some 61), .own (.idx 1) [(.s 57), (.s 60)], none⟩,
           ⟨(some 62), .load false 1 (.s 61), none⟩,
           ⟨(some 2), .mv (.s 62), none⟩])
        (.ret))
       (.skip)))
     (.seq (.reg [⟨(some 2), .mv (.c (.int .i64 (-1))), none⟩])
      (.ret)))))
theorem fn59 : IsFn prog 59 ac59 [.tmp 2] 63 := ⟨f59, ⟨[3, 21, 27, 31, 37, 39, 51, 53, 55, 59, 61], []⟩, func59, by kernel_rfl, by kernel_rfl, by kernel_rfl, by kernel_rfl⟩

/-- clearance/clearanceref09.trees -/
def ac60 : AC :=
  .seq (.reg [⟨(some 6), .mv (.c (.sl .full 5 [])), none⟩])
  (.seq (.reg [⟨(some 7), .mv (.c (.sl .full 5 [])), none⟩])
   (.seq (.seq (.reg [⟨(some 11), .mv (.s 1), none⟩,
        ⟨(some 8), .mv (.s 11), none⟩])
     (.block 0 (.loop (.seq (.seq (.reg [⟨(some 12), .mv (.s 8), none⟩,
            ⟨(some 13), .mv (.s 2), none⟩,
            ⟨(some 14), .binI .lss (.s 12) (.s 13), none⟩])
         (.cond (.s 14) (.skip)
          (.exit 0)))
        (.seq (.block 1 (.seq (.draw [(⟨(some 17), .mv (.s 0), none⟩, []),
              (⟨(some 18), .mv (.s 8), none⟩, []),
              (⟨(some 19), .idxA 3 (.s 17) (.s 18), none⟩, []),
              (⟨(some 20), .load true 3 (.s 19), none⟩, [1]),
              (⟨(some 21), .mv (.s 0), none⟩, []),
              (⟨(some 22), .mv (.s 8), none⟩, []),
              (⟨(some 23), .idxA 3 (.s 21) (.s 22), none⟩, []),
              (⟨(some 24), .fld 2 (.s 23), none⟩, []),
              (⟨(some 25), .load false 1 (.s 24), none⟩, [1]),
              (⟨(some 26), .build [(.int .u8 0), (.str []), (.int .i64 0), (.sl .full 5 []), (.int .i64 0)] [(0, 3, (.s 20)), (4, 1, (.s 25))], none⟩, []),
              (⟨(some 9), .alloc [(.int .u8 0), (.str []), (.int .i64 0), (.sl .full 5 []), (.int .i64 0)], none⟩, []),
              (⟨none, .store 5 (.s 9) (.s 26), none⟩, [])])
           (.seq (.seq (.reg [⟨(some 27), .mv (.s 0), none⟩,
                ⟨(some 28), .mv (.s 8), none⟩,
                ⟨(some 29), .idxA 3 (.s 27) (.s 28), none⟩,
                ⟨(some 30), .fld 0 (.s 29), none⟩,
                ⟨(some 31), .load false 1 (.s 30), none⟩,
                ⟨(some 32), .call 51 [(.s 31)], none⟩,
                ⟨(some 33), .binI .neq (.s 32) (.c (.int .u8 0)), none⟩])
             (.cond (.s 33) (.seq (.reg [⟨(some 34), .mv (.s 0), none⟩,
                  ⟨(some 35), .mv (.s 8), none⟩,
                  ⟨(some 36), .call 83 [(.s 34), (.s 35)], none⟩,
                  ⟨(some 10), .mv (.s 36), none⟩])
               (.seq (.reg [⟨(some 37), .mv (.s 0), none⟩,
                   ⟨(some 38), .mv (.s 8), none⟩,
                   ⟨(some 39), .binI .add (.s 38) (.c (.int .i64 1)), none⟩,
                   ⟨(some 40), .mv (.s 10), none⟩,
                   ⟨(some 41), .call 60 [(.s 37), (.s 39), (.s 40)], none⟩,
                   ⟨(some 42), .fld 3 (.s 9), none⟩,
                   ⟨none, .store 1 (.s 42) (.s 41), none⟩])
                (.seq (.reg [⟨(some 43), .mv (.s 0), none⟩,
                    ⟨(some 44), .mv (.s 10), none⟩,
                    ⟨(some 45), .idxA 3 (.s 43) (.s 44), none⟩,
                    ⟨(some 46), .fld 2 (.s 45), none⟩,
                    ⟨(some 47), .load false 1 (.s 46), none⟩,
                    ⟨(some 48), .fld 4 (.s 9), none⟩,
                    ⟨none, .store 1 (.s 48) (.s 47), none⟩])
                 (.reg [⟨(some 49), .mv (.s 10), none⟩,
                    ⟨(some 8), .mv (.s 49), none⟩]))))
              (.skip)))
            (.reg [⟨(some 50), .mv (.s 7), none⟩,
               ⟨(some 51), .load true 5 (.s 9), none⟩,
               ⟨(some 52), .bslice 5 [(.s 51)], none⟩,
               ⟨(some 53), .app 5 (.s 50) (.s 52), none⟩,
               ⟨(some 7), .mv (.s 53), none⟩]))))
         (.reg [⟨(some 15), .mv (.s 8), none⟩,
            ⟨(some 16), .binI .add (.s 15) (.c (.int .i64 1)), none⟩,
            ⟨(some 8), .mv (.s 16), none⟩]))))))
    (.seq (.reg [⟨(some 54), .mv (.s 7), none⟩,
        ⟨(some 6), .mv (.s 54), none⟩])
     (.ret))))
theorem fn60 : IsFn prog 60 ac60 [.tmp 6] 55 := ⟨f60, ⟨[], []⟩, func60, by kernel_rfl, by kernel_rfl, by kernel_rfl, by kernel_rfl⟩

/-- clearance/clearanceref08.goes -/
def ac81 : AC :=
  .seq (.reg [⟨(some 2), .mv (.c (.bool false)), none⟩])
  (.seq (.reg [⟨(some 3), .mv (.s 0), none⟩,
      ⟨(some 4), .binI .geq (.s 3) (.c (.int .u8 97)), none⟩,
      ⟨(some 5), .mv (.s 4), none⟩,
      ⟨(some 6), .mv (.s 0), (some (5, true))⟩,
      ⟨(some 7), .binI .leq (.s 6) (.c (.int .u8 122)), (some (5, true))⟩,
      ⟨(some 8), .pick (.s 5) (.s 7) (.c (.bool false)), none⟩,
      ⟨(some 9), .mv (.s 8), none⟩,
      ⟨(some 10), .mv (.s 0), (some (9, false))⟩,
      ⟨(some 11), .binI .geq (.s 10) (.c (.int .u8 48)), (some (9, false))⟩,
      ⟨(some 12), .mv (.s 11), (some (9, false))⟩,
      ⟨(some 13), .mv (.s 0), (some (12, true))⟩,
      ⟨(some 14), .binI .leq (.s 13) (.c (.int .u8 57)), (some (12, true))⟩,
      ⟨(some 15), .pick (.s 12) (.s 14) (.c (.bool false)), (some (9, false))⟩,
      ⟨(some 16), .pick (.s 9) (.c (.bool true)) (.s 15), none⟩,
      ⟨(some 17), .mv (.s 16), none⟩,
      ⟨(some 18), .mv (.s 0), (some (17, false))⟩,
      ⟨(some 19), .binI .eql (.s 18) (.c (.int .u8 95)), (some (17, false))⟩,
      ⟨(some 20), .pick (.s 17) (.c (.bool true)) (.s 19), none⟩,
      ⟨(some 2), .mv (.s 20), none⟩])
   (.ret))
theorem fn81 : IsFn prog 81 ac81 [.tmp 2] 21 := ⟨f81, ⟨[], []⟩, func81, by kernel_rfl, by kernel_rfl, by kernel_rfl, by kernel_rfl⟩

/-- clearance/clearanceref09.closes -/
def ac82 : AC :=
  .seq (.reg [⟨(some 2), .mv (.c (.bool false)), none⟩])
  (.seq (.reg [⟨(some 3), .mv (.s 0), none⟩,
      ⟨(some 4), .binI .eql (.s 3) (.c (.int .u8 41)), none⟩,
      ⟨(some 5), .mv (.s 4), none⟩,
      ⟨(some 6), .mv (.s 0), (some (5, false))⟩,
      ⟨(some 7), .binI .eql (.s 6) (.c (.int .u8 125)), (some (5, false))⟩,
      ⟨(some 8), .pick (.s 5) (.c (.bool true)) (.s 7), none⟩,
      ⟨(some 9), .mv (.s 8), none⟩,
      ⟨(some 10), .mv (.s 0), (some (9, false))⟩,
      ⟨(some 11), .binI .eql (.s 10) (.c (.int .u8 93)), (some (9, false))⟩,
      ⟨(some 12), .pick (.s 9) (.c (.bool true)) (.s 11), none⟩,
      ⟨(some 2), .mv (.s 12), none⟩])
   (.ret))
theorem fn82 : IsFn prog 82 ac82 [.tmp 2] 13 := ⟨f82, ⟨[], []⟩, func82, by kernel_rfl, by kernel_rfl, by kernel_rfl, by kernel_rfl⟩

/-- clearance/clearanceref09.partner -/
def ac83 : AC :=
  .seq (.reg [⟨(some 4), .mv (.c (.int .i64 0)), none⟩])
  (.seq (.reg [⟨(some 5), .mv (.c (.int .i64 0)), none⟩])
   (.seq (.seq (.reg [⟨(some 7), .mv (.s 1), none⟩,
        ⟨(some 6), .mv (.s 7), none⟩])
     (.block 0 (.loop (.seq (.seq (.reg [⟨(some 8), .mv (.s 6), none⟩,
            ⟨(some 9), .mv (.s 0), none⟩,
            ⟨(some 10), .lenS (.s 9), none⟩,
            ⟨(some 11), .binI .lss (.s 8) (.s 10), none⟩])
         (.cond (.s 11) (.skip)
          (.exit 0)))
        (.seq (.block 1 (.seq (.seq (.reg [⟨(some 14), .mv (.s 0), none⟩,
               ⟨(some 15), .mv (.s 6), none⟩,
               ⟨(some 16), .idxA 3 (.s 14) (.s 15), none⟩,
               ⟨(some 17), .fld 0 (.s 16), none⟩,
               ⟨(some 18), .load false 1 (.s 17), none⟩,
               ⟨(some 19), .call 51 [(.s 18)], none⟩,
               ⟨(some 20), .binI .neq (.s 19) (.c (.int .u8 0)), none⟩])
            (.cond (.s 20) (.reg [⟨(some 21), .mv (.s 5), none⟩,
                ⟨(some 22), .binI .add (.s 21) (.c (.int .i64 1)), none⟩,
                ⟨(some 5), .mv (.s 22), none⟩])
             (.skip)))
           (.seq (.seq (.reg [⟨(some 23), .mv (.s 0), none⟩,
                ⟨(some 24), .mv (.s 6), none⟩,
                ⟨(some 25), .idxA 3 (.s 23) (.s 24), none⟩,
                ⟨(some 26), .fld 0 (.s 25), none⟩,
                ⟨(some 27), .load false 1 (.s 26), none⟩,
                ⟨(some 28), .call 82 [(.s 27)], none⟩])
             (.cond (.s 28) (.reg [⟨(some 29), .mv (.s 5), none⟩,
                 ⟨(some 30), .binI .sub (.s 29) (.c (.int .i64 1)), none⟩,
                 ⟨(some 5), .mv (.s 30), none⟩])
              (.skip)))
            (.seq (.reg [⟨(some 31), .mv (.s 5), none⟩,
                ⟨(some 32), .binI .eql (.s 31) (.c (.int .i64 0)), none⟩])
             (.cond (.s 32) (.seq (.reg [⟨(some 33), .mv (.s 6), none⟩,
                  ⟨(some 4), .mv (.s 33), none⟩])
               (.ret))
              (.skip))))))
         (.reg [⟨(some 12), .mv (.s 6), none⟩,
            ⟨(some 13), .binI .add (.s 12) (.c (.int .i64 1)), none⟩,
            ⟨(some 6), .mv (.s 13), none⟩]))))))
    (.seq (.reg [⟨(some 34), .mv (.s 1), none⟩,
        ⟨(some 4), .mv (.s 34), none⟩])
     (.ret))))
theorem fn83 : IsFn prog 83 ac83 [.tmp 4] 35 := ⟨f83, ⟨[], []⟩, func83, by kernel_rfl, by kernel_rfl, by kernel_rfl, by kernel_rfl⟩

/-- clearance/clearancelaw10.trees -/
def ac12 : AC :=
  .seq (.reg [⟨(some 2), .mv (.c (.sl .full 5 [])), none⟩])
  (.seq (.reg [⟨(some 8), .mv (.s 0), none⟩,
      ⟨(some 9), .call 29 [(.s 8)], none⟩,
      ⟨(some 7), .mv (.s 9), none⟩,
      ⟨(some 10), .ext (.s 7) 0, none⟩,
      ⟨(some 11), .ext (.s 7) 1, none⟩,
      ⟨(some 4), .alloc [(.int .i64 0), (.int .i64 0)], none⟩,
      ⟨(some 3), .mv (.s 10), none⟩,
      ⟨none, .store 2 (.s 4) (.s 11), none⟩])
   (.seq (.reg [⟨(some 13), .mv (.s 3), none⟩,
       ⟨(some 14), .call 30 [(.s 13)], none⟩,
       ⟨(some 12), .mv (.s 14), none⟩,
       ⟨(some 15), .ext (.s 12) 0, none⟩,
       ⟨(some 16), .ext (.s 12) 1, none⟩,
       ⟨(some 6), .alloc [(.int .i64 0), (.int .i64 0)], none⟩,
       ⟨(some 5), .mv (.s 15), none⟩,
       ⟨none, .store 2 (.s 6) (.s 16), none⟩])
    (.seq (.reg [⟨(some 17), .mv (.s 5), none⟩,
        ⟨(some 2), .mv (.s 17), none⟩])
     (.ret))))
theorem fn12 : IsFn prog 12 ac12 [.tmp 2] 18 := ⟨f12, ⟨[], []⟩, func12, by kernel_rfl, by kernel_rfl, by kernel_rfl, by kernel_rfl⟩

/-- clearance/clearancelaw10.alive -/
def ac8 : AC :=
  .seq (.reg [⟨(some 0), .mv (.c (.bool false)), none⟩])
  (.seq (.reg [⟨(some 11), .call 12 [(.c (.str [43, 40, 120, 44, 35, 123, 97, 44, 98, 125, 41]))], none⟩,
      ⟨(some 12), .call 15 [(.s 11), (.c (.int .i64 0)), (.c (.int .i64 20))], none⟩,
      ⟨(some 10), .mv (.s 12), none⟩,
      ⟨(some 13), .ext (.s 10) 0, none⟩,
      ⟨(some 14), .ext (.s 10) 1, none⟩,
      ⟨(some 15), .ext (.s 10) 2, none⟩,
      ⟨(some 1), .alloc [(.int .i64 0), (.int .i64 0), (.str []), (.sl .full 2 []), (.sl .full 5 [])], none⟩,
      ⟨(some 3), .alloc [(.int .i64 0), (.int .i64 0)], none⟩,
      ⟨none, .store 5 (.s 1) (.s 13), none⟩,
      ⟨(some 2), .mv (.s 14), none⟩,
      ⟨none, .store 2 (.s 3) (.s 15), none⟩])
   (.seq (.reg [⟨(some 17), .call 12 [(.c (.str [43, 40, 41]))], none⟩,
       ⟨(some 18), .call 15 [(.s 17), (.c (.int .i64 0)), (.c (.int .i64 20))], none⟩,
       ⟨(some 16), .mv (.s 18), none⟩,
       ⟨(some 19), .ext (.s 16) 0, none⟩,
       ⟨(some 20), .ext (.s 16) 1, none⟩,
       ⟨(some 21), .ext (.s 16) 2, none⟩,
       ⟨(some 4), .alloc [(.int .i64 0), (.int .i64 0), (.str []), (.sl .full 2 []), (.sl .full 5 [])], none⟩,
       ⟨(some 6), .alloc [(.int .i64 0), (.int .i64 0)], none⟩,
       ⟨none, .store 5 (.s 4) (.s 19), none⟩,
       ⟨(some 5), .mv (.s 20), none⟩,
       ⟨none, .store 2 (.s 6) (.s 21), none⟩])
    (.seq (.reg [⟨(some 23), .call 12 [(.c (.str [91, 102, 61, 120, 44, 103, 61, 35, 104, 105, 124, 114, 93]))], none⟩,
        ⟨(some 24), .call 17 [(.s 23), (.c (.int .i64 0)), (.c (.int .i64 20))], none⟩,
        ⟨(some 22), .mv (.s 24), none⟩,
        ⟨(some 25), .ext (.s 22) 0, none⟩,
        ⟨(some 26), .ext (.s 22) 1, none⟩,
        ⟨(some 27), .ext (.s 22) 2, none⟩,
        ⟨(some 7), .alloc [(.int .i64 0), (.int .i64 0), (.str []), (.sl .full 2 []), (.sl .full 5 [])], none⟩,
        ⟨(some 9), .alloc [(.int .i64 0), (.int .i64 0)], none⟩,
        ⟨none, .store 5 (.s 7) (.s 25), none⟩,
        ⟨(some 8), .mv (.s 26), none⟩,
        ⟨none, .store 2 (.s 9) (.s 27), none⟩])
     (.seq (.reg [⟨(some 28), .load true 2 (.s 3), none⟩,
         ⟨(some 29), .build [(.int .i64 0), (.int .i64 0)] [], none⟩,
         ⟨(some 30), .eqA false [1, 1] (.s 28) (.s 29), none⟩,
         ⟨(some 31), .mv (.s 30), none⟩,
         ⟨(some 32), .mv (.s 2), (some (31, true))⟩,
         ⟨(some 33), .binI .eql (.s 32) (.c (.int .i64 2)), (some (31, true))⟩,
         ⟨(some 34), .pick (.s 31) (.s 33) (.c (.bool false)), none⟩,
         ⟨(some 35), .mv (.s 34), none⟩,
         ⟨(some 36), .fld 0 (.s 1), (some (35, true))⟩,
         ⟨(some 37), .load false 1 (.s 36), (some (35, true))⟩,
         ⟨(some 38), .binI .eql (.s 37) (.c (.int .i64 8)), (some (35, true))⟩,
         ⟨(some 39), .pick (.s 35) (.s 38) (.c (.bool false)), none⟩,
         ⟨(some 40), .mv (.s 39), none⟩,
         ⟨(some 41), .fld 4 (.s 1), (some (40, true))⟩,
         ⟨(some 42), .load false 1 (.s 41), (some (40, true))⟩,
         ⟨(some 43), .lenS (.s 42), (some (40, true))⟩,
         ⟨(some 44), .binI .eql (.s 43) (.c (.int .i64 2)), (some (40, true))⟩,
         ⟨(some 45), .pick (.s 40) (.s 44) (.c (.bool false)), none⟩,
         ⟨(some 46), .mv (.s 45), none⟩,
         ⟨(some 47), .load true 2 (.s 6), (some (46, true))⟩,
         ⟨(some 48), .build [(.int .i64 0), (.int .i64 0)] [(0, 1, (.c (.int .i64 2))), (1, 1, (.c (.int .i64 2)))], (some (46, true))⟩,
         ⟨(some 49), .eqA false [1, 1] (.s 47) (.s 48), (some (46, true))⟩,
         ⟨(some 50), .pick (.s 46) (.s 49) (.c (.bool false)), none⟩,
         ⟨(some 51), .mv (.s 50), none⟩,
         ⟨(some 52), .load true 2 (.s 9), (some (51, true))⟩,
         ⟨(some 53), .build [(.int .i64 0), (.int .i64 0)] [], (some (51, true))⟩,
         ⟨(some 54), .eqA false [1, 1] (.s 52) (.s 53), (some (51, true))⟩,
         ⟨(some 55), .pick (.s 51) (.s 54) (.c (.bool false)), none⟩,
         ⟨(some 56), .mv (.s 55), none⟩,
         ⟨(some 57), .load true 5 (.s 7), (some (56, true))⟩,
         ⟨(some 58), .call 19 [(.s 57)], (some (56, true))⟩,
         ⟨(some 59), .binS .eql (.s 58) (.c (.str [91, 102, 61, 120, 44, 103, 61, 35, 104, 105, 124, 114, 93])), (some (56, true))⟩,
         ⟨(some 60), .pick (.s 56) (.s 59) (.c (.bool false)), none⟩,
         ⟨(some 0), .mv (.s 60), none⟩])
      (.ret)))))
theorem fn8 : IsFn prog 8 ac8 [.tmp 0] 61 := ⟨f8, ⟨[], []⟩, func8, by kernel_rfl, by kernel_rfl, by kernel_rfl, by kernel_rfl⟩

/-- clearance/clearancelaw10.TermWords -/
def ac3 : AC :=
  .seq (.reg [⟨(some 6), .mv (.c (.bool false)), none⟩])
  (.seq (.seq (.reg [⟨(some 11), .mv (.s 0), none⟩,
       ⟨(some 12), .call 7 [(.s 11)], none⟩,
       ⟨(some 13), .binI .gtr (.s 12) (.c (.int .i64 300)), none⟩])
    (.cond (.s 13) (.seq (.reg [⟨(some 14), .call 8 [], none⟩,
         ⟨(some 6), .mv (.s 14), none⟩])
      (.ret))
     (.skip)))
   (.seq (.reg [⟨(some 16), .mv (.s 0), none⟩,
       ⟨(some 17), .mv (.s 1), none⟩,
       ⟨(some 18), .mv (.s 2), none⟩,
       ⟨(some 19), .call 9 [(.s 16), (.s 17), (.s 18)], none⟩,
       ⟨(some 15), .mv (.s 19), none⟩,
       ⟨(some 20), .ext (.s 15) 0, none⟩,
       ⟨(some 21), .ext (.s 15) 1, none⟩,
       ⟨(some 8), .alloc [(.int .i64 0), (.int .i64 0)], none⟩,
       ⟨(some 7), .mv (.s 20), none⟩,
       ⟨none, .store 2 (.s 8) (.s 21), none⟩])
    (.seq (.reg [⟨(some 23), .mv (.s 0), none⟩,
        ⟨(some 24), .mv (.s 1), none⟩,
        ⟨(some 25), .mv (.s 2), none⟩,
        ⟨(some 26), .call 10 [(.s 23), (.s 24), (.s 25)], none⟩,
        ⟨(some 22), .mv (.s 26), none⟩,
        ⟨(some 27), .ext (.s 22) 0, none⟩,
        ⟨(some 28), .ext (.s 22) 1, none⟩,
        ⟨(some 10), .alloc [(.int .i64 0), (.int .i64 0), (.str []), (.sl .full 2 []), (.sl .full 5 []), (.int .i64 0), (.bool false), (.int .i64 0)], none⟩,
        ⟨(some 9), .mv (.s 27), none⟩,
        ⟨none, .store 8 (.s 10) (.s 28), none⟩])
     (.seq (.seq (.reg [⟨(some 29), .fld 6 (.s 10), none⟩,
          ⟨(some 30), .load false 1 (.s 29), none⟩])
       (.cond (.s 30) (.seq (.reg [⟨(some 31), .mv (.s 7), none⟩,
            ⟨(some 32), .lenS (.s 31), none⟩,
            ⟨(some 33), .binI .eql (.s 32) (.c (.int .i64 0)), none⟩,
            ⟨(some 34), .mv (.s 33), none⟩,
            ⟨(some 35), .load true 2 (.s 8), (some (34, true))⟩,
            ⟨(some 36), .fld 7 (.s 10), (some (34, true))⟩,
            ⟨(some 37), .load false 1 (.s 36), (some (34, true))⟩,
            ⟨(some 38), .build [(.int .i64 0), (.int .i64 0)] [(0, 1, (.c (.int .i64 2))), (1, 1, (.s 37))], (some (34, true))⟩,
            ⟨(some 39), .eqA false [1, 1] (.s 35) (.s 38), (some (34, true))⟩,
            ⟨(some 40), .pick (.s 34) (.s 39) (.c (.bool false)), none⟩,
            ⟨(some 41), .mv (.s 40), none⟩,
            ⟨(some 42), .call 8 [], (some (41, true))⟩,
            ⟨(some 43), .pick (.s 41) (.s 42) (.c (.bool false)), none⟩,
            ⟨(some 6), .mv (.s 43), none⟩])
         (.ret))
        (.skip)))
      (.seq (.reg [⟨(some 44), .mv (.s 7), none⟩,
          ⟨(some 45), .mv (.s 9), none⟩,
          ⟨(some 46), .call 11 [(.s 44), (.s 45)], none⟩,
          ⟨(some 47), .mv (.s 46), none⟩,
          ⟨(some 48), .load true 2 (.s 8), (some (47, true))⟩,
          ⟨(some 49), .build [(.int .i64 0), (.int .i64 0)] [], (some (47, true))⟩,
          ⟨(some 50), .eqA false [1, 1] (.s 48) (.s 49), (some (47, true))⟩,
          ⟨(some 51), .pick (.s 47) (.s 50) (.c (.bool false)), none⟩,
          ⟨(some 52), .mv (.s 51), none⟩,
          ⟨(some 53), .call 8 [], (some (52, true))⟩,
          ⟨(some 54), .pick (.s 52) (.s 53) (.c (.bool false)), none⟩,
          ⟨(some 6), .mv (.s 54), none⟩])
       (.ret))))))
theorem fn3 : IsFn prog 3 ac3 [.tmp 6] 55 := ⟨f3, ⟨[], []⟩, func3, by kernel_rfl, by kernel_rfl, by kernel_rfl, by kernel_rfl⟩

/-- clearance/clearancelaw10.TermSound -/
def ac4 : AC :=
  .seq (.reg [⟨(some 2), .mv (.c (.bool false)), none⟩])
  (.seq (.seq (.reg [⟨(some 9), .mv (.s 0), none⟩,
       ⟨(some 10), .lenT (.s 9), none⟩,
       ⟨(some 11), .binI .gtr (.s 10) (.c (.int .i64 1000)), none⟩])
    (.cond (.s 11) (.seq (.reg [⟨(some 12), .call 8 [], none⟩,
         ⟨(some 2), .mv (.s 12), none⟩])
      (.ret))
     (.skip)))
   (.seq (.reg [⟨(some 13), .mv (.s 0), none⟩,
       ⟨(some 14), .call 12 [(.s 13)], none⟩,
       ⟨(some 3), .mv (.s 14), none⟩])
    (.seq (.seq (.reg [⟨(some 4), .mv (.c (.int .i64 0)), none⟩])
      (.block 0 (.loop (.seq (.seq (.reg [⟨(some 15), .mv (.s 4), none⟩,
             ⟨(some 16), .binI .lss (.s 15) (.c (.int .i64 3)), none⟩])
          (.cond (.s 16) (.skip)
           (.exit 0)))
         (.seq (.block 1 (.seq (.reg [⟨(some 20), .mv (.s 3), none⟩,
               ⟨(some 21), .mv (.s 0), none⟩,
               ⟨(some 22), .lenT (.s 21), none⟩,
               ⟨(some 23), .call 13 [(.s 20), (.c (.int .i64 0)), (.s 22)], none⟩,
               ⟨(some 19), .mv (.s 23), none⟩,
               ⟨(some 24), .ext (.s 19) 0, none⟩,
               ⟨(some 25), .ext (.s 19) 1, none⟩,
               ⟨(some 26), .ext (.s 19) 2, none⟩,
               ⟨(some 5), .alloc [(.int .i64 0), (.int .i64 0), (.str []), (.sl .full 2 []), (.sl .full 5 [])], none⟩,
               ⟨(some 7), .alloc [(.int .i64 0), (.int .i64 0)], none⟩,
               ⟨none, .store 5 (.s 5) (.s 24), none⟩,
               ⟨(some 6), .mv (.s 25), none⟩,
               ⟨none, .store 2 (.s 7) (.s 26), none⟩])
            (.seq (.reg [⟨(some 27), .load true 5 (.s 5), none⟩,
                ⟨(some 28), .call 14 [(.s 27)], none⟩,
                ⟨(some 8), .mv (.s 28), none⟩])
             (.seq (.seq (.reg [⟨(some 29), .mv (.s 4), none⟩,
                  ⟨(some 30), .binI .eql (.s 29) (.c (.int .i64 1)), none⟩])
               (.cond (.s 30) (.seq (.reg [⟨(some 32), .mv (.s 3), none⟩,
                    ⟨(some 33), .mv (.s 0), none⟩,
                    ⟨(some 34), .lenT (.s 33), none⟩,
                    ⟨(some 35), .call 15 [(.s 32), (.c (.int .i64 0)), (.s 34)], none⟩,
                    ⟨(some 31), .mv (.s 35), none⟩,
                    ⟨(some 36), .ext (.s 31) 0, none⟩,
                    ⟨(some 37), .ext (.s 31) 1, none⟩,
                    ⟨(some 38), .ext (.s 31) 2, none⟩,
                    ⟨none, .store 5 (.s 5) (.s 36), none⟩,
                    ⟨(some 6), .mv (.s 37), none⟩,
                    ⟨none, .store 2 (.s 7) (.s 38), none⟩])
                 (.reg [⟨(some 39), .load true 5 (.s 5), none⟩,
                    ⟨(some 40), .call 16 [(.s 39)], none⟩,
                    ⟨(some 8), .mv (.s 40), none⟩]))
                (.skip)))
              (.seq (.seq (.reg [⟨(some 41), .mv (.s 4), none⟩,
                   ⟨(some 42), .binI .eql (.s 41) (.c (.int .i64 2)), none⟩])
                (.cond (.s 42) (.seq (.reg [⟨(some 44), .mv (.s 3), none⟩,
                     ⟨(some 45), .mv (.s 0), none⟩,
                     ⟨(some 46), .lenT (.s 45), none⟩,
                     ⟨(some 47), .call 17 [(.s 44), (.c (.int .i64 0)), (.s 46)], none⟩,
                     ⟨(some 43), .mv (.s 47), none⟩,
                     ⟨(some 48), .ext (.s 43) 0, none⟩,
                     ⟨(some 49), .ext (.s 43) 1, none⟩,
                     ⟨(some 50), .ext (.s 43) 2, none⟩,
                     ⟨none, .store 5 (.s 5) (.s 48), none⟩,
                     ⟨(some 6), .mv (.s 49), none⟩,
                     ⟨none, .store 2 (.s 7) (.s 50), none⟩])
                  (.reg [⟨(some 51), .load true 5 (.s 5), none⟩,
                     ⟨(some 52), .call 18 [(.s 51)], none⟩,
                     ⟨(some 8), .mv (.s 52), none⟩]))
                 (.skip)))
               (.seq (.seq (.reg [⟨(some 53), .load true 2 (.s 7), none⟩,
                    ⟨(some 54), .build [(.int .i64 0), (.int .i64 0)] [], none⟩,
                    ⟨(some 55), .eqA true [1, 1] (.s 53) (.s 54), none⟩])
                 (.cond (.s 55) (.exit 1)
                  (.skip)))
                (.seq (.draw [(⟨(some 56), .mv (.s 8), none⟩, []),
                    (⟨(some 57), .not (.s 56), none⟩, []),
                    (⟨(some 58), .mv (.s 57), none⟩, []),
                    (⟨(some 59), .mv (.s 6), (some (58, false))⟩, []),
                    (⟨(some 60), .binI .lss (.s 59) (.c (.int .i64 1)), (some (58, false))⟩, []),
                    (⟨(some 61), .pick (.s 58) (.c (.bool true)) (.s 60), none⟩, []),
                    (⟨(some 62), .mv (.s 61), none⟩, []),
                    (⟨(some 63), .mv (.s 6), (some (62, false))⟩, []),
                    (⟨(some 64), .mv (.s 3), (some (62, false))⟩, []),
                    (⟨(some 65), .lenS (.s 64), (some (62, false))⟩, []),
                    (⟨(some 66), .binI .gtr (.s 63) (.s 65), (some (62, false))⟩, []),
                    (⟨(some 67), .pick (.s 62) (.c (.bool true)) (.s 66), none⟩, []),
                    (⟨(some 68), .mv (.s 67), none⟩, []),
                    (⟨(some 69), .load true 5 (.s 5), (some (68, false))⟩, []),
                    (⟨(some 70), .call 19 [(.s 69)], (some (68, false))⟩, []),
                    (⟨(some 71), .mv (.s 3), (some (68, false))⟩, []),
                    (⟨(some 72), .mv (.s 6), (some (68, false))⟩, []),
                    (⟨(some 73), .slc 5 (.s 71) none (some (.s 72)) none, (some (68, false))⟩, []),
                    (⟨(some 74), .call 21 [(.s 73)], (some (68, false))⟩, []),
                    (⟨(some 75), .call 20 [(.s 74)], (some (68, false))⟩, []),
                    (⟨(some 76), .binS .neq (.s 70) (.s 75), (some (68, false))⟩, []),
                    (⟨(some 77), .pick (.s 68) (.c (.bool true)) (.s 76), none⟩, [])])
                 (.cond (.s 77) (.seq (.reg [⟨(some 2), .mv (.c (.bool false)), none⟩])
                   (.ret))
                  (.skip)))))))))
          (.reg [⟨(some 17), .mv (.s 4), none⟩,
             ⟨(some 18), .binI .add (.s 17) (.c (.int .i64 1)), none⟩,
             ⟨(some 4), .mv (.s 18), none⟩]))))))
     (.seq (.reg [⟨(some 78), .call 8 [], none⟩,
         ⟨(some 2), .mv (.s 78), none⟩])
      (.ret)))))
theorem fn4 : IsFn prog 4 ac4 [.tmp 2] 79 := ⟨f4, ⟨[], []⟩, func4, by kernel_rfl, by kernel_rfl, by kernel_rfl, by kernel_rfl⟩

/-- clearance/clearancelaw10.TermTells -/
def ac5 : AC :=
  .seq (.reg [⟨(some 2), .box 5 (.s 0), none⟩,
     ⟨(some 3), .box 5 (.s 1), none⟩,
     ⟨(some 4), .mv (.c (.bool false)), none⟩])
  (.seq (.seq (.reg [⟨(some 5), .load true 5 (.s 2), none⟩,
       ⟨(some 6), .load true 5 (.s 3), none⟩,
       ⟨(some 7), .bslice 5 [(.s 5), (.s 6)], none⟩,
       ⟨(some 8), .call 22 [(.s 7)], none⟩])
    (.cond (.s 8) (.seq (.reg [⟨(some 9), .call 8 [], none⟩,
         ⟨(some 4), .mv (.s 9), none⟩])
      (.ret))
     (.skip)))
   (.seq (.seq (.draw [(⟨(some 10), .load true 5 (.s 2), none⟩, []),
        (⟨(some 11), .call 19 [(.s 10)], none⟩, []),
        (⟨(some 12), .load true 5 (.s 2), none⟩, [0]),
        (⟨(some 13), .call 23 [(.s 12)], none⟩, []),
        (⟨(some 14), .binS .neq (.s 11) (.s 13), none⟩, []),
        (⟨(some 15), .mv (.s 14), none⟩, []),
        (⟨(some 16), .load true 5 (.s 2), (some (15, false))⟩, []),
        (⟨(some 17), .load true 5 (.s 3), (some (15, false))⟩, []),
        (⟨(some 18), .call 24 [(.s 16), (.s 17)], (some (15, false))⟩, []),
        (⟨(some 19), .load true 5 (.s 2), (some (15, false))⟩, [2]),
        (⟨(some 20), .load true 5 (.s 3), (some (15, false))⟩, [2]),
        (⟨(some 21), .call 25 [(.s 19), (.s 20)], (some (15, false))⟩, []),
        (⟨(some 22), .binB true (.s 18) (.s 21), (some (15, false))⟩, []),
        (⟨(some 23), .pick (.s 15) (.c (.bool true)) (.s 22), none⟩, []),
        (⟨(some 24), .mv (.s 23), none⟩, []),
        (⟨(some 25), .load true 5 (.s 2), (some (24, false))⟩, []),
        (⟨(some 26), .load true 5 (.s 2), (some (24, false))⟩, []),
        (⟨(some 27), .call 24 [(.s 25), (.s 26)], (some (24, false))⟩, []),
        (⟨(some 28), .not (.s 27), (some (24, false))⟩, []),
        (⟨(some 29), .pick (.s 24) (.c (.bool true)) (.s 28), none⟩, [])])
     (.cond (.s 29) (.seq (.reg [⟨(some 4), .mv (.c (.bool false)), none⟩])
       (.ret))
      (.skip)))
    (.seq (.draw [(⟨(some 30), .load true 5 (.s 2), none⟩, []),
        (⟨(some 31), .call 14 [(.s 30)], none⟩, []),
        (⟨(some 32), .load true 5 (.s 2), none⟩, [0]),
        (⟨(some 33), .call 26 [(.s 32)], none⟩, []),
        (⟨(some 34), .binB false (.s 31) (.s 33), none⟩, []),
        (⟨(some 35), .mv (.s 34), none⟩, []),
        (⟨(some 36), .load true 5 (.s 2), (some (35, true))⟩, []),
        (⟨(some 37), .call 16 [(.s 36)], (some (35, true))⟩, []),
        (⟨(some 38), .load true 5 (.s 2), (some (35, true))⟩, [2]),
        (⟨(some 39), .call 27 [(.s 38)], (some (35, true))⟩, []),
        (⟨(some 40), .binB false (.s 37) (.s 39), (some (35, true))⟩, []),
        (⟨(some 41), .pick (.s 35) (.s 40) (.c (.bool false)), none⟩, []),
        (⟨(some 42), .mv (.s 41), none⟩, []),
        (⟨(some 43), .load true 5 (.s 2), (some (42, true))⟩, []),
        (⟨(some 44), .call 18 [(.s 43)], (some (42, true))⟩, []),
        (⟨(some 45), .load true 5 (.s 2), (some (42, true))⟩, [4]),
        (⟨(some 46), .call 28 [(.s 45)], (some (42, true))⟩, []),
        (⟨(some 47), .binB false (.s 44) (.s 46), (some (42, true))⟩, []),
        (⟨(some 48), .pick (.s 42) (.s 47) (.c (.bool false)), none⟩, []),
        (⟨(some 49), .mv (.s 48), none⟩, []),
        (⟨(some 50), .call 8 [], (some (49, true))⟩, []),
        (⟨(some 51), .pick (.s 49) (.s 50) (.c (.bool false)), none⟩, []),
        (⟨(some 4), .mv (.s 51), none⟩, [])])
     (.ret))))
theorem fn5 : IsFn prog 5 ac5 [.tmp 4] 52 := ⟨f5, ⟨[], []⟩, func5, by kernel_rfl, by kernel_rfl, by kernel_rfl, by kernel_rfl⟩

/-- clearance/clearancelaw10.TermBack -/
def ac6 : AC :=
  .seq (.reg [⟨(some 1), .box 5 (.s 0), none⟩,
     ⟨(some 2), .mv (.c (.bool false)), none⟩])
  (.seq (.seq (.reg [⟨(some 17), .load true 5 (.s 1), none⟩,
       ⟨(some 18), .bslice 5 [(.s 17)], none⟩,
       ⟨(some 19), .call 22 [(.s 18)], none⟩])
    (.cond (.s 19) (.seq (.reg [⟨(some 20), .call 8 [], none⟩,
         ⟨(some 2), .mv (.s 20), none⟩])
      (.ret))
     (.skip)))
   (.seq (.reg [⟨(some 21), .load true 5 (.s 1), none⟩,
       ⟨(some 22), .call 19 [(.s 21)], none⟩,
       ⟨(some 3), .mv (.s 22), none⟩])
    (.seq (.reg [⟨(some 24), .mv (.s 3), none⟩,
        ⟨(some 25), .call 29 [(.s 24)], none⟩,
        ⟨(some 23), .mv (.s 25), none⟩,
        ⟨(some 26), .ext (.s 23) 0, none⟩,
        ⟨(some 27), .ext (.s 23) 1, none⟩,
        ⟨(some 5), .alloc [(.int .i64 0), (.int .i64 0)], none⟩,
        ⟨(some 4), .mv (.s 26), none⟩,
        ⟨none, .store 2 (.s 5) (.s 27), none⟩])
     (.seq (.reg [⟨(some 29), .mv (.s 4), none⟩,
         ⟨(some 30), .call 30 [(.s 29)], none⟩,
         ⟨(some 28), .mv (.s 30), none⟩,
         ⟨(some 31), .ext (.s 28) 0, none⟩,
         ⟨(some 32), .ext (.s 28) 1, none⟩,
         ⟨(some 7), .alloc [(.int .i64 0), (.int .i64 0)], none⟩,
         ⟨(some 6), .mv (.s 31), none⟩,
         ⟨none, .store 2 (.s 7) (.s 32), none⟩])
      (.seq (.seq (.reg [⟨(some 33), .load true 2 (.s 5), none⟩,
           ⟨(some 34), .build [(.int .i64 0), (.int .i64 0)] [], none⟩,
           ⟨(some 35), .eqA true [1, 1] (.s 33) (.s 34), none⟩,
           ⟨(some 36), .mv (.s 35), none⟩,
           ⟨(some 37), .load true 2 (.s 7), (some (36, false))⟩,
           ⟨(some 38), .build [(.int .i64 0), (.int .i64 0)] [], (some (36, false))⟩,
           ⟨(some 39), .eqA true [1, 1] (.s 37) (.s 38), (some (36, false))⟩,
           ⟨(some 40), .pick (.s 36) (.c (.bool true)) (.s 39), none⟩])
        (.cond (.s 40) (.seq (.reg [⟨(some 41), .load true 2 (.s 5), none⟩,
             ⟨(some 42), .build [(.int .i64 0), (.int .i64 0)] [], none⟩,
             ⟨(some 43), .eqA false [1, 1] (.s 41) (.s 42), none⟩,
             ⟨(some 44), .mv (.s 43), none⟩,
             ⟨(some 45), .load true 5 (.s 1), (some (44, false))⟩,
             ⟨(some 46), .call 14 [(.s 45)], (some (44, false))⟩,
             ⟨(some 47), .not (.s 46), (some (44, false))⟩,
             ⟨(some 48), .mv (.s 47), (some (44, false))⟩,
             ⟨(some 49), .load true 5 (.s 1), (some (48, true))⟩,
             ⟨(some 50), .call 16 [(.s 49)], (some (48, true))⟩,
             ⟨(some 51), .not (.s 50), (some (48, true))⟩,
             ⟨(some 52), .pick (.s 48) (.s 51) (.c (.bool false)), (some (44, false))⟩,
             ⟨(some 53), .mv (.s 52), (some (44, false))⟩,
             ⟨(some 54), .load true 5 (.s 1), (some (53, true))⟩,
             ⟨(some 55), .call 18 [(.s 54)], (some (53, true))⟩,
             ⟨(some 56), .not (.s 55), (some (53, true))⟩,
             ⟨(some 57), .pick (.s 53) (.s 56) (.c (.bool false)), (some (44, false))⟩,
             ⟨(some 58), .pick (.s 44) (.c (.bool true)) (.s 57), none⟩,
             ⟨(some 59), .mv (.s 58), none⟩,
             ⟨(some 60), .call 8 [], (some (59, true))⟩,
             ⟨(some 61), .pick (.s 59) (.s 60) (.c (.bool false)), none⟩,
             ⟨(some 2), .mv (.s 61), none⟩])
          (.ret))
         (.skip)))
       (.seq (.seq (.reg [⟨(some 62), .load true 5 (.s 1), none⟩,
            ⟨(some 63), .call 14 [(.s 62)], none⟩])
         (.cond (.s 63) (.seq (.reg [⟨(some 65), .mv (.s 6), none⟩,
              ⟨(some 66), .mv (.s 3), none⟩,
              ⟨(some 67), .lenT (.s 66), none⟩,
              ⟨(some 68), .call 13 [(.s 65), (.c (.int .i64 0)), (.s 67)], none⟩,
              ⟨(some 64), .mv (.s 68), none⟩,
              ⟨(some 69), .ext (.s 64) 0, none⟩,
              ⟨(some 70), .ext (.s 64) 1, none⟩,
              ⟨(some 71), .ext (.s 64) 2, none⟩,
              ⟨(some 8), .alloc [(.int .i64 0), (.int .i64 0), (.str []), (.sl .full 2 []), (.sl .full 5 [])], none⟩,
              ⟨(some 10), .alloc [(.int .i64 0), (.int .i64 0)], none⟩,
              ⟨none, .store 5 (.s 8) (.s 69), none⟩,
              ⟨(some 9), .mv (.s 70), none⟩,
              ⟨none, .store 2 (.s 10) (.s 71), none⟩])
           (.seq (.reg [⟨(some 72), .load true 2 (.s 10), none⟩,
               ⟨(some 73), .build [(.int .i64 0), (.int .i64 0)] [], none⟩,
               ⟨(some 74), .eqA true [1, 1] (.s 72) (.s 73), none⟩,
               ⟨(some 75), .mv (.s 74), none⟩,
               ⟨(some 76), .mv (.s 9), (some (75, false))⟩,
               ⟨(some 77), .mv (.s 6), (some (75, false))⟩,
               ⟨(some 78), .lenS (.s 77), (some (75, false))⟩,
               ⟨(some 79), .binI .neq (.s 76) (.s 78), (some (75, false))⟩,
               ⟨(some 80), .pick (.s 75) (.c (.bool true)) (.s 79), none⟩,
               ⟨(some 81), .mv (.s 80), none⟩,
               ⟨(some 82), .load true 5 (.s 8), (some (81, false))⟩,
               ⟨(some 83), .load true 5 (.s 1), (some (81, false))⟩,
               ⟨(some 84), .call 24 [(.s 82), (.s 83)], (some (81, false))⟩,
               ⟨(some 85), .not (.s 84), (some (81, false))⟩,
               ⟨(some 86), .pick (.s 81) (.c (.bool true)) (.s 85), none⟩])
            (.cond (.s 86) (.seq (.reg [⟨(some 2), .mv (.c (.bool false)), none⟩])
              (.ret))
             (.skip))))
          (.skip)))
        (.seq (.seq (.reg [⟨(some 87), .load true 5 (.s 1), none⟩,
             ⟨(some 88), .call 16 [(.s 87)], none⟩])
          (.cond (.s 88) (.seq (.reg [⟨(some 90), .mv (.s 6), none⟩,
               ⟨(some 91), .mv (.s 3), none⟩,
               ⟨(some 92), .lenT (.s 91), none⟩,
               ⟨(some 93), .call 15 [(.s 90), (.c (.int .i64 0)), (.s 92)], none⟩,
               ⟨(some 89), .mv (.s 93), none⟩,
               ⟨(some 94), .ext (.s 89) 0, none⟩,
               ⟨(some 95), .ext (.s 89) 1, none⟩,
               ⟨(some 96), .ext (.s 89) 2, none⟩,
               ⟨(some 11), .alloc [(.int .i64 0), (.int .i64 0), (.str []), (.sl .full 2 []), (.sl .full 5 [])], none⟩,
               ⟨(some 13), .alloc [(.int .i64 0), (.int .i64 0)], none⟩,
               ⟨none, .store 5 (.s 11) (.s 94), none⟩,
               ⟨(some 12), .mv (.s 95), none⟩,
               ⟨none, .store 2 (.s 13) (.s 96), none⟩])
            (.seq (.reg [⟨(some 97), .load true 2 (.s 13), none⟩,
                ⟨(some 98), .build [(.int .i64 0), (.int .i64 0)] [], none⟩,
                ⟨(some 99), .eqA true [1, 1] (.s 97) (.s 98), none⟩,
                ⟨(some 100), .mv (.s 99), none⟩,
                ⟨(some 101), .mv (.s 12), (some (100, false))⟩,
                ⟨(some 102), .mv (.s 6), (some (100, false))⟩,
                ⟨(some 103), .lenS (.s 102), (some (100, false))⟩,
                ⟨(some 104), .binI .neq (.s 101) (.s 103), (some (100, false))⟩,
                ⟨(some 105), .pick (.s 100) (.c (.bool true)) (.s 104), none⟩,
                ⟨(some 106), .mv (.s 105), none⟩,
                ⟨(some 107), .load true 5 (.s 11), (some (106, false))⟩,
                ⟨(some 108), .load true 5 (.s 1), (some (106, false))⟩,
                ⟨(some 109), .call 24 [(.s 107), (.s 108)], (some (106, false))⟩,
                ⟨(some 110), .not (.s 109), (some (106, false))⟩,
                ⟨(some 111), .pick (.s 106) (.c (.bool true)) (.s 110), none⟩])
             (.cond (.s 111) (.seq (.reg [⟨(some 2), .mv (.c (.bool false)), none⟩])
               (.ret))
              (.skip))))
           (.skip)))
         (.seq (.seq (.reg [⟨(some 112), .load true 5 (.s 1), none⟩,
              ⟨(some 113), .call 18 [(.s 112)], none⟩])
           (.cond (.s 113) (.seq (.reg [⟨(some 115), .mv (.s 6), none⟩,
                ⟨(some 116), .mv (.s 3), none⟩,
                ⟨(some 117), .lenT (.s 116), none⟩,
                ⟨(some 118), .call 17 [(.s 115), (.c (.int .i64 0)), (.s 117)], none⟩,
                ⟨(some 114), .mv (.s 118), none⟩,
                ⟨(some 119), .ext (.s 114) 0, none⟩,
                ⟨(some 120), .ext (.s 114) 1, none⟩,
                ⟨(some 121), .ext (.s 114) 2, none⟩,
                ⟨(some 14), .alloc [(.int .i64 0), (.int .i64 0), (.str []), (.sl .full 2 []), (.sl .full 5 [])], none⟩,
                ⟨(some 16), .alloc [(.int .i64 0), (.int .i64 0)], none⟩,
                ⟨none, .store 5 (.s 14) (.s 119), none⟩,
                ⟨(some 15), .mv (.s 120), none⟩,
                ⟨none, .store 2 (.s 16) (.s 121), none⟩])
             (.seq (.reg [⟨(some 122), .load true 2 (.s 16), none⟩,
                 ⟨(some 123), .build [(.int .i64 0), (.int .i64 0)] [], none⟩,
                 ⟨(some 124), .eqA true [1, 1] (.s 122) (.s 123), none⟩,
                 ⟨(some 125), .mv (.s 124), none⟩,
                 ⟨(some 126), .mv (.s 15), (some (125, false))⟩,
                 ⟨(some 127), .mv (.s 6), (some (125, false))⟩,
                 ⟨(some 128), .lenS (.s 127), (some (125, false))⟩,
                 ⟨(some 129), .binI .neq (.s 126) (.s 128), (some (125, false))⟩,
                 ⟨(some 130), .pick (.s 125) (.c (.bool true)) (.s 129), none⟩,
                 ⟨(some 131), .mv (.s 130), none⟩,
                 ⟨(some 132), .load true 5 (.s 14), (some (131, false))⟩,
                 ⟨(some 133), .load true 5 (.s 1), (some (131, false))⟩,
                 ⟨(some 134), .call 24 [(.s 132), (.s 133)], (some (131, false))⟩,
                 ⟨(some 135), .not (.s 134), (some (131, false))⟩,
                 ⟨(some 136), .pick (.s 131) (.c (.bool true)) (.s 135), none⟩])
              (.cond (.s 136) (.seq (.reg [⟨(some 2), .mv (.c (.bool false)), none⟩])
                (.ret))
               (.skip))))
            (.skip)))
          (.seq (.reg [⟨(some 137), .call 8 [], none⟩,
              ⟨(some 2), .mv (.s 137), none⟩])
           (.ret))))))))))
theorem fn6 : IsFn prog 6 ac6 [.tmp 2] 138 := ⟨f6, ⟨[], []⟩, func6, by kernel_rfl, by kernel_rfl, by kernel_rfl, by kernel_rfl⟩

end Go.Proofs.Try

/-
  Names and signs.
-/
namespace Go.Am
def letZ (c : Int) : Bool := decide (97 ≤ c) && decide (c ≤ 122)
def goesZ (c : Int) : Bool := letZ c || (decide (48 ≤ c) && decide (c ≤ 57)) || decide (c = 95)
def signs : List Int := [35, 43, 38, 40, 41, 123, 125, 91, 93, 44, 58, 61, 124, 60]
def signZ (c : Int) : Bool := signs.any fun s => decide (s = c)
def closing (c : Int) : Int := if c = 40 then 41 else if c = 123 ∨ c = 91 then c + 2 else 0
def closesZ (c : Int) : Bool := decide (c = 41) || decide (c = 125) || decide (c = 93)
def goesB (c : UInt8) : Bool := goesZ c.toNat
def letB (c : UInt8) : Bool := letZ c.toNat
def nameR (s : List UInt8) : Bool := decide (s.length ≤ 16) && (match s with | [] => false | c :: r => letB c && r.all goesB)
end Go.Am

/-
  Letters, signs, brackets.
-/
namespace Go.Proofs.Try
open Go.Am
set_option maxRecDepth 4000
set_option maxHeartbeats 4000000

theorem letter_calls (c : Int) (σ : Store) : PCalls prog 88 [.int .u8 c] σ fun v σ' => v = .bool (letZ c) ∧ σ' = σ := by
  refine fn88.calls ?_
  simp only [slots, ac88, am, amo, amc, Nat.reduceAdd, decide_true, decide_false, Tree.rec_, Nd.rec_, Word.rec_, Got.rec_]
  repeat' (first
    | (refine gL_split (fun h => ?_) (fun h => ?_) <;> simp only [am, amo, amc, h, Nat.reduceAdd, encs_length, List.length_map, decide_true, decide_false, Tree.rec_, Nd.rec_, Word.rec_, Got.rec_])
    | (refine vcIf_split (fun h => ?_) (fun h => ?_) <;> simp only [am, amo, amc, h, Nat.reduceAdd, encs_length, List.length_map, decide_true, decide_false, Tree.rec_, Nd.rec_, Word.rec_, Got.rec_])
    | (refine pickL_split (fun h => ?_) (fun h => ?_) <;> simp only [am, amo, amc, h, Nat.reduceAdd, encs_length, List.length_map, decide_true, decide_false, Tree.rec_, Nd.rec_, Word.rec_, Got.rec_])
  )
  all_goals refine retK_intro rfl (Store.sub_refl _) ⟨?_, rfl⟩
  all_goals simp_all [V.erase, eraseL, letZ]
  all_goals (try omega)
theorem letter2_calls (c : Int) (σ : Store) : PCalls prog 80 [.int .u8 c] σ fun v σ' => v = .bool (letZ c) ∧ σ' = σ := by
  refine fn80.calls ?_
  simp only [slots, ac80, am, amo, amc, Nat.reduceAdd, decide_true, decide_false, Tree.rec_, Nd.rec_, Word.rec_, Got.rec_]
  repeat' (first
    | (refine gL_split (fun h => ?_) (fun h => ?_) <;> simp only [am, amo, amc, h, Nat.reduceAdd, encs_length, List.length_map, decide_true, decide_false, Tree.rec_, Nd.rec_, Word.rec_, Got.rec_])
    | (refine vcIf_split (fun h => ?_) (fun h => ?_) <;> simp only [am, amo, amc, h, Nat.reduceAdd, encs_length, List.length_map, decide_true, decide_false, Tree.rec_, Nd.rec_, Word.rec_, Got.rec_])
    | (refine pickL_split (fun h => ?_) (fun h => ?_) <;> simp only [am, amo, amc, h, Nat.reduceAdd, encs_length, List.length_map, decide_true, decide_false, Tree.rec_, Nd.rec_, Word.rec_, Got.rec_])
  )
  all_goals refine retK_intro rfl (Store.sub_refl _) ⟨?_, rfl⟩
  all_goals simp_all [V.erase, eraseL, letZ]
  all_goals (try omega)
theorem goes_calls (c : Int) (σ : Store) : PCalls prog 89 [.int .u8 c] σ fun v σ' => v = .bool (goesZ c) ∧ σ' = σ := by
  refine fn89.calls ?_
  simp only [slots, ac89, am, amo, amc, Nat.reduceAdd, decide_true, decide_false, Tree.rec_, Nd.rec_, Word.rec_, Got.rec_]
  refine (letter_calls c σ).mono ?_
  rintro v σ ⟨rfl, rfl⟩
  simp only [am, amo, amc, Nat.reduceAdd, encs_length, List.length_map, decide_true, decide_false, Tree.rec_, Nd.rec_, Word.rec_, Got.rec_]
  repeat' (first
    | (refine gL_split (fun h => ?_) (fun h => ?_) <;> simp only [am, amo, amc, h, Nat.reduceAdd, encs_length, List.length_map, decide_true, decide_false, Tree.rec_, Nd.rec_, Word.rec_, Got.rec_])
    | (refine vcIf_split (fun h => ?_) (fun h => ?_) <;> simp only [am, amo, amc, h, Nat.reduceAdd, encs_length, List.length_map, decide_true, decide_false, Tree.rec_, Nd.rec_, Word.rec_, Got.rec_])
    | (refine pickL_split (fun h => ?_) (fun h => ?_) <;> simp only [am, amo, amc, h, Nat.reduceAdd, encs_length, List.length_map, decide_true, decide_false, Tree.rec_, Nd.rec_, Word.rec_, Got.rec_])
  )
  all_goals refine retK_intro rfl (Store.sub_refl _) ⟨?_, rfl⟩
  all_goals simp_all [V.erase, eraseL, goesZ]
  all_goals (try omega)
theorem goes8_calls (c : Int) (σ : Store) : PCalls prog 81 [.int .u8 c] σ fun v σ' => v = .bool (goesZ c) ∧ σ' = σ := by
  refine fn81.calls ?_
  simp only [slots, ac81, am, amo, amc, Nat.reduceAdd, decide_true, decide_false, Tree.rec_, Nd.rec_, Word.rec_, Got.rec_]
  repeat' (first
    | (refine gL_split (fun h => ?_) (fun h => ?_) <;> simp only [am, amo, amc, h, Nat.reduceAdd, encs_length, List.length_map, decide_true, decide_false, Tree.rec_, Nd.rec_, Word.rec_, Got.rec_])
    | (refine vcIf_split (fun h => ?_) (fun h => ?_) <;> simp only [am, amo, amc, h, Nat.reduceAdd, encs_length, List.length_map, decide_true, decide_false, Tree.rec_, Nd.rec_, Word.rec_, Got.rec_])
    | (refine pickL_split (fun h => ?_) (fun h => ?_) <;> simp only [am, amo, amc, h, Nat.reduceAdd, encs_length, List.length_map, decide_true, decide_false, Tree.rec_, Nd.rec_, Word.rec_, Got.rec_])
  )
  all_goals refine retK_intro rfl (Store.sub_refl _) ⟨?_, rfl⟩
  all_goals simp_all [V.erase, eraseL, goesZ, letZ]
  all_goals (try omega)
theorem closing_calls (c : Int) (σ : Store) : PCalls prog 51 [.int .u8 c] σ fun v σ' => v = .int .u8 (closing c) ∧ σ' = σ := by
  refine fn51.calls ?_
  simp only [slots, ac51, am, amo, amc, Nat.reduceAdd, decide_true, decide_false, Tree.rec_, Nd.rec_, Word.rec_, Got.rec_]
  repeat' (first
    | (refine gL_split (fun h => ?_) (fun h => ?_) <;> simp only [am, amo, amc, h, Nat.reduceAdd, encs_length, List.length_map, decide_true, decide_false, Tree.rec_, Nd.rec_, Word.rec_, Got.rec_])
    | (refine vcIf_split (fun h => ?_) (fun h => ?_) <;> simp only [am, amo, amc, h, Nat.reduceAdd, encs_length, List.length_map, decide_true, decide_false, Tree.rec_, Nd.rec_, Word.rec_, Got.rec_])
    | (refine pickL_split (fun h => ?_) (fun h => ?_) <;> simp only [am, amo, amc, h, Nat.reduceAdd, encs_length, List.length_map, decide_true, decide_false, Tree.rec_, Nd.rec_, Word.rec_, Got.rec_])
  )
  all_goals refine retK_intro rfl (Store.sub_refl _) ⟨?_, rfl⟩
  all_goals simp_all [V.erase, eraseL, closing, show IntKind.u8.wrap 125 = 125 from rfl, show IntKind.u8.wrap 93 = 93 from rfl]
  all_goals (try omega)
theorem closes_calls (c : Int) (σ : Store) : PCalls prog 82 [.int .u8 c] σ fun v σ' => v = .bool (closesZ c) ∧ σ' = σ := by
  refine fn82.calls ?_
  simp only [slots, ac82, am, amo, amc, Nat.reduceAdd, decide_true, decide_false, Tree.rec_, Nd.rec_, Word.rec_, Got.rec_]
  repeat' (first
    | (refine gL_split (fun h => ?_) (fun h => ?_) <;> simp only [am, amo, amc, h, Nat.reduceAdd, encs_length, List.length_map, decide_true, decide_false, Tree.rec_, Nd.rec_, Word.rec_, Got.rec_])
    | (refine vcIf_split (fun h => ?_) (fun h => ?_) <;> simp only [am, amo, amc, h, Nat.reduceAdd, encs_length, List.length_map, decide_true, decide_false, Tree.rec_, Nd.rec_, Word.rec_, Got.rec_])
    | (refine pickL_split (fun h => ?_) (fun h => ?_) <;> simp only [am, amo, amc, h, Nat.reduceAdd, encs_length, List.length_map, decide_true, decide_false, Tree.rec_, Nd.rec_, Word.rec_, Got.rec_])
  )
  all_goals refine retK_intro rfl (Store.sub_refl _) ⟨?_, rfl⟩
  all_goals simp_all [V.erase, eraseL, closesZ]
  all_goals (try omega)

theorem str_at {s : List UInt8} {i : Nat} (h : i < s.length) : s[((i : Nat) : Int).toNat]? = some s[i] := by simp [h]
def inv70 (s : List UInt8) (σ : Store) (i : Nat) : St :=
  ⟨[.str s] ++ List.replicate 17 .any ++ [.int .i64 s.length, .int .i64 (i : Nat)] ++ List.replicate 8 .any, [], σ⟩
theorem all_take_succ {s : List UInt8} {i : Nat} {f : UInt8 → Bool} (h : i < s.length) : (s.take (i + 1)).all f = ((s.take i).all f && f s[i]) := by
  rw [take_succ_of (List.getElem?_eq_getElem h), List.all_append]; simp only [List.all_cons, List.all_nil, Bool.and_true]
theorem nameR_loop {s : List UInt8} (h : s.length ≤ 16) (h1 : 0 < s.length) : nameR s = (letB s[0] && s.all goesB) := by
  cases s with
  | nil => simp at h1
  | cons c r =>
    simp only [nameR, h, decide_true, Bool.true_and, List.getElem_cons_zero, List.all_cons]
    cases hc : letB c
    · simp
    · have : goesB c = true := by simp only [letB] at hc; simp [goesB, goesZ, hc]
      simp [this]
theorem right_calls (s : List UInt8) (σ : Store) : PCalls prog 70 [.str s] σ fun v σ' => v = .bool (nameR s) ∧ σ' = σ := by
  refine fn70.calls ?_
  simp only [slots, ac70, am, amo, amc, Nat.reduceAdd, decide_true, decide_false, Tree.rec_, Nd.rec_, Word.rec_, Got.rec_]
  by_cases h0 : s = []
  · subst h0
    simp only [am, amo, amc, Nat.reduceAdd, encs_length, List.length_map, decide_true, decide_false, Tree.rec_, Nd.rec_, Word.rec_, Got.rec_]
    refine retK_intro rfl (Store.sub_refl _) ⟨?_, rfl⟩
    simp [V.erase, eraseL, nameR]
  · have hpos : 0 < s.length := by cases s with | nil => exact absurd rfl h0 | cons _ _ => simp
    simp only [am, amo, amc, Nat.reduceAdd, encs_length, List.length_map, decide_true, decide_false, Tree.rec_, Nd.rec_, Word.rec_, Got.rec_, h0]
    by_cases h16 : s.length ≤ 16
    · have e : decide ((16 : Int) < s.length) = false := by simp; omega
      simp only [am, amo, amc, Nat.reduceAdd, encs_length, List.length_map, decide_true, decide_false, Tree.rec_, Nd.rec_, Word.rec_, Got.rec_, e]
      refine idxSL_intro (by omega) (c := s[0]) (by simp [hpos]) ?_
      simp only [am, amo, amc, Nat.reduceAdd, encs_length, List.length_map, decide_true, decide_false, Tree.rec_, Nd.rec_, Word.rec_, Got.rec_]
      refine (letter_calls s[0].toNat σ).mono ?_
      rintro v σ ⟨rfl, rfl⟩
      have hl : nameR s = (letB s[0] && s.all goesB) := nameR_loop h16 hpos
      cases hb : letZ (s[0].toNat : Nat)
      · have hb' : letB s[0] = false := hb
        simp only [am, amo, amc, Nat.reduceAdd, encs_length, List.length_map, decide_true, decide_false, Tree.rec_, Nd.rec_, Word.rec_, Got.rec_]
        refine retK_intro rfl (Store.sub_refl _) ⟨?_, rfl⟩
        simp [V.erase, eraseL, hl, hb']
      · have hb' : letB s[0] = true := hb
        simp only [am, amo, amc, Nat.reduceAdd, encs_length, List.length_map, decide_true, decide_false, Tree.rec_, Nd.rec_, Word.rec_, Got.rec_]
        refine vc_loop (fun p : { i : Nat // i ≤ s.length ∧ (s.take i).all goesB = true } => inv70 s σ p.1) (fun p => s.length - p.1) ?_ ?_
        · refine Upd.enter ⟨0, by simp, by simp⟩ ?_ LLLe.rfl OLe.rfl
          simp [inv70, List.replicate, am]
        · rintro ⟨i, hi, ha⟩
          simp only [inv70, List.replicate, am]
          refine vcIf_split ?_ ?_
          · intro hlt
            have hlt : i < s.length := by simpa using hlt
            simp only [am, amo, amc, Nat.reduceAdd, encs_length, List.length_map, decide_true, decide_false, Tree.rec_, Nd.rec_, Word.rec_, Got.rec_]
            refine idxSL_intro (by omega) (str_at hlt) ?_
            simp only [am, amo, amc, Nat.reduceAdd, encs_length, List.length_map, decide_true, decide_false, Tree.rec_, Nd.rec_, Word.rec_, Got.rec_]
            refine (goes_calls s[i].toNat σ).mono ?_
            rintro v σ ⟨rfl, rfl⟩
            cases hg : goesZ (s[i].toNat : Nat)
            · have hg' : goesB s[i] = false := hg
              simp only [am, amo, amc, Nat.reduceAdd, encs_length, List.length_map, decide_true, decide_false, Tree.rec_, Nd.rec_, Word.rec_, Got.rec_]
              refine retK_intro rfl (Store.sub_refl _) ⟨?_, rfl⟩
              have : s.all goesB = false := by
                rw [List.all_eq_false]; exact ⟨s[i], List.getElem_mem hlt, by simp [hg']⟩
              simp [V.erase, hl, this]
            · simp only [am, amo, amc, Nat.reduceAdd, encs_length, List.length_map, decide_true, decide_false, Tree.rec_, Nd.rec_, Word.rec_, Got.rec_]
              rw [wrap_i64 (by omega) (by omega)]
              refine Upd.again ⟨i + 1, by omega, ?_⟩ (by simp; omega) (by simp [List.replicate, am]) LLLe.rfl OLe.rfl
              rw [all_take_succ hlt, ha]; exact hg
          · intro hlt
            have hlt : i = s.length := by simp at hlt; omega
            subst hlt
            rw [List.take_length] at ha
            simp only [am, amo, amc, Nat.reduceAdd, encs_length, List.length_map, decide_true, decide_false, Tree.rec_, Nd.rec_, Word.rec_, Got.rec_]
            refine retK_intro rfl (Store.sub_refl _) ⟨?_, rfl⟩
            simp [V.erase, eraseL, hl, hb', ha]
    · have e : decide ((16 : Int) < s.length) = true := by simp; omega
      simp only [am, amo, amc, Nat.reduceAdd, encs_length, List.length_map, decide_true, decide_false, Tree.rec_, Nd.rec_, Word.rec_, Got.rec_, e]
      refine retK_intro rfl (Store.sub_refl _) ⟨?_, rfl⟩
      simp [V.erase, eraseL, nameR, h16]

def inv54 (s : List UInt8) (σ : Store) (i : Nat) : St :=
  ⟨[.str s, .any, .any, .int .i64 (i : Nat)] ++ List.replicate 43 .any, [], σ⟩
theorem goesB_neg {c : UInt8} (h1 : letZ (c.toNat : Nat) = false) : goesB c = ((decide (48 ≤ (c.toNat : Int)) && decide ((c.toNat : Int) ≤ 57)) || decide ((c.toNat : Int) = 95)) := by simp [goesB, goesZ, h1]
theorem right2_calls (s : List UInt8) (σ : Store) : PCalls prog 54 [.str s] σ fun v σ' => v = .bool (nameR s) ∧ σ' = σ := by
  refine fn54.calls ?_
  simp only [slots, ac54, am, amo, amc, Nat.reduceAdd, decide_true, decide_false, Tree.rec_, Nd.rec_, Word.rec_, Got.rec_]
  by_cases h0 : s = []
  · subst h0
    simp only [am, amo, amc, Nat.reduceAdd, encs_length, List.length_map, decide_true, decide_false, Tree.rec_, Nd.rec_, Word.rec_, Got.rec_, show decide ((([] : List UInt8).length : Int) < 1) = true from rfl]
    refine retK_intro rfl (Store.sub_refl _) ⟨?_, rfl⟩
    simp [V.erase, eraseL, nameR]
  · have hpos : 0 < s.length := by cases s with | nil => exact absurd rfl h0 | cons _ _ => simp
    have e1 : decide ((s.length : Int) < 1) = false := by simp; omega
    simp only [am, amo, amc, Nat.reduceAdd, encs_length, List.length_map, decide_true, decide_false, Tree.rec_, Nd.rec_, Word.rec_, Got.rec_, e1]
    by_cases h16 : s.length ≤ 16
    · have e : decide ((16 : Int) < s.length) = false := by simp; omega
      simp only [am, amo, amc, Nat.reduceAdd, encs_length, List.length_map, decide_true, decide_false, Tree.rec_, Nd.rec_, Word.rec_, Got.rec_, e]
      refine idxSL_intro (by omega) (c := s[0]) (by simp [hpos]) ?_
      simp only [am, amo, amc, Nat.reduceAdd, encs_length, List.length_map, decide_true, decide_false, Tree.rec_, Nd.rec_, Word.rec_, Got.rec_]
      refine (letter2_calls s[0].toNat σ).mono ?_
      rintro v σ ⟨rfl, rfl⟩
      have hl : nameR s = (letB s[0] && s.all goesB) := nameR_loop h16 hpos
      cases hb : letZ (s[0].toNat : Nat)
      · have hb' : letB s[0] = false := hb
        simp only [am, amo, amc, Nat.reduceAdd, encs_length, List.length_map, decide_true, decide_false, Tree.rec_, Nd.rec_, Word.rec_, Got.rec_]
        refine retK_intro rfl (Store.sub_refl _) ⟨?_, rfl⟩
        simp [V.erase, eraseL, hl, hb']
      · have hb' : letB s[0] = true := hb
        simp only [am, amo, amc, Nat.reduceAdd, encs_length, List.length_map, decide_true, decide_false, Tree.rec_, Nd.rec_, Word.rec_, Got.rec_]
        refine vc_loop (fun p : { i : Nat // 1 ≤ i ∧ i ≤ s.length ∧ (s.take i).all goesB = true } => inv54 s σ p.1) (fun p => s.length - p.1) ?_ ?_
        · refine Upd.enter ⟨1, by simp, by omega, ?_⟩ ?_ LLLe.rfl OLe.rfl
          · rw [all_take_succ hpos]
            simp [goesB, goesZ, hb]
          · simp [inv54, List.replicate, am]
        · rintro ⟨i, hi1, hi, ha⟩
          simp only [inv54, List.replicate, am]
          refine vcIf_split ?_ ?_
          · intro hlt
            have hlt : i < s.length := by simpa using hlt
            simp only [am, amo, amc, Nat.reduceAdd, encs_length, List.length_map, decide_true, decide_false, Tree.rec_, Nd.rec_, Word.rec_, Got.rec_]
            refine idxSL_intro (by omega) (str_at hlt) ?_
            simp only [am, amo, amc, Nat.reduceAdd, encs_length, List.length_map, decide_true, decide_false, Tree.rec_, Nd.rec_, Word.rec_, Got.rec_]
            refine (letter2_calls s[i].toNat σ).mono ?_
            rintro v σ ⟨rfl, rfl⟩
            have hno : goesB s[i] = false → s.all goesB = false := fun hg => by
              rw [List.all_eq_false]; exact ⟨s[i], List.getElem_mem hlt, by simp [hg]⟩
            have fin : goesB s[i] = true → (s.take (i + 1)).all goesB = true := fun hg => by rw [all_take_succ hlt, ha, hg]; rfl
            have hgf : goesB s[i] = (letZ (s[i].toNat : Nat) || (decide (48 ≤ (s[i].toNat : Int)) && decide ((s[i].toNat : Int) ≤ 57)) || decide ((s[i].toNat : Int) = 95)) := rfl
            cases hg : letZ (s[i].toNat : Nat)
            all_goals rw [hg] at hgf
            all_goals simp only [am]
            repeat' (first
              | (refine gL_split (fun h => ?_) (fun h => ?_) <;> simp only [am, amo, amc, h, Nat.reduceAdd, encs_length, List.length_map, decide_true, decide_false, Tree.rec_, Nd.rec_, Word.rec_, Got.rec_])
              | (refine vcIf_split (fun h => ?_) (fun h => ?_) <;> simp only [am, amo, amc, h, Nat.reduceAdd, encs_length, List.length_map, decide_true, decide_false, Tree.rec_, Nd.rec_, Word.rec_, Got.rec_])
              | (refine pickL_split (fun h => ?_) (fun h => ?_) <;> simp only [am, amo, amc, h, Nat.reduceAdd, encs_length, List.length_map, decide_true, decide_false, Tree.rec_, Nd.rec_, Word.rec_, Got.rec_])
              | (refine idxSL_intro (by omega) (str_at hlt) ?_; simp only [am])
            )
            all_goals first
              | (have hgo : goesB s[i] = true := by rw [hgf]; simp_all <;> omega
                 rw [wrap_i64 (by omega) (by omega)]
                 exact Upd.again ⟨i + 1, by omega, by omega, fin hgo⟩ (by simp; omega) (by simp [List.replicate, am]) LLLe.rfl OLe.rfl)
              | (have hgo : goesB s[i] = false := by rw [hgf]; simp_all <;> omega
                 refine retK_intro rfl (Store.sub_refl _) ⟨?_, rfl⟩
                 simp [V.erase, hl, hno hgo])
          · intro hlt
            have hlt : i = s.length := by simp at hlt; omega
            subst hlt
            rw [List.take_length] at ha
            simp only [am, amo, amc, Nat.reduceAdd, encs_length, List.length_map, decide_true, decide_false, Tree.rec_, Nd.rec_, Word.rec_, Got.rec_]
            refine retK_intro rfl (Store.sub_refl _) ⟨?_, rfl⟩
            simp [V.erase, eraseL, hl, hb', ha]
    · have e : decide ((16 : Int) < s.length) = true := by simp; omega
      simp only [am, amo, amc, Nat.reduceAdd, encs_length, List.length_map, decide_true, decide_false, Tree.rec_, Nd.rec_, Word.rec_, Got.rec_, e]
      refine retK_intro rfl (Store.sub_refl _) ⟨?_, rfl⟩
      simp [V.erase, eraseL, nameR, h16]
end Go.Proofs.Try

/-
  Lines as pieces, pieces as trees: as the references read them.
-/
namespace Go.Am
def Tok.enc (t : Tok) : List V := [.int .u8 t.kind, .str t.text, .int .i64 t.pos]
def runR (r : List UInt8) : List UInt8 := r.takeWhile goesB
/-- The pieces from a place on: what was read, or where it is wrong. -/
def lexF : Nat → Nat → List UInt8 → List Tok → List Tok × Option Int
  | 0, _, _, acc => (acc, none)
  | _, _, [], acc => (acc, none)
  | n + 1, p, c :: r, acc =>
    if c.toNat = 45 ∧ (r.head?.map UInt8.toNat) = some 45 then (acc, none)
    else if 0 < (runR (c :: r)).length ∧ nameR (runR (c :: r)) = true then lexF n (p + (runR (c :: r)).length) ((c :: r).drop (runR (c :: r)).length) (acc ++ [⟨97, runR (c :: r), p⟩])
    else if signZ (c.toNat : Nat) = true then lexF n (p + 1) r (acc ++ [⟨(c.toNat : Nat), [c], p⟩])
    else if c.toNat = 32 ∨ c.toNat = 9 then lexF n (p + 1) r acc
    else ([], some p)
def lexR (s : List UInt8) : List Tok × Option Int := lexF s.length 0 s []
def badL (b : Option Int) : V := .agg [.int .i64 (match b with | some _ => 1 | none => 0), .int .i64 (badA b)]
def kindAt (l : List Tok) (i : Nat) : Int := match l[i]? with | some t => t.kind | none => 0
/-- Where brackets do not fit: the piece's number, or -1. -/
def faultF (l : List Tok) : Nat → Nat → List Nat → Int
  | 0, _, open_ => match open_.getLast? with | some j => (j : Nat) | none => -1
  | n + 1, i, open_ =>
    if closing (kindAt l i) ≠ 0 ∧ 24 ≤ open_.length then (i : Nat)
    else
      let o := if closing (kindAt l i) ≠ 0 then open_ ++ [i] else open_
      if closesZ (kindAt l i) = true then
        match o.getLast? with
        | none => (i : Nat)
        | some j => if closing (kindAt l j) = kindAt l i then faultF l n (i + 1) o.dropLast else (i : Nat)
      else faultF l n (i + 1) o
/-- Which piece closes what one opens. -/
def partnerF (l : List Tok) (at_ : Nat) : Nat → Nat → Int → Nat
  | 0, _, _ => at_
  | n + 1, i, deep =>
    let d := (deep + (if closing (kindAt l i) ≠ 0 then 1 else 0)) - (if closesZ (kindAt l i) = true then 1 else 0)
    if d = 0 then i else partnerF l at_ n (i + 1) d
def partner (l : List Tok) (at_ : Nat) : Nat := partnerF l at_ (l.length - at_) at_ 0
def posAt (l : List Tok) (i : Nat) : Int := match l[i]? with | some t => t.pos | none => 0
def tokN (l : List Tok) (i : Nat) : Tok := match l[i]? with | some t => t | none => ⟨0, [], 0⟩
def treesF (l : List Tok) : Nat → Nat → Nat → List Tree
  | 0, _, _ => []
  | n + 1, i, to =>
    if i < to then
      if closing (kindAt l i) ≠ 0 then .mk (tokN l i) (treesF l n (i + 1) (partner l i)) (posAt l (partner l i)) :: treesF l n (partner l i + 1) to
      else .mk (tokN l i) [] (posAt l i) :: treesF l n (i + 1) to
    else []
def treeR (l : List Tok) : List Tree × Option Int :=
  if 0 ≤ faultF l l.length 0 [] then ([], some (posAt l (faultF l l.length 0 []).toNat)) else (treesF l l.length 0 l.length, none)
def textF : Option Int → List Tok → List UInt8
  | _, [] => []
  | k, t :: ts => (if k = some 97 ∧ t.kind = 97 then [32] else []) ++ t.text ++ textF (some t.kind) ts
def textR (l : List Tok) : List UInt8 := textF none l
mutual
def Tree.flat : Tree → List Tok
  | .mk t ks e => t :: (if closing t.kind ≠ 0 then flats ks ++ [⟨closing t.kind, [UInt8.ofNat (closing t.kind).toNat], e⟩] else [])
def flats : List Tree → List Tok
  | [] => []
  | t :: ts => t.flat ++ flats ts
end
theorem runR_len (r : List UInt8) : (runR r).length ≤ r.length := by
  unfold runR
  exact List.Sublist.length_le (List.takeWhile_sublist _)
theorem runR_le {s : List UInt8} {a : Nat} : (runR (s.drop a)).length ≤ s.length - a := by
  have := runR_len (s.drop a)
  rwa [List.length_drop] at this
theorem takeWhile_take {α : Type} {f : α → Bool} : ∀ (r : List α), r.take (r.takeWhile f).length = r.takeWhile f
  | [] => rfl
  | c :: r => by
    simp only [List.takeWhile_cons]
    split
    · simp [takeWhile_take r]
    · simp
theorem cut_run {s : List UInt8} {a : Nat} : (s.take (a + (runR (s.drop a)).length)).drop a = runR (s.drop a) := by
  rw [List.drop_take, Nat.add_sub_cancel_left]
  exact takeWhile_take _
theorem cut_one {s : List UInt8} {a : Nat} (h : a < s.length) : (s.take (a + 1)).drop a = [s[a]] := by
  rw [List.drop_take, Nat.add_sub_cancel_left, List.drop_eq_getElem_cons h]; rfl
theorem partnerF_ge {l : List Tok} {at_ : Nat} : ∀ (n i : Nat) (d : Int), at_ ≤ i → i + n ≤ l.length → at_ < l.length → at_ ≤ partnerF l at_ n i d ∧ partnerF l at_ n i d < l.length
  | 0, i, d, _, _, h => ⟨Nat.le_refl _, h⟩
  | n + 1, i, d, h1, h2, h3 => by
    simp only [partnerF]
    generalize (d + (if closing (kindAt l i) ≠ 0 then 1 else 0)) - (if closesZ (kindAt l i) = true then 1 else 0) = e
    split
    · exact ⟨h1, by omega⟩
    · exact partnerF_ge n (i + 1) _ (by omega) (by omega) h3
theorem partner_ge {l : List Tok} {i : Nat} (h : i < l.length) : i ≤ partner l i ∧ partner l i < l.length := partnerF_ge _ _ _ (Nat.le_refl _) (by omega) h
theorem faultF_lt (l : List Tok) : ∀ (n i : Nat) (o : List Nat), i + n ≤ l.length → (∀ j ∈ o, j < l.length) → faultF l n i o < l.length ∨ faultF l n i o = -1
  | 0, i, o, _, ho => by
    simp only [faultF]
    cases h : o.getLast? with
    | none => exact .inr rfl
    | some j => exact .inl (by have := ho j (List.mem_of_getLast? h); simp only; omega)
  | n + 1, i, o, hi, ho => by
    have ho2 : ∀ j ∈ (if closing (kindAt l i) ≠ 0 then o ++ [i] else o), j < l.length := fun j hj => by
      split at hj
      · rcases List.mem_append.1 hj with h | h
        · exact ho j h
        · simp at h; omega
      · exact ho j hj
    simp only [faultF]
    generalize (if closing (kindAt l i) ≠ 0 then o ++ [i] else o) = o2 at ho2 ⊢
    split
    · exact .inl (by omega)
    · split
      · cases h : o2.getLast? with
        | none => exact .inl (by simp only; omega)
        | some j =>
          simp only
          split
          · exact faultF_lt l n (i + 1) _ (by omega) fun k hk => ho2 k (List.dropLast_subset _ hk)
          · exact .inl (by omega)
      · exact faultF_lt l n (i + 1) o2 (by omega) ho2
theorem lexF_len : ∀ (n p : Nat) (r : List UInt8) (acc : List Tok), r.length ≤ n → (lexF n p r acc).1.length ≤ acc.length + r.length
  | 0, _, r, acc, _ => by cases r <;> simp [lexF]
  | n + 1, p, [], acc, _ => by simp [lexF]
  | n + 1, p, c :: r, acc, h => by
    simp only [lexF]
    have hr := runR_len (c :: r)
    simp only [List.length_cons] at h hr ⊢
    split
    · simp only; omega
    · split
      · rename_i h1
        have := lexF_len n (p + (runR (c :: r)).length) ((c :: r).drop (runR (c :: r)).length) (acc ++ [⟨97, runR (c :: r), p⟩]) (by simp; omega)
        simp at this; omega
      · split
        · have := lexF_len n (p + 1) r (acc ++ [⟨(c.toNat : Nat), [c], p⟩]) (by omega)
          simp at this; omega
        · split
          · have := lexF_len n (p + 1) r acc (by omega); omega
          · simp
theorem lexR_len (s : List UInt8) : (lexR s).1.length ≤ s.length := by
  have := lexF_len s.length 0 s [] (Nat.le_refl _)
  simpa [lexR] using this
end Go.Am

/-
  A line's pieces.
-/
namespace Go.Proofs.Try
open Go.Am
set_option maxRecDepth 4000
set_option maxHeartbeats 4000000

def signRows : List (List V) := signs.map fun s => [.int .u8 s]
def inv58 (c : Int) (σ : Store) (i : Nat) : St :=
  ⟨[.int .u8 c, .any, .any, .sl .full 1 signRows, .int .i64 (i : Nat)] ++ List.replicate 13 .any, [], σ⟩
theorem sign_calls (c : Int) (σ : Store) : PCalls prog 58 [.int .u8 c] σ fun v σ' => v = .bool (signZ c) ∧ σ' = σ := by
  refine fn58.calls ?_
  simp only [slots, ac58, am, amo, amc, Nat.reduceAdd, decide_true, decide_false, Tree.rec_, Nd.rec_, Word.rec_, Got.rec_]
  rw [show [[V.int .u8 35], [V.int .u8 43], [V.int .u8 38], [V.int .u8 40], [V.int .u8 41], [V.int .u8 123], [V.int .u8 125], [V.int .u8 91], [V.int .u8 93], [V.int .u8 44], [V.int .u8 58], [V.int .u8 61], [V.int .u8 124], [V.int .u8 60]] = signRows from rfl]
  refine vc_loop (fun p : { i : Nat // i ≤ 14 ∧ (signs.take i).any (fun s => decide (s = c)) = false } => inv58 c σ p.1) (fun p => 14 - p.1) ?_ ?_
  · refine Upd.enter ⟨0, by simp, by simp⟩ ?_ LLLe.rfl OLe.rfl
    simp [inv58, List.replicate, am]
  · rintro ⟨i, hi, ha⟩
    simp only [inv58, List.replicate, am]
    rw [show signRows.length = 14 from rfl]
    refine vcIf_split ?_ ?_
    · intro hlt
      have hlt : i < 14 := by simp at hlt; omega
      have hs : i < signs.length := hlt
      simp only [am, amo, amc, Nat.reduceAdd, encs_length, List.length_map, decide_true, decide_false, Tree.rec_, Nd.rec_, Word.rec_, Got.rec_]
      refine idxL_intro (by omega) (c := [.int .u8 signs[i]]) (by simp [signRows, hs]) ?_
      simp only [am, amo, amc, Nat.reduceAdd, encs_length, List.length_map, decide_true, decide_false, Tree.rec_, Nd.rec_, Word.rec_, Got.rec_]
      refine vcIf_split ?_ ?_
      · intro h
        have h : signs[i] = c := by simpa using h
        simp only [am, amo, amc, Nat.reduceAdd, encs_length, List.length_map, decide_true, decide_false, Tree.rec_, Nd.rec_, Word.rec_, Got.rec_]
        refine retK_intro rfl (Store.sub_refl _) ⟨?_, rfl⟩
        have : signZ c = true := by
          simp only [signZ, List.any_eq_true]; exact ⟨signs[i], List.getElem_mem hs, by simp [h]⟩
        simp [V.erase, this]
      · intro h
        have h : ¬ signs[i] = c := by simpa using h
        simp only [am, amo, amc, Nat.reduceAdd, encs_length, List.length_map, decide_true, decide_false, Tree.rec_, Nd.rec_, Word.rec_, Got.rec_]
        rw [wrap_i64 (by omega) (by omega)]
        refine Upd.again ⟨i + 1, by omega, ?_⟩ (by simp; omega) (by simp [List.replicate, am]) LLLe.rfl OLe.rfl
        rw [take_succ_of (List.getElem?_eq_getElem hs), List.any_append, ha]; simp [h]
    · intro hlt
      have hlt : i = 14 := by simp at hlt; omega
      subst hlt
      simp only [am, amo, amc, Nat.reduceAdd, encs_length, List.length_map, decide_true, decide_false, Tree.rec_, Nd.rec_, Word.rec_, Got.rec_]
      refine retK_intro rfl (Store.sub_refl _) ⟨?_, rfl⟩
      simp [V.erase, eraseL, signZ, show signs.any (fun s => decide (s = c)) = false from ha]

theorem runR_at {s : List UInt8} {a n : Nat} (h : ((s.drop a).take n).all goesB = true) (hn : a + n ≤ s.length) (he : ∀ hl : a + n < s.length, goesB s[a + n] = false) : (runR (s.drop a)).length = n := by
  have key : ∀ (r : List UInt8) (n : Nat), (r.take n).all goesB = true → n ≤ r.length → (∀ hl : n < r.length, goesB r[n] = false) → (runR r).length = n := by
    intro r
    induction r with
    | nil => intro n _ h2 _; simp at h2; subst h2; rfl
    | cons c r ih =>
      intro n h1 h2 h3
      cases n with
      | zero => have := h3 (by simp); simp at this; simp [runR, this]
      | succ n =>
        simp only [List.take_succ_cons, List.all_cons, Bool.and_eq_true] at h1
        have := ih n h1.2 (by simpa using h2) (fun hl => h3 (Nat.succ_lt_succ hl))
        simp only [runR] at this
        simp [runR, h1.1, this]
  refine key _ _ h (by simp; omega) fun hl => ?_
  have hl' : a + n < s.length := by simp at hl; omega
  have := he hl'
  simpa using this
def inv57 (s : List UInt8) (σ : Store) (a n : Nat) : St :=
  ⟨[.str s, .int .i64 (a : Nat), .any, .any, .any, .int .i64 (n : Nat)] ++ List.replicate 17 .any, [], σ⟩
theorem run_calls (s : List UInt8) (a : Nat) (σ : Store) (ha : a ≤ s.length) (hb : s.length ≤ big) : PCalls prog 57 [.str s, .int .i64 (a : Nat)] σ fun v σ' => v = .int .i64 (runR (s.drop a)).length ∧ σ' = σ := by
  simp only [big] at hb
  refine fn57.calls ?_
  simp only [slots, ac57, am, amo, amc, Nat.reduceAdd, decide_true, decide_false, Tree.rec_, Nd.rec_, Word.rec_, Got.rec_]
  refine vc_loop (fun p : { n : Nat // a + n ≤ s.length ∧ ((s.drop a).take n).all goesB = true } => inv57 s σ a p.1) (fun p => s.length - p.1) ?_ ?_
  · refine Upd.enter ⟨0, by simpa using ha, by simp⟩ ?_ LLLe.rfl OLe.rfl
    simp [inv57, List.replicate, am]
  · rintro ⟨n, hn, hall⟩
    simp only [inv57, List.replicate, am]
    rw [wrap_i64 (by omega) (by omega)]
    by_cases hlt : a + n < s.length
    · have e : decide ((a : Int) + (n : Int) < s.length) = true := by simp; omega
      simp only [am, amo, amc, Nat.reduceAdd, encs_length, List.length_map, decide_true, decide_false, Tree.rec_, Nd.rec_, Word.rec_, Got.rec_, e]
      rw [show (a : Int) + (n : Int) = ((a + n : Nat) : Int) by simp]
      rw [wrap_i64 (by omega) (by omega)]
      refine idxSL_intro (by omega) (str_at hlt) ?_
      simp only [am, amo, amc, Nat.reduceAdd, encs_length, List.length_map, decide_true, decide_false, Tree.rec_, Nd.rec_, Word.rec_, Got.rec_]
      refine (goes8_calls s[a + n].toNat σ).mono ?_
      rintro v σ ⟨rfl, rfl⟩
      cases hg : goesZ (s[a + n].toNat : Nat)
      · simp only [am, amo, amc, Nat.reduceAdd, encs_length, List.length_map, decide_true, decide_false, Tree.rec_, Nd.rec_, Word.rec_, Got.rec_]
        refine retK_intro rfl (Store.sub_refl _) ⟨?_, rfl⟩
        simp [V.erase, runR_at hall hn (fun _ => hg)]
      · simp only [am, amo, amc, Nat.reduceAdd, encs_length, List.length_map, decide_true, decide_false, Tree.rec_, Nd.rec_, Word.rec_, Got.rec_]
        rw [wrap_i64 (by omega) (by omega)]
        refine Upd.again ⟨n + 1, by omega, ?_⟩ (by simp; omega) (by simp [List.replicate, am]) LLLe.rfl OLe.rfl
        have hd : n < (s.drop a).length := by simp; omega
        rw [all_take_succ hd, hall]
        simp only [Bool.true_and, List.getElem_drop]
        exact hg
    · have e : decide ((a : Int) + (n : Int) < s.length) = false := by simp; omega
      simp only [am, amo, amc, Nat.reduceAdd, encs_length, List.length_map, decide_true, decide_false, Tree.rec_, Nd.rec_, Word.rec_, Got.rec_, e]
      refine retK_intro rfl (Store.sub_refl _) ⟨?_, rfl⟩
      simp [V.erase, runR_at hall hn (fun h => absurd h hlt)]
end Go.Proofs.Try

/-
  A line's pieces, the whole.
-/
namespace Go.Proofs.Try
open Go.Am
set_option maxRecDepth 4000
set_option maxHeartbeats 4000000

theorem Tok.wd {t : Tok} : t.enc.length = 3 := rfl
def inv29 (s : List UInt8) (σ : Store) (a τ : Nat) (acc : List Tok) : St :=
  ⟨[.str s, .any, .any, .ptr (.loc 0) 0, .sl (.tk τ) 3 (acc.map Tok.enc), .int .i64 (a : Nat)] ++ List.replicate 82 .any, [[.int .i64 0, .int .i64 0]], σ.setTip τ acc.length⟩
theorem drop_cons {s : List UInt8} {a : Nat} (h : a < s.length) : s.drop a = s[a] :: s.drop (a + 1) := List.drop_eq_getElem_cons h
theorem lex_calls (s : List UInt8) (σ : Store) (hb : s.length + 1 ≤ big) : PCalls prog 29 [.str s] σ fun v σ' => v = .tup [.sl .no 3 ((lexR s).1.map Tok.enc), badL (lexR s).2] ∧ σ' = σ := by
  simp only [big] at hb
  generalize hR : lexR s = R
  refine fn29.calls ?_
  simp only [slots, ac29, am, amo, amc, Nat.reduceAdd, decide_true, decide_false, Tree.rec_, Nd.rec_, Word.rec_, Got.rec_]
  refine vc_loop (fun p : { p : Nat × Nat × Nat × List Tok // σ.tip p.2.2.1 = none ∧ lexF p.1 p.2.1 (s.drop p.2.1) p.2.2.2 = R ∧ p.2.2.2.length ≤ p.2.1 ∧ p.2.1 ≤ s.length ∧ s.length ≤ p.2.1 + p.1 } => inv29 s σ p.1.2.1 p.1.2.2.1 p.1.2.2.2) (fun p => s.length - p.1.2.1) ?_ ?_
  · refine Upd.tokEnter 0 fun τ hτ => ⟨⟨(s.length, 0, τ, []), hτ, hR, by simp, by simp, by simp⟩, ?_, rfl, rfl⟩
    simp [inv29, List.replicate, lto]
  · rintro ⟨⟨n, a, τ, acc⟩, hτ, hR, h1, h2, h3⟩
    simp only at hτ hR h1 h2 h3
    simp only [inv29, List.replicate, am]
    refine vcIf_split ?_ ?_
    · intro hlt
      have hlt : a < s.length := by simpa using hlt
      obtain ⟨m, rfl⟩ : ∃ m, n = m + 1 := ⟨n - 1, by omega⟩
      rw [drop_cons hlt] at hR
      simp only [lexF, ← drop_cons hlt] at hR
      have hrun := runR_le (s := s) (a := a)
      have hh : (s.drop (a + 1)).head?.map UInt8.toNat = if h : a + 1 < s.length then some s[a + 1].toNat else none := by
        by_cases h : a + 1 < s.length
        · rw [dif_pos h, drop_cons h]; rfl
        · rw [dif_neg h, List.drop_eq_nil_of_le (by omega)]; rfl
      simp only [am, amo, amc, Nat.reduceAdd, encs_length, List.length_map, decide_true, decide_false, Tree.rec_, Nd.rec_, Word.rec_, Got.rec_]
      refine idxSL_intro (by omega) (str_at hlt) ?_
      simp only [am, amo, amc, Nat.reduceAdd, encs_length, List.length_map, decide_true, decide_false, Tree.rec_, Nd.rec_, Word.rec_, Got.rec_]
      refine (run_calls s a _ (by omega) (by simp only [big]; omega)).mono ?_
      rintro v σ' ⟨rfl, rfl⟩
      -- a step on, with or without a piece
      have again : ∀ (b : Nat) (acc' : List Tok) (t : List V) (l : List (List V)), lexF m b (s.drop b) acc' = R → acc'.length ≤ b → a < b → b ≤ s.length →
          LLe t ([.str s, .any, .any, .ptr (.loc 0) 0, .sl (.tk τ) 3 (acc'.map Tok.enc), .int .i64 (b : Nat)] ++ List.replicate 82 .any) → l = [[.int .i64 0, .int .i64 0]] →
          Upd ⟨t, l, σ.setTip τ acc'.length⟩ fun st' => ∃ j : { p : Nat × Nat × Nat × List Tok // σ.tip p.2.2.1 = none ∧ lexF p.1 p.2.1 (s.drop p.2.1) p.2.2.2 = R ∧ p.2.2.2.length ≤ p.2.1 ∧ p.2.1 ≤ s.length ∧ s.length ≤ p.2.1 + p.1 }, st' = inv29 s σ j.1.2.1 j.1.2.2.1 j.1.2.2.2 ∧ s.length - j.1.2.1 < s.length - a := fun b acc' t l e1 e2 e3 e4 e5 e6 => by
        refine Upd.again (μ := fun p : { p : Nat × Nat × Nat × List Tok // σ.tip p.2.2.1 = none ∧ lexF p.1 p.2.1 (s.drop p.2.1) p.2.2.2 = R ∧ p.2.2.2.length ≤ p.2.1 ∧ p.2.1 ≤ s.length ∧ s.length ≤ p.2.1 + p.1 } => s.length - p.1.2.1) (I := fun p => inv29 s σ p.1.2.1 p.1.2.2.1 p.1.2.2.2) ⟨(m, b, τ, acc'), hτ, e1, e2, e4, by simp only; omega⟩ (by simp; omega) e5 (by rw [e6]; exact LLLe.rfl) OLe.rfl
      have e45 : s[a].toNat = 45 → decide (((s[a].toNat : Nat) : Int) = 45) = true := fun h => by simp [h]
      have e45f : ¬ s[a].toNat = 45 → decide (((s[a].toNat : Nat) : Int) = 45) = false := fun h => decide_eq_false (by omega)
      have w1 : IntKind.i64.wrap ((a : Int) + 1) = ((a + 1 : Nat) : Int) := by rw [wrap_i64 (by omega) (by omega)]; simp
      have wN : IntKind.i64.wrap ((a : Int) + ((runR (s.drop a)).length : Nat)) = ((a + (runR (s.drop a)).length : Nat) : Int) := by
        rw [show (a : Int) + ((runR (s.drop a)).length : Nat) = ((a + (runR (s.drop a)).length : Nat) : Int) by simp]
        exact wrap_i64 (by omega) (by omega)
      have el : a + 1 < s.length → decide (((a + 1 : Nat) : Int) < s.length) = true := fun h => decide_eq_true (by omega)
      have elf : ¬ a + 1 < s.length → decide (((a + 1 : Nat) : Int) < s.length) = false := fun h => decide_eq_false (by omega)
      have eN : 0 < (runR (s.drop a)).length → decide ((0 : Int) < ((runR (s.drop a)).length : Nat)) = true := fun h => decide_eq_true (by omega)
      have eNf : ¬ 0 < (runR (s.drop a)).length → decide ((0 : Int) < ((runR (s.drop a)).length : Nat)) = false := fun h => decide_eq_false (by omega)
      have hcut : (s.take (a + (runR (s.drop a)).length)).drop a = runR (s.drop a) := cut_run
      by_cases hcm : s[a].toNat = 45 ∧ (s.drop (a + 1)).head?.map UInt8.toNat = some 45
      · obtain ⟨h45, hh2⟩ := hcm
        rw [if_pos ⟨h45, hh2⟩] at hR
        rw [hh] at hh2
        have hl : a + 1 < s.length := by
          by_cases h : a + 1 < s.length
          · exact h
          · rw [dif_neg h] at hh2; simp at hh2
        rw [dif_pos hl] at hh2
        have e2 : decide (((s[a + 1].toNat : Nat) : Int) = 45) = true := by simp at hh2; simp [hh2]
        simp only [am, amo, amc, Nat.reduceAdd, encs_length, List.length_map, decide_true, decide_false, Tree.rec_, Nd.rec_, Word.rec_, Got.rec_, e45 h45, w1, el hl]
        refine idxSL_intro (by omega) (str_at hl) ?_
        simp only [am, amo, amc, Nat.reduceAdd, encs_length, List.length_map, decide_true, decide_false, Tree.rec_, Nd.rec_, Word.rec_, Got.rec_, e2]
        refine retK_intro rfl (sub_tip hτ) ⟨?_, rfl⟩
        simp [V.erase, eraseL, ← hR, badL, badA]
      · rw [if_neg hcm] at hR
        by_cases h45 : s[a].toNat = 45
        case' neg =>
          simp only [am, amo, amc, Nat.reduceAdd, encs_length, List.length_map, decide_true, decide_false, Tree.rec_, Nd.rec_, Word.rec_, Got.rec_, e45f h45]
        case' pos =>
          by_cases hl : a + 1 < s.length
          case' pos =>
            have e2 : decide (((s[a + 1].toNat : Nat) : Int) = 45) = false := by
              rw [hh, dif_pos hl] at hcm; simp at hcm ⊢; intro h; exact hcm h45 (by omega)
            simp only [am, amo, amc, Nat.reduceAdd, encs_length, List.length_map, decide_true, decide_false, Tree.rec_, Nd.rec_, Word.rec_, Got.rec_, e45 h45, w1, el hl]
            refine idxSL_intro (by omega) (str_at hl) ?_
            simp only [am, amo, amc, Nat.reduceAdd, encs_length, List.length_map, decide_true, decide_false, Tree.rec_, Nd.rec_, Word.rec_, Got.rec_, e2]
          case' neg =>
            simp only [am, amo, amc, Nat.reduceAdd, encs_length, List.length_map, decide_true, decide_false, Tree.rec_, Nd.rec_, Word.rec_, Got.rec_, e45 h45, w1, elf hl]
        all_goals
          by_cases hN : 0 < (runR (s.drop a)).length
          case' neg =>
            simp only [am, amo, amc, Nat.reduceAdd, encs_length, List.length_map, decide_true, decide_false, Tree.rec_, Nd.rec_, Word.rec_, Got.rec_, eNf hN]
          case' pos =>
            simp only [am, amo, amc, Nat.reduceAdd, encs_length, List.length_map, decide_true, decide_false, Tree.rec_, Nd.rec_, Word.rec_, Got.rec_, eN hN, wN]
            refine slSL_intro (by omega) (by omega) ?_
            rw [hcut]
            simp only [am, amo, amc, Nat.reduceAdd, encs_length, List.length_map, decide_true, decide_false, Tree.rec_, Nd.rec_, Word.rec_, Got.rec_]
            refine (right2_calls (runR (s.drop a)) _).mono ?_
            rintro v σ' ⟨rfl, rfl⟩
            cases hnr : nameR (runR (s.drop a))
            case' true =>
              rw [if_pos ⟨hN, hnr⟩] at hR
              simp only [am, amo, amc, Nat.reduceAdd, encs_length, List.length_map, decide_true, decide_false, Tree.rec_, Nd.rec_, Word.rec_, Got.rec_, wN]
              refine slSL_intro (by omega) (by omega) ?_
              rw [hcut]
              simp only [am, amo, amc, Nat.reduceAdd, encs_length, List.length_map, decide_true, decide_false, Tree.rec_, Nd.rec_, Word.rec_, Got.rec_]
              refine app_tk (by simp [big]; omega) (by rw [List.length_map, setTip_tip_same]) ?_
              simp only [am, amo, amc, Nat.reduceAdd, encs_length, List.length_map, decide_true, decide_false, Tree.rec_, Nd.rec_, Word.rec_, Got.rec_, setTip_setTip, wN]
              have e : acc.length + 1 = (acc ++ [(⟨97, runR (s.drop a), a⟩ : Tok)]).length := by simp
              rw [e]
              rw [List.drop_drop] at hR
              exact again (a + (runR (s.drop a)).length) _ _ _ hR (by simp; omega) (by omega) (by omega) (by simp [List.replicate, am, Tok.enc]) rfl
            case' false =>
              simp only [am, amo, amc, Nat.reduceAdd, encs_length, List.length_map, decide_true, decide_false, Tree.rec_, Nd.rec_, Word.rec_, Got.rec_]
          all_goals
            rw [if_neg (by simp_all)] at hR
            refine (sign_calls (s[a].toNat : Nat) _).mono ?_
            rintro v σ' ⟨rfl, rfl⟩
            cases hsg : signZ (s[a].toNat : Nat)
            · rw [if_neg (by simp [hsg])] at hR
              simp only [am, amo, amc, Nat.reduceAdd, encs_length, List.length_map, decide_true, decide_false, Tree.rec_, Nd.rec_, Word.rec_, Got.rec_]
              by_cases hbl : s[a].toNat = 32 ∨ s[a].toNat = 9
              · rw [if_pos hbl] at hR
                by_cases h32 : s[a].toNat = 32
                case' pos =>
                  simp only [am, amo, amc, Nat.reduceAdd, encs_length, List.length_map, decide_true, decide_false, Tree.rec_, Nd.rec_, Word.rec_, Got.rec_, decide_eq_true (show ((s[a].toNat : Nat) : Int) = 32 by omega), w1]
                case' neg =>
                  simp only [am, amo, amc, Nat.reduceAdd, encs_length, List.length_map, decide_true, decide_false, Tree.rec_, Nd.rec_, Word.rec_, Got.rec_, decide_eq_false (show ¬ ((s[a].toNat : Nat) : Int) = 32 by omega), decide_eq_true (show ((s[a].toNat : Nat) : Int) = 9 by omega), w1]
                all_goals exact again (a + 1) acc _ _ hR (by omega) (by omega) (by omega) (by simp [List.replicate, am]) rfl
              · rw [if_neg hbl] at hR
                simp only [am, amo, amc, Nat.reduceAdd, encs_length, List.length_map, decide_true, decide_false, Tree.rec_, Nd.rec_, Word.rec_, Got.rec_, decide_eq_false (show ¬ ((s[a].toNat : Nat) : Int) = 32 by omega), decide_eq_false (show ¬ ((s[a].toNat : Nat) : Int) = 9 by omega)]
                refine retK_intro rfl (sub_tip hτ) ⟨?_, rfl⟩
                simp [V.erase, eraseL, ← hR, badL, badA]
            · rw [if_pos hsg] at hR
              simp only [am, amo, amc, Nat.reduceAdd, encs_length, List.length_map, decide_true, decide_false, Tree.rec_, Nd.rec_, Word.rec_, Got.rec_, w1]
              refine slSL_intro (by omega) (by omega) ?_
              rw [cut_one hlt]
              simp only [am, amo, amc, Nat.reduceAdd, encs_length, List.length_map, decide_true, decide_false, Tree.rec_, Nd.rec_, Word.rec_, Got.rec_]
              refine app_tk (by simp [big]; omega) (by rw [List.length_map, setTip_tip_same]) ?_
              simp only [am, amo, amc, Nat.reduceAdd, encs_length, List.length_map, decide_true, decide_false, Tree.rec_, Nd.rec_, Word.rec_, Got.rec_, setTip_setTip, w1]
              have e : acc.length + 1 = (acc ++ [(⟨(s[a].toNat : Nat), [s[a]], a⟩ : Tok)]).length := by simp
              rw [e]
              exact again (a + 1) _ _ _ hR (by simp; omega) (by omega) (by omega) (by simp [List.replicate, am, Tok.enc]) rfl
    · intro hlt
      have hlt : a = s.length := by simp at hlt; omega
      subst hlt
      rw [List.drop_length] at hR
      have hR' : (acc, none) = R := by cases n <;> simpa [lexF] using hR
      simp only [am, amo, amc, Nat.reduceAdd, encs_length, List.length_map, decide_true, decide_false, Tree.rec_, Nd.rec_, Word.rec_, Got.rec_]
      refine retK_intro rfl (sub_tip hτ) ⟨?_, rfl⟩
      simp [V.erase, eraseL, ← hR', badL, badA]
end Go.Proofs.Try

/-
  Brackets that fit.
-/
namespace Go.Proofs.Try
open Go.Am
set_option maxRecDepth 4000
set_option maxHeartbeats 4000000

theorem tencs_at {l : List Tok} {j : Nat} (h : j < l.length) : (l.map Tok.enc)[((j : Nat) : Int).toNat]? = some (tokN l j).enc := by simp [tokN, h]
theorem kindAt_eq {l : List Tok} {j : Nat} (h : j < l.length) : kindAt l j = (tokN l j).kind := by simp [kindAt, tokN, h]
theorem posAt_eq {l : List Tok} {j : Nat} (h : j < l.length) : posAt l j = (tokN l j).pos := by simp [posAt, tokN, h]
def oRows (o : List Nat) : List (List V) := o.map fun (j : Nat) => [.int .i64 (j : Nat)]
theorem oRows_len (o : List Nat) : (oRows o).length = o.length := by simp [oRows]
def inv59 (l : List Tok) (i : Nat) (v : V) (σ : Store) : St :=
  ⟨[.sl .no 3 (l.map Tok.enc), .any, .any, v, .int .i64 (i : Nat)] ++ List.replicate 58 .any, [], σ⟩
structure F59 (l : List Tok) (σ : Store) (R : Int) where
  n : Nat
  i : Nat
  o : List Nat
  v : V
  s : Store
  own : Own s 1 v (oRows o)
  sub : OwnS σ s v
  res : faultF l n i o = R
  sum : i + n = l.length
  le : o.length ≤ i
  mem : ∀ j ∈ o, j < l.length
theorem lastIdx {o : List Nat} (h : o ≠ []) : ∃ j, o.getLast? = some j ∧ (oRows o)[((o.length : Int) - 1).toNat]? = some [.int .i64 (j : Nat)] ∧ j ∈ o := by
  have hp : 0 < o.length := List.length_pos_iff.2 h
  refine ⟨o[o.length - 1], ?_, ?_, List.getElem_mem _⟩
  · rw [List.getLast?_eq_getElem?, List.getElem?_eq_getElem]
  · rw [show ((o.length : Int) - 1).toNat = o.length - 1 by omega]
    simp [oRows, List.getElem?_eq_getElem (show o.length - 1 < o.length by omega)]
theorem fault_calls (l : List Tok) (σ : Store) (hb : l.length + 1 ≤ big) : PCalls prog 59 [.sl .no 3 (l.map Tok.enc)] σ fun v σ' => v = .int .i64 (faultF l l.length 0 []) ∧ σ' = σ := by
  simp only [big] at hb
  generalize hR : faultF l l.length 0 [] = R
  refine fn59.calls ?_
  simp only [slots, ac59, am, amo]
  refine vc_loop (fun p : F59 l σ R => inv59 l p.i p.v p.s) (fun p => p.n) ?_ ?_
  · refine Upd.enter ⟨l.length, 0, [], _, σ, Own.none, OwnS.start, hR, by simp, by simp, by simp⟩ ?_ LLLe.rfl OLe.rfl
    simp [inv59, List.replicate, am, amo]
  · rintro ⟨n, i, o, v2, σ2, hO, hS, hR, hsum, hle, hmem⟩
    simp only [inv59, List.replicate, am, amo, List.length_map]
    refine vcIf_split ?_ ?_
    · intro hlt
      have hlt : i < l.length := by simpa using hlt
      obtain ⟨m, rfl⟩ : ∃ m, n = m + 1 := ⟨n - 1, by omega⟩
      simp only [faultF] at hR
      simp only [am, amo, amc, Nat.reduceAdd, encs_length, List.length_map, decide_true, decide_false, Tree.rec_, Nd.rec_, Word.rec_, Got.rec_]
      refine idxL_intro (by omega) (tencs_at hlt) ?_
      simp only [am, amo, amc, Nat.reduceAdd, encs_length, List.length_map, decide_true, decide_false, Tree.rec_, Nd.rec_, Word.rec_, Got.rec_, Tok.enc]
      rw [← kindAt_eq hlt]
      refine (closing_calls (kindAt l i) _).mono ?_
      rintro v σ2 ⟨rfl, rfl⟩
      simp only [am, amo, amc, Nat.reduceAdd, encs_length, List.length_map, decide_true, decide_false, Tree.rec_, Nd.rec_, Word.rec_, Got.rec_]
      have again : ∀ (o : List Nat) (v : V) (s : Store) (t : List V), Own s 1 v (oRows o) → OwnS σ s v → faultF l m (i + 1) o = R → o.length ≤ i + 1 → (∀ j ∈ o, j < l.length) →
          LLe t ([.sl .no 3 (l.map Tok.enc), .any, .any, v, .int .i64 ((i : Int) + 1)] ++ List.replicate 58 .any) → Upd ⟨t, [], s⟩ fun st' => ∃ j : F59 l σ R, st' = inv59 l j.i j.v j.s ∧ j.n < m + 1 := fun o v s t e1 e2 e3 e4 e5 e6 =>
        Upd.again (I := fun p : F59 l σ R => inv59 l p.i p.v p.s) (μ := fun p : F59 l σ R => p.n) ⟨m, i + 1, o, v, s, e1, e2, e3, by omega, e4, e5⟩ (by simp) (by simpa [inv59] using e6) LLLe.rfl OLe.rfl
      by_cases hc : closing (kindAt l i) = 0
      case' neg =>
        simp only [am, amo, amc, Nat.reduceAdd, encs_length, List.length_map, decide_true, decide_false, Tree.rec_, Nd.rec_, Word.rec_, Got.rec_, decide_eq_false hc]
        refine Own.len hO ?_
        simp only [am, amo, amc, Nat.reduceAdd, encs_length, List.length_map, decide_true, decide_false, Tree.rec_, Nd.rec_, Word.rec_, Got.rec_, oRows_len]
        by_cases h24 : 24 ≤ o.length
        · simp only [ne_eq, hc, not_false_eq_true, true_and, h24, if_true] at hR
          simp only [am, amo, amc, Nat.reduceAdd, encs_length, List.length_map, decide_true, decide_false, Tree.rec_, Nd.rec_, Word.rec_, Got.rec_, decide_eq_true (show (24 : Int) ≤ o.length by omega)]
          refine retK_intro rfl hS.sub ⟨?_, rfl⟩
          simp [V.erase, ← hR]
        simp only [ne_eq, hc, not_false_eq_true, true_and, h24, if_false, if_true] at hR
        simp only [am, amo, amc, Nat.reduceAdd, encs_length, List.length_map, decide_true, decide_false, Tree.rec_, Nd.rec_, Word.rec_, Got.rec_, decide_eq_false (show ¬ (24 : Int) ≤ o.length by omega)]
        refine Own.app hO (by simp) rfl (by simp [oRows_len, big]; omega) ?_
        intro v2' σ2' hO' hF
        have hS := hS.step hF
        have e : oRows o ++ [[.int .i64 (i : Nat)]] = oRows (o ++ [i]) := by simp [oRows]
        rw [e] at hO'
        have hO := hO'
        have hle : (o ++ [i]).length ≤ i + 1 := by simp; omega
        have hmem : ∀ j ∈ o ++ [i], j < l.length := fun j hj => by
          rcases List.mem_append.1 hj with h | h
          · exact hmem j h
          · simp at h; omega
        generalize hq : o ++ [i] = o2 at hO hle hmem hR
        generalize hv : v2' = v3 at hO hS
        generalize hs : σ2' = σ3 at hO hS
        simp only [am, amo, amc, Nat.reduceAdd, encs_length, List.length_map, decide_true, decide_false, Tree.rec_, Nd.rec_, Word.rec_, Got.rec_]
      case' pos =>
        simp only [ne_eq, hc, not_true_eq_false, false_and, if_false] at hR
        have hle : o.length ≤ i + 1 := by omega
        generalize hq : o = o2 at hO hle hmem hR
        generalize hv : v2 = v3 at hO hS
        generalize hs : σ2 = σ3 at hO hS
        simp only [am, amo, amc, Nat.reduceAdd, encs_length, List.length_map, decide_true, decide_false, Tree.rec_, Nd.rec_, Word.rec_, Got.rec_, decide_eq_true hc]
      all_goals
        refine (closes_calls (kindAt l i) _).mono ?_
        rintro v σ3 ⟨rfl, rfl⟩
        cases hcl : closesZ (kindAt l i)
        · rw [hcl] at hR
          simp only [am, amo, amc, Nat.reduceAdd, encs_length, List.length_map, decide_true, decide_false, Tree.rec_, Nd.rec_, Word.rec_, Got.rec_]
          rw [wrap_i64 (by omega) (by omega)]
          exact again o2 v3 σ3 _ hO hS hR hle hmem (by simp [List.replicate, am])
        · rw [hcl, if_pos rfl] at hR
          simp only [am, amo, amc, Nat.reduceAdd, encs_length, List.length_map, decide_true, decide_false, Tree.rec_, Nd.rec_, Word.rec_, Got.rec_]
          refine Own.len hO ?_
          simp only [am, amo, amc, Nat.reduceAdd, encs_length, List.length_map, decide_true, decide_false, Tree.rec_, Nd.rec_, Word.rec_, Got.rec_, oRows_len]
          by_cases ho : o2 = []
          · rw [ho] at hR
            simp only [List.getLast?_nil] at hR
            simp only [am, amo, amc, Nat.reduceAdd, encs_length, List.length_map, decide_true, decide_false, Tree.rec_, Nd.rec_, Word.rec_, Got.rec_, ho, List.length_nil, Int.natCast_zero]
            refine retK_intro rfl hS.sub ⟨?_, rfl⟩
            simp [V.erase, ← hR]
          · have hpos : 0 < o2.length := List.length_pos_iff.2 ho
            obtain ⟨j, hj1, hj2, hj3⟩ := lastIdx ho
            rw [hj1] at hR
            simp only at hR
            have hjl := hmem j hj3
            simp only [am, amo, amc, Nat.reduceAdd, encs_length, List.length_map, decide_true, decide_false, Tree.rec_, Nd.rec_, Word.rec_, Got.rec_, decide_eq_false (show ¬ (o2.length : Int) = 0 by omega)]
            refine Own.len hO ?_
            simp only [am, amo, amc, Nat.reduceAdd, encs_length, List.length_map, decide_true, decide_false, Tree.rec_, Nd.rec_, Word.rec_, Got.rec_, oRows_len]
            rw [wrap_i64 (by omega) (by omega)]
            refine Own.idx hO (by omega) hj2 ?_
            intro b cs rest _ hb1 hb2
            simp only [am, amo, amc, Nat.reduceAdd, encs_length, List.length_map, decide_true, decide_false, Tree.rec_, Nd.rec_, Word.rec_, Got.rec_, hb1, hb2]
            refine idxL_intro (by omega) (tencs_at hjl) ?_
            simp only [am, amo, amc, Nat.reduceAdd, encs_length, List.length_map, decide_true, decide_false, Tree.rec_, Nd.rec_, Word.rec_, Got.rec_, Tok.enc]
            rw [← kindAt_eq hjl]
            refine (closing_calls (kindAt l j) _).mono ?_
            rintro v σ3 ⟨rfl, rfl⟩
            simp only [am, amo, amc, Nat.reduceAdd, encs_length, List.length_map, decide_true, decide_false, Tree.rec_, Nd.rec_, Word.rec_, Got.rec_]
            by_cases hck : closing (kindAt l j) = kindAt l i
            · rw [if_pos hck] at hR
              simp only [am, amo, amc, Nat.reduceAdd, encs_length, List.length_map, decide_true, decide_false, Tree.rec_, Nd.rec_, Word.rec_, Got.rec_, decide_eq_true hck]
              refine Own.len hO ?_
              simp only [am, amo, amc, Nat.reduceAdd, encs_length, List.length_map, decide_true, decide_false, Tree.rec_, Nd.rec_, Word.rec_, Got.rec_, oRows_len]
              rw [wrap_i64 (by omega) (by omega)]
              refine Own.take hO (by omega) (m := o2.length - 1) (by omega) (by simp [oRows_len]) ?_
              intro v4 hO4 hB
              simp only [am, amo, amc, Nat.reduceAdd, encs_length, List.length_map, decide_true, decide_false, Tree.rec_, Nd.rec_, Word.rec_, Got.rec_]
              rw [wrap_i64 (by omega) (by omega)]
              refine again o2.dropLast v4 σ3 _ ?_ ⟨hS.sub, fun b hb => hS.new b (by rw [← hB]; exact hb)⟩ hR (by simp; omega) (fun j hj => hmem j (List.dropLast_subset _ hj)) (by simp [List.replicate, am])
              have : (oRows o2).take (o2.length - 1) = oRows o2.dropLast := by simp [oRows, List.dropLast_eq_take, List.map_take]
              rw [← this]; exact hO4
            · rw [if_neg hck] at hR
              simp only [am, amo, amc, Nat.reduceAdd, encs_length, List.length_map, decide_true, decide_false, Tree.rec_, Nd.rec_, Word.rec_, Got.rec_, decide_eq_false hck]
              refine retK_intro rfl hS.sub ⟨?_, rfl⟩
              simp [V.erase, ← hR]
    · intro hlt
      have hlt : i = l.length := by simp at hlt; omega
      have hn : n = 0 := by omega
      subst hn
      simp only [faultF] at hR
      simp only [am, amo, amc, Nat.reduceAdd, encs_length, List.length_map, decide_true, decide_false, Tree.rec_, Nd.rec_, Word.rec_, Got.rec_]
      refine Own.len hO ?_
      simp only [am, amo, amc, Nat.reduceAdd, encs_length, List.length_map, decide_true, decide_false, Tree.rec_, Nd.rec_, Word.rec_, Got.rec_, oRows_len]
      by_cases ho : o = []
      · rw [ho] at hR
        simp only [List.getLast?_nil] at hR
        simp only [am, amo, amc, Nat.reduceAdd, encs_length, List.length_map, decide_true, decide_false, Tree.rec_, Nd.rec_, Word.rec_, Got.rec_, ho, List.length_nil, Int.natCast_zero, show decide ((0 : Int) < 0) = false from rfl]
        refine retK_intro rfl hS.sub ⟨?_, rfl⟩
        simp [V.erase, ← hR]
      · have hpos : 0 < o.length := List.length_pos_iff.2 ho
        obtain ⟨j, hj1, hj2, hj3⟩ := lastIdx ho
        rw [hj1] at hR
        simp only at hR
        simp only [am, amo, amc, Nat.reduceAdd, encs_length, List.length_map, decide_true, decide_false, Tree.rec_, Nd.rec_, Word.rec_, Got.rec_, decide_eq_true (show (0 : Int) < o.length by omega)]
        refine Own.len hO ?_
        simp only [am, amo, amc, Nat.reduceAdd, encs_length, List.length_map, decide_true, decide_false, Tree.rec_, Nd.rec_, Word.rec_, Got.rec_, oRows_len]
        rw [wrap_i64 (by omega) (by omega)]
        refine Own.idx hO (by omega) hj2 ?_
        intro b cs rest _ hb1 hb2
        simp only [am, amo, amc, Nat.reduceAdd, encs_length, List.length_map, decide_true, decide_false, Tree.rec_, Nd.rec_, Word.rec_, Got.rec_, hb1, hb2]
        refine retK_intro rfl hS.sub ⟨?_, rfl⟩
        simp [V.erase, ← hR]
end Go.Proofs.Try

/-
  Pieces as trees.
-/
namespace Go.Proofs.Try
open Go.Am
set_option maxRecDepth 4000
set_option maxHeartbeats 4000000

def inv83 (l : List Tok) (a i : Nat) (d : Int) (σ : Store) : St :=
  ⟨[.sl .no 3 (l.map Tok.enc), .int .i64 (a : Nat), .any, .any, .any, .int .i64 d, .int .i64 (i : Nat)] ++ List.replicate 28 .any, [], σ⟩
theorem partner_calls (l : List Tok) (a : Nat) (σ : Store) (ha : a < l.length) (hb : l.length + 1 ≤ big) : PCalls prog 83 [.sl .no 3 (l.map Tok.enc), .int .i64 (a : Nat)] σ fun v σ' => v = .int .i64 (partner l a : Nat) ∧ σ' = σ := by
  simp only [big] at hb
  generalize hR : partner l a = R
  unfold partner at hR
  refine fn83.calls ?_
  simp only [slots, ac83, am, amo, amc, Nat.reduceAdd, decide_true, decide_false, Tree.rec_, Nd.rec_, Word.rec_, Got.rec_]
  refine vc_loop (fun p : { p : Nat × Nat × Int // partnerF l a p.1 p.2.1 p.2.2 = R ∧ p.2.1 + p.1 = l.length ∧ p.2.2 ≤ p.2.1 ∧ -(p.2.1 : Int) ≤ p.2.2 } => inv83 l a p.1.2.1 p.1.2.2 σ) (fun p => p.1.1) ?_ ?_
  · refine Upd.enter ⟨(l.length - a, a, 0), hR, by simp only; omega, by simp, by simp⟩ ?_ LLLe.rfl OLe.rfl
    simp [inv83, List.replicate, am]
  · rintro ⟨⟨n, i, d⟩, hR, hsum, hd1, hd2⟩
    simp only at hR hsum hd1 hd2
    simp only [inv83, List.replicate, am, List.length_map]
    refine vcIf_split ?_ ?_
    · intro hlt
      have hlt : i < l.length := by simpa using hlt
      obtain ⟨m, rfl⟩ : ∃ m, n = m + 1 := ⟨n - 1, by omega⟩
      simp only [partnerF] at hR
      simp only [am, amo, amc, Nat.reduceAdd, encs_length, List.length_map, decide_true, decide_false, Tree.rec_, Nd.rec_, Word.rec_, Got.rec_]
      refine idxL_intro (by omega) (tencs_at hlt) ?_
      simp only [am, amo, amc, Nat.reduceAdd, encs_length, List.length_map, decide_true, decide_false, Tree.rec_, Nd.rec_, Word.rec_, Got.rec_, Tok.enc]
      rw [← kindAt_eq hlt]
      refine (closing_calls (kindAt l i) _).mono ?_
      rintro v σ ⟨rfl, rfl⟩
      simp only [am, amo, amc, Nat.reduceAdd, encs_length, List.length_map, decide_true, decide_false, Tree.rec_, Nd.rec_, Word.rec_, Got.rec_]
      have again : ∀ (d' : Int) (t : List V), (if d' = 0 then i else partnerF l a m (i + 1) d') = R → ¬ d' = 0 → d' ≤ (i : Int) + 1 → -((i : Int) + 1) ≤ d' →
          LLe t ([.sl .no 3 (l.map Tok.enc), .int .i64 (a : Nat), .any, .any, .any, .int .i64 d', .int .i64 ((i : Int) + 1)] ++ List.replicate 28 .any) →
          Upd ⟨t, [], σ⟩ fun st' => ∃ j : { p : Nat × Nat × Int // partnerF l a p.1 p.2.1 p.2.2 = R ∧ p.2.1 + p.1 = l.length ∧ p.2.2 ≤ p.2.1 ∧ -(p.2.1 : Int) ≤ p.2.2 }, st' = inv83 l a j.1.2.1 j.1.2.2 σ ∧ j.1.1 < m + 1 := fun d' t e1 e2 e3 e4 e5 =>
        Upd.again (I := fun p : { p : Nat × Nat × Int // partnerF l a p.1 p.2.1 p.2.2 = R ∧ p.2.1 + p.1 = l.length ∧ p.2.2 ≤ p.2.1 ∧ -(p.2.1 : Int) ≤ p.2.2 } => inv83 l a p.1.2.1 p.1.2.2 σ) (μ := fun p => p.1.1)
          ⟨(m, i + 1, d'), by rw [if_neg e2] at e1; exact e1, by simp only; omega, by simp only; omega, by simp only; omega⟩ (by simp) (by simpa [inv83] using e5) LLLe.rfl OLe.rfl
      have w1 : IntKind.i64.wrap (d + 1) = d + 1 := wrap_i64 (by omega) (by omega)
      have w2 : IntKind.i64.wrap (d - 1) = d - 1 := wrap_i64 (by omega) (by omega)
      have w3 : IntKind.i64.wrap (d + 1 - 1) = d + 1 - 1 := wrap_i64 (by omega) (by omega)
      have wi : IntKind.i64.wrap ((i : Int) + 1) = (i : Int) + 1 := wrap_i64 (by omega) (by omega)
      by_cases hc : closing (kindAt l i) = 0
      case' neg =>
        simp only [ne_eq, hc, not_false_eq_true, if_true] at hR
        simp only [am, amo, amc, Nat.reduceAdd, encs_length, List.length_map, decide_true, decide_false, Tree.rec_, Nd.rec_, Word.rec_, Got.rec_, decide_eq_false hc, w1]
      case' pos =>
        simp only [ne_eq, hc, not_true_eq_false, if_false, Int.add_zero] at hR
        simp only [am, amo, amc, Nat.reduceAdd, encs_length, List.length_map, decide_true, decide_false, Tree.rec_, Nd.rec_, Word.rec_, Got.rec_, decide_eq_true hc]
      all_goals
        refine idxL_intro (by omega) (tencs_at hlt) ?_
        simp only [am, amo, amc, Nat.reduceAdd, encs_length, List.length_map, decide_true, decide_false, Tree.rec_, Nd.rec_, Word.rec_, Got.rec_, Tok.enc]
        rw [← kindAt_eq hlt]
        refine (closes_calls (kindAt l i) _).mono ?_
        rintro v σ ⟨rfl, rfl⟩
        cases hcl : closesZ (kindAt l i)
        all_goals rw [hcl] at hR
        all_goals simp only [Bool.false_eq_true, if_false, if_true, Int.sub_zero] at hR
        all_goals simp only [am, w2, w3]
        all_goals refine vcIf_split (fun h0 => ?_) (fun h0 => ?_)
        all_goals simp only [decide_eq_true_eq, decide_eq_false_iff_not] at h0
        all_goals simp only [am, wi]
        all_goals first
          | (rw [if_pos h0] at hR
             refine retK_intro rfl (Store.sub_refl _) ⟨?_, rfl⟩
             simp [V.erase, hR])
          | exact again d _ hR h0 (by omega) (by omega) (by simp [List.replicate, am])
          | exact again (d + 1) _ hR h0 (by omega) (by omega) (by simp [List.replicate, am])
          | exact again (d - 1) _ hR h0 (by omega) (by omega) (by simp [List.replicate, am])
          | exact again (d + 1 - 1) _ hR h0 (by omega) (by omega) (by simp [List.replicate, am])
    · intro hlt
      have hlt : i = l.length := by simp at hlt; omega
      have hn : n = 0 := by omega
      subst hn
      simp only [partnerF] at hR
      simp only [am, amo, amc, Nat.reduceAdd, encs_length, List.length_map, decide_true, decide_false, Tree.rec_, Nd.rec_, Word.rec_, Got.rec_]
      refine retK_intro rfl (Store.sub_refl _) ⟨?_, rfl⟩
      simp [V.erase, eraseL, hR]

def tz5 : List V := [.int .u8 0, .str [], .int .i64 0, .sl .full 5 [], .int .i64 0]
def inv60 (l : List Tok) (a : Nat) (to : Nat) (i τ : Nat) (out : List Tree) (σ : Store) : St :=
  ⟨[.sl .no 3 (l.map Tok.enc), .int .i64 (a : Nat), .int .i64 (to : Nat), .any, .any, .any, .any, .sl (.tk τ) 5 (encs out), .int .i64 (i : Nat)] ++ List.replicate 46 .any, [], σ.setTip τ out.length⟩
theorem encs_snoc (a : List Tree) (t : Tree) : encs (a ++ [t]) = encs a ++ [t.enc] := by simp [encs_map]
theorem Tree.enc_mk {t : Tok} {ks : List Tree} {e : Int} : (Tree.mk t ks e).enc = [.int .u8 t.kind, .str t.text, .int .i64 t.pos, .sl .no 5 (encs ks), .int .i64 e] := by simp [Tree.enc]
theorem trees_calls (l : List Tok) (hb : l.length + 1 ≤ big) : ∀ (n from_ to : Nat) (σ : Store), l.length ≤ n + from_ → from_ ≤ l.length → to ≤ l.length →
    PCalls prog 60 [.sl .no 3 (l.map Tok.enc), .int .i64 (from_ : Nat), .int .i64 (to : Nat)] σ fun v σ' => v = .sl .no 5 (encs (treesF l n from_ to)) ∧ σ' = σ := by
  have hb' := hb
  simp only [big] at hb'
  intro n
  induction n using Nat.strongRecOn with
  | ind n ih =>
  intro a to σ hn ha hto
  generalize hR : treesF l n a to = R
  refine fn60.calls ?_
  simp only [slots, ac60, am, amo, amc, Nat.reduceAdd, decide_true, decide_false, Tree.rec_, Nd.rec_, Word.rec_, Got.rec_]
  refine vc_loop (fun p : { p : Nat × Nat × Nat × List Tree // σ.tip p.2.2.1 = none ∧ p.2.2.2 ++ treesF l p.1 p.2.1 to = R ∧ p.1 ≤ n ∧ l.length ≤ p.1 + p.2.1 ∧ p.2.1 ≤ l.length ∧ p.2.2.2.length ≤ p.2.1 } => inv60 l a to p.1.2.1 p.1.2.2.1 p.1.2.2.2 σ) (fun p => l.length - p.1.2.1) ?_ ?_
  · refine Upd.tokEnter 0 fun τ hτ => ⟨⟨(n, a, τ, []), hτ, hR, by simp, hn, ha, by simp⟩, ?_, rfl, rfl⟩
    simp [inv60, List.replicate, lto, encs]
  · rintro ⟨⟨m, i, τ, out⟩, hτ, hR, hmn, hmi, hi, hol⟩
    simp only at hτ hR hmn hmi hi hol
    simp only [inv60, List.replicate, am]
    refine vcIf_split ?_ ?_
    · intro hlt
      have hlt : i < to := by simpa using hlt
      have hil : i < l.length := by omega
      obtain ⟨m, rfl⟩ : ∃ k, m = k + 1 := ⟨m - 1, by omega⟩
      simp only [treesF, hlt, if_true] at hR
      obtain ⟨hp1, hp2⟩ := partner_ge hil
      have wi : ∀ j : Nat, j < l.length → IntKind.i64.wrap ((j : Int) + 1) = ((j + 1 : Nat) : Int) := fun j hj => by rw [wrap_i64 (by omega) (by omega)]; simp
      simp only [am, amo, amc, Nat.reduceAdd, encs_length, List.length_map, decide_true, decide_false, Tree.rec_, Nd.rec_, Word.rec_, Got.rec_]
      refine idxL_intro (by omega) (tencs_at hil) ?_
      simp only [am, amo, amc, Nat.reduceAdd, encs_length, List.length_map, decide_true, decide_false, Tree.rec_, Nd.rec_, Word.rec_, Got.rec_, Tok.enc]
      refine idxL_intro (by omega) (tencs_at hil) ?_
      simp only [am, amo, amc, Nat.reduceAdd, encs_length, List.length_map, decide_true, decide_false, Tree.rec_, Nd.rec_, Word.rec_, Got.rec_, Tok.enc]
      refine idxL_intro (by omega) (tencs_at hil) ?_
      simp only [am, amo, amc, Nat.reduceAdd, encs_length, List.length_map, decide_true, decide_false, Tree.rec_, Nd.rec_, Word.rec_, Got.rec_, Tok.enc]
      rw [← kindAt_eq hil, ← posAt_eq hil]
      refine (closing_calls (kindAt l i) _).mono ?_
      rintro v σ2 ⟨rfl, rfl⟩
      have again : ∀ (b : Nat) (t : Tree) (st : List V) (ls : List (List V)), out ++ (t :: treesF l m b to) = R → i < b → b ≤ l.length →
          LLe st ([.sl .no 3 (l.map Tok.enc), .int .i64 (a : Nat), .int .i64 (to : Nat), .any, .any, .any, .any, .sl (.tk τ) 5 (encs (out ++ [t])), .int .i64 (b : Nat)] ++ List.replicate 46 .any) →
          Upd ⟨st, ls, σ.setTip τ (out.length + 1)⟩ fun st' => ∃ j : { p : Nat × Nat × Nat × List Tree // σ.tip p.2.2.1 = none ∧ p.2.2.2 ++ treesF l p.1 p.2.1 to = R ∧ p.1 ≤ n ∧ l.length ≤ p.1 + p.2.1 ∧ p.2.1 ≤ l.length ∧ p.2.2.2.length ≤ p.2.1 }, st' = inv60 l a to j.1.2.1 j.1.2.2.1 j.1.2.2.2 σ ∧ l.length - j.1.2.1 < l.length - i := fun b t st ls e1 e2 e3 e4 => by
        have e : out.length + 1 = (out ++ [t]).length := by simp
        rw [e]
        exact Upd.againD (I := fun p : { p : Nat × Nat × Nat × List Tree // σ.tip p.2.2.1 = none ∧ p.2.2.2 ++ treesF l p.1 p.2.1 to = R ∧ p.1 ≤ n ∧ l.length ≤ p.1 + p.2.1 ∧ p.2.1 ≤ l.length ∧ p.2.2.2.length ≤ p.2.1 } => inv60 l a to p.1.2.1 p.1.2.2.1 p.1.2.2.2 σ) (μ := fun p => l.length - p.1.2.1)
          ⟨(m, b, τ, out ++ [t]), hτ, by simpa using e1, by simp only; omega, by simp only; omega, e3, by simp; omega⟩ (by simp; omega) e4 (by simp [inv60, am]) OLe.rfl rfl rfl
      by_cases hc : closing (kindAt l i) = 0
      · simp only [ne_eq, hc, not_true_eq_false, if_false] at hR
        simp only [am, amo, amc, Nat.reduceAdd, encs_length, List.length_map, decide_true, decide_false, Tree.rec_, Nd.rec_, Word.rec_, Got.rec_, decide_eq_true hc]
        refine app_tk (by simp [encs_length, big]; omega) (by rw [encs_length, setTip_tip_same]) ?_
        simp only [am, amo, amc, Nat.reduceAdd, encs_length, List.length_map, decide_true, decide_false, Tree.rec_, Nd.rec_, Word.rec_, Got.rec_, setTip_setTip, wi i hil]
        exact again (i + 1) _ _ _ hR (by omega) (by omega) (by simp [List.replicate, am, encs_snoc, Tree.enc_mk, encs, kindAt_eq hil, posAt_eq hil])
      · simp only [ne_eq, hc, not_false_eq_true, if_true] at hR
        simp only [am, amo, amc, Nat.reduceAdd, encs_length, List.length_map, decide_true, decide_false, Tree.rec_, Nd.rec_, Word.rec_, Got.rec_, decide_eq_false hc]
        refine (partner_calls l i _ hil hb).mono ?_
        rintro v σ2 ⟨rfl, rfl⟩
        simp only [am, amo, amc, Nat.reduceAdd, encs_length, List.length_map, decide_true, decide_false, Tree.rec_, Nd.rec_, Word.rec_, Got.rec_, wi i hil]
        refine (ih m (by omega) (i + 1) (partner l i) _ (by omega) (by omega) (by omega)).mono ?_
        rintro v σ2 ⟨rfl, rfl⟩
        simp only [am, amo, amc, Nat.reduceAdd, encs_length, List.length_map, decide_true, decide_false, Tree.rec_, Nd.rec_, Word.rec_, Got.rec_]
        refine idxL_intro (by omega) (tencs_at hp2) ?_
        simp only [am, amo, amc, Nat.reduceAdd, encs_length, List.length_map, decide_true, decide_false, Tree.rec_, Nd.rec_, Word.rec_, Got.rec_, Tok.enc]
        rw [← posAt_eq hp2]
        refine app_tk (by simp [encs_length, big]; omega) (by rw [encs_length, setTip_tip_same]) ?_
        simp only [am, amo, amc, Nat.reduceAdd, encs_length, List.length_map, decide_true, decide_false, Tree.rec_, Nd.rec_, Word.rec_, Got.rec_, setTip_setTip, wi _ hp2]
        exact again (partner l i + 1) _ _ _ hR (by omega) (by omega) (by simp [List.replicate, am, encs_snoc, Tree.enc_mk, encs, kindAt_eq hil, posAt_eq hil])
    · intro hlt
      have hlt : ¬ i < to := by simp at hlt; omega
      have hE : treesF l m i to = [] := by cases m <;> simp [treesF, hlt]
      rw [hE, List.append_nil] at hR
      simp only [am, amo, amc, Nat.reduceAdd, encs_length, List.length_map, decide_true, decide_false, Tree.rec_, Nd.rec_, Word.rec_, Got.rec_]
      refine retK_intro rfl (sub_tip hτ) ⟨?_, rfl⟩
      simp [V.erase, ← hR]

theorem tree_calls (l : List Tok) (σ : Store) (hb : l.length + 1 ≤ big) : PCalls prog 30 [.sl .no 3 (l.map Tok.enc)] σ fun v σ' => v = .tup [.sl .no 5 (encs (treeR l).1), fenc (treeR l).2] ∧ σ' = σ := by
  refine fn30.calls ?_
  simp only [slots, ac30, am, amo, amc, Nat.reduceAdd, decide_true, decide_false, Tree.rec_, Nd.rec_, Word.rec_, Got.rec_]
  refine (fault_calls l σ hb).mono ?_
  rintro v σ ⟨rfl, rfl⟩
  have hf := faultF_lt l l.length 0 [] (by omega) (by simp)
  generalize hg : faultF l l.length 0 [] = f at hf ⊢
  by_cases h0 : 0 ≤ f
  · obtain ⟨j, rfl⟩ := Int.eq_ofNat_of_zero_le h0
    have hj : j < l.length := by omega
    simp only [am, amo, amc, Nat.reduceAdd, encs_length, List.length_map, decide_true, decide_false, Tree.rec_, Nd.rec_, Word.rec_, Got.rec_, decide_eq_true h0]
    refine idxL_intro (by omega) (tencs_at hj) ?_
    simp only [am, amo, amc, Nat.reduceAdd, encs_length, List.length_map, decide_true, decide_false, Tree.rec_, Nd.rec_, Word.rec_, Got.rec_, Tok.enc]
    rw [← posAt_eq hj]
    refine retK_intro rfl (Store.sub_refl _) ⟨?_, rfl⟩
    simp [V.erase, eraseL, treeR, hg, fenc, badC, badA, encs]
  · simp only [am, amo, amc, Nat.reduceAdd, encs_length, List.length_map, decide_true, decide_false, Tree.rec_, Nd.rec_, Word.rec_, Got.rec_, decide_eq_false h0]
    refine (trees_calls l hb l.length 0 l.length σ (by omega) (by omega) (by omega)).mono ?_
    rintro v σ ⟨rfl, rfl⟩
    simp only [am, amo, amc, Nat.reduceAdd, encs_length, List.length_map, decide_true, decide_false, Tree.rec_, Nd.rec_, Word.rec_, Got.rec_]
    refine retK_intro rfl (Store.sub_refl _) ⟨?_, rfl⟩
    simp [V.erase, eraseL, treeR, hg, h0, fenc, badC, badA]
end Go.Proofs.Try

/-
  The texts of nodes.
-/
namespace Go.Am
def joinC : List (List UInt8) → List UInt8
  | [] => []
  | x :: xs => x ++ xs.flatMap fun y => 44 :: y
theorem joinC_snoc (l : List (List UInt8)) (y : List UInt8) : joinC (l ++ [y]) = joinC l ++ (if 0 < l.length then [44] else []) ++ y := by
  cases l with
  | nil => simp [joinC]
  | cons x xs => simp [joinC]
theorem joinC_len : ∀ l : List (List UInt8), (joinC l).length ≤ (l.map fun x => x.length + 1).sum
  | [] => by simp [joinC]
  | x :: xs => by
    simp only [joinC, List.length_append, List.length_flatMap, List.map_cons, List.sum_cons]
    have : (xs.map fun y => (44 :: y).length) = xs.map fun x => x.length + 1 := by simp
    rw [this]; omega
def wtext (ws : List Word) : List UInt8 := joinC (ws.map Word.text)
def headT : List (List UInt8) → List UInt8
  | [] => []
  | x :: _ => x
mutual
def Nd.txt : Nd → List UInt8
  | .mk k _ t ws ks =>
    if k = 1 ∨ k = 2 then t
    else if k = 3 then [123] ++ wtext ws ++ [125]
    else if k = 4 then [40] ++ joinC (txts ks) ++ [41]
    else if k = 5 then [91] ++ joinC (txts ks) ++ [93]
    else if k = 6 then t ++ [58, 123] ++ wtext ws ++ [125]
    else if k = 7 then [35] ++ headT (txts ks)
    else if k = 8 then [43, 40] ++ joinC (txts ks) ++ [41]
    else if k = 9 then [38, 40] ++ joinC (txts ks) ++ [41]
    else if k = 10 then ([91] ++ joinC (txts ks)) ++ (if 0 < ws.length then [124] ++ wtext ws else []) ++ [93]
    else if k = 11 then t ++ [61] ++ headT (txts ks)
    else []
def txts : List Nd → List (List UInt8)
  | [] => []
  | n :: ns => n.txt :: txts ns
end
theorem txts_map : ∀ l, txts l = l.map Nd.txt
  | [] => rfl
  | n :: ns => by simp [txts, txts_map ns]
def wsum (ws : List Word) : Nat := (ws.map fun w => w.text.length + 1).sum
mutual
/-- How much there is to a node. -/
def Nd.wt : Nd → Nat
  | .mk _ _ t ws ks => t.length + wsum ws + wts ks + 4
def wts : List Nd → Nat
  | [] => 0
  | n :: ns => n.wt + 1 + wts ns
end
theorem wts_map : ∀ l, wts l = (l.map fun n => n.wt + 1).sum
  | [] => rfl
  | n :: ns => by simp [wts, wts_map ns]
theorem wtext_len (ws : List Word) : (wtext ws).length ≤ wsum ws := by
  have := joinC_len (ws.map Word.text)
  simpa [wtext, wsum, List.map_map, Function.comp_def] using this
theorem wt_mem {l : List Nd} {n : Nd} (h : n ∈ l) : n.wt + 1 ≤ wts l := by
  induction l with
  | nil => simp at h
  | cons m ms ih =>
    rcases List.mem_cons.1 h with rfl | h
    · simp only [wts]; omega
    · have := ih h; simp only [wts]; omega
theorem ktext_len : ∀ (l : List Nd), (∀ n ∈ l, n.txt.length ≤ n.wt) → (joinC (txts l)).length ≤ wts l := fun l h => by
  refine Nat.le_trans (joinC_len _) ?_
  rw [txts_map, wts_map, List.map_map]
  induction l with
  | nil => simp
  | cons n ns ih =>
    simp only [List.map_cons, List.sum_cons, Function.comp]
    have h1 := h n (by simp)
    have h2 := ih fun m hm => h m (by simp [hm])
    omega
theorem head_len (l : List Nd) (h : ∀ n ∈ l, n.txt.length ≤ n.wt) : (headT (txts l)).length ≤ wts l := by
  cases l with
  | nil => simp [txts, headT]
  | cons n ns => have := h n (by simp); simp only [txts, headT, wts]; omega
mutual
theorem txt_len : ∀ (n : Nd), n.txt.length ≤ n.wt
  | .mk k p t ws ks => by
    have h1 := wtext_len ws
    have h2 := ktext_len ks (txt_lens ks)
    have h3 := head_len ks (txt_lens ks)
    simp only [Nd.txt, Nd.wt]
    repeat' split
    all_goals (try simp only [List.length_append, List.length_cons, List.length_nil])
    all_goals omega
theorem txt_lens : ∀ (l : List Nd), ∀ n ∈ l, n.txt.length ≤ n.wt
  | [], n, h => by simp at h
  | m :: ms, n, h => by
    rcases List.mem_cons.1 h with h | h
    · rw [h]; exact txt_len m
    · exact txt_lens ms n h
end
end Go.Am
