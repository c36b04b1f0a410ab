/-
  For every two commands and every number, all of bulk at most 1048576: text, sameness, rightness and word are as the document's answer tells (CommandTells); a tied card: the variable clearance/command.forms is tied to the copy of the project that the seat holds.
-/
import Derived.Test.YthncngbmelgmaaaGreatDoorProg
import Derived.ProofKit
import Derived.OpenShut
import Derived.JoinedCond
import Derived.ChangeStays
import Derived.ReadAgain
import Derived.Deep.DeepHandedRow
import Derived.Lib.LaidTab
import Derived.Test.YthncngbmelgmaaaGreatDoorCards
import Derived.Test.YthncngbmelgmaaaGreatDoorTie
import Derived.Test.YthncngbmelgmaaaGreatDoorTells5
set_option linter.unusedVariables false
set_option linter.unusedSimpArgs false
set_option linter.defProp false
set_option linter.unusedSectionVars false

namespace Go.Proofs.Tryz
open Go.Am
set_option maxRecDepth 4000
set_option maxHeartbeats 4000000
def ac59 : AC := .seq (.reg [⟨(some 4), .mv (.c (.bool false)), none⟩])
 (.seq (.seq (.reg [xi 5 0])
 (.block 0 (.loop (.seq (.seq (.reg [xm 8 5, xm 9 1, xL 10 9, xb .lss 11 8 10])
 (.cond (.s 11) (.skip)
 (.exit 0)))
 (.seq (.block 1 (.seq (.reg [xm 14 1, xm 15 5, xA 5 16 14 15, xl 5 17 16, ⟨(some 6), .alloc [(.int .i64 0), (.int .i64 0), (.str []), (.sl .full 2 []), (.sl .full 5 [])], none⟩, xs 5 6 17])
 (.seq (.reg [xm 18 0, xB .eql 19 18 1, xm 20 19, xg 20 (xl 5 21 6), xg 20 (xc 85 22 [.s 21]), ⟨(some 23), .pick (.s 20) (.s 22) (.c (.bool false)), none⟩, xm 24 23, xh 24 (xm 25 0), xh 24 (xB .eql 26 25 3), xh 24 (xm 27 26), xg 27 (xl 5 28 6), xg 27 (xc 36 29 [.s 28]), ⟨(some 30), .pick (.s 27) (.s 29) (.c (.bool false)), (some (24, false))⟩, ⟨(some 31), .pick (.s 24) (.c (.bool true)) (.s 30), none⟩, xm 7 31])
 (.seq (.seq (.reg [xm 32 0, xB .eql 33 32 2])
 (.cond (.s 33) (.reg [xf 0 34 6, xo 35 34, xB .eql 36 35 6, xm 37 36, xg 37 (xf 2 38 6), xg 37 (xo 39 38), xg 37 (xc 35 40 [.s 39]), ⟨(some 41), .pick (.s 37) (.s 40) (.c (.bool false)), none⟩, xm 42 41, xg 42 (xf 3 43 6), xg 42 (xo 44 43), xg 42 (xc 60 45 [.s 44]), ⟨(some 46), .pick (.s 42) (.s 45) (.c (.bool false)), none⟩, xm 47 46, xg 47 (xf 4 48 6), xg 47 (xo 49 48), xg 47 (xL 50 49), xg 47 (xB .eql 51 50 0), ⟨(some 52), .pick (.s 47) (.s 51) (.c (.bool false)), none⟩, xm 7 52])
 (.skip)))
 (.seq (.seq (.reg [xm 53 0, xB .eql 54 53 4])
 (.cond (.s 54) (.reg [xf 0 55 6, xo 56 55, xB .eql 57 56 11, xm 58 57, xg 58 (xf 2 59 6), xg 58 (xo 60 59), xg 58 (xc 35 61 [.s 60]), ⟨(some 62), .pick (.s 58) (.s 61) (.c (.bool false)), none⟩, xm 63 62, xg 63 (xf 3 64 6), xg 63 (xo 65 64), xg 63 (xL 66 65), xg 63 (xB .eql 67 66 0), ⟨(some 68), .pick (.s 63) (.s 67) (.c (.bool false)), none⟩, xm 69 68, xg 69 (xf 4 70 6), xg 69 (xo 71 70), xg 69 (xL 72 71), xg 69 (xB .eql 73 72 1), ⟨(some 74), .pick (.s 69) (.s 73) (.c (.bool false)), none⟩, xm 75 74, xg 75 (xf 4 76 6), xg 75 (xo 77 76), ⟨(some 78), .idxA 5 (.s 77) (.c (.int .i64 0)), (some (75, true))⟩, xg 75 (xl 5 79 78), xg 75 (xc 36 80 [.s 79]), ⟨(some 81), .pick (.s 75) (.s 80) (.c (.bool false)), none⟩, xm 82 81, xg 82 (xf 4 83 6), xg 82 (xo 84 83), ⟨(some 85), .idxA 5 (.s 84) (.c (.int .i64 0)), (some (82, true))⟩, xg 82 (xf 0 86 85), xg 82 (xo 87 86), xg 82 (xB .neq 88 87 8), ⟨(some 89), .pick (.s 82) (.s 88) (.c (.bool false)), none⟩, xm 90 89, xg 90 (xf 4 91 6), xg 90 (xo 92 91), ⟨(some 93), .idxA 5 (.s 92) (.c (.int .i64 0)), (some (90, true))⟩, xg 90 (xf 0 94 93), xg 90 (xo 95 94), xg 90 (xB .neq 96 95 9), ⟨(some 97), .pick (.s 90) (.s 96) (.c (.bool false)), none⟩, xm 7 97])
 (.skip)))
 (.seq (.reg [xm 98 7, ⟨(some 99), .not (.s 98), none⟩])
 (.cond (.s 99) (.seq (.reg [⟨(some 4), .mv (.c (.bool false)), none⟩])
 (.ret))
 (.skip))))))))
 (.reg [xm 12 5, xB .add 13 12 1, xm 5 13]))))))
 (.seq (.reg [⟨(some 4), .mv (.c (.bool true)), none⟩])
 (.ret)))
theorem fn59 : IsFn prog 59 ac59 [.tmp 4] 100 := ⟨f59, ⟨[], []⟩, func59, by kernel_rfl, by kernel_rfl, by kernel_rfl, by kernel_rfl⟩
def ac60 : AC := .seq (.reg [⟨(some 2), .mv (.c (.bool false)), none⟩])
 (.seq (.seq (.reg [xi 3 0])
 (.block 0 (.loop (.seq (.seq (.reg [xm 4 3, xm 5 0, xL 6 5, xb .lss 7 4 6])
 (.cond (.s 7) (.skip)
 (.exit 0)))
 (.seq (.block 1 (.seq (.reg [xm 10 0, xm 11 3, xA 2 12 10 11, xf 0 13 12, xo 14 13, xc 35 15 [.s 14], ⟨(some 16), .not (.s 15), none⟩])
 (.cond (.s 16) (.seq (.reg [⟨(some 2), .mv (.c (.bool false)), none⟩])
 (.ret))
 (.skip))))
 (.reg [xm 8 3, xB .add 9 8 1, xm 3 9]))))))
 (.seq (.reg [⟨(some 2), .mv (.c (.bool true)), none⟩])
 (.ret)))
theorem fn60 : IsFn prog 60 ac60 [.tmp 2] 17 := ⟨f60, ⟨[], []⟩, func60, by kernel_rfl, by kernel_rfl, by kernel_rfl, by kernel_rfl⟩
def inv55 (l : List Word) (σ : Store) (i : Nat) : St :=
  ⟨[.sl .no 2 (l.map Word.enc), .any, .any, .int .i64 (i : Nat)] ++ List.replicate 13 .any, [], σ⟩
theorem right2W_calls (l : List Word) (σ : Store) (hb : l.length ≤ big) : PCalls prog 60 [.sl .no 2 (l.map Word.enc)] σ fun v σ' => v = .bool (rightW l) ∧ σ' = σ := by
  simp only [big] at hb
  refine fn60.calls ?_
  simp only [slots, ac60, am, amo, amc, ams, Nat.reduceAdd, Nat.reduceEqDiff, decide_true, decide_false, Tree.rec_, Nd.rec_, Word.rec_, Got.rec_, Nd.fl]
  refine vc_loop (fun p : { i : Nat // i ≤ l.length ∧ (l.take i).all (fun w => nameR w.text) = true } => inv55 l σ p.1) (fun p => l.length - p.1) ?_ ?_
  · refine Upd.enter ⟨0, by simp, by simp⟩ ?_ LLLe.rfl OLe.rfl
    simp [inv55, List.replicate, am]
  · rintro ⟨i, hi, ha⟩
    simp only [inv55, List.replicate, am, List.length_map]
    refine vcIf_split ?_ ?_
    · intro hlt
      have hlt : i < l.length := by simpa using hlt
      simp only [am, amo, amc, Nat.reduceAdd, Nat.reduceEqDiff, encs_length, List.length_map, decide_true, decide_false, Tree.rec_, Nd.rec_, Word.rec_, Got.rec_, Nd.fl]
      refine idxL_intro (by omega) (wencs_at (List.getElem?_eq_getElem hlt)) ?_
      simp only [am, amo, amc, Nat.reduceAdd, Nat.reduceEqDiff, encs_length, List.length_map, decide_true, decide_false, Tree.rec_, Nd.rec_, Word.rec_, Got.rec_, Nd.fl, Word.enc]
      refine (right2_calls l[i].text σ).mono ?_
      rintro v σ ⟨rfl, rfl⟩
      cases hg : nameR l[i].text
      · simp only [am, amo, amc, Nat.reduceAdd, Nat.reduceEqDiff, encs_length, List.length_map, decide_true, decide_false, Tree.rec_, Nd.rec_, Word.rec_, Got.rec_, Nd.fl]
        refine retK_intro rfl (Store.sub_refl _) ⟨?_, rfl⟩
        rw [show rightW l = false from all_no (f := fun (w : Word) => nameR w.text) hlt hg]; rfl
      · simp only [am, amo, amc, Nat.reduceAdd, Nat.reduceEqDiff, encs_length, List.length_map, decide_true, decide_false, Tree.rec_, Nd.rec_, Word.rec_, Got.rec_, Nd.fl]
        rw [wrap_i64 (by omega) (by omega)]
        exact Upd.again ⟨i + 1, hlt, by rw [all_take hlt, ha, hg]; rfl⟩ (by simp; omega) (by simp [List.replicate, am]) LLLe.rfl OLe.rfl
    · intro hlt
      have hlt : i = l.length := by simp at hlt; omega
      subst hlt
      rw [List.take_length] at ha
      simp only [am, amo, amc, Nat.reduceAdd, Nat.reduceEqDiff, encs_length, List.length_map, decide_true, decide_false, Tree.rec_, Nd.rec_, Word.rec_, Got.rec_, Nd.fl]
      refine retK_intro rfl (Store.sub_refl _) ⟨?_, rfl⟩
      simp [V.erase, eraseL, rightW, ha]
theorem headQ_all {f : Nd → Bool} {l : List Nd} (h : (l.length : Int) = 1) : headQ f l = l.all f := by
  match l, h with
  | [m], _ => simp [headQ]
  | [], h => simp at h
  | _ :: _ :: _, h => simp at h; omega
theorem atomQ_eq (n : Nd) : n.atomQ = (n.labelQ && !decide (n.kind = 8) && !decide (n.kind = 9)) := by
  unfold Nd.atomQ
  rw [Nd.labelQ_eq]
  by_cases k1 : n.kind = 1
  · simp [k1]
  by_cases k7 : n.kind = 7
  · simp [k7]
  by_cases k8 : n.kind = 8
  · simp [k8]
  by_cases k9 : n.kind = 9
  · simp [k9]
  simp [k1, k7, k8, k9]
def inv56 (w : Int) (l : List Nd) (σ : Store) (i : Nat) : St :=
  ⟨[.int .i64 w, .sl .no 5 (l.map Nd.enc), .any, .any, .any, .int .i64 (i : Nat)] ++ List.replicate 94 .any, [], σ⟩
theorem all1_calls (l : List Nd) (σ : Store) (hb : l.length ≤ big) (h : ∀ n ∈ l, ∀ σ, PCalls prog 85 [.agg n.enc] σ fun v σ' => v = .bool n.constQ ∧ σ' = σ) : PCalls prog 59 [.int .i64 1, .sl .no 5 (l.map Nd.enc)] σ fun v σ' => v = .bool (l.all Nd.constQ) ∧ σ' = σ := by
  simp only [big] at hb
  refine fn59.calls ?_
  simp only [slots, ac59, am, amo, amc, ams, Nat.reduceAdd, Nat.reduceEqDiff, decide_true, decide_false, Tree.rec_, Nd.rec_, Word.rec_, Got.rec_, Nd.fl]
  refine vc_loop (fun p : { i : Nat // i ≤ l.length ∧ (l.take i).all Nd.constQ = true } => inv56 1 l σ p.1) (fun p => l.length - p.1) ?_ ?_
  · refine Upd.enter ⟨0, by simp, by simp⟩ ?_ LLLe.rfl OLe.rfl
    simp [inv56, List.replicate, am]
  rintro ⟨i, hi, ha⟩
  simp only [inv56, List.replicate, am, List.length_map]
  refine vcIf_split ?_ ?_
  · intro hlt
    have hlt : i < l.length := by simpa using hlt
    have wi : IntKind.i64.wrap ((i : Int) + 1) = (i : Int) + 1 := wrap_i64 (by omega) (by omega)
    have hyes : l[i].constQ = true → (l.take (i + 1)).all Nd.constQ = true := fun hg => by rw [all_take hlt, ha, hg]; rfl
    have hno : l[i].constQ = false → l.all Nd.constQ = false := fun hg => all_no hlt hg
    have hmem := List.getElem_mem hlt
    simp only [am, amo, amc, Nat.reduceAdd, Nat.reduceEqDiff, encs_length, List.length_map, decide_true, decide_false, Tree.rec_, Nd.rec_, Word.rec_, Got.rec_, Nd.fl]
    refine idxL_intro (by omega) (nencs_at (List.getElem?_eq_getElem hlt)) ?_
    generalize l[i] = n at hyes hno hmem ⊢
    simp only [am, amo, amc, Nat.reduceAdd, Nat.reduceEqDiff, encs_length, List.length_map, decide_true, decide_false, Tree.rec_, Nd.rec_, Word.rec_, Got.rec_, Nd.fl, Nd.r_ov, Int.reduceEq, Int.reduceNe]
    refine (h n hmem σ).mono ?_
    rintro v σ ⟨rfl, rfl⟩
    cases hg : n.constQ
    · simp only [am, amo, amc, Nat.reduceAdd, Nat.reduceEqDiff, encs_length, List.length_map, decide_true, decide_false, Tree.rec_, Nd.rec_, Word.rec_, Got.rec_, Nd.fl, Int.reduceEq, Int.reduceNe]
      refine retK_intro rfl (Store.sub_refl _) ⟨?_, rfl⟩
      simp [V.erase, eraseL, hno hg]
    · simp only [am, amo, amc, Nat.reduceAdd, Nat.reduceEqDiff, encs_length, List.length_map, decide_true, decide_false, Tree.rec_, Nd.rec_, Word.rec_, Got.rec_, Nd.fl, Int.reduceEq, Int.reduceNe, wi]
      exact Upd.againD ⟨i + 1, hlt, hyes hg⟩ (by simp; omega) (by simp [List.replicate, am]) (by simp [am]) OLe.rfl rfl rfl
  intro hlt
  have hlt : i = l.length := by simp at hlt; omega
  subst hlt
  rw [List.take_length] at ha
  simp only [am, amo, amc, Nat.reduceAdd, Nat.reduceEqDiff, encs_length, List.length_map, decide_true, decide_false, Tree.rec_, Nd.rec_, Word.rec_, Got.rec_, Nd.fl]
  refine retK_intro rfl (Store.sub_refl _) ⟨?_, rfl⟩
  simp [V.erase, eraseL, ha]
theorem all3_calls (l : List Nd) (σ : Store) (hb : l.length ≤ big) (h : ∀ n ∈ l, ∀ σ, PCalls prog 36 [.agg n.enc] σ fun v σ' => v = .bool n.labelQ ∧ σ' = σ) : PCalls prog 59 [.int .i64 3, .sl .no 5 (l.map Nd.enc)] σ fun v σ' => v = .bool (l.all Nd.labelQ) ∧ σ' = σ := by
  simp only [big] at hb
  refine fn59.calls ?_
  simp only [slots, ac59, am, amo, amc, ams, Nat.reduceAdd, Nat.reduceEqDiff, decide_true, decide_false, Tree.rec_, Nd.rec_, Word.rec_, Got.rec_, Nd.fl]
  refine vc_loop (fun p : { i : Nat // i ≤ l.length ∧ (l.take i).all Nd.labelQ = true } => inv56 3 l σ p.1) (fun p => l.length - p.1) ?_ ?_
  · refine Upd.enter ⟨0, by simp, by simp⟩ ?_ LLLe.rfl OLe.rfl
    simp [inv56, List.replicate, am]
  rintro ⟨i, hi, ha⟩
  simp only [inv56, List.replicate, am, List.length_map]
  refine vcIf_split ?_ ?_
  · intro hlt
    have hlt : i < l.length := by simpa using hlt
    have wi : IntKind.i64.wrap ((i : Int) + 1) = (i : Int) + 1 := wrap_i64 (by omega) (by omega)
    have hyes : l[i].labelQ = true → (l.take (i + 1)).all Nd.labelQ = true := fun hg => by rw [all_take hlt, ha, hg]; rfl
    have hno : l[i].labelQ = false → l.all Nd.labelQ = false := fun hg => all_no hlt hg
    have hmem := List.getElem_mem hlt
    simp only [am, amo, amc, Nat.reduceAdd, Nat.reduceEqDiff, encs_length, List.length_map, decide_true, decide_false, Tree.rec_, Nd.rec_, Word.rec_, Got.rec_, Nd.fl]
    refine idxL_intro (by omega) (nencs_at (List.getElem?_eq_getElem hlt)) ?_
    generalize l[i] = n at hyes hno hmem ⊢
    simp only [am, amo, amc, Nat.reduceAdd, Nat.reduceEqDiff, encs_length, List.length_map, decide_true, decide_false, Tree.rec_, Nd.rec_, Word.rec_, Got.rec_, Nd.fl, Nd.r_ov, Int.reduceEq, Int.reduceNe]
    refine (h n hmem σ).mono ?_
    rintro v σ ⟨rfl, rfl⟩
    cases hg : n.labelQ
    · simp only [am, amo, amc, Nat.reduceAdd, Nat.reduceEqDiff, encs_length, List.length_map, decide_true, decide_false, Tree.rec_, Nd.rec_, Word.rec_, Got.rec_, Nd.fl, Int.reduceEq, Int.reduceNe]
      refine retK_intro rfl (Store.sub_refl _) ⟨?_, rfl⟩
      simp [V.erase, eraseL, hno hg]
    · simp only [am, amo, amc, Nat.reduceAdd, Nat.reduceEqDiff, encs_length, List.length_map, decide_true, decide_false, Tree.rec_, Nd.rec_, Word.rec_, Got.rec_, Nd.fl, Int.reduceEq, Int.reduceNe, wi]
      exact Upd.againD ⟨i + 1, hlt, hyes hg⟩ (by simp; omega) (by simp [List.replicate, am]) (by simp [am]) OLe.rfl rfl rfl
  intro hlt
  have hlt : i = l.length := by simp at hlt; omega
  subst hlt
  rw [List.take_length] at ha
  simp only [am, amo, amc, Nat.reduceAdd, Nat.reduceEqDiff, encs_length, List.length_map, decide_true, decide_false, Tree.rec_, Nd.rec_, Word.rec_, Got.rec_, Nd.fl]
  refine retK_intro rfl (Store.sub_refl _) ⟨?_, rfl⟩
  simp [V.erase, eraseL, ha]
theorem all2_calls (l : List Nd) (σ : Store) (hb : l.length ≤ big) (hw : ∀ n ∈ l, n.names.length ≤ big) : PCalls prog 59 [.int .i64 2, .sl .no 5 (l.map Nd.enc)] σ fun v σ' => v = .bool (l.all Nd.ruleQ) ∧ σ' = σ := by
  simp only [big] at hb
  refine fn59.calls ?_
  simp only [slots, ac59, am, amo, amc, ams, Nat.reduceAdd, Nat.reduceEqDiff, decide_true, decide_false, Tree.rec_, Nd.rec_, Word.rec_, Got.rec_, Nd.fl]
  refine vc_loop (fun p : { i : Nat // i ≤ l.length ∧ (l.take i).all Nd.ruleQ = true } => inv56 2 l σ p.1) (fun p => l.length - p.1) ?_ ?_
  · refine Upd.enter ⟨0, by simp, by simp⟩ ?_ LLLe.rfl OLe.rfl
    simp [inv56, List.replicate, am]
  rintro ⟨i, hi, ha⟩
  simp only [inv56, List.replicate, am, List.length_map]
  refine vcIf_split ?_ ?_
  · intro hlt
    have hlt : i < l.length := by simpa using hlt
    have wi : IntKind.i64.wrap ((i : Int) + 1) = (i : Int) + 1 := wrap_i64 (by omega) (by omega)
    have hyes : l[i].ruleQ = true → (l.take (i + 1)).all Nd.ruleQ = true := fun hg => by rw [all_take hlt, ha, hg]; rfl
    have hno : l[i].ruleQ = false → l.all Nd.ruleQ = false := fun hg => all_no hlt hg
    have hmem := List.getElem_mem hlt
    simp only [am, amo, amc, Nat.reduceAdd, Nat.reduceEqDiff, encs_length, List.length_map, decide_true, decide_false, Tree.rec_, Nd.rec_, Word.rec_, Got.rec_, Nd.fl]
    refine idxL_intro (by omega) (nencs_at (List.getElem?_eq_getElem hlt)) ?_
    generalize l[i] = n at hyes hno hmem ⊢
    simp only [am, amo, amc, Nat.reduceAdd, Nat.reduceEqDiff, encs_length, List.length_map, decide_true, decide_false, Tree.rec_, Nd.rec_, Word.rec_, Got.rec_, Nd.fl, Nd.r_ov, Int.reduceEq, Int.reduceNe]
    have hnm := hw n hmem
    repeat' (first
      | (refine gL_split (fun h => ?_) (fun h => ?_) <;> simp only [am, amo, amc, h, Nat.reduceAdd, Nat.reduceEqDiff, encs_length, List.length_map, decide_true, decide_false, Tree.rec_, Nd.rec_, Word.rec_, Got.rec_, Nd.fl, Int.reduceEq, Int.reduceNe, wi])
      | (refine vcIf_split (fun h => ?_) (fun h => ?_) <;> simp only [am, amo, amc, h, Nat.reduceAdd, Nat.reduceEqDiff, encs_length, List.length_map, decide_true, decide_false, Tree.rec_, Nd.rec_, Word.rec_, Got.rec_, Nd.fl, Int.reduceEq, Int.reduceNe, wi])
      | (refine pickL_split (fun h => ?_) (fun h => ?_) <;> simp only [am, amo, amc, h, Nat.reduceAdd, Nat.reduceEqDiff, encs_length, List.length_map, decide_true, decide_false, Tree.rec_, Nd.rec_, Word.rec_, Got.rec_, Nd.fl, Int.reduceEq, Int.reduceNe, wi])
      | (refine (right2_calls n.text _).mono ?_; rintro v _ ⟨rfl, rfl⟩; simp only [am, Int.reduceEq, Int.reduceNe])
      | (refine (right2W_calls n.names _ hnm).mono ?_; rintro v _ ⟨rfl, rfl⟩; simp only [am, Int.reduceEq, Int.reduceNe])
    )
    all_goals cases hg : n.ruleQ
    all_goals first
      | (exfalso; revert hg; simp_all [Nd.ruleQ]; done)
      | (refine retK_intro rfl (Store.sub_refl _) ⟨?_, rfl⟩; rw [hno hg]; rfl)
      | exact Upd.againD ⟨i + 1, hlt, hyes hg⟩ (by simp; omega) (by simp [List.replicate, am]) (by simp [am]) OLe.rfl rfl rfl
  intro hlt
  have hlt : i = l.length := by simp at hlt; omega
  subst hlt
  rw [List.take_length] at ha
  simp only [am, amo, amc, Nat.reduceAdd, Nat.reduceEqDiff, encs_length, List.length_map, decide_true, decide_false, Tree.rec_, Nd.rec_, Word.rec_, Got.rec_, Nd.fl]
  refine retK_intro rfl (Store.sub_refl _) ⟨?_, rfl⟩
  simp [V.erase, eraseL, ha]
theorem all4_calls (l : List Nd) (σ : Store) (hb : l.length ≤ big) (h : ∀ n ∈ l, ∀ m ∈ n.kids, ∀ σ, PCalls prog 36 [.agg m.enc] σ fun v σ' => v = .bool m.labelQ ∧ σ' = σ) : PCalls prog 59 [.int .i64 4, .sl .no 5 (l.map Nd.enc)] σ fun v σ' => v = .bool (l.all Nd.fieldQ) ∧ σ' = σ := by
  simp only [big] at hb
  refine fn59.calls ?_
  simp only [slots, ac59, am, amo, amc, ams, Nat.reduceAdd, Nat.reduceEqDiff, decide_true, decide_false, Tree.rec_, Nd.rec_, Word.rec_, Got.rec_, Nd.fl]
  refine vc_loop (fun p : { i : Nat // i ≤ l.length ∧ (l.take i).all Nd.fieldQ = true } => inv56 4 l σ p.1) (fun p => l.length - p.1) ?_ ?_
  · refine Upd.enter ⟨0, by simp, by simp⟩ ?_ LLLe.rfl OLe.rfl
    simp [inv56, List.replicate, am]
  rintro ⟨i, hi, ha⟩
  simp only [inv56, List.replicate, am, List.length_map]
  refine vcIf_split ?_ ?_
  · intro hlt
    have hlt : i < l.length := by simpa using hlt
    have wi : IntKind.i64.wrap ((i : Int) + 1) = (i : Int) + 1 := wrap_i64 (by omega) (by omega)
    have hyes : l[i].fieldQ = true → (l.take (i + 1)).all Nd.fieldQ = true := fun hg => by rw [all_take hlt, ha, hg]; rfl
    have hno : l[i].fieldQ = false → l.all Nd.fieldQ = false := fun hg => all_no hlt hg
    have hmem := List.getElem_mem hlt
    simp only [am, amo, amc, Nat.reduceAdd, Nat.reduceEqDiff, encs_length, List.length_map, decide_true, decide_false, Tree.rec_, Nd.rec_, Word.rec_, Got.rec_, Nd.fl]
    refine idxL_intro (by omega) (nencs_at (List.getElem?_eq_getElem hlt)) ?_
    generalize l[i] = n at hyes hno hmem ⊢
    simp only [am, amo, amc, Nat.reduceAdd, Nat.reduceEqDiff, encs_length, List.length_map, decide_true, decide_false, Tree.rec_, Nd.rec_, Word.rec_, Got.rec_, Nd.fl, Nd.r_ov, Int.reduceEq, Int.reduceNe]
    have hm := h n hmem
    cases hks : n.kids with
    | nil =>
      repeat' (first
        | (refine gL_split (fun h => ?_) (fun h => ?_) <;> simp only [am, amo, amc, h, Nat.reduceAdd, Nat.reduceEqDiff, encs_length, List.length_map, decide_true, decide_false, Tree.rec_, Nd.rec_, Word.rec_, Got.rec_, Nd.fl, Int.reduceEq, Int.reduceNe, wi, hks, List.map_nil, List.length_nil, Int.natCast_zero, show decide ((0 : Int) = 1) = false from rfl])
        | (refine vcIf_split (fun h => ?_) (fun h => ?_) <;> simp only [am, amo, amc, h, Nat.reduceAdd, Nat.reduceEqDiff, encs_length, List.length_map, decide_true, decide_false, Tree.rec_, Nd.rec_, Word.rec_, Got.rec_, Nd.fl, Int.reduceEq, Int.reduceNe, wi, hks, List.map_nil, List.length_nil, Int.natCast_zero, show decide ((0 : Int) = 1) = false from rfl])
        | (refine pickL_split (fun h => ?_) (fun h => ?_) <;> simp only [am, amo, amc, h, Nat.reduceAdd, Nat.reduceEqDiff, encs_length, List.length_map, decide_true, decide_false, Tree.rec_, Nd.rec_, Word.rec_, Got.rec_, Nd.fl, Int.reduceEq, Int.reduceNe, wi, hks, List.map_nil, List.length_nil, Int.natCast_zero, show decide ((0 : Int) = 1) = false from rfl])
        | (refine (right2_calls n.text _).mono ?_; rintro v _ ⟨rfl, rfl⟩; simp only [am, Int.reduceEq, Int.reduceNe])
      )
      all_goals cases hg : n.fieldQ
      all_goals first
        | (exfalso; revert hg; simp_all [Nd.fieldQ, headQ]; done)
        | (refine retK_intro rfl (Store.sub_refl _) ⟨?_, rfl⟩; rw [hno hg]; rfl)
    | cons m ms =>
      have hl := hm m (by rw [hks]; simp)
      repeat' (first
        | (refine gL_split (fun h => ?_) (fun h => ?_) <;> simp only [am, amo, amc, h, Nat.reduceAdd, Nat.reduceEqDiff, encs_length, List.length_map, decide_true, decide_false, Tree.rec_, Nd.rec_, Word.rec_, Got.rec_, Nd.fl, Int.reduceEq, Int.reduceNe, wi, hks])
        | (refine vcIf_split (fun h => ?_) (fun h => ?_) <;> simp only [am, amo, amc, h, Nat.reduceAdd, Nat.reduceEqDiff, encs_length, List.length_map, decide_true, decide_false, Tree.rec_, Nd.rec_, Word.rec_, Got.rec_, Nd.fl, Int.reduceEq, Int.reduceNe, wi, hks])
        | (refine pickL_split (fun h => ?_) (fun h => ?_) <;> simp only [am, amo, amc, h, Nat.reduceAdd, Nat.reduceEqDiff, encs_length, List.length_map, decide_true, decide_false, Tree.rec_, Nd.rec_, Word.rec_, Got.rec_, Nd.fl, Int.reduceEq, Int.reduceNe, wi, hks])
        | (refine (right2_calls n.text _).mono ?_; rintro v _ ⟨rfl, rfl⟩; simp only [am, Int.reduceEq, Int.reduceNe])
        | (refine idxL_intro (by omega) (c := m.enc) (by simp) ?_; simp only [am, Nd.rec_, Nd.fl])
        | (refine (hl _).mono ?_; rintro v _ ⟨rfl, rfl⟩; simp only [am, Int.reduceEq, Int.reduceNe])
      )
      all_goals cases hg : n.fieldQ
      all_goals first
        | (exfalso; revert hg; simp_all [Nd.fieldQ, headQ, atomQ_eq]; done)
        | (refine retK_intro rfl (Store.sub_refl _) ⟨?_, rfl⟩; rw [hno hg]; rfl)
        | exact Upd.againD ⟨i + 1, hlt, hyes hg⟩ (by simp; omega) (by simp [List.replicate, am]) (by simp [am]) OLe.rfl rfl rfl
  intro hlt
  have hlt : i = l.length := by simp at hlt; omega
  subst hlt
  rw [List.take_length] at ha
  simp only [am, amo, amc, Nat.reduceAdd, Nat.reduceEqDiff, encs_length, List.length_map, decide_true, decide_false, Tree.rec_, Nd.rec_, Word.rec_, Got.rec_, Nd.fl]
  refine retK_intro rfl (Store.sub_refl _) ⟨?_, rfl⟩
  simp [V.erase, eraseL, ha]
end Go.Proofs.Tryz

namespace Go.Proofs.Tryz
open Go.Am
set_option maxRecDepth 4000
set_option maxHeartbeats 4000000
def s1 : List UInt8 := [43, 40, 120, 44, 35, 123, 97, 44, 98, 125, 41]
def s2 : List UInt8 := [43, 40, 41]
def s3 : List UInt8 := [91, 102, 61, 120, 44, 103, 61, 35, 104, 105, 124, 114, 93]
end Go.Proofs.Tryz

namespace Go.Proofs.Tryz
open Go.Am
set_option maxRecDepth 4000
set_option maxHeartbeats 4000000
def ac14 : AC := .seq (.reg [⟨(some 2), .mv (.c (.bool false)), none⟩])
 (.seq (.seq (.reg [xm 5 0, xL 6 5, xi 7 0])
 (.block 0 (.loop (.seq (.reg [xb .lss 8 7 6])
 (.seq (.cond (.s 8) (.skip)
 (.exit 0))
 (.seq (.block 1 (.seq (.reg [xA 5 9 5 7, xl 5 10 9, ⟨(some 4), .alloc [(.int .i64 0), (.int .i64 0), (.str []), (.sl .full 2 []), (.sl .full 5 [])], none⟩, xs 5 4 10])
 (.seq (.reg [xl 5 11 4, xc 39 12 [.s 11], xB .gtr 13 12 300])
 (.cond (.s 13) (.seq (.reg [⟨(some 2), .mv (.c (.bool true)), none⟩])
 (.ret))
 (.skip)))))
 (.reg [xB .add 14 7 1, xm 7 14])))))))
 (.seq (.reg [⟨(some 2), .mv (.c (.bool false)), none⟩])
 (.ret)))
theorem fn14 : IsFn prog 14 ac14 [.tmp 2] 15 := ⟨f14, ⟨[], []⟩, func14, by kernel_rfl, by kernel_rfl, by kernel_rfl, by kernel_rfl⟩
def ac36 : AC := .seq (.reg [⟨(some 1), .box 5 (.s 0), none⟩, ⟨(some 2), .mv (.c (.bool false)), none⟩])
 (.seq (.seq (.reg [xf 0 3 1, xo 4 3])
 (.block 0 (.seq (.reg [xB .eql 6 4 1, xm 5 6])
 (.cond (.s 5) (.seq (.reg [xf 2 7 1, xo 8 7, xc 35 9 [.s 8], xm 10 9, xg 10 (xf 3 11 1), xg 10 (xo 12 11), xg 10 (xL 13 12), xg 10 (xf 4 14 1), xg 10 (xo 15 14), xg 10 (xL 16 15), xg 10 (xb .add 17 13 16), xg 10 (xB .eql 18 17 0), ⟨(some 19), .pick (.s 10) (.s 18) (.c (.bool false)), none⟩, xm 2 19])
 (.ret))
 (.seq (.reg [xB .eql 21 4 7, xm 20 21])
 (.cond (.s 20) (.seq (.reg [xf 2 22 1, xo 23 22, ⟨(some 24), .binS .eql (.s 23) (.c (.str [])), none⟩, xm 25 24, xg 25 (xf 3 26 1), xg 25 (xo 27 26), xg 25 (xL 28 27), xg 25 (xB .eql 29 28 0), ⟨(some 30), .pick (.s 25) (.s 29) (.c (.bool false)), none⟩, xm 31 30, xg 31 (xf 4 32 1), xg 31 (xo 33 32), xg 31 (xL 34 33), xg 31 (xB .eql 35 34 1), ⟨(some 36), .pick (.s 31) (.s 35) (.c (.bool false)), none⟩, xm 37 36, xg 37 (xf 4 38 1), xg 37 (xo 39 38), xg 37 (xc 59 40 [.c (.int .i64 1), .s 39]), ⟨(some 41), .pick (.s 37) (.s 40) (.c (.bool false)), none⟩, xm 2 41])
 (.ret))
 (.seq (.seq (.reg [xB .eql 43 4 8, xm 42 43])
 (.cond (.s 42) (.skip)
 (.reg [xB .eql 44 4 9, xm 42 44])))
 (.cond (.s 42) (.seq (.reg [xf 2 45 1, xo 46 45, ⟨(some 47), .binS .eql (.s 46) (.c (.str [])), none⟩, xm 48 47, xg 48 (xf 3 49 1), xg 48 (xo 50 49), xg 48 (xL 51 50), xg 48 (xB .eql 52 51 0), ⟨(some 53), .pick (.s 48) (.s 52) (.c (.bool false)), none⟩, xm 54 53, xg 54 (xf 4 55 1), xg 54 (xo 56 55), xg 54 (xL 57 56), xg 54 (xB .gtr 58 57 0), ⟨(some 59), .pick (.s 54) (.s 58) (.c (.bool false)), none⟩, xm 60 59, xg 60 (xf 4 61 1), xg 60 (xo 62 61), xg 60 (xc 59 63 [.c (.int .i64 3), .s 62]), ⟨(some 64), .pick (.s 60) (.s 63) (.c (.bool false)), none⟩, xm 2 64])
 (.ret))
 (.skip)))))))))
 (.seq (.reg [⟨(some 2), .mv (.c (.bool false)), none⟩])
 (.ret)))
theorem fn36 : IsFn prog 36 ac36 [.tmp 2] 65 := ⟨f36, ⟨[], []⟩, func36, by kernel_rfl, by kernel_rfl, by kernel_rfl, by kernel_rfl⟩
def ac37 : AC := .seq (.reg [⟨(some 1), .box 5 (.s 0), none⟩, ⟨(some 2), .mv (.c (.bool false)), none⟩])
 (.seq (.seq (.reg [xf 0 3 1, xo 4 3, xB .eql 5 4 10])
 (.cond (.s 5) (.seq (.reg [xf 2 6 1, xo 7 6, ⟨(some 8), .binS .eql (.s 7) (.c (.str [])), none⟩, xm 9 8, xg 9 (xf 3 10 1), xg 9 (xo 11 10), xg 9 (xL 12 11), xg 9 (xB .leq 13 12 1), ⟨(some 14), .pick (.s 9) (.s 13) (.c (.bool false)), none⟩, xm 15 14, xg 15 (xf 3 16 1), xg 15 (xo 17 16), xg 15 (xc 60 18 [.s 17]), ⟨(some 19), .pick (.s 15) (.s 18) (.c (.bool false)), none⟩, xm 20 19, xg 20 (xf 4 21 1), xg 20 (xo 22 21), xg 20 (xc 59 23 [.c (.int .i64 4), .s 22]), ⟨(some 24), .pick (.s 20) (.s 23) (.c (.bool false)), none⟩, xm 2 24])
 (.ret))
 (.skip)))
 (.seq (.reg [xf 0 25 1, xo 26 25, xB .eql 27 26 1, xm 28 27, xg 28 (xl 5 29 1), xg 28 (xc 36 30 [.s 29]), ⟨(some 31), .pick (.s 28) (.s 30) (.c (.bool false)), none⟩, xm 2 31])
 (.ret)))
theorem fn37 : IsFn prog 37 ac37 [.tmp 2] 32 := ⟨f37, ⟨[], []⟩, func37, by kernel_rfl, by kernel_rfl, by kernel_rfl, by kernel_rfl⟩
def ac39 : AC := .seq (.reg [⟨(some 1), .box 5 (.s 0), none⟩, xi 2 0])
 (.seq (.reg [xf 3 5 1, xo 6 5, xL 7 6, ⟨(some 8), .binI .add (.c (.int .i64 1)) (.s 7), none⟩, xm 3 8])
 (.seq (.seq (.reg [xi 4 0])
 (.block 0 (.loop (.seq (.seq (.reg [xm 9 4, xf 4 10 1, xo 11 10, xL 12 11, xb .lss 13 9 12])
 (.cond (.s 13) (.skip)
 (.exit 0)))
 (.seq (.block 1 (.reg [xm 16 3, xf 4 17 1, xo 18 17, xm 19 4, xA 5 20 18 19, xl 5 21 20, xc 39 22 [.s 21], xb .add 23 16 22, xm 3 23]))
 (.reg [xm 14 4, xB .add 15 14 1, xm 4 15]))))))
 (.seq (.reg [xm 24 3, xm 2 24])
 (.ret))))
theorem fn39 : IsFn prog 39 ac39 [.tmp 2] 25 := ⟨f39, ⟨[], []⟩, func39, by kernel_rfl, by kernel_rfl, by kernel_rfl, by kernel_rfl⟩
def ac85 : AC := .seq (.reg [⟨(some 1), .box 5 (.s 0), none⟩, ⟨(some 2), .mv (.c (.bool false)), none⟩])
 (.seq (.seq (.reg [xf 0 3 1, xo 4 3])
 (.block 0 (.seq (.reg [xB .eql 6 4 2, xm 5 6])
 (.cond (.s 5) (.seq (.reg [xf 2 7 1, xo 8 7, xc 35 9 [.s 8], xm 10 9, xg 10 (xf 3 11 1), xg 10 (xo 12 11), xg 10 (xL 13 12), xg 10 (xf 4 14 1), xg 10 (xo 15 14), xg 10 (xL 16 15), xg 10 (xb .add 17 13 16), xg 10 (xB .eql 18 17 0), ⟨(some 19), .pick (.s 10) (.s 18) (.c (.bool false)), none⟩, xm 2 19])
 (.ret))
 (.seq (.reg [xB .eql 21 4 3, xm 20 21])
 (.cond (.s 20) (.seq (.reg [xf 2 22 1, xo 23 22, ⟨(some 24), .binS .eql (.s 23) (.c (.str [])), none⟩, xm 25 24, xg 25 (xf 3 26 1), xg 25 (xo 27 26), xg 25 (xc 60 28 [.s 27]), ⟨(some 29), .pick (.s 25) (.s 28) (.c (.bool false)), none⟩, xm 30 29, xg 30 (xf 4 31 1), xg 30 (xo 32 31), xg 30 (xL 33 32), xg 30 (xB .eql 34 33 0), ⟨(some 35), .pick (.s 30) (.s 34) (.c (.bool false)), none⟩, xm 2 35])
 (.ret))
 (.seq (.reg [xB .eql 37 4 4, xm 36 37])
 (.cond (.s 36) (.seq (.reg [xf 2 38 1, xo 39 38, ⟨(some 40), .binS .eql (.s 39) (.c (.str [])), none⟩, xm 41 40, xg 41 (xf 3 42 1), xg 41 (xo 43 42), xg 41 (xL 44 43), xg 41 (xB .eql 45 44 0), ⟨(some 46), .pick (.s 41) (.s 45) (.c (.bool false)), none⟩, xm 47 46, xg 47 (xf 4 48 1), xg 47 (xo 49 48), xg 47 (xL 50 49), xg 47 (xB .gtr 51 50 0), ⟨(some 52), .pick (.s 47) (.s 51) (.c (.bool false)), none⟩, xm 53 52, xg 53 (xf 4 54 1), xg 53 (xo 55 54), xg 53 (xc 59 56 [.c (.int .i64 1), .s 55]), ⟨(some 57), .pick (.s 53) (.s 56) (.c (.bool false)), none⟩, xm 2 57])
 (.ret))
 (.seq (.reg [xB .eql 59 4 5, xm 58 59])
 (.cond (.s 58) (.seq (.reg [xf 2 60 1, xo 61 60, ⟨(some 62), .binS .eql (.s 61) (.c (.str [])), none⟩, xm 63 62, xg 63 (xf 3 64 1), xg 63 (xo 65 64), xg 63 (xL 66 65), xg 63 (xB .eql 67 66 0), ⟨(some 68), .pick (.s 63) (.s 67) (.c (.bool false)), none⟩, xm 69 68, xg 69 (xf 4 70 1), xg 69 (xo 71 70), xg 69 (xc 59 72 [.c (.int .i64 2), .s 71]), ⟨(some 73), .pick (.s 69) (.s 72) (.c (.bool false)), none⟩, xm 2 73])
 (.ret))
 (.skip)))))))))))
 (.seq (.reg [⟨(some 2), .mv (.c (.bool false)), none⟩])
 (.ret)))
theorem fn85 : IsFn prog 85 ac85 [.tmp 2] 74 := ⟨f85, ⟨[], []⟩, func85, by kernel_rfl, by kernel_rfl, by kernel_rfl, by kernel_rfl⟩
theorem const2_calls : ∀ (k : Nat) (n : Nd) (σ : Store), n.wt ≤ k → n.wt ≤ big → PCalls prog 85 [.agg n.enc] σ fun v σ' => v = .bool n.constQ ∧ σ' = σ := by
  intro k
  induction k with
  | zero => intro n σ h _; cases n; simp only [Nd.wt] at h; omega
  | succ k ihk =>
    intro n σ hk hw
    have hn := wt_names n
    have hbig : n.wt < 2 ^ 62 := by simp only [big] at hw; omega
    have hall : ∀ σ, PCalls prog 59 [.int .i64 1, .sl .no 5 (n.kids.map Nd.enc)] σ fun v σ' => v = .bool (n.kids.all Nd.constQ) ∧ σ' = σ := fun σ =>
      all1_calls n.kids σ (by omega) fun m hm σ => ihk m σ (by have := kid_wt hm; omega) (by have := kid_wt hm; omega)
    have hrule : ∀ σ, PCalls prog 59 [.int .i64 2, .sl .no 5 (n.kids.map Nd.enc)] σ fun v σ' => v = .bool (n.kids.all Nd.ruleQ) ∧ σ' = σ := fun σ =>
      all2_calls n.kids σ (by omega) fun m hm => by have := kid_wt hm; have := wt_names m; omega
    have hr := fun σ => right2_calls n.text σ
    have hrw := fun σ => right2W_calls n.names σ (by omega)
    rw [Nd.constQ_eq]
    refine fn85.calls ?_
    simp only [slots, ac85, am, amo, amc, ams, Nat.reduceAdd, Nat.reduceEqDiff, decide_true, decide_false, Tree.rec_, Nd.rec_, Word.rec_, Got.rec_, Nd.fl]
    by_cases k2 : n.kind = 2
    · simp only [am, amo, amc, Nat.reduceAdd, Nat.reduceEqDiff, encs_length, List.length_map, decide_true, decide_false, Tree.rec_, Nd.rec_, Word.rec_, Got.rec_, Nd.fl, decide_eq_true k2]
      repeat' (first
        | (refine gL_split (fun h => ?_) (fun h => ?_) <;> simp only [am, amo, amc, h, Nat.reduceAdd, Nat.reduceEqDiff, encs_length, List.length_map, decide_true, decide_false, Tree.rec_, Nd.rec_, Word.rec_, Got.rec_, Nd.fl, wrap_i64 (x := (n.names.length : Int) + n.kids.length) (by omega) (by omega)])
        | (refine vcIf_split (fun h => ?_) (fun h => ?_) <;> simp only [am, amo, amc, h, Nat.reduceAdd, Nat.reduceEqDiff, encs_length, List.length_map, decide_true, decide_false, Tree.rec_, Nd.rec_, Word.rec_, Got.rec_, Nd.fl, wrap_i64 (x := (n.names.length : Int) + n.kids.length) (by omega) (by omega)])
        | (refine pickL_split (fun h => ?_) (fun h => ?_) <;> simp only [am, amo, amc, h, Nat.reduceAdd, Nat.reduceEqDiff, encs_length, List.length_map, decide_true, decide_false, Tree.rec_, Nd.rec_, Word.rec_, Got.rec_, Nd.fl, wrap_i64 (x := (n.names.length : Int) + n.kids.length) (by omega) (by omega)])
        | (refine (hr _).mono ?_; rintro v _ ⟨rfl, rfl⟩; simp only [am])
      )
      all_goals refine retK_intro rfl (Store.sub_refl _) ⟨?_, rfl⟩
      all_goals simp_all [V.erase, eraseL, Nd.leafQ]
      all_goals (try omega)
    simp only [am, amo, amc, Nat.reduceAdd, Nat.reduceEqDiff, encs_length, List.length_map, decide_true, decide_false, Tree.rec_, Nd.rec_, Word.rec_, Got.rec_, Nd.fl, decide_eq_false k2]
    by_cases k3 : n.kind = 3
    · simp only [am, amo, amc, Nat.reduceAdd, Nat.reduceEqDiff, encs_length, List.length_map, decide_true, decide_false, Tree.rec_, Nd.rec_, Word.rec_, Got.rec_, Nd.fl, decide_eq_true k3]
      repeat' (first
        | (refine gL_split (fun h => ?_) (fun h => ?_) <;> simp only [am, amo, amc, h, Nat.reduceAdd, Nat.reduceEqDiff, encs_length, List.length_map, decide_true, decide_false, Tree.rec_, Nd.rec_, Word.rec_, Got.rec_, Nd.fl])
        | (refine vcIf_split (fun h => ?_) (fun h => ?_) <;> simp only [am, amo, amc, h, Nat.reduceAdd, Nat.reduceEqDiff, encs_length, List.length_map, decide_true, decide_false, Tree.rec_, Nd.rec_, Word.rec_, Got.rec_, Nd.fl])
        | (refine pickL_split (fun h => ?_) (fun h => ?_) <;> simp only [am, amo, amc, h, Nat.reduceAdd, Nat.reduceEqDiff, encs_length, List.length_map, decide_true, decide_false, Tree.rec_, Nd.rec_, Word.rec_, Got.rec_, Nd.fl])
        | (refine (hrw _).mono ?_; rintro v _ ⟨rfl, rfl⟩; simp only [am])
      )
      all_goals refine retK_intro rfl (Store.sub_refl _) ⟨?_, rfl⟩
      all_goals simp_all [V.erase, eraseL]
      all_goals (try omega)
    simp only [am, amo, amc, Nat.reduceAdd, Nat.reduceEqDiff, encs_length, List.length_map, decide_true, decide_false, Tree.rec_, Nd.rec_, Word.rec_, Got.rec_, Nd.fl, decide_eq_false k3]
    by_cases k4 : n.kind = 4
    · simp only [am, amo, amc, Nat.reduceAdd, Nat.reduceEqDiff, encs_length, List.length_map, decide_true, decide_false, Tree.rec_, Nd.rec_, Word.rec_, Got.rec_, Nd.fl, decide_eq_true k4]
      repeat' (first
        | (refine gL_split (fun h => ?_) (fun h => ?_) <;> simp only [am, amo, amc, h, Nat.reduceAdd, Nat.reduceEqDiff, encs_length, List.length_map, decide_true, decide_false, Tree.rec_, Nd.rec_, Word.rec_, Got.rec_, Nd.fl])
        | (refine vcIf_split (fun h => ?_) (fun h => ?_) <;> simp only [am, amo, amc, h, Nat.reduceAdd, Nat.reduceEqDiff, encs_length, List.length_map, decide_true, decide_false, Tree.rec_, Nd.rec_, Word.rec_, Got.rec_, Nd.fl])
        | (refine pickL_split (fun h => ?_) (fun h => ?_) <;> simp only [am, amo, amc, h, Nat.reduceAdd, Nat.reduceEqDiff, encs_length, List.length_map, decide_true, decide_false, Tree.rec_, Nd.rec_, Word.rec_, Got.rec_, Nd.fl])
        | (refine (hall _).mono ?_; rintro v _ ⟨rfl, rfl⟩; simp only [am])
      )
      all_goals refine retK_intro rfl (Store.sub_refl _) ⟨?_, rfl⟩
      all_goals simp_all [V.erase, eraseL, Nd.bareQ]
      all_goals (try omega)
    simp only [am, amo, amc, Nat.reduceAdd, Nat.reduceEqDiff, encs_length, List.length_map, decide_true, decide_false, Tree.rec_, Nd.rec_, Word.rec_, Got.rec_, Nd.fl, decide_eq_false k4]
    by_cases k5 : n.kind = 5
    · simp only [am, amo, amc, Nat.reduceAdd, Nat.reduceEqDiff, encs_length, List.length_map, decide_true, decide_false, Tree.rec_, Nd.rec_, Word.rec_, Got.rec_, Nd.fl, decide_eq_true k5]
      repeat' (first
        | (refine gL_split (fun h => ?_) (fun h => ?_) <;> simp only [am, amo, amc, h, Nat.reduceAdd, Nat.reduceEqDiff, encs_length, List.length_map, decide_true, decide_false, Tree.rec_, Nd.rec_, Word.rec_, Got.rec_, Nd.fl])
        | (refine vcIf_split (fun h => ?_) (fun h => ?_) <;> simp only [am, amo, amc, h, Nat.reduceAdd, Nat.reduceEqDiff, encs_length, List.length_map, decide_true, decide_false, Tree.rec_, Nd.rec_, Word.rec_, Got.rec_, Nd.fl])
        | (refine pickL_split (fun h => ?_) (fun h => ?_) <;> simp only [am, amo, amc, h, Nat.reduceAdd, Nat.reduceEqDiff, encs_length, List.length_map, decide_true, decide_false, Tree.rec_, Nd.rec_, Word.rec_, Got.rec_, Nd.fl])
        | (refine (hrule _).mono ?_; rintro v _ ⟨rfl, rfl⟩; simp only [am])
      )
      all_goals refine retK_intro rfl (Store.sub_refl _) ⟨?_, rfl⟩
      all_goals simp_all [V.erase, eraseL, Nd.bareQ]
      all_goals (try omega)
    simp only [am, amo, amc, Nat.reduceAdd, Nat.reduceEqDiff, encs_length, List.length_map, decide_true, decide_false, Tree.rec_, Nd.rec_, Word.rec_, Got.rec_, Nd.fl, decide_eq_false k5]
    refine retK_intro rfl (Store.sub_refl _) ⟨?_, rfl⟩
    simp [V.erase, eraseL, k2, k3, k4, k5]
theorem label2_calls : ∀ (k : Nat) (n : Nd) (σ : Store), n.wt ≤ k → n.wt ≤ big → PCalls prog 36 [.agg n.enc] σ fun v σ' => v = .bool n.labelQ ∧ σ' = σ := by
  intro k
  induction k with
  | zero => intro n σ h _; cases n; simp only [Nd.wt] at h; omega
  | succ k ihk =>
    intro n σ hk hw
    have hn := wt_names n
    have hbig : n.wt < 2 ^ 62 := by simp only [big] at hw; omega
    have hall : ∀ σ, PCalls prog 59 [.int .i64 3, .sl .no 5 (n.kids.map Nd.enc)] σ fun v σ' => v = .bool (n.kids.all Nd.labelQ) ∧ σ' = σ := fun σ =>
      all3_calls n.kids σ (by omega) fun m hm σ => ihk m σ (by have := kid_wt hm; omega) (by have := kid_wt hm; omega)
    have hcon : ∀ σ, PCalls prog 59 [.int .i64 1, .sl .no 5 (n.kids.map Nd.enc)] σ fun v σ' => v = .bool (n.kids.all Nd.constQ) ∧ σ' = σ := fun σ =>
      all1_calls n.kids σ (by omega) fun m hm σ => const2_calls _ m σ (Nat.le_refl _) (by have := kid_wt hm; omega)
    have hr := fun σ => right2_calls n.text σ
    rw [Nd.labelQ_eq]
    refine fn36.calls ?_
    simp only [slots, ac36, am, amo, amc, ams, Nat.reduceAdd, Nat.reduceEqDiff, decide_true, decide_false, Tree.rec_, Nd.rec_, Word.rec_, Got.rec_, Nd.fl]
    by_cases k1 : n.kind = 1
    · simp only [am, amo, amc, Nat.reduceAdd, Nat.reduceEqDiff, encs_length, List.length_map, decide_true, decide_false, Tree.rec_, Nd.rec_, Word.rec_, Got.rec_, Nd.fl, decide_eq_true k1]
      repeat' (first
        | (refine gL_split (fun h => ?_) (fun h => ?_) <;> simp only [am, amo, amc, h, Nat.reduceAdd, Nat.reduceEqDiff, encs_length, List.length_map, decide_true, decide_false, Tree.rec_, Nd.rec_, Word.rec_, Got.rec_, Nd.fl, wrap_i64 (x := (n.names.length : Int) + n.kids.length) (by omega) (by omega)])
        | (refine vcIf_split (fun h => ?_) (fun h => ?_) <;> simp only [am, amo, amc, h, Nat.reduceAdd, Nat.reduceEqDiff, encs_length, List.length_map, decide_true, decide_false, Tree.rec_, Nd.rec_, Word.rec_, Got.rec_, Nd.fl, wrap_i64 (x := (n.names.length : Int) + n.kids.length) (by omega) (by omega)])
        | (refine pickL_split (fun h => ?_) (fun h => ?_) <;> simp only [am, amo, amc, h, Nat.reduceAdd, Nat.reduceEqDiff, encs_length, List.length_map, decide_true, decide_false, Tree.rec_, Nd.rec_, Word.rec_, Got.rec_, Nd.fl, wrap_i64 (x := (n.names.length : Int) + n.kids.length) (by omega) (by omega)])
        | (refine (hr _).mono ?_; rintro v _ ⟨rfl, rfl⟩; simp only [am])
      )
      all_goals refine retK_intro rfl (Store.sub_refl _) ⟨?_, rfl⟩
      all_goals simp_all [V.erase, eraseL, Nd.leafQ]
      all_goals (try omega)
    simp only [am, amo, amc, Nat.reduceAdd, Nat.reduceEqDiff, encs_length, List.length_map, decide_true, decide_false, Tree.rec_, Nd.rec_, Word.rec_, Got.rec_, Nd.fl, decide_eq_false k1]
    by_cases k7 : n.kind = 7
    · have hq : (decide ((n.kids.length : Int) = 1) && headQ Nd.constQ n.kids) = (decide ((n.kids.length : Int) = 1) && n.kids.all Nd.constQ) := by
        by_cases h1 : (n.kids.length : Int) = 1
        · rw [headQ_all h1]
        · simp [h1]
      rw [if_neg k1, if_pos k7, Bool.and_assoc, hq]
      simp only [am, amo, amc, Nat.reduceAdd, Nat.reduceEqDiff, encs_length, List.length_map, decide_true, decide_false, Tree.rec_, Nd.rec_, Word.rec_, Got.rec_, Nd.fl, decide_eq_true k7]
      repeat' (first
        | (refine gL_split (fun h => ?_) (fun h => ?_) <;> simp only [am, amo, amc, h, Nat.reduceAdd, Nat.reduceEqDiff, encs_length, List.length_map, decide_true, decide_false, Tree.rec_, Nd.rec_, Word.rec_, Got.rec_, Nd.fl])
        | (refine vcIf_split (fun h => ?_) (fun h => ?_) <;> simp only [am, amo, amc, h, Nat.reduceAdd, Nat.reduceEqDiff, encs_length, List.length_map, decide_true, decide_false, Tree.rec_, Nd.rec_, Word.rec_, Got.rec_, Nd.fl])
        | (refine pickL_split (fun h => ?_) (fun h => ?_) <;> simp only [am, amo, amc, h, Nat.reduceAdd, Nat.reduceEqDiff, encs_length, List.length_map, decide_true, decide_false, Tree.rec_, Nd.rec_, Word.rec_, Got.rec_, Nd.fl])
        | (refine (hcon _).mono ?_; rintro v _ ⟨rfl, rfl⟩; simp only [am])
      )
      all_goals refine retK_intro rfl (Store.sub_refl _) ⟨?_, rfl⟩
      all_goals simp_all [V.erase, eraseL, Nd.bareQ]
      all_goals (try omega)
    simp only [am, amo, amc, Nat.reduceAdd, Nat.reduceEqDiff, encs_length, List.length_map, decide_true, decide_false, Tree.rec_, Nd.rec_, Word.rec_, Got.rec_, Nd.fl, decide_eq_false k7]
    by_cases k8 : n.kind = 8
    case' pos =>
      simp only [am, amo, amc, Nat.reduceAdd, Nat.reduceEqDiff, encs_length, List.length_map, decide_true, decide_false, Tree.rec_, Nd.rec_, Word.rec_, Got.rec_, Nd.fl, decide_eq_true k8]
    case' neg =>
      simp only [am, amo, amc, Nat.reduceAdd, Nat.reduceEqDiff, encs_length, List.length_map, decide_true, decide_false, Tree.rec_, Nd.rec_, Word.rec_, Got.rec_, Nd.fl, decide_eq_false k8]
      by_cases k9 : n.kind = 9
      case' pos =>
        simp only [am, amo, amc, Nat.reduceAdd, Nat.reduceEqDiff, encs_length, List.length_map, decide_true, decide_false, Tree.rec_, Nd.rec_, Word.rec_, Got.rec_, Nd.fl, decide_eq_true k9]
      case' neg =>
        simp only [am, amo, amc, Nat.reduceAdd, Nat.reduceEqDiff, encs_length, List.length_map, decide_true, decide_false, Tree.rec_, Nd.rec_, Word.rec_, Got.rec_, Nd.fl, decide_eq_false k9]
        refine retK_intro rfl (Store.sub_refl _) ⟨?_, rfl⟩
        simp [V.erase, eraseL, k1, k7, k8, k9]
    all_goals
      repeat' (first
        | (refine gL_split (fun h => ?_) (fun h => ?_) <;> simp only [am, amo, amc, h, Nat.reduceAdd, Nat.reduceEqDiff, encs_length, List.length_map, decide_true, decide_false, Tree.rec_, Nd.rec_, Word.rec_, Got.rec_, Nd.fl])
        | (refine vcIf_split (fun h => ?_) (fun h => ?_) <;> simp only [am, amo, amc, h, Nat.reduceAdd, Nat.reduceEqDiff, encs_length, List.length_map, decide_true, decide_false, Tree.rec_, Nd.rec_, Word.rec_, Got.rec_, Nd.fl])
        | (refine pickL_split (fun h => ?_) (fun h => ?_) <;> simp only [am, amo, amc, h, Nat.reduceAdd, Nat.reduceEqDiff, encs_length, List.length_map, decide_true, decide_false, Tree.rec_, Nd.rec_, Word.rec_, Got.rec_, Nd.fl])
        | (refine (hall _).mono ?_; rintro v _ ⟨rfl, rfl⟩; simp only [am])
      )
      all_goals refine retK_intro rfl (Store.sub_refl _) ⟨?_, rfl⟩
      all_goals simp_all [V.erase, eraseL, Nd.bareQ]
      all_goals (try omega)
theorem row2_calls (n : Nd) (σ : Store) (hw : n.wt ≤ big) : PCalls prog 37 [.agg n.enc] σ fun v σ' => v = .bool n.rowQ ∧ σ' = σ := by
  have hn := wt_names n
  have hall : ∀ σ, PCalls prog 59 [.int .i64 4, .sl .no 5 (n.kids.map Nd.enc)] σ fun v σ' => v = .bool (n.kids.all Nd.fieldQ) ∧ σ' = σ := fun σ =>
    all4_calls n.kids σ (by omega) fun m hm p hp σ => label2_calls _ p σ (Nat.le_refl _) (by have := kid_wt hm; have := kid_wt hp; omega)
  have hrw := fun σ => right2W_calls n.names σ (by omega)
  refine fn37.calls ?_
  simp only [slots, ac37, am, amo, amc, ams, Nat.reduceAdd, Nat.reduceEqDiff, decide_true, decide_false, Tree.rec_, Nd.rec_, Word.rec_, Got.rec_, Nd.fl]
  by_cases k10 : n.kind = 10
  · simp only [am, amo, amc, Nat.reduceAdd, Nat.reduceEqDiff, encs_length, List.length_map, decide_true, decide_false, Tree.rec_, Nd.rec_, Word.rec_, Got.rec_, Nd.fl, decide_eq_true k10]
    repeat' (first
      | (refine gL_split (fun h => ?_) (fun h => ?_) <;> simp only [am, amo, amc, h, Nat.reduceAdd, Nat.reduceEqDiff, encs_length, List.length_map, decide_true, decide_false, Tree.rec_, Nd.rec_, Word.rec_, Got.rec_, Nd.fl])
      | (refine vcIf_split (fun h => ?_) (fun h => ?_) <;> simp only [am, amo, amc, h, Nat.reduceAdd, Nat.reduceEqDiff, encs_length, List.length_map, decide_true, decide_false, Tree.rec_, Nd.rec_, Word.rec_, Got.rec_, Nd.fl])
      | (refine pickL_split (fun h => ?_) (fun h => ?_) <;> simp only [am, amo, amc, h, Nat.reduceAdd, Nat.reduceEqDiff, encs_length, List.length_map, decide_true, decide_false, Tree.rec_, Nd.rec_, Word.rec_, Got.rec_, Nd.fl])
      | (refine (hrw _).mono ?_; rintro v _ ⟨rfl, rfl⟩; simp only [am])
      | (refine (hall _).mono ?_; rintro v _ ⟨rfl, rfl⟩; simp only [am])
    )
    all_goals refine retK_intro rfl (Store.sub_refl _) ⟨?_, rfl⟩
    all_goals simp_all [V.erase, eraseL, Nd.rowQ]
    all_goals (try omega)
  · simp only [am, amo, amc, Nat.reduceAdd, Nat.reduceEqDiff, encs_length, List.length_map, decide_true, decide_false, Tree.rec_, Nd.rec_, Word.rec_, Got.rec_, Nd.fl, decide_eq_false k10]
    repeat' (first
      | (refine gL_split (fun h => ?_) (fun h => ?_) <;> simp only [am, amo, amc, h, Nat.reduceAdd, Nat.reduceEqDiff, encs_length, List.length_map, decide_true, decide_false, Tree.rec_, Nd.rec_, Word.rec_, Got.rec_, Nd.fl])
      | (refine vcIf_split (fun h => ?_) (fun h => ?_) <;> simp only [am, amo, amc, h, Nat.reduceAdd, Nat.reduceEqDiff, encs_length, List.length_map, decide_true, decide_false, Tree.rec_, Nd.rec_, Word.rec_, Got.rec_, Nd.fl])
      | (refine pickL_split (fun h => ?_) (fun h => ?_) <;> simp only [am, amo, amc, h, Nat.reduceAdd, Nat.reduceEqDiff, encs_length, List.length_map, decide_true, decide_false, Tree.rec_, Nd.rec_, Word.rec_, Got.rec_, Nd.fl])
      | (refine (label2_calls _ n _ (Nat.le_refl _) hw).mono ?_; rintro v _ ⟨rfl, rfl⟩; simp only [am])
    )
    all_goals refine retK_intro rfl (Store.sub_refl _) ⟨?_, rfl⟩
    all_goals simp_all [V.erase, eraseL, Nd.rowQ]
    all_goals (try omega)
def inv52 (n : Nd) (i : Nat) (σ : Store) : St :=
  ⟨[.any, .ptr (.loc 0) 0, .any, .int .i64 ((1 + n.names.length + cnts (n.kids.take i) : Nat) : Int), .int .i64 (i : Nat)] ++ List.replicate 20 .any, [n.enc], σ⟩
theorem many2_calls : ∀ (k : Nat) (n : Nd) (σ : Store), n.wt ≤ k → n.wt ≤ big → PCalls prog 39 [.agg n.enc] σ fun v σ' => v = .int .i64 n.cnt ∧ σ' = σ := by
  intro k
  induction k with
  | zero => intro n σ h _; cases n; simp only [Nd.wt] at h; omega
  | succ k ihk =>
    intro n σ hk hw
    have hn := wt_names n
    have hc := cnt_wt n
    have hbig : n.wt < 2 ^ 62 := by simp only [big] at hw; omega
    have hce : n.cnt = 1 + n.names.length + cnts n.kids := by cases n; rw [Nd.cnt]; rfl
    refine fn39.calls ?_
    simp only [slots, ac39, am, amo, amc, ams, Nat.reduceAdd, Nat.reduceEqDiff, decide_true, decide_false, Tree.rec_, Nd.rec_, Word.rec_, Got.rec_, Nd.fl]
    refine vc_loop (fun p : { i : Nat // i ≤ n.kids.length } => inv52 n p.1 σ) (fun p => n.kids.length - p.1) ?_ ?_
    · refine Upd.enter ⟨0, by simp⟩ ?_ LLLe.rfl OLe.rfl
      rw [List.length_map, wrap_i64 (by omega) (by omega)]
      simp [inv52, List.replicate, am, cnts]
    rintro ⟨i, hi⟩
    simp only [inv52, List.replicate, am, Nd.fl, List.length_map, Nd.rec_]
    refine vcIf_split ?_ ?_
    · intro hlt
      have hlt : i < n.kids.length := by simpa using hlt
      have h1 := cnts_at hlt
      have h2 := cnts_take n.kids (i + 1)
      have h3 := kid_wt (n := n) (List.getElem_mem hlt)
      simp only [am, amo, amc, Nat.reduceAdd, Nat.reduceEqDiff, encs_length, List.length_map, decide_true, decide_false, Tree.rec_, Nd.rec_, Word.rec_, Got.rec_, Nd.fl]
      refine idxL_intro (by omega) (nencs_at (List.getElem?_eq_getElem hlt)) ?_
      simp only [am, amo, amc, Nat.reduceAdd, Nat.reduceEqDiff, encs_length, List.length_map, decide_true, decide_false, Tree.rec_, Nd.rec_, Word.rec_, Got.rec_, Nd.fl]
      refine (ihk n.kids[i] σ (by omega) (by omega)).mono ?_
      rintro v σ ⟨rfl, rfl⟩
      simp only [am, amo, amc, Nat.reduceAdd, Nat.reduceEqDiff, encs_length, List.length_map, decide_true, decide_false, Tree.rec_, Nd.rec_, Word.rec_, Got.rec_, Nd.fl]
      rw [wrap_i64 (by omega) (by omega), wrap_i64 (x := (i : Int) + 1) (by omega) (by omega)]
      refine Upd.again ⟨i + 1, hlt⟩ (by simp; omega) ?_ LLLe.rfl OLe.rfl
      simp [List.replicate, am, h1]
      omega
    intro hlt
    have hlt : i = n.kids.length := by simp at hlt; omega
    subst hlt
    rw [List.take_length]
    simp only [am, amo, amc, Nat.reduceAdd, Nat.reduceEqDiff, encs_length, List.length_map, decide_true, decide_false, Tree.rec_, Nd.rec_, Word.rec_, Got.rec_, Nd.fl]
    refine retK_intro rfl (Store.sub_refl _) ⟨?_, rfl⟩
    simp [V.erase, hce]
def bigQ (l : List Nd) : Bool := l.any fun n => decide ((300 : Int) < n.cnt)
def inv22 (l : List Nd) (i : Nat) (σ : Store) : St :=
  ⟨[.any, .any, .any, .any, .any, .sl .no 5 (l.map Nd.enc), .int .i64 l.length, .int .i64 (i : Nat)] ++ List.replicate 7 .any, [], σ⟩
theorem big_calls {τ : Tk} (l : List Nd) (σ : Store) (hb : l.length ≤ big) (hw : ∀ n ∈ l, n.wt ≤ big) : PCalls prog 14 [.sl τ 5 (l.map Nd.enc)] σ fun v σ' => v = .bool (bigQ l) ∧ σ' = σ := by
  simp only [big] at hb
  refine fn14.calls ?_
  simp only [slots, ac14, am, amo, amc, ams, Nat.reduceAdd, Nat.reduceEqDiff, decide_true, decide_false, Tree.rec_, Nd.rec_, Word.rec_, Got.rec_, Nd.fl]
  refine vc_loop (fun p : { i : Nat // i ≤ l.length ∧ bigQ (l.take i) = false } => inv22 l p.1 σ) (fun p => l.length - p.1) ?_ ?_
  · refine Upd.enter ⟨0, by simp, by simp [bigQ]⟩ ?_ LLLe.rfl OLe.rfl
    simp [inv22, List.replicate, am]
  rintro ⟨i, hi, ha⟩
  simp only [inv22, List.replicate, am]
  refine vcIf_split ?_ ?_
  · intro hlt
    have hlt : i < l.length := by simpa using hlt
    simp only [am, amo, amc, Nat.reduceAdd, Nat.reduceEqDiff, encs_length, List.length_map, decide_true, decide_false, Tree.rec_, Nd.rec_, Word.rec_, Got.rec_, Nd.fl]
    refine idxL_intro (by omega) (nencs_at (List.getElem?_eq_getElem hlt)) ?_
    simp only [am, amo, amc, Nat.reduceAdd, Nat.reduceEqDiff, encs_length, List.length_map, decide_true, decide_false, Tree.rec_, Nd.rec_, Word.rec_, Got.rec_, Nd.fl, Nd.r_ov]
    refine (many2_calls _ l[i] σ (Nat.le_refl _) (hw _ (List.getElem_mem hlt))).mono ?_
    rintro v σ ⟨rfl, rfl⟩
    simp only [am, amo, amc, Nat.reduceAdd, Nat.reduceEqDiff, encs_length, List.length_map, decide_true, decide_false, Tree.rec_, Nd.rec_, Word.rec_, Got.rec_, Nd.fl]
    refine vcIf_split ?_ ?_
    · intro hg
      simp only [am, amo, amc, Nat.reduceAdd, Nat.reduceEqDiff, encs_length, List.length_map, decide_true, decide_false, Tree.rec_, Nd.rec_, Word.rec_, Got.rec_, Nd.fl]
      refine retK_intro rfl (Store.sub_refl _) ⟨?_, rfl⟩
      rw [show bigQ l = true from List.any_eq_true.2 ⟨l[i], List.getElem_mem hlt, by simpa using hg⟩]; rfl
    · intro hg
      simp only [am, amo, amc, Nat.reduceAdd, Nat.reduceEqDiff, encs_length, List.length_map, decide_true, decide_false, Tree.rec_, Nd.rec_, Word.rec_, Got.rec_, Nd.fl]
      rw [wrap_i64 (by omega) (by omega)]
      refine Upd.againD ⟨i + 1, hlt, ?_⟩ (by simp; omega) (by simp [List.replicate, am]) (by simp [am]) OLe.rfl rfl rfl
      unfold bigQ at ha ⊢
      rw [take_succ_of (List.getElem?_eq_getElem hlt), List.any_append, ha]
      simpa using hg
  intro hlt
  have hlt : i = l.length := by simp at hlt; omega
  subst hlt
  rw [List.take_length] at ha
  simp only [am, amo, amc, Nat.reduceAdd, Nat.reduceEqDiff, encs_length, List.length_map, decide_true, decide_false, Tree.rec_, Nd.rec_, Word.rec_, Got.rec_, Nd.fl]
  refine retK_intro rfl (Store.sub_refl _) ⟨?_, rfl⟩
  simp [V.erase, eraseL, ha]
end Go.Proofs.Tryz

namespace Go.Proofs.Tryz
open Go.Am
set_option maxRecDepth 4000
set_option maxHeartbeats 4000000
def ac23 : AC := .seq (.reg [⟨(some 2), .mv (.c (.str [])), none⟩])
 (.seq (.reg [⟨(some 3), .mv (.c (.str [])), none⟩])
 (.seq (.seq (.reg [xi 4 0])
 (.block 0 (.loop (.seq (.seq (.reg [xm 5 4, xm 6 0, xL 7 6, xb .lss 8 5 7])
 (.cond (.s 8) (.skip)
 (.exit 0)))
 (.seq (.block 1 (.seq (.seq (.reg [xm 11 4, xB .gtr 12 11 0])
 (.cond (.s 12) (.reg [xm 13 3, ⟨(some 14), .cat (.s 13) (.c (.str [44])), none⟩, xm 3 14])
 (.skip)))
 (.reg [xm 15 3, xm 16 0, xm 17 4, xA 2 18 16 17, xf 0 19 18, xo 20 19, ⟨(some 21), .cat (.s 15) (.s 20), none⟩, xm 3 21])))
 (.reg [xm 9 4, xB .add 10 9 1, xm 4 10]))))))
 (.seq (.reg [xm 22 3, xm 2 22])
 (.ret))))
theorem fn23 : IsFn prog 23 ac23 [.tmp 2] 23 := ⟨f23, ⟨[], []⟩, func23, by kernel_rfl, by kernel_rfl, by kernel_rfl, by kernel_rfl⟩
def ac33 : AC := .seq (.reg [⟨(some 2), .mv (.c (.bool false)), none⟩])
 (.seq (.seq (.reg [xi 3 0])
 (.block 0 (.loop (.seq (.seq (.reg [xm 4 3, xm 5 0, xL 6 5, xb .lss 7 4 6])
 (.cond (.s 7) (.skip)
 (.exit 0)))
 (.seq (.block 1 (.seq (.reg [xm 10 0, xm 11 3, xA 2 12 10 11, xf 0 13 12, xo 14 13, xc 35 15 [.s 14], ⟨(some 16), .not (.s 15), none⟩])
 (.cond (.s 16) (.seq (.reg [⟨(some 2), .mv (.c (.bool false)), none⟩])
 (.ret))
 (.skip))))
 (.reg [xm 8 3, xB .add 9 8 1, xm 3 9]))))))
 (.seq (.reg [⟨(some 2), .mv (.c (.bool true)), none⟩])
 (.ret)))
theorem fn33 : IsFn prog 33 ac33 [.tmp 2] 17 := ⟨f33, ⟨[], []⟩, func33, by kernel_rfl, by kernel_rfl, by kernel_rfl, by kernel_rfl⟩
def ac34 : AC := .seq (.reg [⟨(some 4), .mv (.c (.bool false)), none⟩])
 (.seq (.reg [xm 7 0, xc 22 8 [.s 7], xm 5 8])
 (.seq (.seq (.reg [xi 6 0])
 (.block 0 (.loop (.seq (.seq (.reg [xm 9 6, xm 10 5, xT 11 10, xb .lss 12 9 11])
 (.cond (.s 12) (.skip)
 (.exit 0)))
 (.seq (.block 1 (.seq (.reg [xm 15 5, xm 16 6, xS 17 15 16, xm 18 1, xb .eql 19 17 18])
 (.cond (.s 19) (.seq (.reg [⟨(some 4), .mv (.c (.bool true)), none⟩])
 (.ret))
 (.skip))))
 (.reg [xm 13 6, xB .add 14 13 1, xm 6 14]))))))
 (.seq (.reg [⟨(some 4), .mv (.c (.bool false)), none⟩])
 (.ret))))
theorem fn34 : IsFn prog 34 ac34 [.tmp 4] 20 := ⟨f34, ⟨[], []⟩, func34, by kernel_rfl, by kernel_rfl, by kernel_rfl, by kernel_rfl⟩
def ac38 : AC := .seq (.reg [⟨(some 1), .box 5 (.s 0), none⟩, ⟨(some 2), .mv (.c (.bool false)), none⟩])
 (.seq (.reg [xl 5 3 1, ⟨(some 4), .build [(.int .i64 0), (.int .i64 0), (.str []), (.sl .full 2 []), (.sl .full 5 [])] [], none⟩, xc 28 5 [.s 3, .s 4], xm 2 5])
 (.ret))
theorem fn38 : IsFn prog 38 ac38 [.tmp 2] 6 := ⟨f38, ⟨[], []⟩, func38, by kernel_rfl, by kernel_rfl, by kernel_rfl, by kernel_rfl⟩
def inv12t (w : List Word) (σ : Store) (i : Nat) : St :=
  ⟨[.sl .no 2 (w.map Word.enc), .any, .any, .str (joinC ((w.map Word.text).take i)), .int .i64 (i : Nat)] ++ List.replicate 18 .any, [], σ⟩
theorem words12_calls (w : List Word) (σ : Store) (hw : wsum w ≤ big) : PCalls prog 23 [.sl .no 2 (w.map Word.enc)] σ fun v σ' => v = .str (wtext w) ∧ σ' = σ := by
  have hl := (psum_word w).2
  have hs := (psum_word w).1
  simp only [big] at hw
  refine fn23.calls ?_
  simp only [slots, ac23, am, amo, amc, ams, Nat.reduceAdd, Nat.reduceEqDiff, decide_true, decide_false, Tree.rec_, Nd.rec_, Word.rec_, nd_len, nd_one, Int.reduceEq, Int.reduceLT, Int.reduceLE, Nat.reduceLT, cfl, cfo, cfv, List.length_map]
  refine vc_loop (fun p : { i : Nat // i ≤ w.length } => inv12t w σ p.1) (fun p => w.length - p.1) ?_ ?_
  · refine Upd.enter ⟨0, by simp⟩ ?_ LLLe.rfl OLe.rfl
    simp [inv12t, List.replicate, am, joinC]
  rintro ⟨i, hi⟩
  simp only [inv12t, List.replicate, am, List.length_map]
  refine vcIf_split ?_ ?_
  · intro hlt
    have hlt : i < w.length := by simpa using hlt
    have hat := joinC_at (L := w.map Word.text) (i := i) (by simpa using hlt)
    have hle := joinC_take (w.map Word.text) (i + 1)
    have wi : IntKind.i64.wrap ((i : Int) + 1) = (i : Int) + 1 := wrap_i64 (by omega) (by omega)
    rw [List.getElem_map] at hat
    rw [hat] at hle
    simp only [List.length_append] at hle
    simp only [am, amo, amc, Nat.reduceAdd, Nat.reduceEqDiff, encs_length, List.length_map, decide_true, decide_false, Tree.rec_, Nd.rec_, Word.rec_, nd_len, nd_one, Int.reduceEq, Int.reduceLT, Int.reduceLE, Nat.reduceLT, cfl, cfo, cfv, List.length_map]
    by_cases h0 : 0 < i
    case' pos =>
      rw [if_pos h0] at hat hle
      simp only [List.length_cons, List.length_nil] at hle
      simp only [am, amo, amc, Nat.reduceAdd, Nat.reduceEqDiff, encs_length, List.length_map, decide_true, decide_false, Tree.rec_, Nd.rec_, Word.rec_, nd_len, nd_one, Int.reduceEq, Int.reduceLT, Int.reduceLE, Nat.reduceLT, cfl, cfo, cfv, List.length_map, decide_eq_true (show (0 : Int) < i by omega)]
      refine ⟨by simp [big]; omega, ?_⟩
    case' neg =>
      rw [if_neg h0] at hat hle
      simp only [List.length_nil, List.append_nil] at hle hat
      simp only [am, amo, amc, Nat.reduceAdd, Nat.reduceEqDiff, encs_length, List.length_map, decide_true, decide_false, Tree.rec_, Nd.rec_, Word.rec_, nd_len, nd_one, Int.reduceEq, Int.reduceLT, Int.reduceLE, Nat.reduceLT, cfl, cfo, cfv, List.length_map, decide_eq_false (show ¬ (0 : Int) < i by omega)]
    all_goals
      refine idxL_intro (by omega) (wencs_at (List.getElem?_eq_getElem hlt)) ?_
      simp only [am, amo, amc, Nat.reduceAdd, Nat.reduceEqDiff, encs_length, List.length_map, decide_true, decide_false, Tree.rec_, Nd.rec_, Word.rec_, nd_len, nd_one, Int.reduceEq, Int.reduceLT, Int.reduceLE, Nat.reduceLT, cfl, cfo, cfv, List.length_map, Word.enc]
      refine ⟨by simp [big]; omega, ?_⟩
      simp only [am, amo, amc, Nat.reduceAdd, Nat.reduceEqDiff, encs_length, List.length_map, decide_true, decide_false, Tree.rec_, Nd.rec_, Word.rec_, nd_len, nd_one, Int.reduceEq, Int.reduceLT, Int.reduceLE, Nat.reduceLT, cfl, cfo, cfv, List.length_map, wi]
      exact Upd.again ⟨i + 1, hlt⟩ (by simp; omega) (by simp [am, List.replicate, hat]) LLLe.rfl OLe.rfl
  intro hlt
  have hlt : i = w.length := by simp at hlt; omega
  subst hlt
  rw [show (w.map Word.text).take w.length = w.map Word.text by rw [← List.length_map (f := Word.text), List.take_length]]
  simp only [am, amo, amc, Nat.reduceAdd, Nat.reduceEqDiff, encs_length, List.length_map, decide_true, decide_false, Tree.rec_, Nd.rec_, Word.rec_, nd_len, nd_one, Int.reduceEq, Int.reduceLT, Int.reduceLE, Nat.reduceLT, cfl, cfo, cfv, List.length_map]
  refine retK_intro rfl (Store.sub_refl _) ⟨?_, rfl⟩
  simp [V.erase, eraseL, wtext]
def hasL (op : Int) (k : UInt8) : Bool := (formOf op).2.any (· == k)
theorem hasL_cnt (op : Int) (k : UInt8) : hasL op k = decide (0 < cntN op k) := by
  unfold hasL cntN
  generalize (formOf op).2 = ks
  induction ks with
  | nil => simp
  | cons x xs ih =>
    rw [List.any_cons, ih, List.count_cons]
    by_cases h : x = k
    · simp [h]
    · simp [h]
def invHs (op : Int) (k : UInt8) (ks : List UInt8) (σ : Store) (i : Nat) : St :=
  ⟨[.any, .int .u8 (k.toNat : Nat), .any, .any, .any, .str ks, .int .i64 (i : Nat)] ++ List.replicate 13 .any, [], σ⟩
theorem has12_calls (op : Int) (k : UInt8) (σ : Store) : PCalls prog 34 [.int .i64 op, .int .u8 (k.toNat : Nat)] σ fun v σ' => v = .bool (hasL op k) ∧ σ' = σ := by
  have hkl := form_len op
  refine fn34.calls ?_
  simp only [slots, ac34, am, amo, amc, ams, Nat.reduceAdd, Nat.reduceEqDiff, decide_true, decide_false, Tree.rec_, Nd.rec_, Word.rec_, nd_len, nd_one, Int.reduceEq, Int.reduceLT, Int.reduceLE, Nat.reduceLT, cfl, cfo, cfv, List.length_map]
  refine (letters_calls op σ).mono ?_
  rintro v σ ⟨rfl, rfl⟩
  simp only [am, amo, amc, Nat.reduceAdd, Nat.reduceEqDiff, encs_length, List.length_map, decide_true, decide_false, Tree.rec_, Nd.rec_, Word.rec_, nd_len, nd_one, Int.reduceEq, Int.reduceLT, Int.reduceLE, Nat.reduceLT, cfl, cfo, cfv, List.length_map]
  have hh : hasL op k = (formOf op).2.any (· == k) := rfl
  generalize (formOf op).2 = ks at hkl hh ⊢
  refine vc_loop (fun p : { i : Nat // i ≤ ks.length ∧ (ks.take i).any (· == k) = false } => invHs op k ks σ p.1) (fun p => ks.length - p.1) ?_ ?_
  · refine Upd.enter ⟨0, by simp, by simp⟩ ?_ LLLe.rfl OLe.rfl
    simp [invHs, List.replicate, am]
  rintro ⟨i, hi, ha⟩
  simp only [invHs, List.replicate, am]
  refine vcIf_split ?_ ?_
  · intro hlt
    have hlt : i < ks.length := by simpa using hlt
    have hkk : ((ks[i].toNat : Nat) : Int) = (k.toNat : Nat) ↔ ks[i] = k := by
      constructor
      · intro h; exact UInt8.toNat_inj.1 (by omega)
      · intro h; rw [h]
    simp only [am, amo, amc, Nat.reduceAdd, Nat.reduceEqDiff, encs_length, List.length_map, decide_true, decide_false, Tree.rec_, Nd.rec_, Word.rec_, nd_len, nd_one, Int.reduceEq, Int.reduceLT, Int.reduceLE, Nat.reduceLT, cfl, cfo, cfv, List.length_map]
    refine idxSL_intro (by omega) (str_at hlt) ?_
    simp only [am, amo, amc, Nat.reduceAdd, Nat.reduceEqDiff, encs_length, List.length_map, decide_true, decide_false, Tree.rec_, Nd.rec_, Word.rec_, nd_len, nd_one, Int.reduceEq, Int.reduceLT, Int.reduceLE, Nat.reduceLT, cfl, cfo, cfv, List.length_map]
    by_cases he : ks[i] = k
    · simp only [am, amo, amc, Nat.reduceAdd, Nat.reduceEqDiff, encs_length, List.length_map, decide_true, decide_false, Tree.rec_, Nd.rec_, Word.rec_, nd_len, nd_one, Int.reduceEq, Int.reduceLT, Int.reduceLE, Nat.reduceLT, cfl, cfo, cfv, List.length_map, decide_eq_true (hkk.2 he)]
      have : ks.any (· == k) = true := List.any_eq_true.2 ⟨ks[i], List.getElem_mem hlt, by simp [he]⟩
      refine retK_intro rfl (Store.sub_refl _) ⟨?_, rfl⟩
      simp [V.erase, eraseL, hh, this]
    · simp only [am, amo, amc, Nat.reduceAdd, Nat.reduceEqDiff, encs_length, List.length_map, decide_true, decide_false, Tree.rec_, Nd.rec_, Word.rec_, nd_len, nd_one, Int.reduceEq, Int.reduceLT, Int.reduceLE, Nat.reduceLT, cfl, cfo, cfv, List.length_map, decide_eq_false (fun h => he (hkk.1 h))]
      rw [wrap_i64 (by omega) (by omega)]
      refine Upd.again ⟨i + 1, hlt, ?_⟩ (by simp; omega) (by simp [List.replicate, am]) LLLe.rfl OLe.rfl
      rw [List.take_add_one, List.getElem?_eq_getElem hlt, List.any_append, ha]
      simp [he]
  intro hlt
  have hlt : i = ks.length := by simp at hlt; omega
  subst hlt
  rw [List.take_length] at ha
  simp only [am, amo, amc, Nat.reduceAdd, Nat.reduceEqDiff, encs_length, List.length_map, decide_true, decide_false, Tree.rec_, Nd.rec_, Word.rec_, nd_len, nd_one, Int.reduceEq, Int.reduceLT, Int.reduceLE, Nat.reduceLT, cfl, cfo, cfv, List.length_map]
  refine retK_intro rfl (Store.sub_refl _) ⟨?_, rfl⟩
  simp [V.erase, eraseL, hh, ha]
def inv12n (l : List Word) (τ : Tk) (σ : Store) (i : Nat) : St :=
  ⟨[.sl τ 2 (l.map Word.enc), .any, .any, .int .i64 (i : Nat)] ++ List.replicate 13 .any, [], σ⟩
theorem texts12_calls {τ : Tk} (l : List Word) (σ : Store) (hb : l.length ≤ big) : PCalls prog 33 [.sl τ 2 (l.map Word.enc)] σ fun v σ' => v = .bool (rightW l) ∧ σ' = σ := by
  simp only [big] at hb
  refine fn33.calls ?_
  simp only [slots, ac33, am, amo, amc, ams, Nat.reduceAdd, Nat.reduceEqDiff, decide_true, decide_false, Tree.rec_, Nd.rec_, Word.rec_, nd_len, nd_one, Int.reduceEq, Int.reduceLT, Int.reduceLE, Nat.reduceLT, cfl, cfo, cfv, List.length_map]
  refine vc_loop (fun p : { i : Nat // i ≤ l.length ∧ (l.take i).all (fun w => nameR w.text) = true } => inv12n l τ σ p.1) (fun p => l.length - p.1) ?_ ?_
  · refine Upd.enter ⟨0, by simp, by simp⟩ ?_ LLLe.rfl OLe.rfl
    simp [inv12n, List.replicate, am]
  · rintro ⟨i, hi, ha⟩
    simp only [inv12n, List.replicate, am, List.length_map]
    refine vcIf_split ?_ ?_
    · intro hlt
      have hlt : i < l.length := by simpa using hlt
      simp only [am, amo, amc, Nat.reduceAdd, Nat.reduceEqDiff, encs_length, List.length_map, decide_true, decide_false, Tree.rec_, Nd.rec_, Word.rec_, nd_len, nd_one, Int.reduceEq, Int.reduceLT, Int.reduceLE, Nat.reduceLT, cfl, cfo, cfv, List.length_map]
      refine idxL_intro (by omega) (wencs_at (List.getElem?_eq_getElem hlt)) ?_
      simp only [am, amo, amc, Nat.reduceAdd, Nat.reduceEqDiff, encs_length, List.length_map, decide_true, decide_false, Tree.rec_, Nd.rec_, Word.rec_, nd_len, nd_one, Int.reduceEq, Int.reduceLT, Int.reduceLE, Nat.reduceLT, cfl, cfo, cfv, List.length_map, Word.enc]
      refine (right2_calls l[i].text σ).mono ?_
      rintro v σ ⟨rfl, rfl⟩
      cases hg : nameR l[i].text
      · simp only [am, amo, amc, Nat.reduceAdd, Nat.reduceEqDiff, encs_length, List.length_map, decide_true, decide_false, Tree.rec_, Nd.rec_, Word.rec_, nd_len, nd_one, Int.reduceEq, Int.reduceLT, Int.reduceLE, Nat.reduceLT, cfl, cfo, cfv, List.length_map]
        refine retK_intro rfl (Store.sub_refl _) ⟨?_, rfl⟩
        rw [show rightW l = false from all_no (f := fun (w : Word) => nameR w.text) hlt hg]; rfl
      · simp only [am, amo, amc, Nat.reduceAdd, Nat.reduceEqDiff, encs_length, List.length_map, decide_true, decide_false, Tree.rec_, Nd.rec_, Word.rec_, nd_len, nd_one, Int.reduceEq, Int.reduceLT, Int.reduceLE, Nat.reduceLT, cfl, cfo, cfv, List.length_map]
        rw [wrap_i64 (by omega) (by omega)]
        exact Upd.again ⟨i + 1, hlt, by rw [all_take hlt, ha, hg]; rfl⟩ (by simp; omega) (by simp [List.replicate, am]) LLLe.rfl OLe.rfl
    · intro hlt
      have hlt : i = l.length := by simp at hlt; omega
      subst hlt
      rw [List.take_length] at ha
      simp only [am, amo, amc, Nat.reduceAdd, Nat.reduceEqDiff, encs_length, List.length_map, decide_true, decide_false, Tree.rec_, Nd.rec_, Word.rec_, nd_len, nd_one, Int.reduceEq, Int.reduceLT, Int.reduceLE, Nat.reduceLT, cfl, cfo, cfv, List.length_map]
      refine retK_intro rfl (Store.sub_refl _) ⟨?_, rfl⟩
      simp [V.erase, eraseL, rightW, ha]
theorem zero12_calls (n : Nd) (σ : Store) (hw : n.wt ≤ big) : PCalls prog 38 [.agg n.enc] σ fun v σ' => v = .bool (n.sameQ .zero) ∧ σ' = σ := by
  have h : PCalls prog 28 [.agg n.enc, .agg [.int .i64 0, .int .i64 0, .str [], .sl .full 2 [], .sl .full 5 []]] σ fun v σ' => v = .bool (n.sameQ .zero) ∧ σ' = σ := by
    refine PCalls.weak (same25_calls _ n .zero σ (Nat.le_refl _) hw) ?_ OLe.rfl
    simp only [LLe, VLe.rfl, and_true, true_and]
    rw [← zero_nd_enc]
    exact VLe.erase (v := .agg [.int .i64 0, .int .i64 0, .str [], .sl .full 2 [], .sl .full 5 []])
  refine fn38.calls ?_
  simp only [slots, ac38, am, amo, amc, ams, Nat.reduceAdd, Nat.reduceEqDiff, decide_true, decide_false, Tree.rec_, Nd.rec_, Word.rec_, nd_len, nd_one, Int.reduceEq, Int.reduceLT, Int.reduceLE, Nat.reduceLT, cfl, cfo, cfv, List.length_map]
  refine (h).mono ?_
  rintro v σ ⟨rfl, rfl⟩
  simp only [am, amo, amc, Nat.reduceAdd, Nat.reduceEqDiff, encs_length, List.length_map, decide_true, decide_false, Tree.rec_, Nd.rec_, Word.rec_, nd_len, nd_one, Int.reduceEq, Int.reduceLT, Int.reduceLE, Nat.reduceLT, cfl, cfo, cfv, List.length_map]
  refine retK_intro rfl (Store.sub_refl _) ⟨?_, rfl⟩
  simp [V.erase, eraseL]
end Go.Proofs.Tryz

namespace Go.Proofs.Tryz
open Go.Am
set_option maxRecDepth 4000
set_option maxHeartbeats 4000000
def ac7 : AC := .seq (.reg [⟨(some 1), .box 17 (.s 0), none⟩, ⟨(some 2), .mv (.c (.str [])), none⟩])
 (.seq (.reg [xf 0 9 1, xo 10 9, xc 13 11 [.s 10], xm 3 11])
 (.seq (.reg [xf 0 12 1, xo 13 12, xc 22 14 [.s 13], xm 4 14])
 (.seq (.reg [⟨(some 5), .mv (.c (.bool true)), none⟩])
 (.seq (.seq (.reg [xi 6 0])
 (.block 0 (.loop (.seq (.seq (.reg [xm 15 6, xm 16 4, xT 17 16, xb .lss 18 15 17])
 (.cond (.s 18) (.skip)
 (.exit 0)))
 (.seq (.block 1 (.seq (.reg [xm 21 3, ⟨(some 22), .cat (.s 21) (.c (.str [32])), none⟩, xm 3 22])
 (.seq (.reg [xm 23 4, xm 24 6, xS 25 23 24])
 (.block 2 (.seq (.reg [xu .eql 36 25 110, xm 35 36])
 (.cond (.s 35) (.reg [xm 37 3, xf 2 38 1, xf 0 39 38, xo 40 39, ⟨(some 41), .cat (.s 37) (.s 40), none⟩, xm 3 41])
 (.seq (.reg [xu .eql 43 25 102, xm 42 43])
 (.cond (.s 42) (.reg [xm 44 3, xf 4 45 1, xo 46 45, xc 23 47 [.s 46], ⟨(some 48), .cat (.s 44) (.s 47), none⟩, xm 3 48])
 (.seq (.reg [xu .eql 50 25 119, xm 49 50])
 (.cond (.s 49) (.reg [xm 51 3, ⟨(some 52), .cat (.s 51) (.c (.str [123])), none⟩, xf 4 53 1, xo 54 53, xc 23 55 [.s 54], ⟨(some 56), .cat (.s 52) (.s 55), none⟩, ⟨(some 57), .cat (.s 56) (.c (.str [125])), none⟩, xm 3 57])
 (.seq (.reg [xu .eql 59 25 112, xm 58 59])
 (.cond (.s 58) (.seq (.reg [xm 60 3, ⟨(some 61), .cat (.s 60) (.c (.str [123])), none⟩, xm 3 61])
 (.seq (.seq (.reg [xi 7 0])
 (.block 3 (.loop (.seq (.seq (.reg [xm 62 7, xf 5 63 1, xo 64 63, xL 65 64, xb .lss 66 62 65])
 (.cond (.s 66) (.skip)
 (.exit 3)))
 (.seq (.block 4 (.seq (.seq (.reg [xm 69 7, xB .gtr 70 69 0])
 (.cond (.s 70) (.reg [xm 71 3, ⟨(some 72), .cat (.s 71) (.c (.str [44])), none⟩, xm 3 72])
 (.skip)))
 (.draw [(xm 73 3, []), (xf 5 74 1, []), (xo 75 74, []), (xm 76 7, []), (xA 4 77 75 76, []), (⟨(some 78), .idxP 2 2 (.s 77) (.c (.int .i64 0)), none⟩, []), (xf 0 79 78, []), (xo 80 79, []), (⟨(some 81), .cat (.s 73) (.s 80), none⟩, []), (⟨(some 82), .cat (.s 81) (.c (.str [60])), none⟩, []), (xf 5 83 1, []), (xo 84 83, []), (xm 85 7, []), (xA 4 86 84 85, []), (⟨(some 87), .idxP 2 2 (.s 86) (.c (.int .i64 1)), none⟩, []), (xf 0 88 87, []), (xo 89 88, []), (⟨(some 90), .cat (.s 82) (.s 89), none⟩, []), (xm 3 90, [])])))
 (.reg [xm 67 7, xB .add 68 67 1, xm 7 68]))))))
 (.reg [xm 91 3, ⟨(some 92), .cat (.s 91) (.c (.str [125])), none⟩, xm 3 92])))
 (.seq (.reg [xf 12 26 1, xl 5 27 26, ⟨(some 8), .alloc [(.int .i64 0), (.int .i64 0), (.str []), (.sl .full 2 []), (.sl .full 5 [])], none⟩, xs 5 8 27])
 (.seq (.seq (.reg [xm 28 5])
 (.cond (.s 28) (.reg [xf 7 29 1, xl 5 30 29, xs 5 8 30])
 (.skip)))
 (.seq (.reg [⟨(some 5), .mv (.c (.bool false)), none⟩])
 (.reg [xm 31 3, xl 5 32 8, xc 24 33 [.s 32], ⟨(some 34), .cat (.s 31) (.s 33), none⟩, xm 3 34]))))))))))))))))
 (.reg [xm 19 6, xB .add 20 19 1, xm 6 20]))))))
 (.seq (.reg [xm 93 3, xm 2 93])
 (.ret))))))
theorem fn7 : IsFn prog 7 ac7 [.tmp 2] 94 := ⟨f7, ⟨[], []⟩, func7, by kernel_rfl, by kernel_rfl, by kernel_rfl, by kernel_rfl⟩
def noTerm (ks : List UInt8) : Bool := decide ((ks.filter isTerm).length = 0)
def st12 (c : Cmd) (ks : List UInt8) (σ : Store) (i : Nat) : St :=
  ⟨[.any, .ptr (.loc 0) 0, .any, .str (joinS [32] (piecesT c (ks.take i)).1), .str ks, .bool (noTerm (ks.take i)), .int .i64 (i : Nat)] ++ List.replicate 87 .any, [c.enc], σ⟩
def st12p (c : Cmd) (ks s0 : List UInt8) (b : Bool) (σ : Store) (i k : Nat) : St :=
  ⟨[.any, .ptr (.loc 0) 0, .any, .str (s0 ++ joinC ((c.pairs.map pairT).take k)), .str ks, .bool b, .int .i64 (i : Nat), .int .i64 (k : Nat)] ++ List.replicate 86 .any, [c.enc], σ⟩
theorem pieces_join (c : Cmd) (ks : List UInt8) (k : UInt8) : joinS [32] (piecesT c (ks ++ [k])).1 = joinS [32] (piecesT c ks).1 ++ [32] ++ pieceT k c ((piecesT c ks).2.headD .zero) := by
  rw [piecesT_snoc, stepC, joinS_snoc, if_pos (by rw [(pieces_ok c ks).2.2.1]; omega)]
theorem noTerm_snoc (ks : List UInt8) (k : UInt8) : noTerm (ks ++ [k]) = (noTerm ks && !isTerm k) := by
  unfold noTerm
  rw [List.filter_append, List.length_append]
  cases h : isTerm k
  · simp [List.filter_cons, h]
  · simp [List.filter_cons, h]
theorem nd_over {n m : Nd} : over n.enc m.enc = m.enc := by rw [Nd.enc_eq, Nd.enc_eq]; rfl
theorem c_lo {c : Cmd} {n : Nat} : loL n c.enc = true := rfl
theorem rtext12_calls (c : Cmd) (σ : Store) (hw : 16 * c.wt + 128 ≤ big) : PCalls prog 7 [.agg c.enc] σ fun v σ' => v = .str (textC c) ∧ σ' = σ := by
  have hcw : c.wt = c.name.text.length + wsum c.names + psum c.pairs + c.left.wt + c.right.wt := rfl
  have hn1 := psum_word c.names
  have hp1 := psum_len c.pairs
  have hbig : big = 268435456 := rfl
  refine fn7.calls ?_
  simp only [slots, ac7, am, amo, amc, ams, Nat.reduceAdd, Nat.reduceEqDiff, decide_true, decide_false, Tree.rec_, Nd.rec_, Word.rec_, nd_len, nd_one, Int.reduceEq, Int.reduceLT, Int.reduceLE, Nat.reduceLT, Int.reduceToNat, Nat.reduceMul, cfl, cfo, cfv, List.length_map, penc_tk]
  refine (Word12_calls c.op σ).mono ?_
  rintro v σ ⟨rfl, rfl⟩
  simp only [am, amo, amc, Nat.reduceAdd, Nat.reduceEqDiff, encs_length, List.length_map, decide_true, decide_false, Tree.rec_, Nd.rec_, Word.rec_, nd_len, nd_one, Int.reduceEq, Int.reduceLT, Int.reduceLE, Nat.reduceLT, Int.reduceToNat, Nat.reduceMul, cfl, cfo, cfv, List.length_map, penc_tk]
  refine (letters_calls c.op σ).mono ?_
  rintro v σ ⟨rfl, rfl⟩
  simp only [am, amo, amc, Nat.reduceAdd, Nat.reduceEqDiff, encs_length, List.length_map, decide_true, decide_false, Tree.rec_, Nd.rec_, Word.rec_, nd_len, nd_one, Int.reduceEq, Int.reduceLT, Int.reduceLE, Nat.reduceLT, Int.reduceToNat, Nat.reduceMul, cfl, cfo, cfv, List.length_map, penc_tk]
  have hft := form_terms c.op
  have htx : textC c = joinS [32] (piecesT c (formOf c.op).2).1 := rfl
  have hkl := form_len c.op
  have h00 : joinS [32] (piecesT c []).1 = (formOf c.op).1 := by simp [piecesT, joinS]
  have hb : ∀ ks : List UInt8, ks.length ≤ 3 → (joinS [32] (piecesT c ks).1).length ≤ 4 * (c.wt + 9) := fun ks hk => by
    obtain ⟨o1, _, o3, _⟩ := pieces_ok c ks
    have hjl := joinS_len _ o1
    rw [o3] at hjl
    have : (ks.length + 1) * (c.wt + 8 + 1) ≤ 4 * (c.wt + 8 + 1) := Nat.mul_le_mul_right _ (by omega)
    omega
  generalize hks : (formOf c.op).2 = ks at hft htx hkl ⊢
  refine vc_loop (fun p : { i : Nat // i ≤ ks.length } => st12 c ks σ p.1) (fun p => ks.length - p.1) ?_ ?_
  · refine Upd.enter ⟨0, by simp⟩ ?_ LLLe.rfl OLe.rfl
    simp [st12, List.replicate, am, h00, noTerm]
  rintro ⟨i, hi⟩
  simp only [st12, List.replicate, am]
  refine vcIf_split ?_ ?_
  · intro hlt
    have hlt : i < ks.length := by simpa using hlt
    have hki : ks.take (i + 1) = ks.take i ++ [ks[i]] := by rw [List.take_succ_eq_append_getElem hlt]
    have hpj := pieces_join c (ks.take i) ks[i]
    have hns := noTerm_snoc (ks.take i) ks[i]
    rw [← hki] at hpj hns
    have hb1 := hb (ks.take (i + 1)) (by rw [List.length_take]; omega)
    rw [hpj] at hb1
    simp only [List.length_append, List.length_singleton] at hb1
    have wi : IntKind.i64.wrap ((i : Int) + 1) = ((i + 1 : Nat) : Int) := by rw [wrap_i64 (by omega) (by omega)]; simp
    obtain ⟨o1, o2, o3, o4⟩ := pieces_ok c (ks.take i)
    have ht := hft i hlt ks[i] (List.getElem?_eq_getElem hlt)
    have hkk : ∀ n : UInt8, ((ks[i].toNat : Nat) : Int) = (n.toNat : Nat) ↔ ks[i] = n := fun n => by
      constructor
      · intro h; exact UInt8.toNat_inj.1 (by omega)
      · intro h; rw [h]
    have e110 : ((ks[i].toNat : Nat) : Int) = 110 ↔ ks[i] = 110 := hkk 110
    have e102 : ((ks[i].toNat : Nat) : Int) = 102 ↔ ks[i] = 102 := hkk 102
    have e119 : ((ks[i].toNat : Nat) : Int) = 119 ↔ ks[i] = 119 := hkk 119
    have e112 : ((ks[i].toNat : Nat) : Int) = 112 ↔ ks[i] = 112 := hkk 112
    have again : ∀ (st : List V) (ls : List (List V)), LLe st (st12 c ks σ (i + 1)).t → LLLe (ls.take 1) [c.enc] → Upd ⟨st, ls, σ⟩ fun st' => ∃ j : { i : Nat // i ≤ ks.length }, st' = st12 c ks σ j.1 ∧ ks.length - j.1 < ks.length - i := fun st ls h1 h2 =>
      Upd.againD (I := fun p : { i : Nat // i ≤ ks.length } => st12 c ks σ p.1) (μ := fun p => ks.length - p.1) ⟨i + 1, hlt⟩ (by simp; omega) h1 h2 OLe.rfl (by simp [st12, List.replicate, loL, V.lo]) (by simp [st12, loLL, c_lo])
    simp only [st12, hpj, hns] at again
    generalize joinS [32] (piecesT c (ks.take i)).1 = out at again hb1 ⊢
    generalize hts : (piecesT c (ks.take i)).2 = ts at again hb1 o2 o4
    generalize hnt : noTerm (ks.take i) = nt at again ⊢
    simp only [am, amo, amc, Nat.reduceAdd, Nat.reduceEqDiff, encs_length, List.length_map, decide_true, decide_false, Tree.rec_, Nd.rec_, Word.rec_, nd_len, nd_one, Int.reduceEq, Int.reduceLT, Int.reduceLE, Nat.reduceLT, Int.reduceToNat, Nat.reduceMul, cfl, cfo, cfv, List.length_map, penc_tk]
    refine ⟨by simp [big]; omega, ?_⟩
    refine idxSL_intro (by omega) (str_at hlt) ?_
    simp only [am, amo, amc, Nat.reduceAdd, Nat.reduceEqDiff, encs_length, List.length_map, decide_true, decide_false, Tree.rec_, Nd.rec_, Word.rec_, nd_len, nd_one, Int.reduceEq, Int.reduceLT, Int.reduceLE, Nat.reduceLT, Int.reduceToNat, Nat.reduceMul, cfl, cfo, cfv, List.length_map, penc_tk]
    by_cases k1 : ks[i] = 110
    · have hp : pieceT ks[i] c (ts.headD .zero) = c.name.text := by rw [k1]; rfl
      have hq : isTerm ks[i] = false := by rw [k1]; rfl
      rw [hp] at hb1 again
      rw [hq] at again
      simp only [am, amo, amc, Nat.reduceAdd, Nat.reduceEqDiff, encs_length, List.length_map, decide_true, decide_false, Tree.rec_, Nd.rec_, Word.rec_, nd_len, nd_one, Int.reduceEq, Int.reduceLT, Int.reduceLE, Nat.reduceLT, Int.reduceToNat, Nat.reduceMul, cfl, cfo, cfv, List.length_map, penc_tk, decide_eq_true (e110.2 k1)]
      refine ⟨by simp [big]; omega, ?_⟩
      simp only [am, amo, amc, Nat.reduceAdd, Nat.reduceEqDiff, encs_length, List.length_map, decide_true, decide_false, Tree.rec_, Nd.rec_, Word.rec_, nd_len, nd_one, Int.reduceEq, Int.reduceLT, Int.reduceLE, Nat.reduceLT, Int.reduceToNat, Nat.reduceMul, cfl, cfo, cfv, List.length_map, penc_tk, wi]
      refine again _ _ ?_ ?_
      · simp [am, List.replicate]
      · simp [am]
    simp only [am, amo, amc, Nat.reduceAdd, Nat.reduceEqDiff, encs_length, List.length_map, decide_true, decide_false, Tree.rec_, Nd.rec_, Word.rec_, nd_len, nd_one, Int.reduceEq, Int.reduceLT, Int.reduceLE, Nat.reduceLT, Int.reduceToNat, Nat.reduceMul, cfl, cfo, cfv, List.length_map, penc_tk, decide_eq_false (fun h => k1 (e110.1 h))]
    by_cases k2 : ks[i] = 102
    · have hp : pieceT ks[i] c (ts.headD .zero) = wtext c.names := by rw [k2]; rfl
      have hq : isTerm ks[i] = false := by rw [k2]; rfl
      rw [hp] at hb1 again
      rw [hq] at again
      simp only [am, amo, amc, Nat.reduceAdd, Nat.reduceEqDiff, encs_length, List.length_map, decide_true, decide_false, Tree.rec_, Nd.rec_, Word.rec_, nd_len, nd_one, Int.reduceEq, Int.reduceLT, Int.reduceLE, Nat.reduceLT, Int.reduceToNat, Nat.reduceMul, cfl, cfo, cfv, List.length_map, penc_tk, decide_eq_true (e102.2 k2)]
      refine (words12_calls c.names σ (by omega)).mono ?_
      rintro v σ ⟨rfl, rfl⟩
      simp only [am, amo, amc, Nat.reduceAdd, Nat.reduceEqDiff, encs_length, List.length_map, decide_true, decide_false, Tree.rec_, Nd.rec_, Word.rec_, nd_len, nd_one, Int.reduceEq, Int.reduceLT, Int.reduceLE, Nat.reduceLT, Int.reduceToNat, Nat.reduceMul, cfl, cfo, cfv, List.length_map, penc_tk]
      refine ⟨by simp [big]; omega, ?_⟩
      simp only [am, amo, amc, Nat.reduceAdd, Nat.reduceEqDiff, encs_length, List.length_map, decide_true, decide_false, Tree.rec_, Nd.rec_, Word.rec_, nd_len, nd_one, Int.reduceEq, Int.reduceLT, Int.reduceLE, Nat.reduceLT, Int.reduceToNat, Nat.reduceMul, cfl, cfo, cfv, List.length_map, penc_tk, wi]
      refine again _ _ ?_ ?_
      · simp [am, List.replicate]
      · simp [am]
    simp only [am, amo, amc, Nat.reduceAdd, Nat.reduceEqDiff, encs_length, List.length_map, decide_true, decide_false, Tree.rec_, Nd.rec_, Word.rec_, nd_len, nd_one, Int.reduceEq, Int.reduceLT, Int.reduceLE, Nat.reduceLT, Int.reduceToNat, Nat.reduceMul, cfl, cfo, cfv, List.length_map, penc_tk, decide_eq_false (fun h => k2 (e102.1 h))]
    by_cases k3 : ks[i] = 119
    · have hp : pieceT ks[i] c (ts.headD .zero) = [123] ++ wtext c.names ++ [125] := by rw [k3]; rfl
      have hq : isTerm ks[i] = false := by rw [k3]; rfl
      rw [hp] at hb1 again
      rw [hq] at again
      simp only [List.length_append, List.length_singleton] at hb1
      simp only [am, amo, amc, Nat.reduceAdd, Nat.reduceEqDiff, encs_length, List.length_map, decide_true, decide_false, Tree.rec_, Nd.rec_, Word.rec_, nd_len, nd_one, Int.reduceEq, Int.reduceLT, Int.reduceLE, Nat.reduceLT, Int.reduceToNat, Nat.reduceMul, cfl, cfo, cfv, List.length_map, penc_tk, decide_eq_true (e119.2 k3)]
      refine ⟨by simp [big]; omega, ?_⟩
      refine (words12_calls c.names σ (by omega)).mono ?_
      rintro v σ ⟨rfl, rfl⟩
      simp only [am, amo, amc, Nat.reduceAdd, Nat.reduceEqDiff, encs_length, List.length_map, decide_true, decide_false, Tree.rec_, Nd.rec_, Word.rec_, nd_len, nd_one, Int.reduceEq, Int.reduceLT, Int.reduceLE, Nat.reduceLT, Int.reduceToNat, Nat.reduceMul, cfl, cfo, cfv, List.length_map, penc_tk]
      refine ⟨by simp [big]; omega, ?_⟩
      refine ⟨by simp [big]; omega, ?_⟩
      simp only [am, amo, amc, Nat.reduceAdd, Nat.reduceEqDiff, encs_length, List.length_map, decide_true, decide_false, Tree.rec_, Nd.rec_, Word.rec_, nd_len, nd_one, Int.reduceEq, Int.reduceLT, Int.reduceLE, Nat.reduceLT, Int.reduceToNat, Nat.reduceMul, cfl, cfo, cfv, List.length_map, penc_tk, wi]
      refine again _ _ ?_ ?_
      · simp [am, List.replicate]
      · simp [am]
    simp only [am, amo, amc, Nat.reduceAdd, Nat.reduceEqDiff, encs_length, List.length_map, decide_true, decide_false, Tree.rec_, Nd.rec_, Word.rec_, nd_len, nd_one, Int.reduceEq, Int.reduceLT, Int.reduceLE, Nat.reduceLT, Int.reduceToNat, Nat.reduceMul, cfl, cfo, cfv, List.length_map, penc_tk, decide_eq_false (fun h => k3 (e119.1 h))]
    by_cases k4 : ks[i] = 112
    · have hp : pieceT ks[i] c (ts.headD .zero) = [123] ++ joinC (c.pairs.map pairT) ++ [125] := by rw [k4]; rfl
      have hq : isTerm ks[i] = false := by rw [k4]; rfl
      rw [hp] at hb1 again
      rw [hq] at again
      simp only [List.length_append, List.length_singleton] at hb1
      simp only [am, amo, amc, Nat.reduceAdd, Nat.reduceEqDiff, encs_length, List.length_map, decide_true, decide_false, Tree.rec_, Nd.rec_, Word.rec_, nd_len, nd_one, Int.reduceEq, Int.reduceLT, Int.reduceLE, Nat.reduceLT, Int.reduceToNat, Nat.reduceMul, cfl, cfo, cfv, List.length_map, penc_tk, decide_eq_true (e112.2 k4)]
      refine ⟨by simp [big]; omega, ?_⟩
      refine vc_loop (fun p : { k : Nat // k ≤ c.pairs.length } => st12p c ks (out ++ [32] ++ [123]) nt σ i p.1) (fun p => c.pairs.length - p.1) ?_ ?_
      · refine Upd.enter ⟨0, by simp⟩ ?_ LLLe.rfl OLe.rfl
        simp [st12p, List.replicate, am, joinC]
      rintro ⟨k, hk⟩
      simp only [st12p, List.replicate, am, cfv, List.length_map]
      refine vcIf_split ?_ ?_
      · intro hl2
        have hl2 : k < c.pairs.length := by simpa using hl2
        have hat := joinC_at (L := c.pairs.map pairT) (i := k) (by simpa using hl2)
        have hle := joinC_take (c.pairs.map pairT) (k + 1)
        have wk : IntKind.i64.wrap ((k : Int) + 1) = ((k + 1 : Nat) : Int) := by rw [wrap_i64 (by omega) (by omega)]; simp
        rw [List.getElem_map] at hat
        rw [hat] at hle
        simp only [List.length_append, pairT, List.length_singleton] at hle
        simp only [am, amo, amc, Nat.reduceAdd, Nat.reduceEqDiff, encs_length, List.length_map, decide_true, decide_false, Tree.rec_, Nd.rec_, Word.rec_, nd_len, nd_one, Int.reduceEq, Int.reduceLT, Int.reduceLE, Nat.reduceLT, Int.reduceToNat, Nat.reduceMul, cfl, cfo, cfv, List.length_map, penc_tk]
        by_cases h0 : 0 < k
        case' pos =>
          rw [if_pos h0] at hat hle
          simp only [List.length_cons, List.length_nil] at hle
          simp only [am, amo, amc, Nat.reduceAdd, Nat.reduceEqDiff, encs_length, List.length_map, decide_true, decide_false, Tree.rec_, Nd.rec_, Word.rec_, nd_len, nd_one, Int.reduceEq, Int.reduceLT, Int.reduceLE, Nat.reduceLT, Int.reduceToNat, Nat.reduceMul, cfl, cfo, cfv, List.length_map, penc_tk, decide_eq_true (show (0 : Int) < k by omega)]
          refine ⟨by simp [big]; omega, ?_⟩
        case' neg =>
          rw [if_neg h0] at hat hle
          simp only [List.length_nil, List.append_nil] at hle hat
          simp only [am, amo, amc, Nat.reduceAdd, Nat.reduceEqDiff, encs_length, List.length_map, decide_true, decide_false, Tree.rec_, Nd.rec_, Word.rec_, nd_len, nd_one, Int.reduceEq, Int.reduceLT, Int.reduceLE, Nat.reduceLT, Int.reduceToNat, Nat.reduceMul, cfl, cfo, cfv, List.length_map, penc_tk, decide_eq_false (show ¬ (0 : Int) < k by omega)]
        all_goals
          refine idxL_intro (by omega) (pencs_at (List.getElem?_eq_getElem hl2)) ?_
          simp only [am, amo, amc, Nat.reduceAdd, Nat.reduceEqDiff, encs_length, List.length_map, decide_true, decide_false, Tree.rec_, Nd.rec_, Word.rec_, nd_len, nd_one, Int.reduceEq, Int.reduceLT, Int.reduceLE, Nat.reduceLT, Int.reduceToNat, Nat.reduceMul, cfl, cfo, cfv, List.length_map, penc_tk]
          refine idxPL_elt (by omega) (by omega) ?_
          simp only [am, amo, amc, Nat.reduceAdd, Nat.reduceEqDiff, encs_length, List.length_map, decide_true, decide_false, Tree.rec_, Nd.rec_, Word.rec_, nd_len, nd_one, Int.reduceEq, Int.reduceLT, Int.reduceLE, Nat.reduceLT, Int.reduceToNat, Nat.reduceMul, cfl, cfo, cfv, List.length_map, penc_tk, penc]
          refine ⟨by simp [big]; omega, ?_⟩
          refine ⟨by simp [big]; omega, ?_⟩
          refine idxL_intro (by omega) (pencs_at (List.getElem?_eq_getElem hl2)) ?_
          simp only [am, amo, amc, Nat.reduceAdd, Nat.reduceEqDiff, encs_length, List.length_map, decide_true, decide_false, Tree.rec_, Nd.rec_, Word.rec_, nd_len, nd_one, Int.reduceEq, Int.reduceLT, Int.reduceLE, Nat.reduceLT, Int.reduceToNat, Nat.reduceMul, cfl, cfo, cfv, List.length_map, penc_tk]
          refine idxPL_elt (by omega) (by omega) ?_
          simp only [am, amo, amc, Nat.reduceAdd, Nat.reduceEqDiff, encs_length, List.length_map, decide_true, decide_false, Tree.rec_, Nd.rec_, Word.rec_, nd_len, nd_one, Int.reduceEq, Int.reduceLT, Int.reduceLE, Nat.reduceLT, Int.reduceToNat, Nat.reduceMul, cfl, cfo, cfv, List.length_map, penc_tk, penc]
          refine ⟨by simp [big]; omega, ?_⟩
          simp only [am, amo, amc, Nat.reduceAdd, Nat.reduceEqDiff, encs_length, List.length_map, decide_true, decide_false, Tree.rec_, Nd.rec_, Word.rec_, nd_len, nd_one, Int.reduceEq, Int.reduceLT, Int.reduceLE, Nat.reduceLT, Int.reduceToNat, Nat.reduceMul, cfl, cfo, cfv, List.length_map, penc_tk, wk]
          exact Upd.again (I := fun p : { k : Nat // k ≤ c.pairs.length } => st12p c ks (out ++ [32] ++ [123]) nt σ i p.1) (μ := fun p => c.pairs.length - p.1) ⟨k + 1, hl2⟩ (by simp; omega) (by simp [am, List.replicate, hat, pairT, st12p]) LLLe.rfl OLe.rfl
      intro hl2
      have hl2 : k = c.pairs.length := by simp at hl2; omega
      subst hl2
      rw [show (c.pairs.map pairT).take c.pairs.length = c.pairs.map pairT by rw [← List.length_map (f := pairT), List.take_length]]
      simp only [am, amo, amc, Nat.reduceAdd, Nat.reduceEqDiff, encs_length, List.length_map, decide_true, decide_false, Tree.rec_, Nd.rec_, Word.rec_, nd_len, nd_one, Int.reduceEq, Int.reduceLT, Int.reduceLE, Nat.reduceLT, Int.reduceToNat, Nat.reduceMul, cfl, cfo, cfv, List.length_map, penc_tk]
      refine ⟨by simp [big]; omega, ?_⟩
      simp only [am, amo, amc, Nat.reduceAdd, Nat.reduceEqDiff, encs_length, List.length_map, decide_true, decide_false, Tree.rec_, Nd.rec_, Word.rec_, nd_len, nd_one, Int.reduceEq, Int.reduceLT, Int.reduceLE, Nat.reduceLT, Int.reduceToNat, Nat.reduceMul, cfl, cfo, cfv, List.length_map, penc_tk, wi]
      refine again _ _ ?_ ?_
      · simp [am, List.replicate]
      · simp [am]
    simp only [am, amo, amc, Nat.reduceAdd, Nat.reduceEqDiff, encs_length, List.length_map, decide_true, decide_false, Tree.rec_, Nd.rec_, Word.rec_, nd_len, nd_one, Int.reduceEq, Int.reduceLT, Int.reduceLE, Nat.reduceLT, Int.reduceToNat, Nat.reduceMul, cfl, cfo, cfv, List.length_map, penc_tk, decide_eq_false (fun h => k4 (e112.1 h))]
    have hq : isTerm ks[i] = true := by simp [isTerm, k1, k2, k3, k4]
    have ht2 := ht hq
    have hp : pieceT ks[i] c (ts.headD .zero) = (if nt = true then c.left else c.right).txt := by
      rw [o4, ← hnt]
      unfold noTerm
      match (List.filter isTerm (List.take i ks)).length, ht2 with
      | 0, _ => simp [pieceT, k1, k2, k3, k4]
      | 1, _ => simp [pieceT, k1, k2, k3, k4]
    rw [hp] at hb1 again
    rw [hq] at again
    cases nt
    · simp only [am, amo, amc, Nat.reduceAdd, Nat.reduceEqDiff, encs_length, List.length_map, decide_true, decide_false, Tree.rec_, Nd.rec_, Word.rec_, nd_len, nd_one, Int.reduceEq, Int.reduceLT, Int.reduceLE, Nat.reduceLT, Int.reduceToNat, Nat.reduceMul, cfl, cfo, cfv, List.length_map, penc_tk]
      refine (text2_calls _ c.right σ (Nat.le_refl _) (by omega)).mono ?_
      rintro v σ ⟨rfl, rfl⟩
      simp only [am, amo, amc, Nat.reduceAdd, Nat.reduceEqDiff, encs_length, List.length_map, decide_true, decide_false, Tree.rec_, Nd.rec_, Word.rec_, nd_len, nd_one, Int.reduceEq, Int.reduceLT, Int.reduceLE, Nat.reduceLT, Int.reduceToNat, Nat.reduceMul, cfl, cfo, cfv, List.length_map, penc_tk]
      simp only [Bool.false_eq_true, if_false] at hb1 again
      refine ⟨by simp [big]; omega, ?_⟩
      simp only [am, amo, amc, Nat.reduceAdd, Nat.reduceEqDiff, encs_length, List.length_map, decide_true, decide_false, Tree.rec_, Nd.rec_, Word.rec_, nd_len, nd_one, Int.reduceEq, Int.reduceLT, Int.reduceLE, Nat.reduceLT, Int.reduceToNat, Nat.reduceMul, cfl, cfo, cfv, List.length_map, penc_tk, wi]
      refine again _ _ ?_ ?_
      · simp [am, List.replicate]
      · simp [am]
    · simp only [am, amo, amc, Nat.reduceAdd, Nat.reduceEqDiff, encs_length, List.length_map, decide_true, decide_false, Tree.rec_, Nd.rec_, Word.rec_, nd_len, nd_one, Int.reduceEq, Int.reduceLT, Int.reduceLE, Nat.reduceLT, Int.reduceToNat, Nat.reduceMul, cfl, cfo, cfv, List.length_map, penc_tk, nd_over]
      refine (text2_calls _ c.left σ (Nat.le_refl _) (by omega)).mono ?_
      rintro v σ ⟨rfl, rfl⟩
      simp only [am, amo, amc, Nat.reduceAdd, Nat.reduceEqDiff, encs_length, List.length_map, decide_true, decide_false, Tree.rec_, Nd.rec_, Word.rec_, nd_len, nd_one, Int.reduceEq, Int.reduceLT, Int.reduceLE, Nat.reduceLT, Int.reduceToNat, Nat.reduceMul, cfl, cfo, cfv, List.length_map, penc_tk]
      simp only [if_true] at hb1 again
      refine ⟨by simp [big]; omega, ?_⟩
      simp only [am, amo, amc, Nat.reduceAdd, Nat.reduceEqDiff, encs_length, List.length_map, decide_true, decide_false, Tree.rec_, Nd.rec_, Word.rec_, nd_len, nd_one, Int.reduceEq, Int.reduceLT, Int.reduceLE, Nat.reduceLT, Int.reduceToNat, Nat.reduceMul, cfl, cfo, cfv, List.length_map, penc_tk, wi]
      refine again _ _ ?_ ?_
      · simp [am, List.replicate]
      · simp [am]
  · intro hlt
    have hlt : i = ks.length := by simp at hlt; omega
    subst hlt
    rw [List.take_length, ← htx]
    simp only [am, amo, amc, Nat.reduceAdd, Nat.reduceEqDiff, encs_length, List.length_map, decide_true, decide_false, Tree.rec_, Nd.rec_, Word.rec_, nd_len, nd_one, Int.reduceEq, Int.reduceLT, Int.reduceLE, Nat.reduceLT, Int.reduceToNat, Nat.reduceMul, cfl, cfo, cfv, List.length_map, penc_tk]
    refine retK_intro rfl (Store.sub_refl _) ⟨?_, rfl⟩
    simp [V.erase, eraseL]
end Go.Proofs.Tryz

namespace Go.Proofs.Tryz
open Go.Am
set_option maxRecDepth 4000
set_option maxHeartbeats 4000000
def ac11 : AC := .seq (.reg [⟨(some 1), .box 17 (.s 0), none⟩, ⟨(some 2), .mv (.c (.bool false)), none⟩])
 (.seq (.seq (.reg [xf 0 6 1, xo 7 6, xB .lss 8 7 0, xm 9 8, xh 9 (xf 0 10 1), xh 9 (xo 11 10), xh 9 (xB .gtr 12 11 15), ⟨(some 13), .pick (.s 9) (.c (.bool true)) (.s 12), none⟩, xm 14 13, xh 14 (xf 4 15 1), xh 14 (xo 16 15), xh 14 (xc 33 17 [.s 16]), ⟨(some 18), .not (.s 17), (some (14, false))⟩, ⟨(some 19), .pick (.s 14) (.c (.bool true)) (.s 18), none⟩])
 (.cond (.s 19) (.seq (.reg [⟨(some 2), .mv (.c (.bool false)), none⟩])
 (.ret))
 (.skip)))
 (.seq (.seq (.reg [xi 3 0])
 (.block 0 (.loop (.seq (.seq (.reg [xm 20 3, xf 5 21 1, xo 22 21, xL 23 22, xb .lss 24 20 23])
 (.cond (.s 24) (.skip)
 (.exit 0)))
 (.seq (.block 1 (.seq (.draw [(xf 5 27 1, []), (xo 28 27, []), (xm 29 3, []), (xA 4 30 28 29, []), (⟨(some 31), .idxP 2 2 (.s 30) (.c (.int .i64 0)), none⟩, []), (xl 2 32 31, []), (xf 5 33 1, []), (xo 34 33, []), (xm 35 3, []), (xA 4 36 34 35, []), (⟨(some 37), .idxP 2 2 (.s 36) (.c (.int .i64 1)), none⟩, []), (xl 2 38 37, []), (⟨(some 39), .bslice 2 [(.s 32), (.s 38)], none⟩, []), (xc 33 40 [.s 39], []), (⟨(some 41), .not (.s 40), none⟩, [])])
 (.cond (.s 41) (.seq (.reg [⟨(some 2), .mv (.c (.bool false)), none⟩])
 (.ret))
 (.skip))))
 (.reg [xm 25 3, xB .add 26 25 1, xm 3 26]))))))
 (.seq (.draw [(xf 0 42 1, []), (xo 43 42, []), (xc 34 44 [.s 43, .c (.int .u8 102)], []), (xf 0 45 1, []), (xo 46 45, [0]), (xc 34 47 [.s 46, .c (.int .u8 119)], []), (xm 4 44, []), (xm 5 47, [])])
 (.seq (.seq (.draw [(xf 0 48 1, []), (xo 49 48, []), (xc 34 50 [.s 49, .c (.int .u8 110)], []), (xf 2 51 1, []), (xf 0 52 51, []), (xo 53 52, [0]), (xc 35 54 [.s 53], []), (⟨(some 55), .binB true (.s 50) (.s 54), none⟩, []), (xm 56 55, []), (xh 56 (xf 0 57 1), []), (xh 56 (xo 58 57), []), (xh 56 (xc 34 59 [.s 58, .c (.int .u8 110)]), []), (⟨(some 60), .not (.s 59), (some (56, false))⟩, []), (xh 56 (xm 61 60), []), (xg 61 (xf 2 62 1), []), (xg 61 (xf 0 63 62), []), (xg 61 (xo 64 63), []), (⟨(some 65), .binS .neq (.s 64) (.c (.str [])), (some (61, true))⟩, []), (⟨(some 66), .pick (.s 61) (.s 65) (.c (.bool false)), (some (56, false))⟩, []), (⟨(some 67), .pick (.s 56) (.c (.bool true)) (.s 66), none⟩, []), (xm 68 67, []), (xh 68 (xm 69 4), []), (xh 68 (xm 70 69), []), (xg 70 (xf 4 71 1), []), (xg 70 (xo 72 71), []), (xg 70 (xL 73 72), []), (xg 70 (xB .neq 74 73 1), []), (⟨(some 75), .pick (.s 70) (.s 74) (.c (.bool false)), (some (68, false))⟩, []), (⟨(some 76), .pick (.s 68) (.c (.bool true)) (.s 75), none⟩, []), (xm 77 76, []), (xh 77 (xm 78 5), []), (xh 77 (xm 79 78), []), (xg 79 (xf 4 80 1), []), (xg 79 (xo 81 80), []), (xg 79 (xL 82 81), []), (xg 79 (xB .eql 83 82 0), []), (⟨(some 84), .pick (.s 79) (.s 83) (.c (.bool false)), (some (77, false))⟩, []), (⟨(some 85), .pick (.s 77) (.c (.bool true)) (.s 84), none⟩, []), (xm 86 85, []), (xh 86 (xm 87 4), []), (⟨(some 88), .not (.s 87), (some (86, false))⟩, []), (xh 86 (xm 89 88), []), (xg 89 (xm 90 5), []), (⟨(some 91), .not (.s 90), (some (89, true))⟩, []), (⟨(some 92), .pick (.s 89) (.s 91) (.c (.bool false)), (some (86, false))⟩, []), (xh 86 (xm 93 92), []), (xg 93 (xf 4 94 1), []), (xg 93 (xo 95 94), []), (xg 93 (xL 96 95), []), (xg 93 (xB .gtr 97 96 0), []), (⟨(some 98), .pick (.s 93) (.s 97) (.c (.bool false)), (some (86, false))⟩, []), (⟨(some 99), .pick (.s 86) (.c (.bool true)) (.s 98), none⟩, []), (xm 100 99, []), (xh 100 (xf 0 101 1), []), (xh 100 (xo 102 101), []), (xh 100 (xc 34 103 [.s 102, .c (.int .u8 112)]), []), (⟨(some 104), .not (.s 103), (some (100, false))⟩, []), (xh 100 (xm 105 104), []), (xg 105 (xf 5 106 1), []), (xg 105 (xo 107 106), []), (xg 105 (xL 108 107), []), (xg 105 (xB .gtr 109 108 0), []), (⟨(some 110), .pick (.s 105) (.s 109) (.c (.bool false)), (some (100, false))⟩, []), (⟨(some 111), .pick (.s 100) (.c (.bool true)) (.s 110), none⟩, [])])
 (.cond (.s 111) (.seq (.reg [⟨(some 2), .mv (.c (.bool false)), none⟩])
 (.ret))
 (.skip)))
 (.seq (.seq (.reg [xf 0 112 1, xo 113 112, xc 34 114 [.s 113, .c (.int .u8 116)]])
 (.cond (.s 114) (.seq (.reg [xf 7 115 1, xl 5 116 115, xc 36 117 [.s 116], xm 118 117, xg 118 (xf 12 119 1), xg 118 (xl 5 120 119), xg 118 (xc 36 121 [.s 120]), ⟨(some 122), .pick (.s 118) (.s 121) (.c (.bool false)), none⟩, xm 2 122])
 (.ret))
 (.skip)))
 (.seq (.seq (.reg [xf 0 123 1, xo 124 123, xc 34 125 [.s 124, .c (.int .u8 114)]])
 (.cond (.s 125) (.seq (.reg [xf 7 126 1, xl 5 127 126, xc 37 128 [.s 127], xm 129 128, xg 129 (xf 12 130 1), xg 129 (xl 5 131 130), xg 129 (xc 37 132 [.s 131]), ⟨(some 133), .pick (.s 129) (.s 132) (.c (.bool false)), none⟩, xm 2 133])
 (.ret))
 (.skip)))
 (.seq (.reg [xf 7 134 1, xl 5 135 134, xc 38 136 [.s 135], xm 137 136, xg 137 (xf 12 138 1), xg 137 (xl 5 139 138), xg 137 (xc 38 140 [.s 139]), ⟨(some 141), .pick (.s 137) (.s 140) (.c (.bool false)), none⟩, xm 2 141])
 (.ret))))))))
theorem fn11 : IsFn prog 11 ac11 [.tmp 2] 142 := ⟨f11, ⟨[], []⟩, func11, by kernel_rfl, by kernel_rfl, by kernel_rfl, by kernel_rfl⟩
def badR (c : Cmd) : Bool :=
  (hasL c.op 110 != nameR c.name.text) || (!hasL c.op 110 && !decide (c.name.text = [])) || (hasL c.op 102 && !decide (c.names.length = 1)) || (hasL c.op 119 && decide (c.names.length = 0)) ||
    (!hasL c.op 102 && !hasL c.op 119 && decide (0 < c.names.length)) || (!hasL c.op 112 && decide (0 < c.pairs.length))
def termR (c : Cmd) : Bool := if hasL c.op 116 = true then c.left.labelQ && c.right.labelQ else if hasL c.op 114 = true then c.left.rowQ && c.right.rowQ else c.left.sameQ .zero && c.right.sameQ .zero
def rightR (c : Cmd) : Bool := decide (0 ≤ c.op ∧ c.op ≤ 15) && rightW c.names && c.pairs.all pairQ && !badR c && termR c
theorem right_same (c : Cmd) : rightR c = c.rightQ := by
  unfold rightR Cmd.rightQ
  by_cases ho : 0 ≤ c.op ∧ c.op ≤ 15
  case neg => simp [ho]
  have hboth : ¬ (0 < cntN c.op 119 ∧ 0 < cntN c.op 102) := by
    have key : ∀ n < 16, ¬ (0 < cntN ((n : Nat) : Int) 119 ∧ 0 < cntN ((n : Nat) : Int) 102) := by decide +kernel
    have := key c.op.toNat (by omega)
    rwa [show ((c.op.toNat : Nat) : Int) = c.op by omega] at this
  have hn : (!(hasL c.op 110 != nameR c.name.text) && !(!hasL c.op 110 && !decide (c.name.text = []))) = c.nameQ := by
    unfold Cmd.nameQ
    rw [hasL_cnt]
    by_cases h : cntN c.op 110 = 0
    · rw [if_pos h, h]
      by_cases he : c.name.text = []
      · simp [he, show nameR [] = false by decide]
      · simp [he]
    · rw [if_neg h, decide_eq_true (show 0 < cntN c.op 110 by omega)]
      simp
  have hns : (rightW c.names && !(hasL c.op 102 && !decide (c.names.length = 1)) && !(hasL c.op 119 && decide (c.names.length = 0)) && !(!hasL c.op 102 && !hasL c.op 119 && decide (0 < c.names.length))) = c.namesQ := by
    have he : namedQ (c.names.map Word.text) = rightW c.names := by simp only [namedQ, List.all_map]; rfl
    unfold Cmd.namesQ
    rw [hasL_cnt, hasL_cnt, he]
    by_cases h1 : 0 < cntN c.op 119
    · have h2 : ¬ 0 < cntN c.op 102 := fun h => hboth ⟨h1, h⟩
      rw [if_pos h1, decide_eq_true h1, decide_eq_false h2]
      by_cases h3 : c.names.length = 0
      · simp [h3]
      · simp [h3, show 0 < c.names.length by omega]
    · rw [if_neg h1, decide_eq_false h1]
      by_cases h2 : 0 < cntN c.op 102
      · rw [if_pos h2, decide_eq_true h2]
        simp [Bool.and_comm]
      · rw [if_neg h2, decide_eq_false h2]
        by_cases h3 : c.names.length = 0
        · have : c.names = [] := List.length_eq_zero_iff.1 h3
          simp [this, rightW]
        · simp [h3, show 0 < c.names.length by omega]
  have hp : (c.pairs.all pairQ && !(!hasL c.op 112 && decide (0 < c.pairs.length))) = c.pairsQ := by
    unfold Cmd.pairsQ
    rw [hasL_cnt]
    by_cases h : cntN c.op 112 = 0
    · rw [if_pos h, h]
      by_cases h3 : c.pairs.length = 0
      · have : c.pairs = [] := List.length_eq_zero_iff.1 h3
        simp [this]
      · simp [h3, show 0 < c.pairs.length by omega]
    · rw [if_neg h, decide_eq_true (show 0 < cntN c.op 112 by omega)]
      simp
  have ht : termR c = c.termsQ := by
    unfold termR Cmd.termsQ
    rw [hasL_cnt, hasL_cnt]
    simp only [decide_eq_true_eq]
  rw [← hn, ← hns, ← hp, ht]
  unfold badR
  generalize c.termsQ = t
  generalize c.pairs.all pairQ = p
  generalize rightW c.names = w
  generalize (hasL c.op 110 != nameR c.name.text) = b1
  generalize (!hasL c.op 110 && !decide (c.name.text = [])) = b2
  generalize (hasL c.op 102 && !decide (c.names.length = 1)) = b3
  generalize (hasL c.op 119 && decide (c.names.length = 0)) = b4
  generalize (!hasL c.op 102 && !hasL c.op 119 && decide (0 < c.names.length)) = b5
  generalize (!hasL c.op 112 && decide (0 < c.pairs.length)) = b6
  simp only [ho, and_self, decide_true, Bool.true_and]
  cases t <;> cases p <;> cases w <;> cases b1 <;> cases b2 <;> cases b3 <;> cases b4 <;> cases b5 <;> cases b6 <;> rfl
def inv12r (c : Cmd) (σ : Store) (i : Nat) : St :=
  ⟨[.any, .ptr (.loc 0) 0, .any, .int .i64 (i : Nat)] ++ List.replicate 138 .any, [c.enc], σ⟩
theorem right12_calls (c : Cmd) (σ : Store) (hn : c.names.length + 1 ≤ big) (hp : c.pairs.length + 1 ≤ big) (hl : c.left.wt ≤ big) (hr : c.right.wt ≤ big) : PCalls prog 11 [.agg c.enc] σ fun v σ' => v = .bool c.rightQ ∧ σ' = σ := by
  simp only [big] at hn hp
  rw [← right_same]
  refine fn11.calls ?_
  simp only [slots, ac11, am, amo, amc, ams, Nat.reduceAdd, Nat.reduceEqDiff, decide_true, decide_false, Tree.rec_, Nd.rec_, Word.rec_, nd_len, nd_one, Int.reduceEq, Int.reduceLT, Int.reduceLE, Nat.reduceLT, Int.reduceToNat, Nat.reduceMul, cfl, cfo, cfv, List.length_map, penc_tk]
  by_cases k1 : c.op < 0
  · simp only [am, amo, amc, Nat.reduceAdd, Nat.reduceEqDiff, encs_length, List.length_map, decide_true, decide_false, Tree.rec_, Nd.rec_, Word.rec_, nd_len, nd_one, Int.reduceEq, Int.reduceLT, Int.reduceLE, Nat.reduceLT, Int.reduceToNat, Nat.reduceMul, cfl, cfo, cfv, List.length_map, penc_tk, decide_eq_true k1]
    refine retK_intro rfl (Store.sub_refl _) ⟨?_, rfl⟩
    simp [V.erase, eraseL, rightR, show ¬ (0 ≤ c.op ∧ c.op ≤ 15) by omega]
  simp only [am, amo, amc, Nat.reduceAdd, Nat.reduceEqDiff, encs_length, List.length_map, decide_true, decide_false, Tree.rec_, Nd.rec_, Word.rec_, nd_len, nd_one, Int.reduceEq, Int.reduceLT, Int.reduceLE, Nat.reduceLT, Int.reduceToNat, Nat.reduceMul, cfl, cfo, cfv, List.length_map, penc_tk, decide_eq_false k1]
  by_cases k2 : 15 < c.op
  · simp only [am, amo, amc, Nat.reduceAdd, Nat.reduceEqDiff, encs_length, List.length_map, decide_true, decide_false, Tree.rec_, Nd.rec_, Word.rec_, nd_len, nd_one, Int.reduceEq, Int.reduceLT, Int.reduceLE, Nat.reduceLT, Int.reduceToNat, Nat.reduceMul, cfl, cfo, cfv, List.length_map, penc_tk, decide_eq_true k2]
    refine retK_intro rfl (Store.sub_refl _) ⟨?_, rfl⟩
    simp [V.erase, eraseL, rightR, show ¬ (0 ≤ c.op ∧ c.op ≤ 15) by omega]
  have k3 : 0 ≤ c.op ∧ c.op ≤ 15 := by omega
  simp only [am, amo, amc, Nat.reduceAdd, Nat.reduceEqDiff, encs_length, List.length_map, decide_true, decide_false, Tree.rec_, Nd.rec_, Word.rec_, nd_len, nd_one, Int.reduceEq, Int.reduceLT, Int.reduceLE, Nat.reduceLT, Int.reduceToNat, Nat.reduceMul, cfl, cfo, cfv, List.length_map, penc_tk, decide_eq_false k2]
  refine (texts12_calls c.names σ (by simp only [big]; omega)).mono ?_
  rintro v σ ⟨rfl, rfl⟩
  simp only [am, amo, amc, Nat.reduceAdd, Nat.reduceEqDiff, encs_length, List.length_map, decide_true, decide_false, Tree.rec_, Nd.rec_, Word.rec_, nd_len, nd_one, Int.reduceEq, Int.reduceLT, Int.reduceLE, Nat.reduceLT, Int.reduceToNat, Nat.reduceMul, cfl, cfo, cfv, List.length_map, penc_tk]
  cases q1 : rightW c.names
  · simp only [am, amo, amc, Nat.reduceAdd, Nat.reduceEqDiff, encs_length, List.length_map, decide_true, decide_false, Tree.rec_, Nd.rec_, Word.rec_, nd_len, nd_one, Int.reduceEq, Int.reduceLT, Int.reduceLE, Nat.reduceLT, Int.reduceToNat, Nat.reduceMul, cfl, cfo, cfv, List.length_map, penc_tk]
    refine retK_intro rfl (Store.sub_refl _) ⟨?_, rfl⟩
    simp [V.erase, eraseL, rightR, q1]
  simp only [am, amo, amc, Nat.reduceAdd, Nat.reduceEqDiff, encs_length, List.length_map, decide_true, decide_false, Tree.rec_, Nd.rec_, Word.rec_, nd_len, nd_one, Int.reduceEq, Int.reduceLT, Int.reduceLE, Nat.reduceLT, Int.reduceToNat, Nat.reduceMul, cfl, cfo, cfv, List.length_map, penc_tk]
  refine vc_loop (fun p : { i : Nat // i ≤ c.pairs.length ∧ (c.pairs.take i).all pairQ = true } => inv12r c σ p.1) (fun p => c.pairs.length - p.1) ?_ ?_
  · refine Upd.enter ⟨0, by simp, by simp⟩ ?_ LLLe.rfl OLe.rfl
    simp [inv12r, List.replicate, am]
  rintro ⟨i, hi, ha⟩
  simp only [inv12r, List.replicate, am, cfv, List.length_map]
  by_cases hlt : i < c.pairs.length
  · simp only [am, amo, amc, Nat.reduceAdd, Nat.reduceEqDiff, encs_length, List.length_map, decide_true, decide_false, Tree.rec_, Nd.rec_, Word.rec_, nd_len, nd_one, Int.reduceEq, Int.reduceLT, Int.reduceLE, Nat.reduceLT, Int.reduceToNat, Nat.reduceMul, cfl, cfo, cfv, List.length_map, penc_tk, decide_eq_true (show (i : Int) < c.pairs.length by omega)]
    refine idxL_intro (by omega) (pencs_at (List.getElem?_eq_getElem hlt)) ?_
    simp only [am, amo, amc, Nat.reduceAdd, Nat.reduceEqDiff, encs_length, List.length_map, decide_true, decide_false, Tree.rec_, Nd.rec_, Word.rec_, nd_len, nd_one, Int.reduceEq, Int.reduceLT, Int.reduceLE, Nat.reduceLT, Int.reduceToNat, Nat.reduceMul, cfl, cfo, cfv, List.length_map, penc_tk]
    refine idxPL_elt (by omega) (by omega) ?_
    simp only [am, amo, amc, Nat.reduceAdd, Nat.reduceEqDiff, encs_length, List.length_map, decide_true, decide_false, Tree.rec_, Nd.rec_, Word.rec_, nd_len, nd_one, Int.reduceEq, Int.reduceLT, Int.reduceLE, Nat.reduceLT, Int.reduceToNat, Nat.reduceMul, cfl, cfo, cfv, List.length_map, penc_tk, penc]
    refine idxL_intro (by omega) (pencs_at (List.getElem?_eq_getElem hlt)) ?_
    simp only [am, amo, amc, Nat.reduceAdd, Nat.reduceEqDiff, encs_length, List.length_map, decide_true, decide_false, Tree.rec_, Nd.rec_, Word.rec_, nd_len, nd_one, Int.reduceEq, Int.reduceLT, Int.reduceLE, Nat.reduceLT, Int.reduceToNat, Nat.reduceMul, cfl, cfo, cfv, List.length_map, penc_tk]
    refine idxPL_elt (by omega) (by omega) ?_
    simp only [am, amo, amc, Nat.reduceAdd, Nat.reduceEqDiff, encs_length, List.length_map, decide_true, decide_false, Tree.rec_, Nd.rec_, Word.rec_, nd_len, nd_one, Int.reduceEq, Int.reduceLT, Int.reduceLE, Nat.reduceLT, Int.reduceToNat, Nat.reduceMul, cfl, cfo, cfv, List.length_map, penc_tk, penc]
    refine CallD.intro (texts12_calls (τ := .full) [c.pairs[i].1, c.pairs[i].2] σ (by simp [big])) ?_
    have hpq : rightW [c.pairs[i].1, c.pairs[i].2] = pairQ c.pairs[i] := by simp [rightW, pairQ]
    simp only [am, amo, amc, Nat.reduceAdd, Nat.reduceEqDiff, encs_length, List.length_map, decide_true, decide_false, Tree.rec_, Nd.rec_, Word.rec_, nd_len, nd_one, Int.reduceEq, Int.reduceLT, Int.reduceLE, Nat.reduceLT, Int.reduceToNat, Nat.reduceMul, cfl, cfo, cfv, List.length_map, penc_tk, hpq]
    cases q : pairQ c.pairs[i]
    · simp only [am, amo, amc, Nat.reduceAdd, Nat.reduceEqDiff, encs_length, List.length_map, decide_true, decide_false, Tree.rec_, Nd.rec_, Word.rec_, nd_len, nd_one, Int.reduceEq, Int.reduceLT, Int.reduceLE, Nat.reduceLT, Int.reduceToNat, Nat.reduceMul, cfl, cfo, cfv, List.length_map, penc_tk]
      have : c.pairs.all pairQ = false := all_no (f := pairQ) hlt q
      refine retK_intro rfl (Store.sub_refl _) ⟨?_, rfl⟩
      simp [V.erase, eraseL, rightR, this]
    · simp only [am, amo, amc, Nat.reduceAdd, Nat.reduceEqDiff, encs_length, List.length_map, decide_true, decide_false, Tree.rec_, Nd.rec_, Word.rec_, nd_len, nd_one, Int.reduceEq, Int.reduceLT, Int.reduceLE, Nat.reduceLT, Int.reduceToNat, Nat.reduceMul, cfl, cfo, cfv, List.length_map, penc_tk]
      rw [wrap_i64 (by omega) (by omega)]
      exact Upd.again (I := fun p : { i : Nat // i ≤ c.pairs.length ∧ (c.pairs.take i).all pairQ = true } => inv12r c σ p.1) (μ := fun p => c.pairs.length - p.1) ⟨i + 1, hlt, by rw [all_take hlt, ha, q]; rfl⟩ (by simp; omega) (by simp [List.replicate, am, inv12r]) LLLe.rfl OLe.rfl
  · have hlt : i = c.pairs.length := by omega
    subst hlt
    rw [List.take_length] at ha
    simp only [am, amo, amc, Nat.reduceAdd, Nat.reduceEqDiff, encs_length, List.length_map, decide_true, decide_false, Tree.rec_, Nd.rec_, Word.rec_, nd_len, nd_one, Int.reduceEq, Int.reduceLT, Int.reduceLE, Nat.reduceLT, Int.reduceToNat, Nat.reduceMul, cfl, cfo, cfv, List.length_map, penc_tk, decide_eq_false (show ¬ (c.pairs.length : Int) < c.pairs.length by omega)]
    have hq : rightR c = (!badR c && termR c) := by simp [rightR, k3, q1, ha]
    rw [hq]
    refine CallD.intro (has12_calls c.op 102 σ) ?_
    simp only [am, amo, amc, Nat.reduceAdd, Nat.reduceEqDiff, encs_length, List.length_map, decide_true, decide_false, Tree.rec_, Nd.rec_, Word.rec_, nd_len, nd_one, Int.reduceEq, Int.reduceLT, Int.reduceLE, Nat.reduceLT, Int.reduceToNat, Nat.reduceMul, cfl, cfo, cfv, List.length_map, penc_tk]
    refine CallD.intro (has12_calls c.op 119 σ) ?_
    simp only [am, amo, amc, Nat.reduceAdd, Nat.reduceEqDiff, encs_length, List.length_map, decide_true, decide_false, Tree.rec_, Nd.rec_, Word.rec_, nd_len, nd_one, Int.reduceEq, Int.reduceLT, Int.reduceLE, Nat.reduceLT, Int.reduceToNat, Nat.reduceMul, cfl, cfo, cfv, List.length_map, penc_tk]
    refine CallD.intro (has12_calls c.op 110 σ) ?_
    simp only [am, amo, amc, Nat.reduceAdd, Nat.reduceEqDiff, encs_length, List.length_map, decide_true, decide_false, Tree.rec_, Nd.rec_, Word.rec_, nd_len, nd_one, Int.reduceEq, Int.reduceLT, Int.reduceLE, Nat.reduceLT, Int.reduceToNat, Nat.reduceMul, cfl, cfo, cfv, List.length_map, penc_tk]
    refine CallD.intro (right2_calls c.name.text σ) ?_
    simp only [am, amo, amc, Nat.reduceAdd, Nat.reduceEqDiff, encs_length, List.length_map, decide_true, decide_false, Tree.rec_, Nd.rec_, Word.rec_, nd_len, nd_one, Int.reduceEq, Int.reduceLT, Int.reduceLE, Nat.reduceLT, Int.reduceToNat, Nat.reduceMul, cfl, cfo, cfv, List.length_map, penc_tk]
    by_cases e1 : hasL c.op 110 = nameR c.name.text
    case' neg =>
      simp only [am, amo, amc, Nat.reduceAdd, Nat.reduceEqDiff, encs_length, List.length_map, decide_true, decide_false, Tree.rec_, Nd.rec_, Word.rec_, nd_len, nd_one, Int.reduceEq, Int.reduceLT, Int.reduceLE, Nat.reduceLT, Int.reduceToNat, Nat.reduceMul, cfl, cfo, cfv, List.length_map, penc_tk, decide_eq_false e1]
      refine retK_intro rfl (Store.sub_refl _) ⟨?_, rfl⟩
      simp [V.erase, eraseL, badR, e1]
    case' pos =>
      simp only [am, amo, amc, Nat.reduceAdd, Nat.reduceEqDiff, encs_length, List.length_map, decide_true, decide_false, Tree.rec_, Nd.rec_, Word.rec_, nd_len, nd_one, Int.reduceEq, Int.reduceLT, Int.reduceLE, Nat.reduceLT, Int.reduceToNat, Nat.reduceMul, cfl, cfo, cfv, List.length_map, penc_tk, decide_eq_true e1]
      refine CallD.intro (has12_calls c.op 110 σ) ?_
      simp only [am, amo, amc, Nat.reduceAdd, Nat.reduceEqDiff, encs_length, List.length_map, decide_true, decide_false, Tree.rec_, Nd.rec_, Word.rec_, nd_len, nd_one, Int.reduceEq, Int.reduceLT, Int.reduceLE, Nat.reduceLT, Int.reduceToNat, Nat.reduceMul, cfl, cfo, cfv, List.length_map, penc_tk]
      cases q110 : hasL c.op 110
      case' false =>
        simp only [am, amo, amc, Nat.reduceAdd, Nat.reduceEqDiff, encs_length, List.length_map, decide_true, decide_false, Tree.rec_, Nd.rec_, Word.rec_, nd_len, nd_one, Int.reduceEq, Int.reduceLT, Int.reduceLE, Nat.reduceLT, Int.reduceToNat, Nat.reduceMul, cfl, cfo, cfv, List.length_map, penc_tk]
        by_cases e2 : c.name.text = []
        case' neg =>
          simp only [am, amo, amc, Nat.reduceAdd, Nat.reduceEqDiff, encs_length, List.length_map, decide_true, decide_false, Tree.rec_, Nd.rec_, Word.rec_, nd_len, nd_one, Int.reduceEq, Int.reduceLT, Int.reduceLE, Nat.reduceLT, Int.reduceToNat, Nat.reduceMul, cfl, cfo, cfv, List.length_map, penc_tk, decide_eq_false e2]
          refine retK_intro rfl (Store.sub_refl _) ⟨?_, rfl⟩
          simp [V.erase, eraseL, badR, q110, e2]
        case' pos =>
          simp only [am, amo, amc, Nat.reduceAdd, Nat.reduceEqDiff, encs_length, List.length_map, decide_true, decide_false, Tree.rec_, Nd.rec_, Word.rec_, nd_len, nd_one, Int.reduceEq, Int.reduceLT, Int.reduceLE, Nat.reduceLT, Int.reduceToNat, Nat.reduceMul, cfl, cfo, cfv, List.length_map, penc_tk, decide_eq_true e2]
      case' true =>
        simp only [am, amo, amc, Nat.reduceAdd, Nat.reduceEqDiff, encs_length, List.length_map, decide_true, decide_false, Tree.rec_, Nd.rec_, Word.rec_, nd_len, nd_one, Int.reduceEq, Int.reduceLT, Int.reduceLE, Nat.reduceLT, Int.reduceToNat, Nat.reduceMul, cfl, cfo, cfv, List.length_map, penc_tk]
    all_goals
      cases q102 : hasL c.op 102
      case' true =>
        simp only [am, amo, amc, Nat.reduceAdd, Nat.reduceEqDiff, encs_length, List.length_map, decide_true, decide_false, Tree.rec_, Nd.rec_, Word.rec_, nd_len, nd_one, Int.reduceEq, Int.reduceLT, Int.reduceLE, Nat.reduceLT, Int.reduceToNat, Nat.reduceMul, cfl, cfo, cfv, List.length_map, penc_tk]
        by_cases e3 : c.names.length = 1
        case' neg =>
          simp only [am, amo, amc, Nat.reduceAdd, Nat.reduceEqDiff, encs_length, List.length_map, decide_true, decide_false, Tree.rec_, Nd.rec_, Word.rec_, nd_len, nd_one, Int.reduceEq, Int.reduceLT, Int.reduceLE, Nat.reduceLT, Int.reduceToNat, Nat.reduceMul, cfl, cfo, cfv, List.length_map, penc_tk, decide_eq_false (show ¬ (c.names.length : Int) = 1 by omega)]
          refine retK_intro rfl (Store.sub_refl _) ⟨?_, rfl⟩
          simp [V.erase, eraseL, badR, q102, e3]
        case' pos =>
          simp only [am, amo, amc, Nat.reduceAdd, Nat.reduceEqDiff, encs_length, List.length_map, decide_true, decide_false, Tree.rec_, Nd.rec_, Word.rec_, nd_len, nd_one, Int.reduceEq, Int.reduceLT, Int.reduceLE, Nat.reduceLT, Int.reduceToNat, Nat.reduceMul, cfl, cfo, cfv, List.length_map, penc_tk, decide_eq_true (show (c.names.length : Int) = 1 by omega)]
      case' false =>
        simp only [am, amo, amc, Nat.reduceAdd, Nat.reduceEqDiff, encs_length, List.length_map, decide_true, decide_false, Tree.rec_, Nd.rec_, Word.rec_, nd_len, nd_one, Int.reduceEq, Int.reduceLT, Int.reduceLE, Nat.reduceLT, Int.reduceToNat, Nat.reduceMul, cfl, cfo, cfv, List.length_map, penc_tk]
    all_goals
      cases q119 : hasL c.op 119
      case' true =>
        simp only [am, amo, amc, Nat.reduceAdd, Nat.reduceEqDiff, encs_length, List.length_map, decide_true, decide_false, Tree.rec_, Nd.rec_, Word.rec_, nd_len, nd_one, Int.reduceEq, Int.reduceLT, Int.reduceLE, Nat.reduceLT, Int.reduceToNat, Nat.reduceMul, cfl, cfo, cfv, List.length_map, penc_tk]
        by_cases e4 : c.names.length = 0
        case' pos =>
          simp only [am, amo, amc, Nat.reduceAdd, Nat.reduceEqDiff, encs_length, List.length_map, decide_true, decide_false, Tree.rec_, Nd.rec_, Word.rec_, nd_len, nd_one, Int.reduceEq, Int.reduceLT, Int.reduceLE, Nat.reduceLT, Int.reduceToNat, Nat.reduceMul, cfl, cfo, cfv, List.length_map, penc_tk, decide_eq_true (show (c.names.length : Int) = 0 by omega)]
          refine retK_intro rfl (Store.sub_refl _) ⟨?_, rfl⟩
          simp [V.erase, eraseL, badR, q119, e4]
        case' neg =>
          simp only [am, amo, amc, Nat.reduceAdd, Nat.reduceEqDiff, encs_length, List.length_map, decide_true, decide_false, Tree.rec_, Nd.rec_, Word.rec_, nd_len, nd_one, Int.reduceEq, Int.reduceLT, Int.reduceLE, Nat.reduceLT, Int.reduceToNat, Nat.reduceMul, cfl, cfo, cfv, List.length_map, penc_tk, decide_eq_false (show ¬ (c.names.length : Int) = 0 by omega)]
      case' false =>
        simp only [am, amo, amc, Nat.reduceAdd, Nat.reduceEqDiff, encs_length, List.length_map, decide_true, decide_false, Tree.rec_, Nd.rec_, Word.rec_, nd_len, nd_one, Int.reduceEq, Int.reduceLT, Int.reduceLE, Nat.reduceLT, Int.reduceToNat, Nat.reduceMul, cfl, cfo, cfv, List.length_map, penc_tk]
    all_goals
      have e1' : (hasL c.op 110 != nameR c.name.text) = false := by simp [e1]
      clear e1
      first
        | refine CallD.intro (has12_calls c.op 112 σ) ?_
        | by_cases e5 : 0 < c.names.length
          case' pos =>
            simp only [am, amo, amc, Nat.reduceAdd, Nat.reduceEqDiff, encs_length, List.length_map, decide_true, decide_false, Tree.rec_, Nd.rec_, Word.rec_, nd_len, nd_one, Int.reduceEq, Int.reduceLT, Int.reduceLE, Nat.reduceLT, Int.reduceToNat, Nat.reduceMul, cfl, cfo, cfv, List.length_map, penc_tk, decide_eq_true (show (0 : Int) < c.names.length by omega)]
            have hb : badR c = true := by simp [badR, q102, q119, e5]
            refine retK_intro rfl (Store.sub_refl _) ⟨?_, rfl⟩
            simp [V.erase, eraseL, hb]
          case' neg =>
            simp only [am, amo, amc, Nat.reduceAdd, Nat.reduceEqDiff, encs_length, List.length_map, decide_true, decide_false, Tree.rec_, Nd.rec_, Word.rec_, nd_len, nd_one, Int.reduceEq, Int.reduceLT, Int.reduceLE, Nat.reduceLT, Int.reduceToNat, Nat.reduceMul, cfl, cfo, cfv, List.length_map, penc_tk, decide_eq_false (show ¬ (0 : Int) < c.names.length by omega)]
            refine CallD.intro (has12_calls c.op 112 σ) ?_
    all_goals
      simp only [am, amo, amc, Nat.reduceAdd, Nat.reduceEqDiff, encs_length, List.length_map, decide_true, decide_false, Tree.rec_, Nd.rec_, Word.rec_, nd_len, nd_one, Int.reduceEq, Int.reduceLT, Int.reduceLE, Nat.reduceLT, Int.reduceToNat, Nat.reduceMul, cfl, cfo, cfv, List.length_map, penc_tk]
      cases q112 : hasL c.op 112
      case' false =>
        simp only [am, amo, amc, Nat.reduceAdd, Nat.reduceEqDiff, encs_length, List.length_map, decide_true, decide_false, Tree.rec_, Nd.rec_, Word.rec_, nd_len, nd_one, Int.reduceEq, Int.reduceLT, Int.reduceLE, Nat.reduceLT, Int.reduceToNat, Nat.reduceMul, cfl, cfo, cfv, List.length_map, penc_tk]
        by_cases e6 : 0 < c.pairs.length
        case' pos =>
          simp only [am, amo, amc, Nat.reduceAdd, Nat.reduceEqDiff, encs_length, List.length_map, decide_true, decide_false, Tree.rec_, Nd.rec_, Word.rec_, nd_len, nd_one, Int.reduceEq, Int.reduceLT, Int.reduceLE, Nat.reduceLT, Int.reduceToNat, Nat.reduceMul, cfl, cfo, cfv, List.length_map, penc_tk, decide_eq_true (show (0 : Int) < c.pairs.length by omega)]
          have hb : badR c = true := by simp [badR, q112, e6]
          refine retK_intro rfl (Store.sub_refl _) ⟨?_, rfl⟩
          simp [V.erase, eraseL, hb]
        case' neg =>
          simp only [am, amo, amc, Nat.reduceAdd, Nat.reduceEqDiff, encs_length, List.length_map, decide_true, decide_false, Tree.rec_, Nd.rec_, Word.rec_, nd_len, nd_one, Int.reduceEq, Int.reduceLT, Int.reduceLE, Nat.reduceLT, Int.reduceToNat, Nat.reduceMul, cfl, cfo, cfv, List.length_map, penc_tk, decide_eq_false (show ¬ (0 : Int) < c.pairs.length by omega)]
      case' true =>
        simp only [am, amo, amc, Nat.reduceAdd, Nat.reduceEqDiff, encs_length, List.length_map, decide_true, decide_false, Tree.rec_, Nd.rec_, Word.rec_, nd_len, nd_one, Int.reduceEq, Int.reduceLT, Int.reduceLE, Nat.reduceLT, Int.reduceToNat, Nat.reduceMul, cfl, cfo, cfv, List.length_map, penc_tk]
    all_goals
      have hb : badR c = false := by unfold badR; rw [e1']; clear e1'; simp [*]
      refine (has12_calls c.op 116 σ).mono ?_
      rintro v σ ⟨rfl, rfl⟩
      simp only [am, amo, amc, Nat.reduceAdd, Nat.reduceEqDiff, encs_length, List.length_map, decide_true, decide_false, Tree.rec_, Nd.rec_, Word.rec_, nd_len, nd_one, Int.reduceEq, Int.reduceLT, Int.reduceLE, Nat.reduceLT, Int.reduceToNat, Nat.reduceMul, cfl, cfo, cfv, List.length_map, penc_tk]
      cases q116 : hasL c.op 116
      case' true =>
        simp only [am, amo, amc, Nat.reduceAdd, Nat.reduceEqDiff, encs_length, List.length_map, decide_true, decide_false, Tree.rec_, Nd.rec_, Word.rec_, nd_len, nd_one, Int.reduceEq, Int.reduceLT, Int.reduceLE, Nat.reduceLT, Int.reduceToNat, Nat.reduceMul, cfl, cfo, cfv, List.length_map, penc_tk]
        refine (label2_calls _ c.left σ (Nat.le_refl _) hl).mono ?_
        rintro v σ ⟨rfl, rfl⟩
        simp only [am, amo, amc, Nat.reduceAdd, Nat.reduceEqDiff, encs_length, List.length_map, decide_true, decide_false, Tree.rec_, Nd.rec_, Word.rec_, nd_len, nd_one, Int.reduceEq, Int.reduceLT, Int.reduceLE, Nat.reduceLT, Int.reduceToNat, Nat.reduceMul, cfl, cfo, cfv, List.length_map, penc_tk]
        cases z1 : c.left.labelQ
        case' true =>
          simp only [am, amo, amc, Nat.reduceAdd, Nat.reduceEqDiff, encs_length, List.length_map, decide_true, decide_false, Tree.rec_, Nd.rec_, Word.rec_, nd_len, nd_one, Int.reduceEq, Int.reduceLT, Int.reduceLE, Nat.reduceLT, Int.reduceToNat, Nat.reduceMul, cfl, cfo, cfv, List.length_map, penc_tk]
          refine (label2_calls _ c.right σ (Nat.le_refl _) hr).mono ?_
          rintro v σ ⟨rfl, rfl⟩
          simp only [am, amo, amc, Nat.reduceAdd, Nat.reduceEqDiff, encs_length, List.length_map, decide_true, decide_false, Tree.rec_, Nd.rec_, Word.rec_, nd_len, nd_one, Int.reduceEq, Int.reduceLT, Int.reduceLE, Nat.reduceLT, Int.reduceToNat, Nat.reduceMul, cfl, cfo, cfv, List.length_map, penc_tk]
          refine retK_intro rfl (Store.sub_refl _) ⟨?_, rfl⟩
          simp [V.erase, eraseL, hb, termR, q116, z1]
        case' false =>
          simp only [am, amo, amc, Nat.reduceAdd, Nat.reduceEqDiff, encs_length, List.length_map, decide_true, decide_false, Tree.rec_, Nd.rec_, Word.rec_, nd_len, nd_one, Int.reduceEq, Int.reduceLT, Int.reduceLE, Nat.reduceLT, Int.reduceToNat, Nat.reduceMul, cfl, cfo, cfv, List.length_map, penc_tk]
          refine retK_intro rfl (Store.sub_refl _) ⟨?_, rfl⟩
          simp [V.erase, eraseL, hb, termR, q116, z1]
      case' false =>
        simp only [am, amo, amc, Nat.reduceAdd, Nat.reduceEqDiff, encs_length, List.length_map, decide_true, decide_false, Tree.rec_, Nd.rec_, Word.rec_, nd_len, nd_one, Int.reduceEq, Int.reduceLT, Int.reduceLE, Nat.reduceLT, Int.reduceToNat, Nat.reduceMul, cfl, cfo, cfv, List.length_map, penc_tk]
        refine (has12_calls c.op 114 σ).mono ?_
        rintro v σ ⟨rfl, rfl⟩
        simp only [am, amo, amc, Nat.reduceAdd, Nat.reduceEqDiff, encs_length, List.length_map, decide_true, decide_false, Tree.rec_, Nd.rec_, Word.rec_, nd_len, nd_one, Int.reduceEq, Int.reduceLT, Int.reduceLE, Nat.reduceLT, Int.reduceToNat, Nat.reduceMul, cfl, cfo, cfv, List.length_map, penc_tk]
        cases q114 : hasL c.op 114
        case' true =>
          simp only [am, amo, amc, Nat.reduceAdd, Nat.reduceEqDiff, encs_length, List.length_map, decide_true, decide_false, Tree.rec_, Nd.rec_, Word.rec_, nd_len, nd_one, Int.reduceEq, Int.reduceLT, Int.reduceLE, Nat.reduceLT, Int.reduceToNat, Nat.reduceMul, cfl, cfo, cfv, List.length_map, penc_tk]
          refine (row2_calls c.left σ hl).mono ?_
          rintro v σ ⟨rfl, rfl⟩
          simp only [am, amo, amc, Nat.reduceAdd, Nat.reduceEqDiff, encs_length, List.length_map, decide_true, decide_false, Tree.rec_, Nd.rec_, Word.rec_, nd_len, nd_one, Int.reduceEq, Int.reduceLT, Int.reduceLE, Nat.reduceLT, Int.reduceToNat, Nat.reduceMul, cfl, cfo, cfv, List.length_map, penc_tk]
          cases z1 : c.left.rowQ
          case' true =>
            simp only [am, amo, amc, Nat.reduceAdd, Nat.reduceEqDiff, encs_length, List.length_map, decide_true, decide_false, Tree.rec_, Nd.rec_, Word.rec_, nd_len, nd_one, Int.reduceEq, Int.reduceLT, Int.reduceLE, Nat.reduceLT, Int.reduceToNat, Nat.reduceMul, cfl, cfo, cfv, List.length_map, penc_tk]
            refine (row2_calls c.right σ hr).mono ?_
            rintro v σ ⟨rfl, rfl⟩
            simp only [am, amo, amc, Nat.reduceAdd, Nat.reduceEqDiff, encs_length, List.length_map, decide_true, decide_false, Tree.rec_, Nd.rec_, Word.rec_, nd_len, nd_one, Int.reduceEq, Int.reduceLT, Int.reduceLE, Nat.reduceLT, Int.reduceToNat, Nat.reduceMul, cfl, cfo, cfv, List.length_map, penc_tk]
            refine retK_intro rfl (Store.sub_refl _) ⟨?_, rfl⟩
            simp [V.erase, eraseL, hb, termR, q116, q114, z1]
          case' false =>
            simp only [am, amo, amc, Nat.reduceAdd, Nat.reduceEqDiff, encs_length, List.length_map, decide_true, decide_false, Tree.rec_, Nd.rec_, Word.rec_, nd_len, nd_one, Int.reduceEq, Int.reduceLT, Int.reduceLE, Nat.reduceLT, Int.reduceToNat, Nat.reduceMul, cfl, cfo, cfv, List.length_map, penc_tk]
            refine retK_intro rfl (Store.sub_refl _) ⟨?_, rfl⟩
            simp [V.erase, eraseL, hb, termR, q116, q114, z1]
        case' false =>
          simp only [am, amo, amc, Nat.reduceAdd, Nat.reduceEqDiff, encs_length, List.length_map, decide_true, decide_false, Tree.rec_, Nd.rec_, Word.rec_, nd_len, nd_one, Int.reduceEq, Int.reduceLT, Int.reduceLE, Nat.reduceLT, Int.reduceToNat, Nat.reduceMul, cfl, cfo, cfv, List.length_map, penc_tk]
          refine (zero12_calls c.left σ hl).mono ?_
          rintro v σ ⟨rfl, rfl⟩
          simp only [am, amo, amc, Nat.reduceAdd, Nat.reduceEqDiff, encs_length, List.length_map, decide_true, decide_false, Tree.rec_, Nd.rec_, Word.rec_, nd_len, nd_one, Int.reduceEq, Int.reduceLT, Int.reduceLE, Nat.reduceLT, Int.reduceToNat, Nat.reduceMul, cfl, cfo, cfv, List.length_map, penc_tk]
          cases z1 : c.left.sameQ .zero
          case' true =>
            simp only [am, amo, amc, Nat.reduceAdd, Nat.reduceEqDiff, encs_length, List.length_map, decide_true, decide_false, Tree.rec_, Nd.rec_, Word.rec_, nd_len, nd_one, Int.reduceEq, Int.reduceLT, Int.reduceLE, Nat.reduceLT, Int.reduceToNat, Nat.reduceMul, cfl, cfo, cfv, List.length_map, penc_tk]
            refine (zero12_calls c.right σ hr).mono ?_
            rintro v σ ⟨rfl, rfl⟩
            simp only [am, amo, amc, Nat.reduceAdd, Nat.reduceEqDiff, encs_length, List.length_map, decide_true, decide_false, Tree.rec_, Nd.rec_, Word.rec_, nd_len, nd_one, Int.reduceEq, Int.reduceLT, Int.reduceLE, Nat.reduceLT, Int.reduceToNat, Nat.reduceMul, cfl, cfo, cfv, List.length_map, penc_tk]
            refine retK_intro rfl (Store.sub_refl _) ⟨?_, rfl⟩
            simp [V.erase, eraseL, hb, termR, q116, q114, z1]
          case' false =>
            simp only [am, amo, amc, Nat.reduceAdd, Nat.reduceEqDiff, encs_length, List.length_map, decide_true, decide_false, Tree.rec_, Nd.rec_, Word.rec_, nd_len, nd_one, Int.reduceEq, Int.reduceLT, Int.reduceLE, Nat.reduceLT, Int.reduceToNat, Nat.reduceMul, cfl, cfo, cfv, List.length_map, penc_tk]
            refine retK_intro rfl (Store.sub_refl _) ⟨?_, rfl⟩
            simp [V.erase, eraseL, hb, termR, q116, q114, z1]
end Go.Proofs.Tryz

namespace Go.Proofs.Tryz
open Go.Am
set_option maxRecDepth 4000
set_option maxHeartbeats 4000000
def ac5 : AC := .seq (.reg [⟨(some 0), .mv (.c (.bool false)), none⟩])
 (.seq (.reg [xc 15 6 [.c (.str [116, 97, 98, 108, 101, 32, 32, 116, 32, 123, 97, 44, 32, 98, 125, 123, 97, 60, 98, 125])], xm 5 6, xe 7 5 0, xe 8 5 1, ⟨(some 1), .alloc [(.int .i64 0), (.int .i64 0), (.str []), (.int .i64 0), (.sl .full 2 []), (.sl .full 4 []), (.int .i64 0), (.int .i64 0), (.int .i64 0), (.str []), (.sl .full 2 []), (.sl .full 5 []), (.int .i64 0), (.int .i64 0), (.str []), (.sl .full 2 []), (.sl .full 5 [])], none⟩, ⟨(some 2), .alloc [(.int .i64 0), (.int .i64 0)], none⟩, xs 17 1 7, xs 2 2 8])
 (.seq (.reg [xc 15 10 [.c (.str [108, 101, 113, 32, 107, 32, 120])], xm 9 10, xe 11 9 0, xe 12 9 1, ⟨(some 3), .alloc [(.int .i64 0), (.int .i64 0), (.str []), (.int .i64 0), (.sl .full 2 []), (.sl .full 4 []), (.int .i64 0), (.int .i64 0), (.int .i64 0), (.str []), (.sl .full 2 []), (.sl .full 5 []), (.int .i64 0), (.int .i64 0), (.str []), (.sl .full 2 []), (.sl .full 5 [])], none⟩, ⟨(some 4), .alloc [(.int .i64 0), (.int .i64 0)], none⟩, xs 17 3 11, xs 2 4 12])
 (.seq (.reg [xl 2 13 2, ⟨(some 14), .build [(.int .i64 0), (.int .i64 0)] [], none⟩, ⟨(some 15), .eqA false [1, 1] (.s 13) (.s 14), none⟩, xm 16 15, xg 16 (xl 17 17 1), xg 16 (xc 6 18 [.s 17]), ⟨(some 19), .binS .eql (.s 18) (.c (.str [116, 97, 98, 108, 101, 32, 116, 32, 123, 97, 44, 98, 125, 32, 123, 97, 60, 98, 125])), (some (16, true))⟩, ⟨(some 20), .pick (.s 16) (.s 19) (.c (.bool false)), none⟩, xm 21 20, xg 21 (xf 6 22 1), xg 21 (xo 23 22), xg 21 (xB .eql 24 23 15), ⟨(some 25), .pick (.s 21) (.s 24) (.c (.bool false)), none⟩, xm 26 25, xg 26 (xl 2 27 4), ⟨(some 28), .build [(.int .i64 0), (.int .i64 0)] [(0, 1, (.c (.int .i64 2))), (1, 1, (.c (.int .i64 7)))], (some (26, true))⟩, ⟨(some 29), .eqA false [1, 1] (.s 27) (.s 28), (some (26, true))⟩, ⟨(some 30), .pick (.s 26) (.s 29) (.c (.bool false)), none⟩, xm 0 30])
 (.ret))))
theorem fn5 : IsFn prog 5 ac5 [.tmp 0] 31 := ⟨f5, ⟨[], []⟩, func5, by kernel_rfl, by kernel_rfl, by kernel_rfl, by kernel_rfl⟩
def a1 : List UInt8 := [116, 97, 98, 108, 101, 32, 32, 116, 32, 123, 97, 44, 32, 98, 125, 123, 97, 60, 98, 125]
def a2 : List UInt8 := [108, 101, 113, 32, 107, 32, 120]
def a3 : List UInt8 := [116, 97, 98, 108, 101, 32, 116, 32, 123, 97, 44, 98, 125, 32, 123, 97, 60, 98, 125]
theorem fa1 : (readP a1).2 = (0, 0) := by decide +kernel
theorem fa2 : (readP a2).2 = (2, 7) := by decide +kernel
theorem fa3 : textC (readP a1).1 = a3 := by decide +kernel
theorem fa4 : (readP a1).1.pairsAt = 15 := by decide +kernel
theorem fa5 : 16 * (readP a1).1.wt + 64 ≤ big := by decide +kernel
theorem fa6 : manys (treeP (lexR a1).1 [] []).1 + 8 ≤ big := by decide +kernel
theorem fa7 : manys (treeP (lexR a2).1 [] []).1 + 8 ≤ big := by decide +kernel
theorem alive12_calls {σ : Store} (hg : σ.box 0 = some formCells) : PCalls prog 5 [] σ fun v σ' => v = .bool true ∧ σ' = σ := by
  refine fn5.calls ?_
  simp only [slots, ac5, am, amo, amc, ams, Nat.reduceAdd, Nat.reduceEqDiff, decide_true, decide_false, Tree.rec_, Nd.rec_, Word.rec_, Int.reduceEq, Int.reduceLT, Int.reduceLE, Nat.reduceLT, cfl, cfo, cfv]
  refine (cread_calls a1 hg (by decide) fa6).mono ?_
  rintro v σ ⟨rfl, rfl⟩
  have f1 := fa1; have f3 := fa3; have f4 := fa4; have f5 := fa5
  generalize readP a1 = o1 at f1 f3 f4 f5 ⊢
  simp only [am, amo, amc, Nat.reduceAdd, Nat.reduceEqDiff, encs_length, List.length_map, decide_true, decide_false, Tree.rec_, Nd.rec_, Word.rec_, Int.reduceEq, Int.reduceLT, Int.reduceLE, Nat.reduceLT, cfl, cfo, cfv, flt, f1]
  refine (cread_calls a2 hg (by decide) fa7).mono ?_
  rintro v σ ⟨rfl, rfl⟩
  have f2 := fa2
  generalize readP a2 = o2 at f2 ⊢
  simp only [am, amo, amc, Nat.reduceAdd, Nat.reduceEqDiff, encs_length, List.length_map, decide_true, decide_false, Tree.rec_, Nd.rec_, Word.rec_, Int.reduceEq, Int.reduceLT, Int.reduceLE, Nat.reduceLT, cfl, cfo, cfv, flt, f2]
  refine (ctext_calls o1.1 hg f5).mono ?_
  rintro v σ ⟨rfl, rfl⟩
  simp only [am, amo, amc, Nat.reduceAdd, Nat.reduceEqDiff, encs_length, List.length_map, decide_true, decide_false, Tree.rec_, Nd.rec_, Word.rec_, Int.reduceEq, Int.reduceLT, Int.reduceLE, Nat.reduceLT, cfl, cfo, cfv, f3, a3, f4]
  refine retK_intro rfl (Store.sub_refl _) ⟨?_, rfl⟩
  simp [V.erase, eraseL]
end Go.Proofs.Tryz

namespace Go.Proofs.Tryz
open Go.Am
set_option maxRecDepth 4000
set_option maxHeartbeats 4000000
def ac25 : AC := .seq (.reg [⟨(some 2), .boxO 1 (.s 0), none⟩, ⟨(some 3), .boxO 1 (.s 1), none⟩, ⟨(some 4), .mv (.c (.bool false)), none⟩])
 (.seq (.reg [xo 5 2, xL 6 5, xo 7 3, xL 8 7, xb .eql 9 6 8, xm 10 9, xg 10 (xo 11 2), xg 10 (xL 12 11), ⟨(some 13), .mkfn (.func 52) [] [(.s 2), (.s 3)], (some (10, true))⟩, xg 10 (xc 51 14 [.c (.int .i64 0), .s 12, .s 13]), xg 10 (xB .lss 15 14 0), ⟨(some 16), .pick (.s 10) (.s 15) (.c (.bool false)), none⟩, xm 4 16])
 (.ret))
theorem fn25 : IsFn prog 25 ac25 [.tmp 4] 17 := ⟨f25, ⟨[2, 3], []⟩, func25, by kernel_rfl, by kernel_rfl, by kernel_rfl, by kernel_rfl⟩
def ac51 : AC := .seq (.reg [xi 6 0])
 (.seq (.seq (.reg [xm 8 0, xm 7 8])
 (.block 0 (.loop (.seq (.seq (.reg [xm 9 7, xm 10 1, xb .lss 11 9 10])
 (.cond (.s 11) (.skip)
 (.exit 0)))
 (.seq (.block 1 (.seq (.reg [xm 14 2, xm 15 7, ⟨(some 16), .callv (.s 14) [(.s 15)], none⟩])
 (.cond (.s 16) (.seq (.reg [xm 17 7, xm 6 17])
 (.ret))
 (.skip))))
 (.reg [xm 12 7, xB .add 13 12 1, xm 7 13]))))))
 (.seq (.reg [xi 6 (-1)])
 (.ret)))
theorem fn51 : IsFn prog 51 ac51 [.tmp 6] 18 := ⟨f51, ⟨[], []⟩, func51, by kernel_rfl, by kernel_rfl, by kernel_rfl, by kernel_rfl⟩
def ac52 : AC := .seq (.reg [⟨(some 4), .mv (.c (.bool false)), none⟩])
 (.seq (.draw [(xo 5 1, []), (xm 6 0, []), (xA 1 7 5 6, []), (xo 8 7, []), (xo 9 2, []), (xm 10 0, []), (xA 1 11 9 10, []), (xo 12 11, []), (⟨(some 13), .binS .neq (.s 8) (.s 12), none⟩, []), (xm 4 13, [])])
 (.ret))
theorem fn52 : IsFn prog 52 ac52 [.tmp 4] 14 := ⟨f52, ⟨[], []⟩, func52, by kernel_rfl, by kernel_rfl, by kernel_rfl, by kernel_rfl⟩
def invPl (n : Nat) (g : FuncId) (cap : List V) (σ : Store) (i : Nat) : St :=
  ⟨[.any, .int .i64 (n : Nat), .fn (.func g) [] cap] ++ List.replicate 4 .any ++ [.int .i64 (i : Nat)] ++ List.replicate 10 .any, [], σ⟩
theorem nplace_calls {n : Nat} {g : FuncId} {cap : List V} {f : Nat → Bool} {σ : Store} (hnol : nolL cap = true) (hn : n ≤ big)
    (h : ∀ i, i < n → PCalls prog g (.int .i64 (i : Nat) :: cap) σ fun v σ' => v = .bool (f i) ∧ σ' = σ) :
    PCalls prog 51 [.int .i64 0, .int .i64 (n : Nat), .fn (.func g) [] cap] σ fun v σ' => v = .int .i64 (firstF f n 0) ∧ σ' = σ := by
  simp only [big] at hn
  generalize hR : firstF f n 0 = R
  refine fn51.calls ?_
  simp only [slots, ac51, am, amo, amc, ams, Nat.reduceAdd, Nat.reduceEqDiff, decide_true, decide_false, Tree.rec_, Nd.rec_, Word.rec_, nd_len, nd_one, Int.reduceEq, Int.reduceLT, Int.reduceLE, Nat.reduceLT, Int.reduceToNat, Nat.reduceMul, encT_length, cfl, cfo, cfv, List.length_map, penc_tk]
  refine vc_loop (fun p : { p : Nat × Nat // firstF f p.1 p.2 = R ∧ p.2 + p.1 = n } => invPl n g cap σ p.1.2) (fun p => p.1.1) ?_ ?_
  · refine Upd.enter ⟨(n, 0), hR, by simp⟩ ?_ LLLe.rfl OLe.rfl
    simp [invPl, List.replicate, am]
  rintro ⟨⟨m, i⟩, hR, hs⟩
  simp only at hR hs
  simp only [invPl, List.replicate, am]
  by_cases hlt : i < n
  · obtain ⟨m, rfl⟩ : ∃ k, m = k + 1 := ⟨m - 1, by omega⟩
    simp only [firstF] at hR
    simp only [am, amo, amc, Nat.reduceAdd, Nat.reduceEqDiff, encs_length, List.length_map, decide_true, decide_false, Tree.rec_, Nd.rec_, Word.rec_, nd_len, nd_one, Int.reduceEq, Int.reduceLT, Int.reduceLE, Nat.reduceLT, Int.reduceToNat, Nat.reduceMul, encT_length, cfl, cfo, cfv, List.length_map, penc_tk, decide_eq_true (show (i : Int) < n by omega)]
    refine ⟨hnol, ?_⟩
    refine (h i hlt).mono ?_
    rintro v σ ⟨rfl, rfl⟩
    cases hf : f i
    · rw [if_neg (by simp [hf])] at hR
      simp only [am, amo, amc, Nat.reduceAdd, Nat.reduceEqDiff, encs_length, List.length_map, decide_true, decide_false, Tree.rec_, Nd.rec_, Word.rec_, nd_len, nd_one, Int.reduceEq, Int.reduceLT, Int.reduceLE, Nat.reduceLT, Int.reduceToNat, Nat.reduceMul, encT_length, cfl, cfo, cfv, List.length_map, penc_tk]
      rw [wrap_i64 (by omega) (by omega)]
      exact Upd.again (I := fun p : { p : Nat × Nat // firstF f p.1 p.2 = R ∧ p.2 + p.1 = n } => invPl n g cap σ p.1.2) (μ := fun p => p.1.1) ⟨(m, i + 1), hR, by simp only; omega⟩ (by simp) (by simp [invPl, am, List.replicate]) LLLe.rfl OLe.rfl
    · rw [if_pos hf] at hR
      simp only [am, amo, amc, Nat.reduceAdd, Nat.reduceEqDiff, encs_length, List.length_map, decide_true, decide_false, Tree.rec_, Nd.rec_, Word.rec_, nd_len, nd_one, Int.reduceEq, Int.reduceLT, Int.reduceLE, Nat.reduceLT, Int.reduceToNat, Nat.reduceMul, encT_length, cfl, cfo, cfv, List.length_map, penc_tk]
      refine retK_intro rfl (Store.sub_refl _) ⟨?_, rfl⟩
      simp [V.erase, eraseL, hR]
  · obtain rfl : m = 0 := by omega
    simp only [firstF] at hR
    simp only [am, amo, amc, Nat.reduceAdd, Nat.reduceEqDiff, encs_length, List.length_map, decide_true, decide_false, Tree.rec_, Nd.rec_, Word.rec_, nd_len, nd_one, Int.reduceEq, Int.reduceLT, Int.reduceLE, Nat.reduceLT, Int.reduceToNat, Nat.reduceMul, encT_length, cfl, cfo, cfv, List.length_map, penc_tk, decide_eq_false (show ¬ (i : Int) < n by omega)]
    refine retK_intro rfl (Store.sub_refl _) ⟨?_, rfl⟩
    simp [V.erase, eraseL, hR]
theorem nsame1_calls {a b : List (List UInt8)} {i r q : Nat} {σ : Store} (hi : i < a.length) (hab : a.length = b.length) (hr : σ.box r = some [.sl .no 1 (encT a)]) (hq : σ.box q = some [.sl .no 1 (encT b)]) :
    PCalls prog 52 [.int .i64 (i : Nat), .ptr (.out r) 0, .ptr (.out q) 0] σ fun v σ' => v = .bool (decide (a.getD i [] ≠ b.getD i [])) ∧ σ' = σ := by
  refine fn52.calls ?_
  simp only [slots, ac52, am, amo, amc, ams, Nat.reduceAdd, Nat.reduceEqDiff, decide_true, decide_false, Tree.rec_, Nd.rec_, Word.rec_, nd_len, nd_one, Int.reduceEq, Int.reduceLT, Int.reduceLE, Nat.reduceLT, Int.reduceToNat, Nat.reduceMul, encT_length, cfl, cfo, cfv, List.length_map, penc_tk]
  simp only [am, amo, amc, Nat.reduceAdd, Nat.reduceEqDiff, encs_length, List.length_map, decide_true, decide_false, Tree.rec_, Nd.rec_, Word.rec_, nd_len, nd_one, Int.reduceEq, Int.reduceLT, Int.reduceLE, Nat.reduceLT, Int.reduceToNat, Nat.reduceMul, encT_length, cfl, cfo, cfv, List.length_map, penc_tk, hr, hq]
  refine idxL_intro (by omega) (encT_at (List.getElem?_eq_getElem hi)) ?_
  simp only [am, amo, amc, Nat.reduceAdd, Nat.reduceEqDiff, encs_length, List.length_map, decide_true, decide_false, Tree.rec_, Nd.rec_, Word.rec_, nd_len, nd_one, Int.reduceEq, Int.reduceLT, Int.reduceLE, Nat.reduceLT, Int.reduceToNat, Nat.reduceMul, encT_length, cfl, cfo, cfv, List.length_map, penc_tk, hr, hq]
  refine idxL_intro (by omega) (encT_at (List.getElem?_eq_getElem (show i < b.length by omega))) ?_
  simp only [am, amo, amc, Nat.reduceAdd, Nat.reduceEqDiff, encs_length, List.length_map, decide_true, decide_false, Tree.rec_, Nd.rec_, Word.rec_, nd_len, nd_one, Int.reduceEq, Int.reduceLT, Int.reduceLE, Nat.reduceLT, Int.reduceToNat, Nat.reduceMul, encT_length, cfl, cfo, cfv, List.length_map, penc_tk]
  have e1 : a.getD i [] = a[i] := by simp [hi]
  have e2 : b.getD i [] = b[i] := by simp [show i < b.length by omega]
  rw [e1, e2]
  refine retK_intro rfl (Store.sub_refl _) ⟨?_, rfl⟩
  simp [V.erase, eraseL]
theorem nsame_calls (a b : List (List UInt8)) (σ : Store) (ha : a.length ≤ big) : PCalls prog 25 [.sl .no 1 (encT a), .sl .no 1 (encT b)] σ fun v σ' => v = .bool (decide (a = b)) ∧ σ' = σ := by
  refine fn25.calls ?_
  simp only [slots, ac25, am, amo, amc, ams, Nat.reduceAdd, Nat.reduceEqDiff, decide_true, decide_false, Tree.rec_, Nd.rec_, Word.rec_, nd_len, nd_one, Int.reduceEq, Int.reduceLT, Int.reduceLE, Nat.reduceLT, Int.reduceToNat, Nat.reduceMul, encT_length, cfl, cfo, cfv, List.length_map, penc_tk]
  refine kO_intro fun r hr => ?_
  simp only [am, amo, amc, Nat.reduceAdd, Nat.reduceEqDiff, encs_length, List.length_map, decide_true, decide_false, Tree.rec_, Nd.rec_, Word.rec_, nd_len, nd_one, Int.reduceEq, Int.reduceLT, Int.reduceLE, Nat.reduceLT, Int.reduceToNat, Nat.reduceMul, encT_length, cfl, cfo, cfv, List.length_map, penc_tk]
  refine kO_intro fun q hq => ?_
  have hrq : r ≠ q := by rintro rfl; rw [Store.set_same] at hq; simp at hq
  have b1 : ((σ.set r [.sl .no 1 (encT a)]).set q [.sl .no 1 (encT b)]).box r = some [.sl .no 1 (encT a)] := by rw [Store.set_other _ _ hrq, Store.set_same]
  have b2 : ((σ.set r [.sl .no 1 (encT a)]).set q [.sl .no 1 (encT b)]).box q = some [.sl .no 1 (encT b)] := Store.set_same _ _ _
  simp only [am, amo, amc, Nat.reduceAdd, Nat.reduceEqDiff, encs_length, List.length_map, decide_true, decide_false, Tree.rec_, Nd.rec_, Word.rec_, nd_len, nd_one, Int.reduceEq, Int.reduceLT, Int.reduceLE, Nat.reduceLT, Int.reduceToNat, Nat.reduceMul, encT_length, cfl, cfo, cfv, List.length_map, penc_tk, b1, b2]
  have hsub : σ.sub ((σ.set r [.sl .no 1 (encT a)]).set q [.sl .no 1 (encT b)]) := by
    have h1 := sub_set (cs := [.sl .no 1 (encT a)]) hr
    have h2 := sub_set (cs := [.sl .no 1 (encT b)]) hq
    exact ⟨fun x cs h => h2.1 x cs (h1.1 x cs h), fun t n h => h2.2 t n (h1.2 t n h)⟩
  by_cases hl : a.length = b.length
  · simp only [am, amo, amc, Nat.reduceAdd, Nat.reduceEqDiff, encs_length, List.length_map, decide_true, decide_false, Tree.rec_, Nd.rec_, Word.rec_, nd_len, nd_one, Int.reduceEq, Int.reduceLT, Int.reduceLE, Nat.reduceLT, Int.reduceToNat, Nat.reduceMul, encT_length, cfl, cfo, cfv, List.length_map, penc_tk, decide_eq_true (show ((a.length : Nat) : Int) = (b.length : Nat) by omega), b1, b2]
    refine (nplace_calls (n := a.length) (f := fun i => decide (a.getD i [] ≠ b.getD i [])) rfl ha fun i hi => nsame1_calls hi hl b1 b2).mono ?_
    rintro v _ ⟨rfl, rfl⟩
    simp only [am, amo, amc, Nat.reduceAdd, Nat.reduceEqDiff, encs_length, List.length_map, decide_true, decide_false, Tree.rec_, Nd.rec_, Word.rec_, nd_len, nd_one, Int.reduceEq, Int.reduceLT, Int.reduceLE, Nat.reduceLT, Int.reduceToNat, Nat.reduceMul, encT_length, cfl, cfo, cfv, List.length_map, penc_tk, firstF_ne hl]
    refine retK_intro rfl hsub ⟨?_, rfl⟩
    simp [V.erase]
  · simp only [am, amo, amc, Nat.reduceAdd, Nat.reduceEqDiff, encs_length, List.length_map, decide_true, decide_false, Tree.rec_, Nd.rec_, Word.rec_, nd_len, nd_one, Int.reduceEq, Int.reduceLT, Int.reduceLE, Nat.reduceLT, Int.reduceToNat, Nat.reduceMul, encT_length, cfl, cfo, cfv, List.length_map, penc_tk, decide_eq_false (show ¬ ((a.length : Nat) : Int) = (b.length : Nat) by omega)]
    refine retK_intro rfl hsub ⟨?_, rfl⟩
    have : ¬ a = b := fun e => hl (by rw [e])
    simp [V.erase, this]
end Go.Proofs.Tryz

namespace Go.Proofs.Tryz
open Go.Am
set_option maxRecDepth 4000
set_option maxHeartbeats 4000000
def ac8 : AC := .seq (.reg [⟨(some 2), .box 17 (.s 0), none⟩, ⟨(some 3), .box 17 (.s 1), none⟩, ⟨(some 4), .mv (.c (.bool false)), none⟩])
 (.seq (.draw [(xf 0 5 2, []), (xo 6 5, []), (xf 0 7 3, []), (xo 8 7, []), (xb .eql 9 6 8, []), (xm 10 9, []), (xg 10 (xf 2 11 2), []), (xg 10 (xf 0 12 11), []), (xg 10 (xo 13 12), []), (xg 10 (xf 2 14 3), []), (xg 10 (xf 0 15 14), []), (xg 10 (xo 16 15), []), (⟨(some 17), .binS .eql (.s 13) (.s 16), (some (10, true))⟩, []), (⟨(some 18), .pick (.s 10) (.s 17) (.c (.bool false)), none⟩, []), (xm 19 18, []), (xg 19 (xf 4 20 2), []), (xg 19 (xo 21 20), []), (xg 19 (xc 18 22 [.s 21]), []), (xg 19 (xf 4 23 3), []), (xg 19 (xo 24 23), [0]), (xg 19 (xc 18 25 [.s 24]), []), (xg 19 (xc 25 26 [.s 22, .s 25]), []), (⟨(some 27), .pick (.s 19) (.s 26) (.c (.bool false)), none⟩, []), (xm 28 27, []), (xg 28 (xf 5 29 2), []), (xg 28 (xo 30 29), []), (xg 28 (xf 5 31 3), []), (xg 28 (xo 32 31), []), (xg 28 (xc 26 33 [.s 30, .s 32]), []), (⟨(some 34), .pick (.s 28) (.s 33) (.c (.bool false)), none⟩, []), (xm 35 34, []), (xg 35 (xf 7 36 2), []), (xg 35 (xl 5 37 36), []), (xg 35 (xf 7 38 3), []), (xg 35 (xl 5 39 38), []), (xg 35 (xc 27 40 [.s 37, .s 39]), []), (⟨(some 41), .pick (.s 35) (.s 40) (.c (.bool false)), none⟩, []), (xm 42 41, []), (xg 42 (xf 12 43 2), []), (xg 42 (xl 5 44 43), []), (xg 42 (xf 12 45 3), []), (xg 42 (xl 5 46 45), []), (xg 42 (xc 27 47 [.s 44, .s 46]), []), (⟨(some 48), .pick (.s 42) (.s 47) (.c (.bool false)), none⟩, []), (xm 4 48, [])])
 (.ret))
theorem fn8 : IsFn prog 8 ac8 [.tmp 4] 49 := ⟨f8, ⟨[], []⟩, func8, by kernel_rfl, by kernel_rfl, by kernel_rfl, by kernel_rfl⟩
def ac26 : AC := .seq (.reg [⟨(some 4), .mv (.c (.bool false)), none⟩])
 (.seq (.seq (.reg [xm 6 0, xL 7 6, xm 8 1, xL 9 8, xb .neq 10 7 9])
 (.cond (.s 10) (.seq (.reg [⟨(some 4), .mv (.c (.bool false)), none⟩])
 (.ret))
 (.skip)))
 (.seq (.seq (.reg [xm 11 0, xL 12 11, xi 13 0])
 (.block 0 (.loop (.seq (.reg [xb .lss 14 13 12])
 (.seq (.cond (.s 14) (.skip)
 (.exit 0))
 (.seq (.block 1 (.seq (.reg [xm 15 13, xm 5 15])
 (.seq (.draw [(xm 16 0, []), (xm 17 5, []), (xA 4 18 16 17, []), (⟨(some 19), .idxP 2 2 (.s 18) (.c (.int .i64 0)), none⟩, []), (xf 0 20 19, []), (xo 21 20, []), (xm 22 1, []), (xm 23 5, []), (xA 4 24 22 23, []), (⟨(some 25), .idxP 2 2 (.s 24) (.c (.int .i64 0)), none⟩, []), (xf 0 26 25, []), (xo 27 26, []), (⟨(some 28), .binS .neq (.s 21) (.s 27), none⟩, []), (xm 29 28, []), (xh 29 (xm 30 0), []), (xh 29 (xm 31 5), []), (xh 29 (xA 4 32 30 31), []), (⟨(some 33), .idxP 2 2 (.s 32) (.c (.int .i64 1)), (some (29, false))⟩, []), (xh 29 (xf 0 34 33), []), (xh 29 (xo 35 34), []), (xh 29 (xm 36 1), []), (xh 29 (xm 37 5), []), (xh 29 (xA 4 38 36 37), []), (⟨(some 39), .idxP 2 2 (.s 38) (.c (.int .i64 1)), (some (29, false))⟩, []), (xh 29 (xf 0 40 39), []), (xh 29 (xo 41 40), []), (⟨(some 42), .binS .neq (.s 35) (.s 41), (some (29, false))⟩, []), (⟨(some 43), .pick (.s 29) (.c (.bool true)) (.s 42), none⟩, [])])
 (.cond (.s 43) (.seq (.reg [⟨(some 4), .mv (.c (.bool false)), none⟩])
 (.ret))
 (.skip)))))
 (.reg [xB .add 44 13 1, xm 13 44])))))))
 (.seq (.reg [⟨(some 4), .mv (.c (.bool true)), none⟩])
 (.ret))))
theorem fn26 : IsFn prog 26 ac26 [.tmp 4] 45 := ⟨f26, ⟨[], []⟩, func26, by kernel_rfl, by kernel_rfl, by kernel_rfl, by kernel_rfl⟩
def invSp (a b : List (Word × Word)) (σ : Store) (i : Nat) : St :=
  ⟨[.sl .no 4 (a.map penc), .sl .no 4 (b.map penc)] ++ List.replicate 10 .any ++ [.int .i64 a.length, .int .i64 (i : Nat)] ++ List.replicate 31 .any, [], σ⟩
theorem samePQ_calls (a b : List (Word × Word)) (σ : Store) (ha : a.length + 1 ≤ big) : PCalls prog 26 [.sl .no 4 (a.map penc), .sl .no 4 (b.map penc)] σ fun v σ' => v = .bool (samePQ a b) ∧ σ' = σ := by
  simp only [big] at ha
  refine fn26.calls ?_
  simp only [slots, ac26, am, amo, amc, ams, Nat.reduceAdd, Nat.reduceEqDiff, decide_true, decide_false, Tree.rec_, Nd.rec_, Word.rec_, nd_len, nd_one, Int.reduceEq, Int.reduceLT, Int.reduceLE, Nat.reduceLT, Int.reduceToNat, Nat.reduceMul, encT_length, cfl, cfo, cfv, List.length_map, penc_tk]
  by_cases hl : a.length = b.length
  case' neg =>
    have : samePQ a b = false := by cases hs : samePQ a b with
      | false => rfl
      | true => exact absurd (samePQ_len hs) hl
    simp only [am, amo, amc, Nat.reduceAdd, Nat.reduceEqDiff, encs_length, List.length_map, decide_true, decide_false, Tree.rec_, Nd.rec_, Word.rec_, nd_len, nd_one, Int.reduceEq, Int.reduceLT, Int.reduceLE, Nat.reduceLT, Int.reduceToNat, Nat.reduceMul, encT_length, cfl, cfo, cfv, List.length_map, penc_tk, decide_eq_false (show ¬ ((a.length : Nat) : Int) = (b.length : Nat) by omega)]
    refine retK_intro rfl (Store.sub_refl _) ⟨?_, rfl⟩
    simp [V.erase, eraseL, this]
  simp only [am, amo, amc, Nat.reduceAdd, Nat.reduceEqDiff, encs_length, List.length_map, decide_true, decide_false, Tree.rec_, Nd.rec_, Word.rec_, nd_len, nd_one, Int.reduceEq, Int.reduceLT, Int.reduceLE, Nat.reduceLT, Int.reduceToNat, Nat.reduceMul, encT_length, cfl, cfo, cfv, List.length_map, penc_tk, decide_eq_true (show ((a.length : Nat) : Int) = (b.length : Nat) by omega)]
  refine vc_loop (fun p : { i : Nat // i ≤ a.length ∧ samePQ (a.take i) (b.take i) = true } => invSp a b σ p.1) (fun p => a.length - p.1) ?_ ?_
  · refine Upd.enter ⟨0, by simp, by simp [samePQ]⟩ ?_ LLLe.rfl OLe.rfl
    simp [invSp, List.replicate, am]
  rintro ⟨i, hi, hs⟩
  simp only [invSp, List.replicate, am]
  by_cases hlt : i < a.length
  · obtain ⟨hat, hno⟩ := samePQ_at hlt (by omega) hl hs
    have hltb : i < b.length := by omega
    simp only [am, amo, amc, Nat.reduceAdd, Nat.reduceEqDiff, encs_length, List.length_map, decide_true, decide_false, Tree.rec_, Nd.rec_, Word.rec_, nd_len, nd_one, Int.reduceEq, Int.reduceLT, Int.reduceLE, Nat.reduceLT, Int.reduceToNat, Nat.reduceMul, encT_length, cfl, cfo, cfv, List.length_map, penc_tk, decide_eq_true (show (i : Int) < a.length by omega)]
    refine idxL_intro (by omega) (pencs_at (List.getElem?_eq_getElem hlt)) ?_
    simp only [am, amo, amc, Nat.reduceAdd, Nat.reduceEqDiff, encs_length, List.length_map, decide_true, decide_false, Tree.rec_, Nd.rec_, Word.rec_, nd_len, nd_one, Int.reduceEq, Int.reduceLT, Int.reduceLE, Nat.reduceLT, Int.reduceToNat, Nat.reduceMul, encT_length, cfl, cfo, cfv, List.length_map, penc_tk]
    refine idxPL_elt (by omega) (by omega) ?_
    simp only [am, amo, amc, Nat.reduceAdd, Nat.reduceEqDiff, encs_length, List.length_map, decide_true, decide_false, Tree.rec_, Nd.rec_, Word.rec_, nd_len, nd_one, Int.reduceEq, Int.reduceLT, Int.reduceLE, Nat.reduceLT, Int.reduceToNat, Nat.reduceMul, encT_length, cfl, cfo, cfv, List.length_map, penc_tk, penc]
    refine idxL_intro (by omega) (pencs_at (List.getElem?_eq_getElem hltb)) ?_
    simp only [am, amo, amc, Nat.reduceAdd, Nat.reduceEqDiff, encs_length, List.length_map, decide_true, decide_false, Tree.rec_, Nd.rec_, Word.rec_, nd_len, nd_one, Int.reduceEq, Int.reduceLT, Int.reduceLE, Nat.reduceLT, Int.reduceToNat, Nat.reduceMul, encT_length, cfl, cfo, cfv, List.length_map, penc_tk]
    refine idxPL_elt (by omega) (by omega) ?_
    simp only [am, amo, amc, Nat.reduceAdd, Nat.reduceEqDiff, encs_length, List.length_map, decide_true, decide_false, Tree.rec_, Nd.rec_, Word.rec_, nd_len, nd_one, Int.reduceEq, Int.reduceLT, Int.reduceLE, Nat.reduceLT, Int.reduceToNat, Nat.reduceMul, encT_length, cfl, cfo, cfv, List.length_map, penc_tk, penc]
    by_cases e1 : a[i].1.text = b[i].1.text
    · simp only [am, amo, amc, Nat.reduceAdd, Nat.reduceEqDiff, encs_length, List.length_map, decide_true, decide_false, Tree.rec_, Nd.rec_, Word.rec_, nd_len, nd_one, Int.reduceEq, Int.reduceLT, Int.reduceLE, Nat.reduceLT, Int.reduceToNat, Nat.reduceMul, encT_length, cfl, cfo, cfv, List.length_map, penc_tk, e1]
      refine idxL_intro (by omega) (pencs_at (List.getElem?_eq_getElem hlt)) ?_
      simp only [am, amo, amc, Nat.reduceAdd, Nat.reduceEqDiff, encs_length, List.length_map, decide_true, decide_false, Tree.rec_, Nd.rec_, Word.rec_, nd_len, nd_one, Int.reduceEq, Int.reduceLT, Int.reduceLE, Nat.reduceLT, Int.reduceToNat, Nat.reduceMul, encT_length, cfl, cfo, cfv, List.length_map, penc_tk]
      refine idxPL_elt (by omega) (by omega) ?_
      simp only [am, amo, amc, Nat.reduceAdd, Nat.reduceEqDiff, encs_length, List.length_map, decide_true, decide_false, Tree.rec_, Nd.rec_, Word.rec_, nd_len, nd_one, Int.reduceEq, Int.reduceLT, Int.reduceLE, Nat.reduceLT, Int.reduceToNat, Nat.reduceMul, encT_length, cfl, cfo, cfv, List.length_map, penc_tk, penc]
      refine idxL_intro (by omega) (pencs_at (List.getElem?_eq_getElem hltb)) ?_
      simp only [am, amo, amc, Nat.reduceAdd, Nat.reduceEqDiff, encs_length, List.length_map, decide_true, decide_false, Tree.rec_, Nd.rec_, Word.rec_, nd_len, nd_one, Int.reduceEq, Int.reduceLT, Int.reduceLE, Nat.reduceLT, Int.reduceToNat, Nat.reduceMul, encT_length, cfl, cfo, cfv, List.length_map, penc_tk]
      refine idxPL_elt (by omega) (by omega) ?_
      simp only [am, amo, amc, Nat.reduceAdd, Nat.reduceEqDiff, encs_length, List.length_map, decide_true, decide_false, Tree.rec_, Nd.rec_, Word.rec_, nd_len, nd_one, Int.reduceEq, Int.reduceLT, Int.reduceLE, Nat.reduceLT, Int.reduceToNat, Nat.reduceMul, encT_length, cfl, cfo, cfv, List.length_map, penc_tk, penc]
      by_cases e2 : a[i].2.text = b[i].2.text
      · simp only [am, amo, amc, Nat.reduceAdd, Nat.reduceEqDiff, encs_length, List.length_map, decide_true, decide_false, Tree.rec_, Nd.rec_, Word.rec_, nd_len, nd_one, Int.reduceEq, Int.reduceLT, Int.reduceLE, Nat.reduceLT, Int.reduceToNat, Nat.reduceMul, encT_length, cfl, cfo, cfv, List.length_map, penc_tk, e2]
        rw [wrap_i64 (by omega) (by omega)]
        exact Upd.again (I := fun p : { i : Nat // i ≤ a.length ∧ samePQ (a.take i) (b.take i) = true } => invSp a b σ p.1) (μ := fun p => a.length - p.1) ⟨i + 1, hlt, by rw [hat]; simp [e1, e2]⟩ (by simp; omega) (by simp [invSp, am, List.replicate]) LLLe.rfl OLe.rfl
      · simp only [am, amo, amc, Nat.reduceAdd, Nat.reduceEqDiff, encs_length, List.length_map, decide_true, decide_false, Tree.rec_, Nd.rec_, Word.rec_, nd_len, nd_one, Int.reduceEq, Int.reduceLT, Int.reduceLE, Nat.reduceLT, Int.reduceToNat, Nat.reduceMul, encT_length, cfl, cfo, cfv, List.length_map, penc_tk, decide_eq_false e2]
        refine retK_intro rfl (Store.sub_refl _) ⟨?_, rfl⟩
        simp [V.erase, eraseL, hno (by simp [e2])]
    · simp only [am, amo, amc, Nat.reduceAdd, Nat.reduceEqDiff, encs_length, List.length_map, decide_true, decide_false, Tree.rec_, Nd.rec_, Word.rec_, nd_len, nd_one, Int.reduceEq, Int.reduceLT, Int.reduceLE, Nat.reduceLT, Int.reduceToNat, Nat.reduceMul, encT_length, cfl, cfo, cfv, List.length_map, penc_tk, decide_eq_false e1]
      refine retK_intro rfl (Store.sub_refl _) ⟨?_, rfl⟩
      simp [V.erase, eraseL, hno (by simp [e1])]
  · have : i = a.length := by omega
    subst this
    rw [List.take_length, hl, List.take_length] at hs
    simp only [am, amo, amc, Nat.reduceAdd, Nat.reduceEqDiff, encs_length, List.length_map, decide_true, decide_false, Tree.rec_, Nd.rec_, Word.rec_, nd_len, nd_one, Int.reduceEq, Int.reduceLT, Int.reduceLE, Nat.reduceLT, Int.reduceToNat, Nat.reduceMul, encT_length, cfl, cfo, cfv, List.length_map, penc_tk, decide_eq_false (show ¬ (a.length : Int) < a.length by omega)]
    refine retK_intro rfl (Store.sub_refl _) ⟨?_, rfl⟩
    simp [V.erase, eraseL, hs]
theorem csame_calls (a b : Cmd) (σ : Store) (h1 : a.names.length + 1 ≤ big) (h2 : b.names.length + 1 ≤ big) (h3 : a.pairs.length + 1 ≤ big) (h4 : a.left.wt ≤ big) (h5 : a.right.wt ≤ big) :
    PCalls prog 8 [.agg a.enc, .agg b.enc] σ fun v σ' => v = .bool (a.sameQ b) ∧ σ' = σ := by
  refine fn8.calls ?_
  simp only [slots, ac8, am, amo, amc, ams, Nat.reduceAdd, Nat.reduceEqDiff, decide_true, decide_false, Tree.rec_, Nd.rec_, Word.rec_, nd_len, nd_one, Int.reduceEq, Int.reduceLT, Int.reduceLE, Nat.reduceLT, Int.reduceToNat, Nat.reduceMul, encT_length, cfl, cfo, cfv, List.length_map, penc_tk]
  unfold Cmd.sameQ
  by_cases k1 : a.op = b.op
  case' neg =>
    simp only [am, amo, amc, Nat.reduceAdd, Nat.reduceEqDiff, encs_length, List.length_map, decide_true, decide_false, Tree.rec_, Nd.rec_, Word.rec_, nd_len, nd_one, Int.reduceEq, Int.reduceLT, Int.reduceLE, Nat.reduceLT, Int.reduceToNat, Nat.reduceMul, encT_length, cfl, cfo, cfv, List.length_map, penc_tk, decide_eq_false k1]
    refine retK_intro rfl (Store.sub_refl _) ⟨?_, rfl⟩
    simp [V.erase, eraseL]
  by_cases k2 : a.name.text = b.name.text
  case' neg =>
    simp only [am, amo, amc, Nat.reduceAdd, Nat.reduceEqDiff, encs_length, List.length_map, decide_true, decide_false, Tree.rec_, Nd.rec_, Word.rec_, nd_len, nd_one, Int.reduceEq, Int.reduceLT, Int.reduceLE, Nat.reduceLT, Int.reduceToNat, Nat.reduceMul, encT_length, cfl, cfo, cfv, List.length_map, penc_tk, k1, decide_eq_false k2]
    refine retK_intro rfl (Store.sub_refl _) ⟨?_, rfl⟩
    simp [V.erase, eraseL]
  simp only [am, amo, amc, Nat.reduceAdd, Nat.reduceEqDiff, encs_length, List.length_map, decide_true, decide_false, Tree.rec_, Nd.rec_, Word.rec_, nd_len, nd_one, Int.reduceEq, Int.reduceLT, Int.reduceLE, Nat.reduceLT, Int.reduceToNat, Nat.reduceMul, encT_length, cfl, cfo, cfv, List.length_map, penc_tk, k1, k2]
  refine CallD.intro (texts_calls a.names σ h1) ?_
  simp only [am, amo, amc, Nat.reduceAdd, Nat.reduceEqDiff, encs_length, List.length_map, decide_true, decide_false, Tree.rec_, Nd.rec_, Word.rec_, nd_len, nd_one, Int.reduceEq, Int.reduceLT, Int.reduceLE, Nat.reduceLT, Int.reduceToNat, Nat.reduceMul, encT_length, cfl, cfo, cfv, List.length_map, penc_tk]
  refine CallD.intro (texts_calls b.names σ h2) ?_
  simp only [am, amo, amc, Nat.reduceAdd, Nat.reduceEqDiff, encs_length, List.length_map, decide_true, decide_false, Tree.rec_, Nd.rec_, Word.rec_, nd_len, nd_one, Int.reduceEq, Int.reduceLT, Int.reduceLE, Nat.reduceLT, Int.reduceToNat, Nat.reduceMul, encT_length, cfl, cfo, cfv, List.length_map, penc_tk]
  refine CallD.intro (nsame_calls (a.names.map Word.text) (b.names.map Word.text) σ (by rw [List.length_map]; omega)) ?_
  rw [← sameW_eq]
  cases q1 : sameW a.names b.names
  · simp only [am, amo, amc, Nat.reduceAdd, Nat.reduceEqDiff, encs_length, List.length_map, decide_true, decide_false, Tree.rec_, Nd.rec_, Word.rec_, nd_len, nd_one, Int.reduceEq, Int.reduceLT, Int.reduceLE, Nat.reduceLT, Int.reduceToNat, Nat.reduceMul, encT_length, cfl, cfo, cfv, List.length_map, penc_tk]
    refine retK_intro rfl (Store.sub_refl _) ⟨?_, rfl⟩
    simp [V.erase, eraseL]
  simp only [am, amo, amc, Nat.reduceAdd, Nat.reduceEqDiff, encs_length, List.length_map, decide_true, decide_false, Tree.rec_, Nd.rec_, Word.rec_, nd_len, nd_one, Int.reduceEq, Int.reduceLT, Int.reduceLE, Nat.reduceLT, Int.reduceToNat, Nat.reduceMul, encT_length, cfl, cfo, cfv, List.length_map, penc_tk]
  refine CallD.intro (samePQ_calls a.pairs b.pairs σ h3) ?_
  cases q2 : samePQ a.pairs b.pairs
  · simp only [am, amo, amc, Nat.reduceAdd, Nat.reduceEqDiff, encs_length, List.length_map, decide_true, decide_false, Tree.rec_, Nd.rec_, Word.rec_, nd_len, nd_one, Int.reduceEq, Int.reduceLT, Int.reduceLE, Nat.reduceLT, Int.reduceToNat, Nat.reduceMul, encT_length, cfl, cfo, cfv, List.length_map, penc_tk]
    refine retK_intro rfl (Store.sub_refl _) ⟨?_, rfl⟩
    simp [V.erase, eraseL]
  simp only [am, amo, amc, Nat.reduceAdd, Nat.reduceEqDiff, encs_length, List.length_map, decide_true, decide_false, Tree.rec_, Nd.rec_, Word.rec_, nd_len, nd_one, Int.reduceEq, Int.reduceLT, Int.reduceLE, Nat.reduceLT, Int.reduceToNat, Nat.reduceMul, encT_length, cfl, cfo, cfv, List.length_map, penc_tk]
  refine CallD.intro (same24_calls _ a.left b.left σ (Nat.le_refl _) h4) ?_
  cases q3 : a.left.sameQ b.left
  · simp only [am, amo, amc, Nat.reduceAdd, Nat.reduceEqDiff, encs_length, List.length_map, decide_true, decide_false, Tree.rec_, Nd.rec_, Word.rec_, nd_len, nd_one, Int.reduceEq, Int.reduceLT, Int.reduceLE, Nat.reduceLT, Int.reduceToNat, Nat.reduceMul, encT_length, cfl, cfo, cfv, List.length_map, penc_tk]
    refine retK_intro rfl (Store.sub_refl _) ⟨?_, rfl⟩
    simp [V.erase, eraseL]
  simp only [am, amo, amc, Nat.reduceAdd, Nat.reduceEqDiff, encs_length, List.length_map, decide_true, decide_false, Tree.rec_, Nd.rec_, Word.rec_, nd_len, nd_one, Int.reduceEq, Int.reduceLT, Int.reduceLE, Nat.reduceLT, Int.reduceToNat, Nat.reduceMul, encT_length, cfl, cfo, cfv, List.length_map, penc_tk]
  refine CallD.intro (same24_calls _ a.right b.right σ (Nat.le_refl _) h5) ?_
  simp only [am, amo, amc, Nat.reduceAdd, Nat.reduceEqDiff, encs_length, List.length_map, decide_true, decide_false, Tree.rec_, Nd.rec_, Word.rec_, nd_len, nd_one, Int.reduceEq, Int.reduceLT, Int.reduceLE, Nat.reduceLT, Int.reduceToNat, Nat.reduceMul, encT_length, cfl, cfo, cfv, List.length_map, penc_tk]
  refine retK_intro rfl (Store.sub_refl _) ⟨?_, rfl⟩
  simp [V.erase, eraseL]
end Go.Proofs.Tryz

namespace Go.Proofs.Tryz
open Go.Am
set_option maxRecDepth 4000
set_option maxHeartbeats 4000000
def ac4 : AC := .seq (.reg [⟨(some 1), .box 17 (.s 0), none⟩, ⟨(some 2), .mv (.c (.bool false)), none⟩])
 (.seq (.seq (.reg [xf 4 3 1, xo 4 3, xL 5 4, xB .gtr 6 5 100, xm 7 6, xh 7 (xf 5 8 1), xh 7 (xo 9 8), xh 7 (xL 10 9), xh 7 (xB .gtr 11 10 100), ⟨(some 12), .pick (.s 7) (.c (.bool true)) (.s 11), none⟩, xm 13 12, xh 13 (xf 2 14 1), xh 13 (xf 0 15 14), xh 13 (xo 16 15), xh 13 (xT 17 16), xh 13 (xB .gtr 18 17 100), ⟨(some 19), .pick (.s 13) (.c (.bool true)) (.s 18), none⟩])
 (.cond (.s 19) (.seq (.reg [⟨(some 2), .mv (.c (.bool true)), none⟩])
 (.ret))
 (.skip)))
 (.seq (.reg [xf 7 20 1, xl 5 21 20, xf 12 22 1, xl 5 23 22, ⟨(some 24), .bslice 5 [(.s 21), (.s 23)], none⟩, xc 14 25 [.s 24], xm 2 25])
 (.ret)))
theorem fn4 : IsFn prog 4 ac4 [.tmp 2] 26 := ⟨f4, ⟨[], []⟩, func4, by kernel_rfl, by kernel_rfl, by kernel_rfl, by kernel_rfl⟩
def Cmd.bigC (c : Cmd) : Bool := decide (100 < c.names.length) || decide (100 < c.pairs.length) || decide (100 < c.name.text.length) || bigQ [c.left, c.right]
theorem cbig_calls (c : Cmd) (σ : Store) (hl : c.left.wt ≤ big) (hr : c.right.wt ≤ big) : PCalls prog 4 [.agg c.enc] σ fun v σ' => v = .bool (Cmd.bigC c) ∧ σ' = σ := by
  have hb : PCalls prog 14 [.sl .full 5 [c.left.enc, c.right.enc]] σ fun v σ' => v = .bool (bigQ [c.left, c.right]) ∧ σ' = σ := big_calls (τ := .full) [c.left, c.right] σ (by simp [big]) (by intro x hx; rcases List.mem_cons.1 hx with rfl | hx; exact hl; rw [List.mem_singleton.1 hx]; exact hr)
  refine fn4.calls ?_
  simp only [slots, ac4, am, amo, amc, ams, Nat.reduceAdd, Nat.reduceEqDiff, decide_true, decide_false, Tree.rec_, Nd.rec_, Word.rec_, nd_len, nd_one, Int.reduceEq, Int.reduceLT, Int.reduceLE, Nat.reduceLT, cfl, cfo, cfv, List.length_map]
  by_cases k1 : 100 < c.names.length
  · simp only [am, amo, amc, Nat.reduceAdd, Nat.reduceEqDiff, encs_length, List.length_map, decide_true, decide_false, Tree.rec_, Nd.rec_, Word.rec_, nd_len, nd_one, Int.reduceEq, Int.reduceLT, Int.reduceLE, Nat.reduceLT, cfl, cfo, cfv, List.length_map, decide_eq_true (show (100 : Int) < (c.names.length : Nat) by omega)]
    refine retK_intro rfl (Store.sub_refl _) ⟨?_, rfl⟩
    simp [V.erase, eraseL, Cmd.bigC, k1]
  simp only [am, amo, amc, Nat.reduceAdd, Nat.reduceEqDiff, encs_length, List.length_map, decide_true, decide_false, Tree.rec_, Nd.rec_, Word.rec_, nd_len, nd_one, Int.reduceEq, Int.reduceLT, Int.reduceLE, Nat.reduceLT, cfl, cfo, cfv, List.length_map, decide_eq_false (show ¬ (100 : Int) < (c.names.length : Nat) by omega)]
  by_cases k2 : 100 < c.pairs.length
  · simp only [am, amo, amc, Nat.reduceAdd, Nat.reduceEqDiff, encs_length, List.length_map, decide_true, decide_false, Tree.rec_, Nd.rec_, Word.rec_, nd_len, nd_one, Int.reduceEq, Int.reduceLT, Int.reduceLE, Nat.reduceLT, cfl, cfo, cfv, List.length_map, decide_eq_true (show (100 : Int) < (c.pairs.length : Nat) by omega)]
    refine retK_intro rfl (Store.sub_refl _) ⟨?_, rfl⟩
    simp [V.erase, eraseL, Cmd.bigC, k1, k2]
  simp only [am, amo, amc, Nat.reduceAdd, Nat.reduceEqDiff, encs_length, List.length_map, decide_true, decide_false, Tree.rec_, Nd.rec_, Word.rec_, nd_len, nd_one, Int.reduceEq, Int.reduceLT, Int.reduceLE, Nat.reduceLT, cfl, cfo, cfv, List.length_map, decide_eq_false (show ¬ (100 : Int) < (c.pairs.length : Nat) by omega)]
  by_cases k3 : 100 < c.name.text.length
  · simp only [am, amo, amc, Nat.reduceAdd, Nat.reduceEqDiff, encs_length, List.length_map, decide_true, decide_false, Tree.rec_, Nd.rec_, Word.rec_, nd_len, nd_one, Int.reduceEq, Int.reduceLT, Int.reduceLE, Nat.reduceLT, cfl, cfo, cfv, List.length_map, decide_eq_true (show (100 : Int) < (c.name.text.length : Nat) by omega)]
    refine retK_intro rfl (Store.sub_refl _) ⟨?_, rfl⟩
    simp [V.erase, eraseL, Cmd.bigC, k1, k2, k3]
  simp only [am, amo, amc, Nat.reduceAdd, Nat.reduceEqDiff, encs_length, List.length_map, decide_true, decide_false, Tree.rec_, Nd.rec_, Word.rec_, nd_len, nd_one, Int.reduceEq, Int.reduceLT, Int.reduceLE, Nat.reduceLT, cfl, cfo, cfv, List.length_map, decide_eq_false (show ¬ (100 : Int) < (c.name.text.length : Nat) by omega)]
  refine (hb).mono ?_
  rintro v σ ⟨rfl, rfl⟩
  simp only [am, amo, amc, Nat.reduceAdd, Nat.reduceEqDiff, encs_length, List.length_map, decide_true, decide_false, Tree.rec_, Nd.rec_, Word.rec_, nd_len, nd_one, Int.reduceEq, Int.reduceLT, Int.reduceLE, Nat.reduceLT, cfl, cfo, cfv, List.length_map]
  refine retK_intro rfl (Store.sub_refl _) ⟨?_, rfl⟩
  simp [V.erase, eraseL, Cmd.bigC, k1, k2, k3]
end Go.Proofs.Tryz

namespace Go.Proofs.Tryz
open Go.Am
set_option maxRecDepth 4000
set_option maxHeartbeats 4000000
def ac3 : AC := .seq (.reg [⟨(some 3), .box 17 (.s 0), none⟩, ⟨(some 4), .box 17 (.s 1), none⟩, ⟨(some 6), .mv (.c (.bool false)), none⟩])
 (.seq (.seq (.reg [xl 17 7 3, xc 4 8 [.s 7], xm 9 8, xh 9 (xl 17 10 4), xh 9 (xc 4 11 [.s 10]), ⟨(some 12), .pick (.s 9) (.c (.bool true)) (.s 11), none⟩])
 (.cond (.s 12) (.seq (.reg [xc 5 13 [], xm 6 13])
 (.ret))
 (.skip)))
 (.seq (.draw [(xl 17 14 3, []), (xc 6 15 [.s 14], []), (xl 17 16 3, [0]), (xc 7 17 [.s 16], []), (⟨(some 18), .binS .eql (.s 15) (.s 17), none⟩, []), (xm 19 18, []), (xg 19 (xl 17 20 3), []), (xg 19 (xl 17 21 4), []), (xg 19 (xc 8 22 [.s 20, .s 21]), []), (xg 19 (xl 17 23 3), [2]), (xg 19 (xl 17 24 4), [2]), (xg 19 (xc 9 25 [.s 23, .s 24]), []), (⟨(some 26), .binB false (.s 22) (.s 25), (some (19, true))⟩, []), (⟨(some 27), .pick (.s 19) (.s 26) (.c (.bool false)), none⟩, []), (xm 28 27, []), (xg 28 (xl 17 29 3), []), (xg 28 (xl 17 30 3), []), (xg 28 (xc 8 31 [.s 29, .s 30]), []), (⟨(some 32), .pick (.s 28) (.s 31) (.c (.bool false)), none⟩, []), (xm 33 32, []), (xg 33 (xl 17 34 3), []), (xg 33 (xc 10 35 [.s 34]), []), (xg 33 (xl 17 36 3), [5]), (xg 33 (xc 11 37 [.s 36]), []), (⟨(some 38), .binB false (.s 35) (.s 37), (some (33, true))⟩, []), (⟨(some 39), .pick (.s 33) (.s 38) (.c (.bool false)), none⟩, []), (xm 40 39, []), (xg 40 (xm 41 2), []), (xg 40 (xc 12 42 [.s 41]), []), (xg 40 (xm 43 2), []), (xg 40 (xc 13 44 [.s 43]), []), (⟨(some 45), .binS .eql (.s 42) (.s 44), (some (40, true))⟩, []), (⟨(some 46), .pick (.s 40) (.s 45) (.c (.bool false)), none⟩, []), (xm 47 46, []), (xg 47 (xc 5 48 []), []), (⟨(some 49), .pick (.s 47) (.s 48) (.c (.bool false)), none⟩, []), (xm 6 49, [])])
 (.ret)))
theorem fn3 : IsFn prog 3 ac3 [.tmp 6] 50 := ⟨f3, ⟨[], []⟩, func3, by kernel_rfl, by kernel_rfl, by kernel_rfl, by kernel_rfl⟩
def ac12 : AC := .seq (.reg [⟨(some 2), .mv (.c (.str [])), none⟩])
 (.seq (.reg [xm 3 0, xc 16 4 [.s 3], xw 0 5 4, xm 2 5])
 (.ret))
theorem fn12 : IsFn prog 12 ac12 [.tmp 2] 6 := ⟨f12, ⟨[], []⟩, func12, by kernel_rfl, by kernel_rfl, by kernel_rfl, by kernel_rfl⟩
theorem command_word_calls (op : Int) {σ : Store} (hg : σ.box 0 = some formCells) : PCalls prog 12 [.int .i64 op] σ fun v σ' => v = .str (formOf op).1 ∧ σ' = σ := by
  refine fn12.calls ?_
  simp only [slots, ac12, am, amo, amc, ams, Nat.reduceAdd, Nat.reduceEqDiff, decide_true, decide_false, Tree.rec_, Nd.rec_, Word.rec_, Nd.fl, Int.reduceEq, Int.reduceLT, Int.reduceLE, Nat.reduceLT, bne_self_eq_false, Int.reduceToNat, Nat.reduceMul, cfl, cfo, word_tk2, cfv, penc_tk, List.length_map]
  refine (of_calls op hg).mono ?_
  rintro v σ ⟨rfl, rfl⟩
  simp only [am, amo, amc, Nat.reduceAdd, Nat.reduceEqDiff, encs_length, List.length_map, decide_true, decide_false, Tree.rec_, Nd.rec_, Word.rec_, Nd.fl, Int.reduceEq, Int.reduceLT, Int.reduceLE, Nat.reduceLT, bne_self_eq_false, Int.reduceToNat, Nat.reduceMul, cfl, cfo, word_tk2, cfv, penc_tk, List.length_map]
  refine retK_intro rfl (Store.sub_refl _) ⟨?_, rfl⟩
  simp [V.erase, eraseL]
def inv26W (a b : Cmd) (σ : Store) (i : Nat) : St :=
  ⟨[.any, .any, .ptr (.loc 0) 0, .ptr (.loc 1) 0] ++ [.any, .int .i64 (i : Nat)] ++ List.replicate 104 .any, [a.enc, b.enc], σ⟩
def inv26K (a b : Cmd) (σ : Store) (i : Nat) : St :=
  ⟨[.any, .any, .ptr (.loc 0) 0, .ptr (.loc 1) 0] ++ [.any, .any, .int .i64 (i : Nat)] ++ List.replicate 103 .any, [a.enc, b.enc], σ⟩
theorem same12_calls {a b : Cmd} (h : CmdW a) (σ : Store) : PCalls prog 9 [.agg a.enc, .agg b.enc] σ fun v σ' => v = .bool (a.sameQ b) ∧ σ' = σ := by
  have h1 := h.ns
  have h2 := h.ps
  simp only [big] at h1 h2
  refine fn9.calls ?_
  simp only [slots, ac9, am, amo, amc, ams, Nat.reduceAdd, Nat.reduceEqDiff, decide_true, decide_false, Tree.rec_, Nd.rec_, Word.rec_, Nd.fl, Int.reduceEq, Int.reduceLT, Int.reduceLE, Nat.reduceLT, bne_self_eq_false, Int.reduceToNat, Nat.reduceMul, cfl, cfo, word_tk2, cfv, penc_tk, List.length_map]
  unfold Cmd.sameQ
  by_cases k1 : a.op = b.op
  case' neg =>
    simp only [am, amo, amc, Nat.reduceAdd, Nat.reduceEqDiff, encs_length, List.length_map, decide_true, decide_false, Tree.rec_, Nd.rec_, Word.rec_, Nd.fl, Int.reduceEq, Int.reduceLT, Int.reduceLE, Nat.reduceLT, bne_self_eq_false, Int.reduceToNat, Nat.reduceMul, cfl, cfo, word_tk2, cfv, penc_tk, List.length_map, decide_eq_false k1]
    refine retK_intro rfl (Store.sub_refl _) ⟨?_, rfl⟩
    simp [V.erase, eraseL, k1]
  simp only [am, amo, amc, Nat.reduceAdd, Nat.reduceEqDiff, encs_length, List.length_map, decide_true, decide_false, Tree.rec_, Nd.rec_, Word.rec_, Nd.fl, Int.reduceEq, Int.reduceLT, Int.reduceLE, Nat.reduceLT, bne_self_eq_false, Int.reduceToNat, Nat.reduceMul, cfl, cfo, word_tk2, cfv, penc_tk, List.length_map, k1]
  by_cases k2 : a.name.text = b.name.text
  case' neg =>
    simp only [am, amo, amc, Nat.reduceAdd, Nat.reduceEqDiff, encs_length, List.length_map, decide_true, decide_false, Tree.rec_, Nd.rec_, Word.rec_, Nd.fl, Int.reduceEq, Int.reduceLT, Int.reduceLE, Nat.reduceLT, bne_self_eq_false, Int.reduceToNat, Nat.reduceMul, cfl, cfo, word_tk2, cfv, penc_tk, List.length_map, decide_eq_false k2]
    refine retK_intro rfl (Store.sub_refl _) ⟨?_, rfl⟩
    simp [V.erase, eraseL, k1, k2]
  simp only [am, amo, amc, Nat.reduceAdd, Nat.reduceEqDiff, encs_length, List.length_map, decide_true, decide_false, Tree.rec_, Nd.rec_, Word.rec_, Nd.fl, Int.reduceEq, Int.reduceLT, Int.reduceLE, Nat.reduceLT, bne_self_eq_false, Int.reduceToNat, Nat.reduceMul, cfl, cfo, word_tk2, cfv, penc_tk, List.length_map, decide_eq_true k2]
  by_cases k3 : a.names.length = b.names.length
  case' neg =>
    simp only [am, amo, amc, Nat.reduceAdd, Nat.reduceEqDiff, encs_length, List.length_map, decide_true, decide_false, Tree.rec_, Nd.rec_, Word.rec_, Nd.fl, Int.reduceEq, Int.reduceLT, Int.reduceLE, Nat.reduceLT, bne_self_eq_false, Int.reduceToNat, Nat.reduceMul, cfl, cfo, word_tk2, cfv, penc_tk, List.length_map, decide_eq_false (show ¬ (a.names.length : Int) = b.names.length by omega)]
    have : sameW a.names b.names = false := by cases hs : sameW a.names b.names with
      | false => rfl
      | true => exact absurd (sameW_len hs) k3
    refine retK_intro rfl (Store.sub_refl _) ⟨?_, rfl⟩
    simp [V.erase, eraseL, k1, k2, this]
  simp only [am, amo, amc, Nat.reduceAdd, Nat.reduceEqDiff, encs_length, List.length_map, decide_true, decide_false, Tree.rec_, Nd.rec_, Word.rec_, Nd.fl, Int.reduceEq, Int.reduceLT, Int.reduceLE, Nat.reduceLT, bne_self_eq_false, Int.reduceToNat, Nat.reduceMul, cfl, cfo, word_tk2, cfv, penc_tk, List.length_map, k3]
  by_cases k4 : a.pairs.length = b.pairs.length
  case' neg =>
    simp only [am, amo, amc, Nat.reduceAdd, Nat.reduceEqDiff, encs_length, List.length_map, decide_true, decide_false, Tree.rec_, Nd.rec_, Word.rec_, Nd.fl, Int.reduceEq, Int.reduceLT, Int.reduceLE, Nat.reduceLT, bne_self_eq_false, Int.reduceToNat, Nat.reduceMul, cfl, cfo, word_tk2, cfv, penc_tk, List.length_map, decide_eq_false (show ¬ (a.pairs.length : Int) = b.pairs.length by omega)]
    have : samePQ a.pairs b.pairs = false := by cases hs : samePQ a.pairs b.pairs with
      | false => rfl
      | true => exact absurd (samePQ_len hs) k4
    refine retK_intro rfl (Store.sub_refl _) ⟨?_, rfl⟩
    simp [V.erase, eraseL, k1, k2, this]
  simp only [am, amo, amc, Nat.reduceAdd, Nat.reduceEqDiff, encs_length, List.length_map, decide_true, decide_false, Tree.rec_, Nd.rec_, Word.rec_, Nd.fl, Int.reduceEq, Int.reduceLT, Int.reduceLE, Nat.reduceLT, bne_self_eq_false, Int.reduceToNat, Nat.reduceMul, cfl, cfo, word_tk2, cfv, penc_tk, List.length_map, k4]
  refine vc_loop (fun p : { i : Nat // i ≤ a.names.length ∧ sameW (a.names.take i) (b.names.take i) = true } => inv26W a b σ p.1) (fun p => a.names.length - p.1) ?_ ?_
  · refine Upd.enter ⟨0, by simp, by simp [sameW]⟩ ?_ LLLe.rfl OLe.rfl
    simp [inv26W, List.replicate, am]
  rintro ⟨i, hi, ha⟩
  simp only [inv26W, List.replicate, am, cfv, List.length_map]
  refine vcIf_split ?_ ?_
  · intro hlt
    have hlt : i < a.names.length := by simpa using hlt
    obtain ⟨hat, hno⟩ := sameW_at hlt (by omega) k3 ha
    simp only [am, amo, amc, Nat.reduceAdd, Nat.reduceEqDiff, encs_length, List.length_map, decide_true, decide_false, Tree.rec_, Nd.rec_, Word.rec_, Nd.fl, Int.reduceEq, Int.reduceLT, Int.reduceLE, Nat.reduceLT, bne_self_eq_false, Int.reduceToNat, Nat.reduceMul, cfl, cfo, word_tk2, cfv, penc_tk, List.length_map]
    refine idxL_intro (by omega) (wencs_at (List.getElem?_eq_getElem hlt)) ?_
    simp only [am, amo, amc, Nat.reduceAdd, Nat.reduceEqDiff, encs_length, List.length_map, decide_true, decide_false, Tree.rec_, Nd.rec_, Word.rec_, Nd.fl, Int.reduceEq, Int.reduceLT, Int.reduceLE, Nat.reduceLT, bne_self_eq_false, Int.reduceToNat, Nat.reduceMul, cfl, cfo, word_tk2, cfv, penc_tk, List.length_map, Word.enc]
    refine idxL_intro (by omega) (wencs_at (List.getElem?_eq_getElem (show i < b.names.length by omega))) ?_
    simp only [am, amo, amc, Nat.reduceAdd, Nat.reduceEqDiff, encs_length, List.length_map, decide_true, decide_false, Tree.rec_, Nd.rec_, Word.rec_, Nd.fl, Int.reduceEq, Int.reduceLT, Int.reduceLE, Nat.reduceLT, bne_self_eq_false, Int.reduceToNat, Nat.reduceMul, cfl, cfo, word_tk2, cfv, penc_tk, List.length_map, Word.enc]
    by_cases he : a.names[i].text = b.names[i].text
    · simp only [am, amo, amc, Nat.reduceAdd, Nat.reduceEqDiff, encs_length, List.length_map, decide_true, decide_false, Tree.rec_, Nd.rec_, Word.rec_, Nd.fl, Int.reduceEq, Int.reduceLT, Int.reduceLE, Nat.reduceLT, bne_self_eq_false, Int.reduceToNat, Nat.reduceMul, cfl, cfo, word_tk2, cfv, penc_tk, List.length_map, decide_eq_true he]
      rw [wrap_i64 (by omega) (by omega)]
      exact Upd.again (I := fun p : { i : Nat // i ≤ a.names.length ∧ sameW (a.names.take i) (b.names.take i) = true } => inv26W a b σ p.1) (μ := fun p => a.names.length - p.1) ⟨i + 1, hlt, by rw [hat]; exact decide_eq_true he⟩ (by simp; omega) (by simp [List.replicate, am, inv26W]) LLLe.rfl OLe.rfl
    · simp only [am, amo, amc, Nat.reduceAdd, Nat.reduceEqDiff, encs_length, List.length_map, decide_true, decide_false, Tree.rec_, Nd.rec_, Word.rec_, Nd.fl, Int.reduceEq, Int.reduceLT, Int.reduceLE, Nat.reduceLT, bne_self_eq_false, Int.reduceToNat, Nat.reduceMul, cfl, cfo, word_tk2, cfv, penc_tk, List.length_map, decide_eq_false he]
      refine retK_intro rfl (Store.sub_refl _) ⟨?_, rfl⟩
      simp [V.erase, eraseL, k1, k2, hno (decide_eq_false he)]
  intro hlt
  have hlt : i = a.names.length := by simp at hlt; omega
  subst hlt
  rw [List.take_length, k3, List.take_length] at ha
  simp only [am, amo, amc, Nat.reduceAdd, Nat.reduceEqDiff, encs_length, List.length_map, decide_true, decide_false, Tree.rec_, Nd.rec_, Word.rec_, Nd.fl, Int.reduceEq, Int.reduceLT, Int.reduceLE, Nat.reduceLT, bne_self_eq_false, Int.reduceToNat, Nat.reduceMul, cfl, cfo, word_tk2, cfv, penc_tk, List.length_map]
  refine vc_loop (fun p : { i : Nat // i ≤ a.pairs.length ∧ samePQ (a.pairs.take i) (b.pairs.take i) = true } => inv26K a b σ p.1) (fun p => a.pairs.length - p.1) ?_ ?_
  · refine Upd.enter ⟨0, by simp, by simp [samePQ]⟩ ?_ LLLe.rfl OLe.rfl
    simp [inv26K, List.replicate, am]
  rintro ⟨i, hi, hb⟩
  simp only [inv26K, List.replicate, am, cfv, List.length_map]
  refine vcIf_split ?_ ?_
  · intro hlt
    have hlt : i < a.pairs.length := by simpa using hlt
    have hltb : i < b.pairs.length := by omega
    obtain ⟨hat, hno⟩ := samePQ_at hlt hltb k4 hb
    have hi0 : (0 : Int) ≤ 0 := by decide
    simp only [am, amo, amc, Nat.reduceAdd, Nat.reduceEqDiff, encs_length, List.length_map, decide_true, decide_false, Tree.rec_, Nd.rec_, Word.rec_, Nd.fl, Int.reduceEq, Int.reduceLT, Int.reduceLE, Nat.reduceLT, bne_self_eq_false, Int.reduceToNat, Nat.reduceMul, cfl, cfo, word_tk2, cfv, penc_tk, List.length_map]
    refine idxL_intro (by omega) (pencs_at (List.getElem?_eq_getElem hlt)) ?_
    simp only [am, amo, amc, Nat.reduceAdd, Nat.reduceEqDiff, encs_length, List.length_map, decide_true, decide_false, Tree.rec_, Nd.rec_, Word.rec_, Nd.fl, Int.reduceEq, Int.reduceLT, Int.reduceLE, Nat.reduceLT, bne_self_eq_false, Int.reduceToNat, Nat.reduceMul, cfl, cfo, word_tk2, cfv, penc_tk, List.length_map]
    refine idxPL_elt (by omega) (by omega) ?_
    simp only [am, amo, amc, Nat.reduceAdd, Nat.reduceEqDiff, encs_length, List.length_map, decide_true, decide_false, Tree.rec_, Nd.rec_, Word.rec_, Nd.fl, Int.reduceEq, Int.reduceLT, Int.reduceLE, Nat.reduceLT, bne_self_eq_false, Int.reduceToNat, Nat.reduceMul, cfl, cfo, word_tk2, cfv, penc_tk, List.length_map, penc]
    refine idxL_intro (by omega) (pencs_at (List.getElem?_eq_getElem hltb)) ?_
    simp only [am, amo, amc, Nat.reduceAdd, Nat.reduceEqDiff, encs_length, List.length_map, decide_true, decide_false, Tree.rec_, Nd.rec_, Word.rec_, Nd.fl, Int.reduceEq, Int.reduceLT, Int.reduceLE, Nat.reduceLT, bne_self_eq_false, Int.reduceToNat, Nat.reduceMul, cfl, cfo, word_tk2, cfv, penc_tk, List.length_map]
    refine idxPL_elt (by omega) (by omega) ?_
    simp only [am, amo, amc, Nat.reduceAdd, Nat.reduceEqDiff, encs_length, List.length_map, decide_true, decide_false, Tree.rec_, Nd.rec_, Word.rec_, Nd.fl, Int.reduceEq, Int.reduceLT, Int.reduceLE, Nat.reduceLT, bne_self_eq_false, Int.reduceToNat, Nat.reduceMul, cfl, cfo, word_tk2, cfv, penc_tk, List.length_map, penc]
    by_cases he1 : a.pairs[i].1.text = b.pairs[i].1.text
    case' neg =>
      simp only [am, amo, amc, Nat.reduceAdd, Nat.reduceEqDiff, encs_length, List.length_map, decide_true, decide_false, Tree.rec_, Nd.rec_, Word.rec_, Nd.fl, Int.reduceEq, Int.reduceLT, Int.reduceLE, Nat.reduceLT, bne_self_eq_false, Int.reduceToNat, Nat.reduceMul, cfl, cfo, word_tk2, cfv, penc_tk, List.length_map, decide_eq_false he1]
      have : samePQ a.pairs b.pairs = false := hno (by simp [he1])
      refine retK_intro rfl (Store.sub_refl _) ⟨?_, rfl⟩
      simp [V.erase, eraseL, k1, k2, ha, this]
    case' pos =>
      simp only [am, amo, amc, Nat.reduceAdd, Nat.reduceEqDiff, encs_length, List.length_map, decide_true, decide_false, Tree.rec_, Nd.rec_, Word.rec_, Nd.fl, Int.reduceEq, Int.reduceLT, Int.reduceLE, Nat.reduceLT, bne_self_eq_false, Int.reduceToNat, Nat.reduceMul, cfl, cfo, word_tk2, cfv, penc_tk, List.length_map, decide_eq_true he1]
      refine idxL_intro (by omega) (pencs_at (List.getElem?_eq_getElem hlt)) ?_
      simp only [am, amo, amc, Nat.reduceAdd, Nat.reduceEqDiff, encs_length, List.length_map, decide_true, decide_false, Tree.rec_, Nd.rec_, Word.rec_, Nd.fl, Int.reduceEq, Int.reduceLT, Int.reduceLE, Nat.reduceLT, bne_self_eq_false, Int.reduceToNat, Nat.reduceMul, cfl, cfo, word_tk2, cfv, penc_tk, List.length_map]
      refine idxPL_elt (by omega) (by omega) ?_
      simp only [am, amo, amc, Nat.reduceAdd, Nat.reduceEqDiff, encs_length, List.length_map, decide_true, decide_false, Tree.rec_, Nd.rec_, Word.rec_, Nd.fl, Int.reduceEq, Int.reduceLT, Int.reduceLE, Nat.reduceLT, bne_self_eq_false, Int.reduceToNat, Nat.reduceMul, cfl, cfo, word_tk2, cfv, penc_tk, List.length_map, penc]
      refine idxL_intro (by omega) (pencs_at (List.getElem?_eq_getElem hltb)) ?_
      simp only [am, amo, amc, Nat.reduceAdd, Nat.reduceEqDiff, encs_length, List.length_map, decide_true, decide_false, Tree.rec_, Nd.rec_, Word.rec_, Nd.fl, Int.reduceEq, Int.reduceLT, Int.reduceLE, Nat.reduceLT, bne_self_eq_false, Int.reduceToNat, Nat.reduceMul, cfl, cfo, word_tk2, cfv, penc_tk, List.length_map]
      refine idxPL_elt (by omega) (by omega) ?_
      simp only [am, amo, amc, Nat.reduceAdd, Nat.reduceEqDiff, encs_length, List.length_map, decide_true, decide_false, Tree.rec_, Nd.rec_, Word.rec_, Nd.fl, Int.reduceEq, Int.reduceLT, Int.reduceLE, Nat.reduceLT, bne_self_eq_false, Int.reduceToNat, Nat.reduceMul, cfl, cfo, word_tk2, cfv, penc_tk, List.length_map, penc]
      by_cases he2 : a.pairs[i].2.text = b.pairs[i].2.text
      case' neg =>
        simp only [am, amo, amc, Nat.reduceAdd, Nat.reduceEqDiff, encs_length, List.length_map, decide_true, decide_false, Tree.rec_, Nd.rec_, Word.rec_, Nd.fl, Int.reduceEq, Int.reduceLT, Int.reduceLE, Nat.reduceLT, bne_self_eq_false, Int.reduceToNat, Nat.reduceMul, cfl, cfo, word_tk2, cfv, penc_tk, List.length_map, decide_eq_false he2]
        have : samePQ a.pairs b.pairs = false := hno (by simp [he2])
        refine retK_intro rfl (Store.sub_refl _) ⟨?_, rfl⟩
        simp [V.erase, eraseL, k1, k2, ha, this]
      case' pos =>
        simp only [am, amo, amc, Nat.reduceAdd, Nat.reduceEqDiff, encs_length, List.length_map, decide_true, decide_false, Tree.rec_, Nd.rec_, Word.rec_, Nd.fl, Int.reduceEq, Int.reduceLT, Int.reduceLE, Nat.reduceLT, bne_self_eq_false, Int.reduceToNat, Nat.reduceMul, cfl, cfo, word_tk2, cfv, penc_tk, List.length_map, decide_eq_true he2]
        rw [wrap_i64 (by omega) (by omega)]
        exact Upd.again (I := fun p : { i : Nat // i ≤ a.pairs.length ∧ samePQ (a.pairs.take i) (b.pairs.take i) = true } => inv26K a b σ p.1) (μ := fun p => a.pairs.length - p.1) ⟨i + 1, hlt, by rw [hat]; simp [he1, he2]⟩ (by simp; omega) (by simp [List.replicate, am, inv26K]) LLLe.rfl OLe.rfl
  intro hlt
  have hlt : i = a.pairs.length := by simp at hlt; omega
  subst hlt
  rw [List.take_length, k4, List.take_length] at hb
  simp only [am, amo, amc, Nat.reduceAdd, Nat.reduceEqDiff, encs_length, List.length_map, decide_true, decide_false, Tree.rec_, Nd.rec_, Word.rec_, Nd.fl, Int.reduceEq, Int.reduceLT, Int.reduceLE, Nat.reduceLT, bne_self_eq_false, Int.reduceToNat, Nat.reduceMul, cfl, cfo, word_tk2, cfv, penc_tk, List.length_map]
  refine (same25_calls _ a.left b.left _ (Nat.le_refl _) h.l).mono ?_
  rintro v σ ⟨rfl, rfl⟩
  simp only [am, amo, amc, Nat.reduceAdd, Nat.reduceEqDiff, encs_length, List.length_map, decide_true, decide_false, Tree.rec_, Nd.rec_, Word.rec_, Nd.fl, Int.reduceEq, Int.reduceLT, Int.reduceLE, Nat.reduceLT, bne_self_eq_false, Int.reduceToNat, Nat.reduceMul, cfl, cfo, word_tk2, cfv, penc_tk, List.length_map]
  cases z1 : a.left.sameQ b.left
  · simp only [am, amo, amc, Nat.reduceAdd, Nat.reduceEqDiff, encs_length, List.length_map, decide_true, decide_false, Tree.rec_, Nd.rec_, Word.rec_, Nd.fl, Int.reduceEq, Int.reduceLT, Int.reduceLE, Nat.reduceLT, bne_self_eq_false, Int.reduceToNat, Nat.reduceMul, cfl, cfo, word_tk2, cfv, penc_tk, List.length_map]
    refine retK_intro rfl (Store.sub_refl _) ⟨?_, rfl⟩
    simp [V.erase, eraseL, k1, k2, ha, hb, z1]
  · simp only [am, amo, amc, Nat.reduceAdd, Nat.reduceEqDiff, encs_length, List.length_map, decide_true, decide_false, Tree.rec_, Nd.rec_, Word.rec_, Nd.fl, Int.reduceEq, Int.reduceLT, Int.reduceLE, Nat.reduceLT, bne_self_eq_false, Int.reduceToNat, Nat.reduceMul, cfl, cfo, word_tk2, cfv, penc_tk, List.length_map]
    refine (same25_calls _ a.right b.right _ (Nat.le_refl _) h.r).mono ?_
    rintro v σ ⟨rfl, rfl⟩
    simp only [am, amo, amc, Nat.reduceAdd, Nat.reduceEqDiff, encs_length, List.length_map, decide_true, decide_false, Tree.rec_, Nd.rec_, Word.rec_, Nd.fl, Int.reduceEq, Int.reduceLT, Int.reduceLE, Nat.reduceLT, bne_self_eq_false, Int.reduceToNat, Nat.reduceMul, cfl, cfo, word_tk2, cfv, penc_tk, List.length_map]
    refine retK_intro rfl (Store.sub_refl _) ⟨?_, rfl⟩
    simp [V.erase, eraseL, k1, k2, ha, hb, z1]
theorem samePQ_refl : ∀ l : List (Word × Word), samePQ l l = true
  | [] => rfl
  | p :: ps => by simp [samePQ, samePQ_refl ps]
theorem Cmd.sameQ_refl (c : Cmd) : c.sameQ c = true := by simp [Cmd.sameQ, sameW_refl, samePQ_refl, Nd.sameQ_refl]
theorem commandTells_calls (a b : Cmd) (op : Int) {σ : Store} (hg : σ.box 0 = some formCells) (hw : a.wt + b.wt ≤ 1048576) : PCalls prog 3 [.agg a.enc, .agg b.enc, .int .i64 op] σ fun v σ' => v = .bool true ∧ σ' = σ := by
  have hcw : a.wt = a.name.text.length + wsum a.names + psum a.pairs + a.left.wt + a.right.wt := rfl
  have hcw2 : b.wt = b.name.text.length + wsum b.names + psum b.pairs + b.left.wt + b.right.wt := rfl
  have hn1 := (psum_word a.names).2
  have hp1 := (psum_len a.pairs).2
  have hn2 := (psum_word b.names).2
  have hp2 := (psum_len b.pairs).2
  have hbig : big = 268435456 := rfl
  have hcwa : CmdW a := ⟨by omega, by omega, by omega, by omega⟩
  refine fn3.calls ?_
  simp only [slots, ac3, am, amo, amc, ams, Nat.reduceAdd, Nat.reduceEqDiff, decide_true, decide_false, Tree.rec_, Nd.rec_, Word.rec_, Nd.fl, Int.reduceEq, Int.reduceLT, Int.reduceLE, Nat.reduceLT, bne_self_eq_false, Int.reduceToNat, Nat.reduceMul, cfl, cfo, word_tk2, cfv, penc_tk, List.length_map]
  refine (cbig_calls a σ (by omega) (by omega)).mono ?_
  rintro v σ ⟨rfl, rfl⟩
  simp only [am, amo, amc, Nat.reduceAdd, Nat.reduceEqDiff, encs_length, List.length_map, decide_true, decide_false, Tree.rec_, Nd.rec_, Word.rec_, Nd.fl, Int.reduceEq, Int.reduceLT, Int.reduceLE, Nat.reduceLT, bne_self_eq_false, Int.reduceToNat, Nat.reduceMul, cfl, cfo, word_tk2, cfv, penc_tk, List.length_map]
  cases q1 : Cmd.bigC a
  case' true =>
    simp only [am, amo, amc, Nat.reduceAdd, Nat.reduceEqDiff, encs_length, List.length_map, decide_true, decide_false, Tree.rec_, Nd.rec_, Word.rec_, Nd.fl, Int.reduceEq, Int.reduceLT, Int.reduceLE, Nat.reduceLT, bne_self_eq_false, Int.reduceToNat, Nat.reduceMul, cfl, cfo, word_tk2, cfv, penc_tk, List.length_map]
    refine (alive12_calls hg).mono ?_
    rintro v σ ⟨rfl, rfl⟩
    simp only [am, amo, amc, Nat.reduceAdd, Nat.reduceEqDiff, encs_length, List.length_map, decide_true, decide_false, Tree.rec_, Nd.rec_, Word.rec_, Nd.fl, Int.reduceEq, Int.reduceLT, Int.reduceLE, Nat.reduceLT, bne_self_eq_false, Int.reduceToNat, Nat.reduceMul, cfl, cfo, word_tk2, cfv, penc_tk, List.length_map]
    refine retK_intro rfl (Store.sub_refl _) ⟨?_, rfl⟩
    simp [V.erase, eraseL]
  simp only [am, amo, amc, Nat.reduceAdd, Nat.reduceEqDiff, encs_length, List.length_map, decide_true, decide_false, Tree.rec_, Nd.rec_, Word.rec_, Nd.fl, Int.reduceEq, Int.reduceLT, Int.reduceLE, Nat.reduceLT, bne_self_eq_false, Int.reduceToNat, Nat.reduceMul, cfl, cfo, word_tk2, cfv, penc_tk, List.length_map]
  refine (cbig_calls b σ (by omega) (by omega)).mono ?_
  rintro v σ ⟨rfl, rfl⟩
  simp only [am, amo, amc, Nat.reduceAdd, Nat.reduceEqDiff, encs_length, List.length_map, decide_true, decide_false, Tree.rec_, Nd.rec_, Word.rec_, Nd.fl, Int.reduceEq, Int.reduceLT, Int.reduceLE, Nat.reduceLT, bne_self_eq_false, Int.reduceToNat, Nat.reduceMul, cfl, cfo, word_tk2, cfv, penc_tk, List.length_map]
  cases q2 : Cmd.bigC b
  case' true =>
    simp only [am, amo, amc, Nat.reduceAdd, Nat.reduceEqDiff, encs_length, List.length_map, decide_true, decide_false, Tree.rec_, Nd.rec_, Word.rec_, Nd.fl, Int.reduceEq, Int.reduceLT, Int.reduceLE, Nat.reduceLT, bne_self_eq_false, Int.reduceToNat, Nat.reduceMul, cfl, cfo, word_tk2, cfv, penc_tk, List.length_map]
    refine (alive12_calls hg).mono ?_
    rintro v σ ⟨rfl, rfl⟩
    simp only [am, amo, amc, Nat.reduceAdd, Nat.reduceEqDiff, encs_length, List.length_map, decide_true, decide_false, Tree.rec_, Nd.rec_, Word.rec_, Nd.fl, Int.reduceEq, Int.reduceLT, Int.reduceLE, Nat.reduceLT, bne_self_eq_false, Int.reduceToNat, Nat.reduceMul, cfl, cfo, word_tk2, cfv, penc_tk, List.length_map]
    refine retK_intro rfl (Store.sub_refl _) ⟨?_, rfl⟩
    simp [V.erase, eraseL]
  simp only [am, amo, amc, Nat.reduceAdd, Nat.reduceEqDiff, encs_length, List.length_map, decide_true, decide_false, Tree.rec_, Nd.rec_, Word.rec_, Nd.fl, Int.reduceEq, Int.reduceLT, Int.reduceLE, Nat.reduceLT, bne_self_eq_false, Int.reduceToNat, Nat.reduceMul, cfl, cfo, word_tk2, cfv, penc_tk, List.length_map]
  refine CallD.intro (ctext_calls a hg (by omega)) ?_
  simp only [am, amo, amc, Nat.reduceAdd, Nat.reduceEqDiff, encs_length, List.length_map, decide_true, decide_false, Tree.rec_, Nd.rec_, Word.rec_, Nd.fl, Int.reduceEq, Int.reduceLT, Int.reduceLE, Nat.reduceLT, bne_self_eq_false, Int.reduceToNat, Nat.reduceMul, cfl, cfo, word_tk2, cfv, penc_tk, List.length_map]
  refine CallD.intro (rtext12_calls a σ (by omega)) ?_
  simp only [am, amo, amc, Nat.reduceAdd, Nat.reduceEqDiff, encs_length, List.length_map, decide_true, decide_false, Tree.rec_, Nd.rec_, Word.rec_, Nd.fl, Int.reduceEq, Int.reduceLT, Int.reduceLE, Nat.reduceLT, bne_self_eq_false, Int.reduceToNat, Nat.reduceMul, cfl, cfo, word_tk2, cfv, penc_tk, List.length_map]
  refine CallD.intro (csame_calls a b σ (by omega) (by omega) (by omega) (by omega) (by omega)) ?_
  simp only [am, amo, amc, Nat.reduceAdd, Nat.reduceEqDiff, encs_length, List.length_map, decide_true, decide_false, Tree.rec_, Nd.rec_, Word.rec_, Nd.fl, Int.reduceEq, Int.reduceLT, Int.reduceLE, Nat.reduceLT, bne_self_eq_false, Int.reduceToNat, Nat.reduceMul, cfl, cfo, word_tk2, cfv, penc_tk, List.length_map]
  refine CallD.intro (same12_calls hcwa σ) ?_
  simp only [am, amo, amc, Nat.reduceAdd, Nat.reduceEqDiff, encs_length, List.length_map, decide_true, decide_false, Tree.rec_, Nd.rec_, Word.rec_, Nd.fl, Int.reduceEq, Int.reduceLT, Int.reduceLE, Nat.reduceLT, bne_self_eq_false, Int.reduceToNat, Nat.reduceMul, cfl, cfo, word_tk2, cfv, penc_tk, List.length_map]
  refine CallD.intro (csame_calls a a σ (by omega) (by omega) (by omega) (by omega) (by omega)) ?_
  simp only [am, amo, amc, Nat.reduceAdd, Nat.reduceEqDiff, encs_length, List.length_map, decide_true, decide_false, Tree.rec_, Nd.rec_, Word.rec_, Nd.fl, Int.reduceEq, Int.reduceLT, Int.reduceLE, Nat.reduceLT, bne_self_eq_false, Int.reduceToNat, Nat.reduceMul, cfl, cfo, word_tk2, cfv, penc_tk, List.length_map, Cmd.sameQ_refl]
  refine CallD.intro (cright_calls a hg (by omega) (by omega) (by omega) (by omega)) ?_
  simp only [am, amo, amc, Nat.reduceAdd, Nat.reduceEqDiff, encs_length, List.length_map, decide_true, decide_false, Tree.rec_, Nd.rec_, Word.rec_, Nd.fl, Int.reduceEq, Int.reduceLT, Int.reduceLE, Nat.reduceLT, bne_self_eq_false, Int.reduceToNat, Nat.reduceMul, cfl, cfo, word_tk2, cfv, penc_tk, List.length_map]
  refine CallD.intro (right12_calls a σ (by omega) (by omega) (by omega) (by omega)) ?_
  simp only [am, amo, amc, Nat.reduceAdd, Nat.reduceEqDiff, encs_length, List.length_map, decide_true, decide_false, Tree.rec_, Nd.rec_, Word.rec_, Nd.fl, Int.reduceEq, Int.reduceLT, Int.reduceLE, Nat.reduceLT, bne_self_eq_false, Int.reduceToNat, Nat.reduceMul, cfl, cfo, word_tk2, cfv, penc_tk, List.length_map]
  refine CallD.intro (command_word_calls op hg) ?_
  simp only [am, amo, amc, Nat.reduceAdd, Nat.reduceEqDiff, encs_length, List.length_map, decide_true, decide_false, Tree.rec_, Nd.rec_, Word.rec_, Nd.fl, Int.reduceEq, Int.reduceLT, Int.reduceLE, Nat.reduceLT, bne_self_eq_false, Int.reduceToNat, Nat.reduceMul, cfl, cfo, word_tk2, cfv, penc_tk, List.length_map]
  refine CallD.intro (Word12_calls op σ) ?_
  simp only [am, amo, amc, Nat.reduceAdd, Nat.reduceEqDiff, encs_length, List.length_map, decide_true, decide_false, Tree.rec_, Nd.rec_, Word.rec_, Nd.fl, Int.reduceEq, Int.reduceLT, Int.reduceLE, Nat.reduceLT, bne_self_eq_false, Int.reduceToNat, Nat.reduceMul, cfl, cfo, word_tk2, cfv, penc_tk, List.length_map]
  refine CallD.intro (alive12_calls hg) ?_
  simp only [am, amo, amc, Nat.reduceAdd, Nat.reduceEqDiff, encs_length, List.length_map, decide_true, decide_false, Tree.rec_, Nd.rec_, Word.rec_, Nd.fl, Int.reduceEq, Int.reduceLT, Int.reduceLE, Nat.reduceLT, bne_self_eq_false, Int.reduceToNat, Nat.reduceMul, cfl, cfo, word_tk2, cfv, penc_tk, List.length_map]
  refine retK_intro rfl (Store.sub_refl _) ⟨?_, rfl⟩
  simp [V.erase, eraseL]
end Go.Proofs.Tryz

namespace Go.Am
open Go.ChangeShapes Go.WideShapes Go.ChangeAt Go.RowKit
structure BulkFn {H : Type} (B : DataW H → Nat) (BA : List (DataW H) → Nat) : Prop where
  str : ∀ b, B (.lit (.string b)) = b.length + 1
  int : ∀ k n, B (.lit (.int k n)) = 1
  bool : ∀ b, B (.lit (.bool b)) = 1
  nil : B .nil = 1
  slice : ∀ e s, B (.slice e s) = BA e + BA s + 1
  agg : ∀ p, B (.agg p) = BA p + 1
  no : BA [] = 0
  cons : ∀ d r, BA (d :: r) = B d + BA r
section
variable {H : Type} {enc : TypeId × Value → H} {P : Program} {W : World} {sp : Nat → Bool} {B : DataW H → Nat} {BA : List (DataW H) → Nat}
end
theorem post_am2 {H : Type} {enc : TypeId × Value → H} {P : Program} {f : Func} {s : ChangeSpec} {W : World} {args : Array Value} {ds : List (DataW H)} {before : List MemPlace} {tb : TypeId}
    (hl : laidOutB P = true) (hm : mapsRowed P = true) (hz : ((List.range P.types.size).all fun t => match P.underlying t with | some (.slice e) => decide (0 < P.cellsOf e) | _ => true) = true)
    (hres : f.resultTypes = #[tb]) (htb : P.underlying tb = some .bool) (hpar : ∀ t ∈ f.params.toList, t < P.types.size) (hvars : s.vars = []) (hfn : (s.fn H ds).results = [.lit (.bool true)] ∧ (s.fn H ds).args = ds ∧ (s.fn H ds).vars = [])
    (hW : DataW.Whole enc P f.params.toList s.vars false W args.toList ds [] before) {W' : World} (hos : W'.os = W.os) (hout : W'.output = W.output) (hfrz : ∀ a, W'.frozen? a = W.frozen? a) (hsame : ∀ b, b < W.heap.size → W'.heap[b]? = W.heap[b]?) :
    s.post enc P f false true false false W args (.bool true) W' := by
  have hW' := hW
  obtain ⟨p, q, hA, hV, rfl, hfz, hnd⟩ := hW
  rw [hvars] at hV
  obtain ⟨_, rfl⟩ := trodVars_none hV
  have hkept : W.keptBut W' (fun _ => False) := by
    refine ⟨hos, hout, fun i hi => ?_⟩
    rw [hsame i hi]
    cases W.heap[i]? with
    | none => rfl
    | some ob => cases ob <;> simp
  simp only [List.append_nil] at hW'
  have hds : s.fn H (ds ++ []) = s.fn H ds := by rw [List.append_nil]
  refine post_of_same (pa := p) (pv := []) hW' (fun b sp' hd => ?_) (fun sp' hs => ?_) (fun sp' hs => ?_) (by simp) (World.keptBut_mono (fun _ h => h.elim) hkept) ?_ (ok_one hres rfl (okWide_bool_mk htb _))
  · rw [hds, hfn.1, hres]
    exact trodAll_cons_mk (shut_bool htb _) trodAll_mk0
  · rw [hds, hfn.2.1]
    have hlt := DataW.TrodAll.lt hA
    have key : ∀ (ts : List TypeId) (vs : List Value) (ds : List (DataW H)) (ps : List MemPlace), (∀ t ∈ ts, t < P.types.size) → DataW.TrodAll enc P W 0 (fun _ => true) true ts vs ds ps → (∀ x ∈ ps, x.block < W.heap.size) → (∀ x ∈ ps, sp' x.block = true) → DataW.TrodAll enc P W' 0 sp' true ts vs ds ps := by
      intro ts
      induction ts with
      | nil => intro vs ds ps _ h _ _; cases vs <;> cases ds <;> first | exact h | exact h.elim
      | cons t ts ih =>
        intro vs ds ps hT h hlt hs
        cases vs with
        | nil => exact h.elim
        | cons v vs =>
          cases ds with
          | nil => exact h.elim
          | cons d ds =>
            obtain ⟨p, q, ⟨n, h1⟩, h2, rfl⟩ := h
            refine ⟨p, q, ⟨n, ?_⟩, ih vs ds q (fun t ht => hT t (by simp [ht])) h2 (fun x hx => hlt x (by simp [hx])) (fun x hx => hs x (by simp [hx])), rfl⟩
            refine DataW.trod_stays (kids_rows hl hm) (fun {t e} ht he => slices_full_of P hz t e ht he) (by simp) (hT t (by simp)) h1 (fun x hx => ?_) (fun x hx => hs x (by simp [hx]))
            have hb := hlt x (by simp [hx])
            cases x with
            | cell b off => exact cell_same (hsame b hb)
            | map b => exact hsame b hb
    exact key _ _ _ _ hpar hA (fun x hx => hlt x hx) (fun x hx => hs x (by simpa using hx))
  · rw [hds, hfn.2.2, hvars]
    rfl
  · exact hfrz
section
variable {P : Program} {W : World} {r : Reach} {b : Nat} {t : TypeId} {v : Value} {E : Env}
theorem val_int {k : IntKind} {x : V} (ht : P.underlying t = some (.int k)) (hv : Value.okWide P W r b t v) (h : RL E [x] v.cells.toList) : R E x v := by
  obtain ⟨a, rfl⟩ := okWide_int ht hv
  simpa [Value.cells, RL] using h
theorem val_struct {fs : Array Field} {xs : List V} (ht : P.underlying t = some (.struct fs)) (hv : Value.okWide P W r b t v) (h : RL E xs v.cells.toList) : R E (.agg xs) v := by
  obtain ⟨cs, rfl, _⟩ := okWide_struct ht hv
  simp only [R]
  exact ⟨cs, rfl, by simpa [Value.cells] using h⟩
end
end Go.Am

namespace Go.Am
open Go.ChangeShapes Go.WideShapes Go.ChangeAt Go.RowKit
def txtVal (s : List UInt8) : Value := .string ⟨s.toArray⟩
def boxStore (g : Nat) (ss : List (List UInt8)) : Store := ⟨fun b => if b = g then some (ss.map V.str) else none, fun _ => none⟩
def envBox (W : World) (g : Nat) : Env := ⟨W, fun b => if b = g then .obox else .const, fun _ => none, fun _ => none⟩
theorem boxStore_box (g : Nat) (ss : List (List UInt8)) : (boxStore g ss).box g = some (ss.map V.str) := by simp [boxStore]
theorem envBox_ok {W : World} {g : Nat} {ss : List (List UInt8)} {e : TypeId} (h : W.heap[g]? = some (.cells (ss.map txtVal).toArray e (0, 0))) : (envBox W g).ok (boxStore g ss) := by
  refine ⟨fun b cs hb => ?_, fun _ _ h => by simp [boxStore] at h, fun b hb => ?_, ⟨0, fun _ _ => rfl⟩⟩
  · simp only [boxStore] at hb
    split at hb
    · rename_i hbg
      subst hbg
      simp only [Option.some.injEq] at hb
      subst hb
      refine ⟨by simp [envBox], _, e, h, by simp, fun j x hx => ?_⟩
      rw [List.getElem?_map] at hx
      obtain ⟨s, h1, rfl⟩ := Option.map_eq_some_iff.1 hx
      exact ⟨txtVal s, by simp [h1], by simp [R, txtVal]⟩
    · simp at hb
  · have hlt : g < W.heap.size := lt_of_heap (w := W) h
    have hb : W.heap.size ≤ b := hb
    simp only [envBox]
    rw [if_neg (by omega)]
theorem law_callsG {H : Type} {enc : TypeId × Value → H} {P : Program} {n : FuncId} {f : Func} {s : ChangeSpec} {W : World} {args : Array Value} {vs : List V} {ds : List (DataW H)} {before : List MemPlace} {tb e : TypeId} {g : Nat} {ss : List (List UInt8)}
    (hP : PCalls P n vs (boxStore g ss) fun v σ' => v = .bool true ∧ σ' = boxStore g ss) (hg : W.heap[g]? = some (.cells (ss.map txtVal).toArray e (0, 0))) (hR : RL (envBox W g) vs args.toList)
    (hl : laidOutB P = true) (hm : mapsRowed P = true) (hz : ((List.range P.types.size).all fun t => match P.underlying t with | some (.slice e) => decide (0 < P.cellsOf e) | _ => true) = true)
    (hres : f.resultTypes = #[tb]) (htb : P.underlying tb = some .bool) (hpar : ∀ t ∈ f.params.toList, t < P.types.size) (hvars : s.vars = []) (hfn : (s.fn H ds).results = [.lit (.bool true)] ∧ (s.fn H ds).args = ds ∧ (s.fn H ds).vars = [])
    (hW : DataW.Whole enc P f.params.toList s.vars false W args.toList ds [] before) :
    Calls P n args W fun e W' => ∃ v, e = .returned v ∧ s.post enc P f false true false false W args v W' := by
  refine (hP.2 (envBox W g) args (fun _ => rfl) (envBox_ok hg) hR).mono ?_
  rintro _ w' ⟨v, x, E', σ', rfl, rfl, _, hok, hRv, hfr, rfl, rfl⟩
  simp only [R] at hRv
  subst hRv
  refine ⟨_, rfl, post_am2 hl hm hz hres htb hpar hvars hfn hW hfr.os hfr.output hfr.frz fun b hb => ?_⟩
  by_cases hbg : b = g
  · subst hbg
    obtain ⟨c1, h1, h2⟩ := hfr.shape b _ e hg
    obtain ⟨_, c2, e2, h3, h4, h5⟩ := hok.box b _ (boxStore_box b ss)
    have h3 : E'.w.heap[b]? = some (.cells c2 e2 (0, 0)) := h3
    rw [h1] at h3
    simp only [Option.some.injEq, Obj.cells.injEq] at h3
    obtain ⟨rfl, rfl, _⟩ := h3
    rw [hg, h1]
    have : c1 = (ss.map txtVal).toArray := by
      apply Array.ext_getElem?
      intro j
      by_cases hj : j < ss.length
      · obtain ⟨v, k1, k2⟩ := h5 j (.str ss[j]) (by simp [hj])
        rw [k1]
        simp only [R] at k2
        rw [k2]
        simp [hj, txtVal]
      · rw [Array.getElem?_eq_none (by rw [h2]; simp; omega), Array.getElem?_eq_none (by simp; omega)]
    rw [this]
  · exact (hfr.same b hb (.inl (by simp [envBox, hbg]))).1
section
variable {H : Type} {enc : TypeId × Value → H} {P : Program} {W : World}
def pairsData (ps : List (List UInt8 × List UInt8)) : DataW H := .agg (ps.map fun p => .agg [.lit (.string p.1), .lit (.string p.2)])
theorem list2 {α : Type} {l : List α} (h : l.length = 2) : ∃ a b, l = [a, b] := by
  match l, h with
  | [a, b], _ => exact ⟨a, b, rfl⟩
theorem txtVal_of {s : ByteArray} {l : List UInt8} (h : s.data.toList = l) : Value.string s = txtVal l := by subst h; simp [txtVal]
theorem chunks {α : Type} {k : Nat} (f : Nat → List α) : ∀ (n : Nat) (cs : List α), cs.length = n * k → (∀ i, i < n → (cs.drop (i * k)).take k = f i) → cs = ((List.range n).map f).flatten
  | 0, cs, hl, _ => by simp at hl; simp [hl]
  | n + 1, cs, hl, h => by
    rw [Nat.succ_mul] at hl
    have h1 := chunks (k := k) f n (cs.take (n * k)) (by rw [List.length_take]; omega) fun i hi => by
      have : i * k + k ≤ n * k := by rw [← Nat.succ_mul]; exact Nat.mul_le_mul_right _ hi
      rw [List.drop_take, List.take_take, Nat.min_eq_left (by omega)]
      exact h i (by omega)
    have h2 := h n (by omega)
    rw [List.take_of_length_le (by rw [List.length_drop]; omega)] at h2
    rw [List.range_succ, List.map_append, List.flatten_append, ← h1]
    simp only [List.map_cons, List.map_nil, List.flatten_cons, List.flatten_nil, List.append_nil]
    rw [← h2, List.take_append_drop]
theorem cells_of_pair {base : Nat} {sp : Nat → Bool} {held : Bool} {fuel : Nat} {e tf : TypeId} {fs : Array Field} {cs : List Value} {x : DataW H × List MemPlace} {a b : List UInt8}
    (he : P.underlying e = some (.struct fs)) (hs : fs.size = 2) (hf0 : (fs[0]?).map (fun f => (f.type, f.offset)) = some (tf, 0)) (hf1 : (fs[1]?).map (fun f => (f.type, f.offset)) = some (tf, 1))
    (htf : P.underlying tf = some .string) (hct : P.cellsOf tf = 1) (hce : P.cellsOf e = 2)
    (h : DataW.trod enc P W base sp held fuel e cs = some x) (hx : x.1 = .agg [.lit (.string a), .lit (.string b)]) : cs = [txtVal a, txtVal b] := by
  obtain ⟨xs, m, rfl, rfl, hl, hxl, hf⟩ := DataW.trod_struct he h
  rw [hce] at hl
  rw [hs] at hxl
  obtain ⟨u, v, rfl⟩ := list2 hl
  obtain ⟨x0, x1, rfl⟩ := list2 hxl
  obtain ⟨f0, g0, g1⟩ := Option.map_eq_some_iff.1 hf0
  obtain ⟨f1, g2, g3⟩ := Option.map_eq_some_iff.1 hf1
  simp only [Prod.mk.injEq] at g1 g3
  have h0 := hf 0 f0 g0
  have h1 := hf 1 f1 g2
  rw [g1.1, g1.2, hct] at h0
  rw [g3.1, g3.2, hct] at h1
  obtain ⟨s0, p0, q0, _⟩ := DataW.trod_string htf h0
  obtain ⟨s1, p1, q1, _⟩ := DataW.trod_string htf h1
  simp only [List.drop_zero, List.drop_succ_cons, List.take_succ_cons, List.take_zero, List.cons.injEq, and_true] at p0 p1
  subst p0 p1 q0 q1
  simp only [List.map_cons, List.map_nil, DataW.agg.injEq, List.cons.injEq, DataW.lit.injEq, Lit.string.injEq, and_true] at hx
  rw [txtVal_of hx.1, txtVal_of hx.2]
theorem cells_of_pairs {base : Nat} {sp : Nat → Bool} {held : Bool} {fuel : Nat} {t e tf : TypeId} {n : Nat} {fs : Array Field} {cs : List Value} {ps : List (List UInt8 × List UInt8)} {p : List MemPlace}
    (ht : P.underlying t = some (.array n e)) (he : P.underlying e = some (.struct fs)) (hs : fs.size = 2) (hf0 : (fs[0]?).map (fun f => (f.type, f.offset)) = some (tf, 0)) (hf1 : (fs[1]?).map (fun f => (f.type, f.offset)) = some (tf, 1))
    (htf : P.underlying tf = some .string) (hctf : P.cellsOf tf = 1) (hce : P.cellsOf e = 2) (hct : P.cellsOf t = n * 2)
    (h : DataW.trod enc P W base sp held fuel t cs = some (pairsData ps, p)) : cs = (ps.flatMap fun p => [p.1, p.2]).map txtVal := by
  obtain ⟨xs, m, rfl, hx, hl, hxl, hi⟩ := DataW.trod_array ht h
  rw [hct] at hl
  have hxs : xs.map (·.1) = ps.map fun p => (.agg [.lit (.string p.1), .lit (.string p.2)] : DataW H) := by
    have := congrArg Prod.fst hx
    simpa [pairsData] using this.symm
  have hpl : ps.length = n := by
    have := congrArg List.length hxs
    simp at this; omega
  have hc := chunks (fun i => match ps[i]? with | some p => [txtVal p.1, txtVal p.2] | none => []) n cs hl (fun i hin => by
    have h1 := hi i hin
    rw [hce] at h1
    have hxi : xs[i]? = some xs[i] := by simp [hxl, hin]
    have hpi : ps[i]? = some ps[i] := by simp [hpl, hin]
    rw [hxi] at h1
    have h2 := congrArg (·[i]?) hxs
    simp only [List.getElem?_map, hxi, hpi, Option.map_some, Option.some.injEq] at h2
    rw [hpi]
    exact cells_of_pair he hs hf0 hf1 htf hctf hce h1 h2)
  rw [hc, ← hpl]
  clear hc hi hxl hl hx hxs h hpl
  have key : ∀ qs : List (List UInt8 × List UInt8), ((List.range qs.length).map fun i => match qs[i]? with | some p => [txtVal p.1, txtVal p.2] | none => []) = qs.map fun p => [txtVal p.1, txtVal p.2] := fun qs => by
    apply List.ext_getElem?
    intro i
    by_cases hi : i < qs.length
    · simp [hi]
    · simp [hi]
  rw [key, List.map_flatMap, List.flatMap_def]
  rfl
end
end Go.Am

namespace Go.Am
open Go.ChangeShapes Go.WideShapes Go.ChangeAt Go.RowKit
def IntCom (W : World) (E : Env) : Prop := ∀ b, (∃ j k n, W.cell? ⟨b, j, none⟩ = some (.int k n)) → ∀ o, (E.role b).com o
def HasInt (l : List V) : Prop := ∃ (j : Nat) (k : IntKind) (n : Int), l[j]? = some (.int k n)
theorem envBox_com {W : World} {g : Nat} {ss : List (List UInt8)} {e : TypeId} (h : W.heap[g]? = some (.cells (ss.map txtVal).toArray e (0, 0))) : IntCom W (envBox W g) := by
  rintro b ⟨j, k, n, hc⟩ o
  have hb : b ≠ g := by
    rintro rfl
    simp only [World.cell?, h] at hc
    by_cases hj : j < ss.length
    · simp [hj, txtVal] at hc
    · simp [hj] at hc
  simp [envBox, hb, Role.com]
section
variable {H : Type} {enc : TypeId × Value → H} {P : Program} {W : World} {sp : Nat → Bool} {B : DataW H → Nat} {BA : List (DataW H) → Nat} {E : Env}
theorem rd_rowsE {α : Type} (ea : α → List V) (sz : α → Nat) {e : TypeId} {k n : Nat} (hB : BulkFn B BA) (hk : P.cellsOf e = k) (hlen : ∀ y, (ea y).length = k)
    (hel : ∀ cs x, DataW.trod enc P W 0 sp true n e cs = some x → ∃ y : α, RL E (ea y) cs ∧ (∀ v ∈ cs, v.oneCell' = true) ∧ sz y ≤ B x.1) (hw : E.w = W) (hnl : E.nl = E) (hcom : IntCom W E) (hint : ∀ y, HasInt (ea y)) {b o : Nat} :
    ∀ (els : List (DataW H × List MemPlace)) (i : Nat), (∀ j, j < els.length → (W.cells? 0 (Addr.add ⟨b, o, none⟩ ((i + j) * k)) k).bind (DataW.trod enc P W 0 sp true n e) = els[j]?) →
      ∃ l : List α, l.length = els.length ∧ REs E.nl k (l.map ea) b (o + i * k) ∧ (l.map sz).sum ≤ BA (els.map (·.1))
  | [], i, _ => ⟨[], rfl, by simp [REs], by simp⟩
  | x :: els, i, h => by
    obtain ⟨l, h1, h2, h3⟩ := rd_rowsE ea sz hB hk hlen hel hw hnl hcom hint els (i + 1) fun j hj => by
      have := h (j + 1) (by simp; omega)
      rw [show i + (j + 1) = i + 1 + j by omega] at this
      simpa using this
    have h0 := h 0 (by simp)
    simp only [Nat.add_zero, List.getElem?_cons_zero] at h0
    obtain ⟨cs, hc, hr⟩ := Option.bind_eq_some_iff.1 h0
    obtain ⟨y, k1, k2, k3⟩ := hel cs x hr
    obtain ⟨_, hl, hcell⟩ := World.cells?_some hc
    refine ⟨y :: l, by simp [h1], ?_, ?_⟩
    · simp only [List.map_cons, REs]
      have hat : ∀ (j : Nat) v, cs[j]? = some v → W.cell? ⟨b, o + i * k + j, none⟩ = some v := fun j v hv => by
        have hj : j < k := by have := (List.getElem?_eq_some_iff.1 hv).1; omega
        have := hcell j hj
        rw [addr_add, addr_add] at this
        rw [this, hv]
      obtain ⟨j0, kk, nn, hj0⟩ := hint y
      obtain ⟨u, hu, hRu⟩ := RL_get k1 j0 _ hj0
      simp only [R] at hRu
      have hcm := hcom b ⟨_, kk, nn, by rw [hat j0 u hu, hRu]⟩
      refine ⟨hlen y, RAs_mk (E := E.nl) (by rw [hnl]; exact k1) k2 (fun j v hv => ?_) (fun j _ => hcm _), by rw [show o + i * k + k = o + (i + 1) * k by rw [Nat.add_mul]; omega]; exact h2⟩
      show E.w.cell? _ = _
      rw [hw]; exact hat j v hv
    · simp only [List.map_cons, List.sum_cons, hB.cons]; omega
theorem rd_sliceE {α : Type} (ea : α → List V) (sz : α → Nat) {t e : TypeId} {k fuel : Nat} (hB : BulkFn B BA) (ht : P.underlying t = some (.slice e)) (hk : P.cellsOf e = k) (hpos : 0 < k) (hlen : ∀ y, (ea y).length = k) (hw : E.w = W) (hnl : E.nl = E) (hcom : IntCom W E) (hint : ∀ y, HasInt (ea y))
    (hel : ∀ n, n < fuel → ∀ cs x, DataW.trod enc P W 0 sp true n e cs = some x → ∃ y : α, RL E (ea y) cs ∧ (∀ v ∈ cs, v.oneCell' = true) ∧ sz y ≤ B x.1)
    {cs : List Value} {x : DataW H × List MemPlace} (h : DataW.trod enc P W 0 sp true fuel t cs = some x) :
    ∃ l : List α, RL E [.sl .no k (l.map ea)] cs ∧ (∀ v ∈ cs, v.oneCell' = true) ∧ (l.map sz).sum + 1 ≤ B x.1 := by
  rcases DataW.trod_slice ht h with ⟨rfl, rfl⟩ | ⟨a, len, cap, elems, rest, n, rfl, rfl, rfl, _, hle, _, hl, hels, _, _⟩
  · refine ⟨[], ?_, by simp [Value.oneCell'], by simp [hB.nil]⟩
    simp only [RL, R, List.map_nil, and_true]
    exact ⟨none, 0, rfl, by simp, by simp, trivial⟩
  · have ha : elems = [] ∨ ∃ b o, a = ⟨b, o, none⟩ := by
      cases elems with
      | nil => exact .inl rfl
      | cons y ys =>
        right
        have h0 := hels 0 (by rw [← hl]; simp)
        simp only [List.getElem?_cons_zero] at h0
        obtain ⟨cs', hc, _⟩ := Option.bind_eq_some_iff.1 h0
        obtain ⟨_, hl', hcell⟩ := World.cells?_some hc
        have h1 := hcell 0 (by rw [hk]; exact hpos)
        have h2 : cs'[0]? = some (cs'[0]'(by rw [hl', hk]; exact hpos)) := List.getElem?_eq_getElem _
        rw [h2] at h1
        obtain ⟨b, o, s⟩ := a
        refine ⟨b, o, ?_⟩
        simp only [World.cell?] at h1
        cases s with
        | none => rfl
        | some s =>
          split at h1
          · simp [Addr.add] at h1
          · simp at h1
    rcases ha with rfl | ⟨b, o, rfl⟩
    · refine ⟨[], ?_, by simp [Value.oneCell'], by simp [hB.slice]⟩
      simp only [List.length_nil] at hl
      subst hl
      simp only [RL, R, List.map_nil, and_true]
      exact ⟨some a, cap, rfl, by simp, by simp, trivial⟩
    · obtain ⟨l, h1, h2, h3⟩ := rd_rowsE (B := B) (BA := BA) (sp := sp) (enc := enc) (P := P) (W := W) (n := n) ea sz hB hk hlen (hel n (Nat.lt_succ_self n)) hw hnl hcom hint elems 0 (fun j hj => by
        have := hels j (by omega)
        rw [hk] at this
        rw [Nat.zero_add]; exact this)
      refine ⟨l, ?_, by simp [Value.oneCell'], ?_⟩
      · simp only [RL, R, List.length_map, and_true]
        exact ⟨some ⟨b, o, none⟩, cap, by rw [h1, hl], by omega, .inr ⟨b, o, rfl, by simpa using h2⟩, trivial⟩
      · rw [hB.slice]; omega
end
end Go.Am

namespace Go.Proofs.Tryz
open Go.Am Go.ChangeShapes Go.WideShapes Go.ChangeAt Go.RowKit
open Go.Proofs.YthncngbmelgmaaaGreatDoor
theorem bulkFn (H : Type) : BulkFn (H := H) Rows.uptoBulk Rows.uptoBulkAll :=
  ⟨fun _ => by simp only [Rows.uptoBulk], fun _ _ => by simp only [Rows.uptoBulk], fun _ => by simp only [Rows.uptoBulk], by simp only [Rows.uptoBulk], fun _ _ => by simp only [Rows.uptoBulk], fun _ => by simp only [Rows.uptoBulk], by simp only [Rows.uptoBulkAll], fun _ _ => by simp only [Rows.uptoBulkAll]⟩
theorem laid : laidOutB prog = true := by kernel_rfl
theorem rowed : mapsRowed prog = true := by kernel_rfl
theorem fulls : ((List.range prog.types.size).all fun t => match prog.underlying t with | some (.slice e) => decide (0 < prog.cellsOf e) | _ => true) = true := by kernel_rfl
theorem own : ownKnob prog.godebug = none := by kernel_rfl
def formsL : List (List UInt8) := formT.flatMap fun p => [p.1, p.2]
theorem formsL_cells : formsL.map V.str = formCells := by simp [formsL, formCells, formT]
theorem forms_data {H : Type} : (Rows.laid_clearance_command_forms : DataW H) = pairsData formT := rfl
theorem c77 : prog.cellsOf 77 = 16 * 2 := by kernel_rfl
theorem c43 : prog.cellsOf 43 = 2 := by kernel_rfl
theorem c9 : prog.cellsOf 9 = 1 := by kernel_rfl
theorem forms_at {W : World} (h : laidMetH prog Rows.commandTellsRow.laid W) : ∃ e, W.heap[0]? = some (.cells (formsL.map txtVal).toArray e (0, 0)) := by
  have h : laidMet prog Rows.commandTellsRow.laid W := h
  obtain ⟨ps, ⟨g, t, cs, fuel, p, q, hg, ht, hv, hd, _, hps⟩, _, hb⟩ := h
  have e1 : g = 0 := Option.some.inj (hg.symm.trans (by kernel_rfl : prog.globalNamed "clearance/command.forms" = some 0))
  subst e1
  have e2 : t = 77 := Option.some.inj (ht.symm.trans (by kernel_rfl : (prog.globals[0]?).map (·.type) = some 77))
  subst e2
  rw [forms_data] at hd
  have hcs := cells_of_pairs underlying77 underlying43 (by kernel_rfl) (by kernel_rfl) (by kernel_rfl) underlying9 c9 c43 c77 hd
  have hcs' : cs = (formsL.map txtVal).toArray := by rw [show formsL.map txtVal = cs.toList from hcs.symm]
  obtain ⟨⟨c, e, hc⟩, _⟩ := hb 0 0 (by
    rw [hps]
    refine List.mem_append_left _ (List.mem_append_left _ ?_)
    rw [hcs']
    simp [MemPlace.row, formsL, formT])
  refine ⟨e, ?_⟩
  rw [hc]
  simp only [World.var?, hg, Option.bind_some, hc, Option.some.injEq] at hv
  rw [hv, hcs']
noncomputable def laidWorld (os : Os) : World :=
  { World.holding prog os ⟨#[], #[], []⟩ with heap := (World.holding prog os ⟨#[], #[], []⟩).heap.modify 0 fun
      | .cells _ t frozen => .cells (formsL.map txtVal).toArray t frozen
      | o => o }
set_option maxRecDepth 100000
theorem c3 : prog.cellsOf 3 = 1 := by kernel_rfl
theorem c23 : prog.cellsOf 23 = 2 := by kernel_rfl
theorem c24 : prog.cellsOf 24 = 1 := by kernel_rfl
theorem c25 : prog.cellsOf 25 = 1 := by kernel_rfl
theorem c26 : prog.cellsOf 26 = 1 := by kernel_rfl
theorem c28 : prog.cellsOf 28 = 5 := by kernel_rfl
theorem c30 : prog.cellsOf 30 = 17 := by kernel_rfl
theorem c52 : prog.cellsOf 52 = 4 := by kernel_rfl
theorem ln2 {α : Type} {l : List α} (h : l.length = 2) : ∃ a b, l = [a, b] := by
  match l, h with
  | [a, b], _ => exact ⟨a, b, rfl⟩
theorem ln4 {α : Type} {l : List α} (h : l.length = 4) : ∃ a b c d, l = [a, b, c, d] := by
  match l, h with
  | [a, b, c, d], _ => exact ⟨a, b, c, d, rfl⟩
theorem ln5 {α : Type} {l : List α} (h : l.length = 5) : ∃ a b c d e, l = [a, b, c, d, e] := by
  match l, h with
  | [a, b, c, d, e], _ => exact ⟨a, b, c, d, e, rfl⟩
theorem ln8 {α : Type} {l : List α} (h : l.length = 8) : ∃ a b c d e f g i, l = [a, b, c, d, e, f, g, i] := by
  match l, h with
  | [a, b, c, d, e, f, g, i], _ => exact ⟨a, b, c, d, e, f, g, i, rfl⟩
theorem ln17 {α : Type} {l : List α} (h : l.length = 17) : ∃ a0 a1 a2 a3 a4 a5 a6 a7 a8 a9 b0 b1 b2 b3 b4 b5 b6, l = [a0, a1, a2, a3, a4, a5, a6, a7, a8, a9, b0, b1, b2, b3, b4, b5, b6] := by
  match l, h with
  | [a0, a1, a2, a3, a4, a5, a6, a7, a8, a9, b0, b1, b2, b3, b4, b5, b6], _ => exact ⟨a0, a1, a2, a3, a4, a5, a6, a7, a8, a9, b0, b1, b2, b3, b4, b5, b6, rfl⟩
section
variable {H : Type} {enc : TypeId × Value → H} {W : World} {sp : Nat → Bool} {E : Env} (hw : E.w = W) (hnl : E.nl = E) (hcom : IntCom W E)
theorem RL_oneE {x : V} {v : Value} : RL E [x] [v] ↔ R E x v := by simp [RL]
theorem rd_intE {n : Nat} {cs : List Value} {x : DataW H × List MemPlace} (h : DataW.trod enc prog W 0 sp true n 3 cs = some x) :
    ∃ i : Int, RL E [.int .i64 i] cs ∧ (∀ v ∈ cs, v.oneCell' = true) ∧ Rows.uptoBulk x.1 = 1 := by
  obtain ⟨i, rfl, rfl, _⟩ := DataW.trod_int underlying3 h
  exact ⟨i, by simp [RL, R], by simp [Value.oneCell'], (bulkFn H).int _ _⟩
theorem rd_strE {n : Nat} {cs : List Value} {x : DataW H × List MemPlace} (h : DataW.trod enc prog W 0 sp true n 9 cs = some x) :
    ∃ s : List UInt8, RL E [.str s] cs ∧ (∀ v ∈ cs, v.oneCell' = true) ∧ s.length + 1 = Rows.uptoBulk x.1 := by
  obtain ⟨s, rfl, rfl, _⟩ := DataW.trod_string underlying9 h
  exact ⟨s.data.toList, by simp [RL, R], by simp [Value.oneCell'], ((bulkFn H).str _).symm⟩
theorem rd_wordE {n : Nat} {cs : List Value} {x : DataW H × List MemPlace} (h : DataW.trod enc prog W 0 sp true n 23 cs = some x) :
    ∃ w : Word, RL E w.enc cs ∧ (∀ v ∈ cs, v.oneCell' = true) ∧ w.text.length + 1 ≤ Rows.uptoBulk x.1 := by
  obtain ⟨xs, m, rfl, rfl, hl, hx, hf⟩ := DataW.trod_struct underlying23 h
  rw [c23] at hl
  obtain ⟨a, b, rfl⟩ := ln2 hl
  obtain ⟨x0, x1, rfl⟩ := ln2 hx
  have h0 : DataW.trod enc prog W 0 sp true m 9 ((([a, b] : List Value).drop 0).take (prog.cellsOf 9)) = some x0 := hf 0 _ rfl
  have h1 : DataW.trod enc prog W 0 sp true m 3 ((([a, b] : List Value).drop 1).take (prog.cellsOf 3)) = some x1 := hf 1 _ rfl
  rw [c9] at h0; rw [c3] at h1
  obtain ⟨s, r0, o0, b0⟩ := rd_strE (E := E) h0
  obtain ⟨j, r1, o1, b1⟩ := rd_intE (E := E) h1
  simp only [List.drop_zero, List.drop_succ_cons, List.take_succ_cons, List.take_zero, RL_oneE] at r0 r1 o0 o1
  refine ⟨⟨s, j⟩, ?_, ?_, ?_⟩
  · simp only [Word.enc, RL]; exact ⟨r0, r1, trivial⟩
  · intro v hv
    simp only [List.mem_cons, List.not_mem_nil, or_false] at hv o0 o1
    rcases hv with rfl | rfl
    · exact o0 _ rfl
    · exact o1 _ rfl
  · simp only [List.map_cons, List.map_nil, Rows.uptoBulk, Rows.uptoBulkAll]; omega
theorem word_int (w : Word) : HasInt w.enc := ⟨1, .i64, w.pos, rfl⟩
theorem pair_int (p : Word × Word) : HasInt (penc p) := ⟨1, .i64, p.1.pos, rfl⟩
theorem node_int (n : Nd) : HasInt n.enc := ⟨0, .i64, n.kind, by rw [Nd.enc_eq]; rfl⟩
include hw hnl hcom in
theorem rd_wordsE {n : Nat} {cs : List Value} {x : DataW H × List MemPlace} (h : DataW.trod enc prog W 0 sp true n 24 cs = some x) :
    ∃ l : List Word, RL E [.sl .no 2 (l.map Word.enc)] cs ∧ (∀ v ∈ cs, v.oneCell' = true) ∧ wsum l + 1 ≤ Rows.uptoBulk x.1 :=
  rd_sliceE (α := Word) Word.enc (fun w => w.text.length + 1) (bulkFn H) underlying24 c23 (by omega) (fun _ => Word.r_len) hw hnl hcom word_int (fun _ _ _ _ h => rd_wordE h) h
include hw hnl hcom in
theorem rd_pairsE {n : Nat} {cs : List Value} {x : DataW H × List MemPlace} (h : DataW.trod enc prog W 0 sp true n 25 cs = some x) :
    ∃ l : List (Word × Word), RL E [.sl .no 4 (l.map penc)] cs ∧ (∀ v ∈ cs, v.oneCell' = true) ∧ psum l + 1 ≤ Rows.uptoBulk x.1 := by
  refine rd_sliceE (α := Word × Word) penc (fun p => p.1.text.length + p.2.text.length + 2) (bulkFn H) underlying25 c52 (by omega) (fun _ => rfl) hw hnl hcom pair_int (fun m _ cs x h => ?_) h
  obtain ⟨xs, m, rfl, rfl, hl, hx, hf⟩ := DataW.trod_array underlying52 h
  rw [c52] at hl
  obtain ⟨a, b, c, d, rfl⟩ := ln4 hl
  obtain ⟨x0, x1, rfl⟩ := ln2 hx
  have h0 : DataW.trod enc prog W 0 sp true m 23 ((([a, b, c, d] : List Value).drop (0 * prog.cellsOf 23)).take (prog.cellsOf 23)) = some x0 := hf 0 (by omega)
  have h1 : DataW.trod enc prog W 0 sp true m 23 ((([a, b, c, d] : List Value).drop (1 * prog.cellsOf 23)).take (prog.cellsOf 23)) = some x1 := hf 1 (by omega)
  rw [c23] at h0 h1
  obtain ⟨w0, r0, o0, b0⟩ := rd_wordE (E := E) h0
  obtain ⟨w1, r1, o1, b1⟩ := rd_wordE (E := E) h1
  simp only [Nat.zero_mul, Nat.one_mul, List.drop_zero, List.drop_succ_cons, List.take_succ_cons, List.take_zero, Word.enc, RL] at r0 r1 o0 o1
  refine ⟨(w0, w1), ?_, ?_, ?_⟩
  · simp only [penc, RL]; exact ⟨r0.1, r0.2.1, r1.1, r1.2.1, trivial⟩
  · intro v hv
    simp only [List.mem_cons, List.not_mem_nil, or_false] at hv o0 o1
    rcases hv with rfl | rfl | rfl | rfl
    · exact o0 _ (.inl rfl)
    · exact o0 _ (.inr rfl)
    · exact o1 _ (.inl rfl)
    · exact o1 _ (.inr rfl)
  · simp only [List.map_cons, List.map_nil, Rows.uptoBulk, Rows.uptoBulkAll]; omega
include hw hnl hcom in
theorem rd_nodeE : ∀ (n : Nat) (cs : List Value) (x : DataW H × List MemPlace), DataW.trod enc prog W 0 sp true n 28 cs = some x →
    ∃ y : Nd, RL E y.enc cs ∧ (∀ v ∈ cs, v.oneCell' = true) ∧ y.wt + 1 ≤ Rows.uptoBulk x.1 := by
  intro n
  induction n using Nat.strongRecOn with
  | ind n ih =>
  intro cs x h
  obtain ⟨xs, m, hnm, rfl, hl, hx, hf⟩ := DataW.trod_struct underlying28 h
  rw [c28] at hl
  obtain ⟨a, b, c, d, e, rfl⟩ := ln5 hl
  obtain ⟨x0, x1, x2, x3, x4, rfl⟩ := ln5 hx
  have h0 : DataW.trod enc prog W 0 sp true m 3 ((([a, b, c, d, e] : List Value).drop 0).take (prog.cellsOf 3)) = some x0 := hf 0 _ rfl
  have h1 : DataW.trod enc prog W 0 sp true m 3 ((([a, b, c, d, e] : List Value).drop 1).take (prog.cellsOf 3)) = some x1 := hf 1 _ rfl
  have h2 : DataW.trod enc prog W 0 sp true m 9 ((([a, b, c, d, e] : List Value).drop 2).take (prog.cellsOf 9)) = some x2 := hf 2 _ rfl
  have h3 : DataW.trod enc prog W 0 sp true m 24 ((([a, b, c, d, e] : List Value).drop 3).take (prog.cellsOf 24)) = some x3 := hf 3 _ rfl
  have h4 : DataW.trod enc prog W 0 sp true m 26 ((([a, b, c, d, e] : List Value).drop 4).take (prog.cellsOf 26)) = some x4 := hf 4 _ rfl
  rw [c3] at h0 h1; rw [c9] at h2; rw [c24] at h3; rw [c26] at h4
  obtain ⟨i, r0, o0, b0⟩ := rd_intE (E := E) h0
  obtain ⟨j, r1, o1, b1⟩ := rd_intE (E := E) h1
  obtain ⟨s, r2, o2, b2⟩ := rd_strE (E := E) h2
  obtain ⟨ws, r3, o3, b3⟩ := rd_wordsE hw hnl hcom h3
  obtain ⟨ks, r4, o4, b4⟩ := rd_sliceE (α := Nd) Nd.enc (fun n => n.wt + 1) (bulkFn H) underlying26 c28 (by omega) (fun t => Nd.r_len) hw hnl hcom node_int (fun p hp cs x h => ih p (by omega) cs x h) h4
  rw [← wts_map] at b4
  simp only [List.drop_zero, List.drop_succ_cons, List.take_succ_cons, List.take_zero, RL_oneE] at r0 r1 r2 r3 r4 o0 o1 o2 o3 o4
  refine ⟨.mk i j s ws ks, ?_, ?_, ?_⟩
  · rw [Nd.enc_eq]; simp only [RL]; exact ⟨r0, r1, r2, r3, r4, trivial⟩
  · intro v hv
    simp only [List.mem_cons, List.not_mem_nil, or_false] at hv o0 o1 o2 o3 o4
    rcases hv with rfl | rfl | rfl | rfl | rfl
    · exact o0 _ rfl
    · exact o1 _ rfl
    · exact o2 _ rfl
    · exact o3 _ rfl
    · exact o4 _ rfl
  · simp only [List.map_cons, List.map_nil, Rows.uptoBulk, Rows.uptoBulkAll, Nd.wt]; omega
include hw hnl hcom in
theorem rd_cmdE {n : Nat} {cs : List Value} {x : DataW H × List MemPlace} (h : DataW.trod enc prog W 0 sp true n 30 cs = some x) :
    ∃ c : Cmd, RL E c.enc cs ∧ c.wt ≤ Rows.uptoBulk x.1 := by
  obtain ⟨xs, m, rfl, rfl, hl, hx, hf⟩ := DataW.trod_struct underlying30 h
  rw [c30] at hl
  obtain ⟨a0, a1, a2, a3, a4, a5, a6, a7, a8, a9, b0, b1, b2, b3, b4, b5, b6, rfl⟩ := ln17 hl
  obtain ⟨x0, x1, x2, x3, x4, x5, x6, x7, rfl⟩ := ln8 hx
  have h0 : DataW.trod enc prog W 0 sp true m 3 ((([a0, a1, a2, a3, a4, a5, a6, a7, a8, a9, b0, b1, b2, b3, b4, b5, b6] : List Value).drop 0).take (prog.cellsOf 3)) = some x0 := hf 0 _ rfl
  have h1 : DataW.trod enc prog W 0 sp true m 3 ((([a0, a1, a2, a3, a4, a5, a6, a7, a8, a9, b0, b1, b2, b3, b4, b5, b6] : List Value).drop 1).take (prog.cellsOf 3)) = some x1 := hf 1 _ rfl
  have h2 : DataW.trod enc prog W 0 sp true m 23 ((([a0, a1, a2, a3, a4, a5, a6, a7, a8, a9, b0, b1, b2, b3, b4, b5, b6] : List Value).drop 2).take (prog.cellsOf 23)) = some x2 := hf 2 _ rfl
  have h3 : DataW.trod enc prog W 0 sp true m 24 ((([a0, a1, a2, a3, a4, a5, a6, a7, a8, a9, b0, b1, b2, b3, b4, b5, b6] : List Value).drop 4).take (prog.cellsOf 24)) = some x3 := hf 3 _ rfl
  have h4 : DataW.trod enc prog W 0 sp true m 25 ((([a0, a1, a2, a3, a4, a5, a6, a7, a8, a9, b0, b1, b2, b3, b4, b5, b6] : List Value).drop 5).take (prog.cellsOf 25)) = some x4 := hf 4 _ rfl
  have h5 : DataW.trod enc prog W 0 sp true m 3 ((([a0, a1, a2, a3, a4, a5, a6, a7, a8, a9, b0, b1, b2, b3, b4, b5, b6] : List Value).drop 6).take (prog.cellsOf 3)) = some x5 := hf 5 _ rfl
  have h6 : DataW.trod enc prog W 0 sp true m 28 ((([a0, a1, a2, a3, a4, a5, a6, a7, a8, a9, b0, b1, b2, b3, b4, b5, b6] : List Value).drop 7).take (prog.cellsOf 28)) = some x6 := hf 6 _ rfl
  have h7 : DataW.trod enc prog W 0 sp true m 28 ((([a0, a1, a2, a3, a4, a5, a6, a7, a8, a9, b0, b1, b2, b3, b4, b5, b6] : List Value).drop 12).take (prog.cellsOf 28)) = some x7 := hf 7 _ rfl
  rw [c3] at h0 h1 h5; rw [c23] at h2; rw [c24] at h3; rw [c25] at h4; rw [c28] at h6 h7
  obtain ⟨op, r0, _, q0⟩ := rd_intE (E := E) h0
  obtain ⟨ps, r1, _, q1⟩ := rd_intE (E := E) h1
  obtain ⟨nm, r2, _, q2⟩ := rd_wordE (E := E) h2
  obtain ⟨ns, r3, _, q3⟩ := rd_wordsE hw hnl hcom h3
  obtain ⟨prs, r4, _, q4⟩ := rd_pairsE hw hnl hcom h4
  obtain ⟨pa, r5, _, q5⟩ := rd_intE (E := E) h5
  obtain ⟨ln, r6, _, q6⟩ := rd_nodeE hw hnl hcom _ _ _ h6
  obtain ⟨rn, r7, _, q7⟩ := rd_nodeE hw hnl hcom _ _ _ h7
  simp only [List.drop_zero, List.drop_succ_cons, List.take_succ_cons, List.take_zero, RL_oneE, Word.enc, Nd.enc_eq, RL, and_true] at r0 r1 r2 r3 r4 r5 r6 r7
  refine ⟨⟨op, ps, nm, ns, prs, pa, ln, rn⟩, ?_, ?_⟩
  · simp only [Cmd.enc, Cmd.encP, RL, and_true]
    exact ⟨r0, r1, r2.1, r2.2, r3, r4, r5, r6.1, r6.2.1, r6.2.2.1, r6.2.2.2.1, r6.2.2.2.2, r7.1, r7.2.1, r7.2.2.1, r7.2.2.2.1, r7.2.2.2.2⟩
  · simp only [List.map_cons, List.map_nil, Rows.uptoBulk, Rows.uptoBulkAll, Cmd.wt]; omega
end
end Go.Proofs.Tryz

namespace Go.Proofs.Tryz
open Go.Am Go.ChangeShapes Go.WideShapes Go.ChangeAt Go.RowKit
open Go.Proofs.YthncngbmelgmaaaGreatDoor
set_option maxRecDepth 100000 in
theorem commandTells_contract (H : Type) (enc : TypeId × Value → H) (W : World) (base : Nat) (args : Array Value) (ds gs : List (DataW H)) (before : List MemPlace)
    (hval : ∀ (j : Nat) t v, f3.params[j]? = some t → args[j]? = some v → Value.okWide prog W .any base t v)
    (hW : DataW.Whole enc prog f3.params.toList Rows.commandTellsSpec.vars false W args.toList ds gs before) (hk : Rows.uptoSmall H (ds ++ gs) = true) (hL : laidMetH prog Rows.commandTellsRow.laid W) :
    Calls prog 3 args W fun e W' => ∃ v, e = .returned v ∧ Rows.commandTellsSpec.post enc prog f3 false true false false W args v W' := by
  have hW' := hW
  obtain ⟨p, q, hA0, hV, rfl, hfz, hnd⟩ := hW
  have hA : DataW.TrodAll enc prog W 0 (fun _ => true) true f3.params.toList args.toList ds p := hA0
  rw [params3] at hA hval
  obtain ⟨v0, vs0, d0, ds0, p0, q0, hargs, rfl, rfl, ⟨n0, h0⟩, r0⟩ := trodAll_cons hA
  obtain ⟨v1, vs1, d1, ds1, p1, q1, rfl, rfl, rfl, ⟨n1, h1⟩, r1⟩ := trodAll_cons r0
  obtain ⟨v2, vs2, d2, ds2, p2, q2, rfl, rfl, rfl, ⟨n2, h2⟩, r2⟩ := trodAll_cons r1
  obtain ⟨rfl, rfl, rfl⟩ := trodAll_nil r2
  obtain rfl : args = #[v0, v1, v2] := by cases args; simp_all
  obtain ⟨rfl, rfl⟩ := trodVars_none hV
  obtain ⟨e, he⟩ := forms_at hL
  obtain ⟨y0, a0, b0⟩ := rd_cmdE (E := envBox W 0) rfl rfl (envBox_com he) h0
  obtain ⟨y1, a1, b1⟩ := rd_cmdE (E := envBox W 0) rfl rfl (envBox_com he) h1
  obtain ⟨y2, a2, _, b2⟩ := rd_intE (E := envBox W 0) h2
  have hb : Rows.uptoBulkAll [d0, d1, d2] ≤ 1048576 := by
    have h := of_decide_eq_true hk
    rw [List.append_nil] at h
    exact h
  simp only [Rows.uptoBulkAll] at hb
  have k0 : y0.wt + y1.wt ≤ 1048576 := by
    simp only at b0 b1 b2
    omega
  simp only [List.append_nil] at hW'
  have hs := val_struct underlying30 (hval 0 30 v0 rfl rfl) a0
  have hs1 := val_struct underlying30 (hval 1 30 v1 rfl rfl) a1
  have hs2 := val_int underlying3 (hval 2 3 v2 rfl rfl) a2
  refine law_callsG (commandTells_calls y0 y1 y2 (by rw [boxStore_box, formsL_cells]) k0) he ?_ laid rowed fulls rfl underlying4 (by rw [params3]; decide +kernel) rfl ⟨rfl, rfl, rfl⟩ hW'
  simp only [RL, and_true]
  exact ⟨hs, hs1, hs2⟩
def zeroCmdV : Value := .agg #[.int .i64 0, .int .i64 0, .string ⟨#[]⟩, .int .i64 0, .slice none 0 0, .slice none 0 0, .int .i64 0, .int .i64 0, .int .i64 0, .string ⟨#[]⟩, .slice none 0 0, .slice none 0 0, .int .i64 0, .int .i64 0, .string ⟨#[]⟩, .slice none 0 0, .slice none 0 0]
theorem laid_met4 (os : Os) : laidMet prog Rows.commandTellsRow.laid ((laidWorld os).forCall (fun _ _ => 0) ⟨#[], #[zeroCmdV, zeroCmdV, .int .i64 0], []⟩).memory :=
  laidMet_of_run' 8 (by kernel_rfl) (by kernel_rfl)
theorem reads4 (os : Os) {H : Type} (enc : TypeId × Value → H) : ∃ places, DataW.whole enc prog ((laidWorld os).forCall (fun _ _ => 0) ⟨#[], #[zeroCmdV, zeroCmdV, .int .i64 0], []⟩).memory f3.params.toList Rows.commandTellsSpec.vars false #[zeroCmdV, zeroCmdV, .int .i64 0].toList 8 = some ([.agg [.lit (.int .i64 0), .lit (.int .i64 0), .agg [.lit (.string []), .lit (.int .i64 0)], .nil, .nil, .lit (.int .i64 0), .agg [.lit (.int .i64 0), .lit (.int .i64 0), .lit (.string []), .nil, .nil], .agg [.lit (.int .i64 0), .lit (.int .i64 0), .lit (.string []), .nil, .nil]], .agg [.lit (.int .i64 0), .lit (.int .i64 0), .agg [.lit (.string []), .lit (.int .i64 0)], .nil, .nil, .lit (.int .i64 0), .agg [.lit (.int .i64 0), .lit (.int .i64 0), .lit (.string []), .nil, .nil], .agg [.lit (.int .i64 0), .lit (.int .i64 0), .lit (.string []), .nil, .nil]], .lit (.int .i64 0)], [], places) :=
  ⟨[], by kernel_rfl⟩
set_option maxRecDepth 100000 in
theorem commandTells_lifted (os : Os) (started : os.Started) (H : Type) (enc : TypeId × Value → H) (F : Stop.Interp) :
    ReturnsInHanded {} checked os 3 .any ((Rows.OpenSpec.upto Rows.commandTellsSpec).preRow enc prog f3 Rows.commandTellsUptoRow.domain false Rows.commandTellsUptoRow.laid) (((Rows.OpenSpec.upto Rows.commandTellsSpec).at F).post enc prog f3 false true false false) := by
  obtain ⟨places, hx⟩   := reads4 os enc
  refine returnsInHanded_of_row (C := checked) (s := Rows.OpenSpec.upto Rows.commandTellsSpec) own started (by kernel_rfl) func3
    (witness_row_at (enc := enc) (C := checked) false (laidWorld os) #[zeroCmdV, zeroCmdV, .int .i64 0] rfl (by kernel_rfl) (by kernel_rfl) (by kernel_rfl)
      (OpenSpec.preRow_of_cond 8 hx (by kernel_rfl) (fun k hk => by cases hk; kernel_rfl) (by kernel_rfl) (laid_met4 os))) ?_
  intro W base args ds gs before hval hW _ hcond _ hL _ _
  exact commandTells_contract H enc W base args ds gs before hval hW (hcond _ rfl) hL
theorem commandTells_proved : Rows.CommandTellsUptoSaid :=
  OpenClaim.holds_of_cond 3 f3 rfl rfl rfl rfl rfl rfl rfl ⟨rfl, rfl, rfl, rfl, rfl⟩ rfl rfl rfl rfl rfl (by kernel_rfl) func3 (by kernel_rfl)
    (of_decide_eq_true (by kernel_rfl)) (by unfold Func.isWrapper; first | (rw [if_pos (by decide +kernel)]; kernel_rfl) | (rw [if_neg (by decide +kernel)]; exact ⟨rfl, rfl⟩))
    (fun os started H enc _ F => by rw [OpenClaim.pre_eq_preRow]; exact commandTells_lifted os started H enc F)
theorem commandTells_plain (f : FuncId) (fn : Func) (hf : YthncngbmelgmaaaGreatDoor.Tryz.pinned.checked.prog.funcNamed "clearance/clearancelaw12.CommandTells" = some f) (hfn : YthncngbmelgmaaaGreatDoor.Tryz.pinned.checked.prog.funcs[f]? = some fn) :
    false = YthncngbmelgmaaaGreatDoor.Tryz.pinned.checked.prog.looks [] ∧ ∀ (j : Nat) t, fn.params[j]? = some t → YthncngbmelgmaaaGreatDoor.Tryz.pinned.checked.prog.wantsStandIn t = false := by
  obtain rfl : f = 3 := Option.some.inj ((show prog.funcNamed "clearance/clearancelaw12.CommandTells" = some 3 by kernel_rfl).symm.trans hf) |>.symm
  obtain rfl : fn = f3 := (Option.some.inj (func3.symm.trans hfn)).symm
  refine ⟨by kernel_rfl, fun j t ht => ?_⟩
  rw [params3] at ht
  have h : t = 30 ∨ t = 30 ∨ t = 3 := by simpa using Array.mem_of_getElem? ht
  rcases h with rfl | rfl | rfl
  · exact (show prog.wantsStandIn 30 = false by kernel_rfl)
  · exact (show prog.wantsStandIn 30 = false by kernel_rfl)
  · exact (show prog.wantsStandIn 3 = false by kernel_rfl)
theorem commandTells_card : Rows.CommandTellsUptoCardSaid :=
  Claim7.holds_tied_plain_at .later [] _ _ _ _ commandTells_proved (fun _ h => by cases h) (by kernel_rfl) (fun _ h => by cases h) commandTellsUpto_row_tie rfl ⟨rfl, rfl⟩ (by kernel_rfl) rfl commandTells_plain (by kernel_rfl)
end Go.Proofs.Tryz

namespace Go.Proofs.YthncngbmelgmaaaGreatDoor
/-- For every two commands and every number, all of bulk at most 1048576: text, sameness, rightness and word are as the document's answer tells (CommandTells); a tied card: the variable clearance/command.forms is tied to the copy of the project that the seat holds. -/
theorem commandTells_card_holds : Rows.CommandTellsUptoCardSaid := Go.Proofs.Tryz.commandTells_card
end Go.Proofs.YthncngbmelgmaaaGreatDoor
