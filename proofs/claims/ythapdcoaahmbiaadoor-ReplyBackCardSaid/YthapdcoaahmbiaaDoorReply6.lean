/-
  Part 6 of the proof of Reply: a logic over the model, the forms of the functions that the law reaches, and what they compute.
-/
import Derived.Test.YthapdcoaahmbiaaDoorProg
import Derived.ProofKit
import Derived.OpenShut
import Derived.JoinedCond
import Derived.ChangeStays
import Derived.ReadAgain
import Derived.Deep.DeepHandedRow
import Derived.Lib.LaidTab
import Derived.Stop.LaidErr
import Derived.Test.YthapdcoaahmbiaaDoorCards
import Derived.Test.YthapdcoaahmbiaaDoorTie
import Derived.Test.YthapdcoaahmbiaaDoorReply5
set_option linter.unusedVariables false
set_option linter.unusedSimpArgs false
set_option linter.defProp false
set_option linter.unusedSectionVars false

namespace Go.Proofs.Tryd
open Go.Am
set_option maxRecDepth 4000
set_option maxHeartbeats 4000000
def ac37 : AC := .seq (.reg [xi 2 0])
 (.seq (.reg [xi 3 0])
 (.seq (.seq (.reg [xm 5 0, xT 6 5, xB .lss 7 6 1, xm 8 7, xh 8 (xm 9 0), xh 8 (xT 10 9), xh 8 (xB .gtr 11 10 18), ⟨(some 12), .pick (.s 8) (.c (.bool true)) (.s 11), none⟩, xm 13 12, xh 13 (xm 14 0), ⟨(some 15), .idxS (.s 14) (.c (.int .i64 0)), (some (13, false))⟩, xh 13 (xu .eql 16 15 48), xh 13 (xm 17 16), xg 17 (xm 18 0), xg 17 (xT 19 18), xg 17 (xB .gtr 20 19 1), ⟨(some 21), .pick (.s 17) (.s 20) (.c (.bool false)), (some (13, false))⟩, ⟨(some 22), .pick (.s 13) (.c (.bool true)) (.s 21), none⟩])
 (.cond (.s 22) (.seq (.reg [xi 2 (-1)])
 (.ret))
 (.skip)))
 (.seq (.seq (.reg [xi 4 0])
 (.block 0 (.loop (.seq (.seq (.reg [xm 23 4, xm 24 0, xT 25 24, xb .lss 26 23 25])
 (.cond (.s 26) (.skip)
 (.exit 0)))
 (.seq (.block 1 (.seq (.seq (.reg [xm 29 0, xm 30 4, xS 31 29 30, xu .lss 32 31 48, xm 33 32, xh 33 (xm 34 0), xh 33 (xm 35 4), xh 33 (xS 36 34 35), xh 33 (xu .gtr 37 36 57), ⟨(some 38), .pick (.s 33) (.c (.bool true)) (.s 37), none⟩])
 (.cond (.s 38) (.seq (.reg [xi 2 (-1)])
 (.ret))
 (.skip)))
 (.reg [xm 39 3, xB .mul 40 39 10, xm 41 0, xm 42 4, xS 43 41 42, xu .sub 44 43 48, ⟨(some 45), .cvI .i64 (.s 44), none⟩, xb .add 46 40 45, xm 3 46])))
 (.reg [xm 27 4, xB .add 28 27 1, xm 4 28]))))))
 (.seq (.reg [xm 47 3, xm 2 47])
 (.ret)))))
theorem fn37 : IsFn prog 37 ac37 [.tmp 2] 48 := ⟨f37, ⟨[], []⟩, func37, by kernel_rfl, by kernel_rfl, by kernel_rfl, by kernel_rfl⟩
def ac43 : AC := .seq (.reg [xi 2 0, ⟨(some 3), .mv (.c (.bool false)), none⟩])
 (.seq (.seq (.reg [xm 6 0, xT 7 6, xB .lss 8 7 1, xm 9 8, xh 9 (xm 10 0), xh 9 (xT 11 10), xh 9 (xB .gtr 12 11 18), ⟨(some 13), .pick (.s 9) (.c (.bool true)) (.s 12), none⟩, xm 14 13, xh 14 (xm 15 0), ⟨(some 16), .idxS (.s 15) (.c (.int .i64 0)), (some (14, false))⟩, xh 14 (xu .eql 17 16 48), xh 14 (xm 18 17), xg 18 (xm 19 0), xg 18 (xT 20 19), xg 18 (xB .gtr 21 20 1), ⟨(some 22), .pick (.s 18) (.s 21) (.c (.bool false)), (some (14, false))⟩, ⟨(some 23), .pick (.s 14) (.c (.bool true)) (.s 22), none⟩])
 (.cond (.s 23) (.seq (.reg [xi 2 0, ⟨(some 3), .mv (.c (.bool false)), none⟩])
 (.ret))
 (.skip)))
 (.seq (.reg [xi 4 0])
 (.seq (.seq (.reg [xm 24 0, xT 25 24, xi 26 0])
 (.block 0 (.loop (.seq (.reg [xb .lss 27 26 25])
 (.seq (.cond (.s 27) (.skip)
 (.exit 0))
 (.seq (.block 1 (.seq (.reg [xm 28 26, xm 5 28])
 (.seq (.seq (.reg [xm 29 0, xm 30 5, xS 31 29 30, xu .lss 32 31 48, xm 33 32, xh 33 (xm 34 0), xh 33 (xm 35 5), xh 33 (xS 36 34 35), xh 33 (xu .gtr 37 36 57), ⟨(some 38), .pick (.s 33) (.c (.bool true)) (.s 37), none⟩])
 (.cond (.s 38) (.seq (.reg [xi 2 0, ⟨(some 3), .mv (.c (.bool false)), none⟩])
 (.ret))
 (.skip)))
 (.reg [xm 39 4, xB .mul 40 39 10, xm 41 0, xm 42 5, xS 43 41 42, xu .sub 44 43 48, ⟨(some 45), .cvI .i64 (.s 44), none⟩, xb .add 46 40 45, xm 4 46]))))
 (.reg [xB .add 47 26 1, xm 26 47])))))))
 (.seq (.reg [xm 48 4, xm 2 48, ⟨(some 3), .mv (.c (.bool true)), none⟩])
 (.ret)))))
theorem fn43 : IsFn prog 43 ac43 [.tmp 2, .tmp 3] 49 := ⟨f43, ⟨[], []⟩, func43, by kernel_rfl, by kernel_rfl, by kernel_rfl, by kernel_rfl⟩
theorem valD_take {s : List UInt8} {i : Nat} (h : i < s.length) : valD (s.take (i + 1)) = valD (s.take i) * 10 + (s[i].toNat - 48) := by
  rw [List.take_succ_eq_append_getElem h, valD_snoc]
theorem all_take {s : List UInt8} {i : Nat} (h : i < s.length) (h1 : (s.take i).all isD = true) (h2 : isD s[i] = true) : (s.take (i + 1)).all isD = true := by
  rw [List.take_succ_eq_append_getElem h, List.all_append, h1, List.all_cons, h2]; rfl
theorem valD_lt (s : List UInt8) : s.all isD = true → valD s < 10 ^ s.length := by
  refine snoc_ind (p := fun s => s.all isD = true → valD s < 10 ^ s.length) (fun _ => by simp [valD]) (fun l x ih h => ?_) s
  simp only [List.all_append, List.all_cons, List.all_nil, Bool.and_true, Bool.and_eq_true, isD, decide_eq_true_eq] at h
  have := ih h.1
  rw [valD_snoc, List.length_append, List.length_singleton, Nat.pow_succ]
  omega
structure FD (s : List UInt8) where
  i : Nat
  le : i ≤ s.length
  dig : (s.take i).all isD = true
def nOut (s : List UInt8) : V := .tup [.int .i64 ((numR s).getD 0 : Nat), .bool (numR s).isSome]
def invD (s : List UInt8) (i : Nat) (σ : Store) : St :=
  ⟨[.str s, .any, .int .i64 0, .bool false, .int .i64 (valD (s.take i) : Nat), .any] ++ List.replicate 19 .any ++ [.int .i64 (s.length : Nat), .int .i64 (i : Nat)] ++ List.replicate 22 .any, [], σ⟩
theorem num_calls (s : List UInt8) (σ : Store) (hl : s.length ≤ 5000) : PCalls prog 43 [.str s] σ fun v σ' => v = nOut s ∧ σ' = σ := by
  have hR : nOut s = .tup [.int .i64 ((numR s).getD 0 : Nat), .bool (numR s).isSome] := rfl
  generalize nOut s = R at hR ⊢
  have hN : numR s = if s.length < 1 ∨ 18 < s.length ∨ (s.head? = some 48 ∧ 1 < s.length) then none else if s.all isD = true then some (valD s) else none := rfl
  refine fn43.calls ?_
  simp only [slots, ac43, am, ams, amo]
  by_cases h1 : s.length < 1
  · rw [if_pos (.inl h1)] at hN
    simp only [am, amo, amc, Nat.reduceAdd, Nat.reduceEqDiff, encs_length, List.length_map, decide_true, decide_false, Int.reduceEq, Int.reduceLT, Int.reduceLE, Nat.reduceLT, Int.reduceToNat, Nat.reduceMul, Int.reduceMul, Int.reduceAdd, Int.reduceSub, if_false, reduceCtorEq, iCells_len, decide_eq_true (show (s.length : Int) < 1 by omega)]
    refine retK_intro rfl (Store.sub_refl _) ⟨?_, rfl⟩
    simp [V.erase, eraseL, hR, hN]
  by_cases h18 : 18 < s.length
  · rw [if_pos (.inr (.inl h18))] at hN
    simp only [am, amo, amc, Nat.reduceAdd, Nat.reduceEqDiff, encs_length, List.length_map, decide_true, decide_false, Int.reduceEq, Int.reduceLT, Int.reduceLE, Nat.reduceLT, Int.reduceToNat, Nat.reduceMul, Int.reduceMul, Int.reduceAdd, Int.reduceSub, if_false, reduceCtorEq, iCells_len, decide_eq_false (show ¬ (s.length : Int) < 1 by omega), decide_eq_true (show (18 : Int) < s.length by omega)]
    refine retK_intro rfl (Store.sub_refl _) ⟨?_, rfl⟩
    simp [V.erase, eraseL, hR, hN]
  simp only [am, amo, amc, Nat.reduceAdd, Nat.reduceEqDiff, encs_length, List.length_map, decide_true, decide_false, Int.reduceEq, Int.reduceLT, Int.reduceLE, Nat.reduceLT, Int.reduceToNat, Nat.reduceMul, Int.reduceMul, Int.reduceAdd, Int.reduceSub, if_false, reduceCtorEq, iCells_len, decide_eq_false (show ¬ (s.length : Int) < 1 by omega), decide_eq_false (show ¬ (18 : Int) < s.length by omega)]
  obtain ⟨c, hc⟩ : ∃ c, s.head? = some c := by
    cases s with
    | nil => simp at h1
    | cons c s' => exact ⟨c, rfl⟩
  have hc0 : s[(0 : Int).toNat]? = some c := by rw [← hc, List.head?_eq_getElem?]; rfl
  refine idxSL_intro (n := 0) (c := c) (by omega) hc0 ?_
  simp only [am, amo, amc, Nat.reduceAdd, Nat.reduceEqDiff, encs_length, List.length_map, decide_true, decide_false, Int.reduceEq, Int.reduceLT, Int.reduceLE, Nat.reduceLT, Int.reduceToNat, Nat.reduceMul, Int.reduceMul, Int.reduceAdd, Int.reduceSub, if_false, reduceCtorEq, iCells_len]
  by_cases hz : c = 48
  case' pos =>
    subst hz
    rw [decide_eq_true (show (((48 : UInt8).toNat : Nat) : Int) = 48 from rfl)]
    simp only [am, amo, amc, Nat.reduceAdd, Nat.reduceEqDiff, encs_length, List.length_map, decide_true, decide_false, Int.reduceEq, Int.reduceLT, Int.reduceLE, Nat.reduceLT, Int.reduceToNat, Nat.reduceMul, Int.reduceMul, Int.reduceAdd, Int.reduceSub, if_false, reduceCtorEq, iCells_len]
    by_cases hz1 : 1 < s.length
    case' pos =>
      rw [if_pos (.inr (.inr ⟨hc, hz1⟩))] at hN
      simp only [am, amo, amc, Nat.reduceAdd, Nat.reduceEqDiff, encs_length, List.length_map, decide_true, decide_false, Int.reduceEq, Int.reduceLT, Int.reduceLE, Nat.reduceLT, Int.reduceToNat, Nat.reduceMul, Int.reduceMul, Int.reduceAdd, Int.reduceSub, if_false, reduceCtorEq, iCells_len, decide_eq_true (show (1 : Int) < s.length by omega)]
      refine retK_intro rfl (Store.sub_refl _) ⟨?_, rfl⟩
      simp [V.erase, eraseL, hR, hN]
    case' neg =>
      rw [if_neg (by simp only [not_or, not_and]; exact ⟨h1, h18, fun _ => hz1⟩)] at hN
      simp only [am, amo, amc, Nat.reduceAdd, Nat.reduceEqDiff, encs_length, List.length_map, decide_true, decide_false, Int.reduceEq, Int.reduceLT, Int.reduceLE, Nat.reduceLT, Int.reduceToNat, Nat.reduceMul, Int.reduceMul, Int.reduceAdd, Int.reduceSub, if_false, reduceCtorEq, iCells_len, decide_eq_false (show ¬ (1 : Int) < s.length by omega)]
  case' neg =>
    rw [if_neg (by simp only [not_or, not_and]; exact ⟨h1, h18, fun e => absurd (Option.some.inj (hc.symm.trans e)) hz⟩)] at hN
    rw [decide_eq_false (show ¬ ((c.toNat : Nat) : Int) = 48 from fun e => hz (UInt8.toNat_inj.1 (by simpa using Int.ofNat_inj.1 e)))]
    simp only [am, amo, amc, Nat.reduceAdd, Nat.reduceEqDiff, encs_length, List.length_map, decide_true, decide_false, Int.reduceEq, Int.reduceLT, Int.reduceLE, Nat.reduceLT, Int.reduceToNat, Nat.reduceMul, Int.reduceMul, Int.reduceAdd, Int.reduceSub, if_false, reduceCtorEq, iCells_len]
  all_goals
    clear hc hc0
    refine vc_loop (fun p : FD s => invD s p.i σ) (fun p => s.length - p.i) ?_ ?_
    · refine Upd.enter ⟨0, by simp, by simp⟩ ?_ LLLe.rfl OLe.rfl
      simp [invD, List.replicate, am, amo, valD]
    · rintro ⟨i, hle, hdig⟩
      simp only [invD, List.replicate, am, amo]
      by_cases hlt : i < s.length
      · have hv := valD_lt _ hdig
        have hv18 : 10 ^ (s.take i).length ≤ 10 ^ 17 := Nat.pow_le_pow_right (by decide) (by rw [List.length_take]; omega)
        have hat : s[((i : Nat) : Int).toNat]? = some s[i] := by rw [Int.toNat_natCast]; exact List.getElem?_eq_getElem hlt
        have hall : isD s[i] = false → s.all isD = false := fun h => by
          rw [List.all_eq_false]; exact ⟨s[i], List.getElem_mem _, by simp [h]⟩
        have hstep := valD_take hlt
        have hal := all_take hlt hdig
        have hb : s[i].toNat < 256 := s[i].toNat_lt
        generalize s[i] = x at hat hall hstep hal hb
        rw [decide_eq_true (show (i : Int) < s.length by omega)]
        simp only [am, amo, amc, Nat.reduceAdd, Nat.reduceEqDiff, encs_length, List.length_map, decide_true, decide_false, Int.reduceEq, Int.reduceLT, Int.reduceLE, Nat.reduceLT, Int.reduceToNat, Nat.reduceMul, Int.reduceMul, Int.reduceAdd, Int.reduceSub, if_false, reduceCtorEq, iCells_len]
        refine idxSL_intro (by omega) hat ?_
        simp only [am, amo, amc, Nat.reduceAdd, Nat.reduceEqDiff, encs_length, List.length_map, decide_true, decide_false, Int.reduceEq, Int.reduceLT, Int.reduceLE, Nat.reduceLT, Int.reduceToNat, Nat.reduceMul, Int.reduceMul, Int.reduceAdd, Int.reduceSub, if_false, reduceCtorEq, iCells_len]
        by_cases x1 : x.toNat < 48
        · rw [if_neg (by rw [hall (by simp [isD]; omega)]; simp)] at hN
          rw [decide_eq_true (show ((x.toNat : Nat) : Int) < 48 by omega)]
          simp only [am, amo, amc, Nat.reduceAdd, Nat.reduceEqDiff, encs_length, List.length_map, decide_true, decide_false, Int.reduceEq, Int.reduceLT, Int.reduceLE, Nat.reduceLT, Int.reduceToNat, Nat.reduceMul, Int.reduceMul, Int.reduceAdd, Int.reduceSub, if_false, reduceCtorEq, iCells_len]
          refine retK_intro rfl (Store.sub_refl _) ⟨?_, rfl⟩
          simp [V.erase, eraseL, hR, hN]
        rw [decide_eq_false (show ¬ ((x.toNat : Nat) : Int) < 48 by omega)]
        simp only [am, amo, amc, Nat.reduceAdd, Nat.reduceEqDiff, encs_length, List.length_map, decide_true, decide_false, Int.reduceEq, Int.reduceLT, Int.reduceLE, Nat.reduceLT, Int.reduceToNat, Nat.reduceMul, Int.reduceMul, Int.reduceAdd, Int.reduceSub, if_false, reduceCtorEq, iCells_len]
        refine idxSL_intro (by omega) hat ?_
        simp only [am, amo, amc, Nat.reduceAdd, Nat.reduceEqDiff, encs_length, List.length_map, decide_true, decide_false, Int.reduceEq, Int.reduceLT, Int.reduceLE, Nat.reduceLT, Int.reduceToNat, Nat.reduceMul, Int.reduceMul, Int.reduceAdd, Int.reduceSub, if_false, reduceCtorEq, iCells_len]
        by_cases x2 : 57 < x.toNat
        · rw [if_neg (by rw [hall (by simp [isD]; omega)]; simp)] at hN
          rw [decide_eq_true (show (57 : Int) < ((x.toNat : Nat) : Int) by omega)]
          simp only [am, amo, amc, Nat.reduceAdd, Nat.reduceEqDiff, encs_length, List.length_map, decide_true, decide_false, Int.reduceEq, Int.reduceLT, Int.reduceLE, Nat.reduceLT, Int.reduceToNat, Nat.reduceMul, Int.reduceMul, Int.reduceAdd, Int.reduceSub, if_false, reduceCtorEq, iCells_len]
          refine retK_intro rfl (Store.sub_refl _) ⟨?_, rfl⟩
          simp [V.erase, eraseL, hR, hN]
        rw [decide_eq_false (show ¬ (57 : Int) < ((x.toNat : Nat) : Int) by omega)]
        simp only [am, amo, amc, Nat.reduceAdd, Nat.reduceEqDiff, encs_length, List.length_map, decide_true, decide_false, Int.reduceEq, Int.reduceLT, Int.reduceLE, Nat.reduceLT, Int.reduceToNat, Nat.reduceMul, Int.reduceMul, Int.reduceAdd, Int.reduceSub, if_false, reduceCtorEq, iCells_len]
        refine idxSL_intro (by omega) hat ?_
        simp only [am, amo, amc, Nat.reduceAdd, Nat.reduceEqDiff, encs_length, List.length_map, decide_true, decide_false, Int.reduceEq, Int.reduceLT, Int.reduceLE, Nat.reduceLT, Int.reduceToNat, Nat.reduceMul, Int.reduceMul, Int.reduceAdd, Int.reduceSub, if_false, reduceCtorEq, iCells_len, ami]
        have e : IntKind.i64.wrap (IntKind.i64.wrap ((valD (s.take i) : Nat) * 10) + IntKind.i64.wrap (IntKind.u8.wrap (((x.toNat : Nat) : Int) - 48))) = ((valD (s.take (i + 1)) : Nat) : Int) := by
          rw [hstep, wrap_u8 (by omega) (by omega), wrap_i64 (x := (valD (s.take i) : Nat) * 10) (by omega) (by omega), wrap_i64 (x := ((x.toNat : Nat) : Int) - 48) (by omega) (by omega), wrap_i64 (by omega) (by omega)]; omega
        rw [e, wrap_i64 (x := (i : Int) + 1) (by omega) (by omega)]
        refine Upd.again (I := fun p : FD s => invD s p.i σ) (μ := fun p : FD s => s.length - p.i) ⟨i + 1, hlt, hal (by simp [isD]; omega)⟩ (by simp only; omega) ?_ LLLe.rfl OLe.rfl
        simp [invD, List.replicate, am]
      · have hge : i = s.length := by omega
        rw [hge, List.take_length] at hdig
        rw [if_pos hdig] at hN
        rw [hge, List.take_length, decide_eq_false (by omega)]
        simp only [am, amo, amc, Nat.reduceAdd, Nat.reduceEqDiff, encs_length, List.length_map, decide_true, decide_false, Int.reduceEq, Int.reduceLT, Int.reduceLE, Nat.reduceLT, Int.reduceToNat, Nat.reduceMul, Int.reduceMul, Int.reduceAdd, Int.reduceSub, if_false, reduceCtorEq, iCells_len]
        refine retK_intro rfl (Store.sub_refl _) ⟨?_, rfl⟩
        simp [V.erase, eraseL, hR, hN]
def invD2 (s : List UInt8) (i : Nat) (σ : Store) : St :=
  ⟨[.str s, .any, .int .i64 0, .int .i64 (valD (s.take i) : Nat), .int .i64 (i : Nat)] ++ List.replicate 43 .any, [], σ⟩
theorem value_calls (s : List UInt8) (σ : Store) (hl : s.length ≤ 5000) : PCalls prog 37 [.str s] σ fun v σ' => v = .int .i64 (valZ s) ∧ σ' = σ := by
  have hR : valZ s = match numR s with | some n => (n : Int) | none => -1 := rfl
  generalize valZ s = R at hR ⊢
  have hN : numR s = if s.length < 1 ∨ 18 < s.length ∨ (s.head? = some 48 ∧ 1 < s.length) then none else if s.all isD = true then some (valD s) else none := rfl
  refine fn37.calls ?_
  simp only [slots, ac37, am, ams, amo]
  by_cases h1 : s.length < 1
  · rw [if_pos (.inl h1)] at hN
    simp only [am, amo, amc, Nat.reduceAdd, Nat.reduceEqDiff, encs_length, List.length_map, decide_true, decide_false, Int.reduceEq, Int.reduceLT, Int.reduceLE, Nat.reduceLT, Int.reduceToNat, Nat.reduceMul, Int.reduceMul, Int.reduceAdd, Int.reduceSub, if_false, reduceCtorEq, iCells_len, decide_eq_true (show (s.length : Int) < 1 by omega)]
    refine retK_intro rfl (Store.sub_refl _) ⟨?_, rfl⟩
    simp [V.erase, eraseL, hR, hN]
  by_cases h18 : 18 < s.length
  · rw [if_pos (.inr (.inl h18))] at hN
    simp only [am, amo, amc, Nat.reduceAdd, Nat.reduceEqDiff, encs_length, List.length_map, decide_true, decide_false, Int.reduceEq, Int.reduceLT, Int.reduceLE, Nat.reduceLT, Int.reduceToNat, Nat.reduceMul, Int.reduceMul, Int.reduceAdd, Int.reduceSub, if_false, reduceCtorEq, iCells_len, decide_eq_false (show ¬ (s.length : Int) < 1 by omega), decide_eq_true (show (18 : Int) < s.length by omega)]
    refine retK_intro rfl (Store.sub_refl _) ⟨?_, rfl⟩
    simp [V.erase, eraseL, hR, hN]
  simp only [am, amo, amc, Nat.reduceAdd, Nat.reduceEqDiff, encs_length, List.length_map, decide_true, decide_false, Int.reduceEq, Int.reduceLT, Int.reduceLE, Nat.reduceLT, Int.reduceToNat, Nat.reduceMul, Int.reduceMul, Int.reduceAdd, Int.reduceSub, if_false, reduceCtorEq, iCells_len, decide_eq_false (show ¬ (s.length : Int) < 1 by omega), decide_eq_false (show ¬ (18 : Int) < s.length by omega)]
  obtain ⟨c, hc⟩ : ∃ c, s.head? = some c := by
    cases s with
    | nil => simp at h1
    | cons c s' => exact ⟨c, rfl⟩
  have hc0 : s[(0 : Int).toNat]? = some c := by rw [← hc, List.head?_eq_getElem?]; rfl
  refine idxSL_intro (n := 0) (c := c) (by omega) hc0 ?_
  simp only [am, amo, amc, Nat.reduceAdd, Nat.reduceEqDiff, encs_length, List.length_map, decide_true, decide_false, Int.reduceEq, Int.reduceLT, Int.reduceLE, Nat.reduceLT, Int.reduceToNat, Nat.reduceMul, Int.reduceMul, Int.reduceAdd, Int.reduceSub, if_false, reduceCtorEq, iCells_len]
  by_cases hz : c = 48
  case' pos =>
    subst hz
    rw [decide_eq_true (show (((48 : UInt8).toNat : Nat) : Int) = 48 from rfl)]
    simp only [am, amo, amc, Nat.reduceAdd, Nat.reduceEqDiff, encs_length, List.length_map, decide_true, decide_false, Int.reduceEq, Int.reduceLT, Int.reduceLE, Nat.reduceLT, Int.reduceToNat, Nat.reduceMul, Int.reduceMul, Int.reduceAdd, Int.reduceSub, if_false, reduceCtorEq, iCells_len]
    by_cases hz1 : 1 < s.length
    case' pos =>
      rw [if_pos (.inr (.inr ⟨hc, hz1⟩))] at hN
      simp only [am, amo, amc, Nat.reduceAdd, Nat.reduceEqDiff, encs_length, List.length_map, decide_true, decide_false, Int.reduceEq, Int.reduceLT, Int.reduceLE, Nat.reduceLT, Int.reduceToNat, Nat.reduceMul, Int.reduceMul, Int.reduceAdd, Int.reduceSub, if_false, reduceCtorEq, iCells_len, decide_eq_true (show (1 : Int) < s.length by omega)]
      refine retK_intro rfl (Store.sub_refl _) ⟨?_, rfl⟩
      simp [V.erase, eraseL, hR, hN]
    case' neg =>
      rw [if_neg (by simp only [not_or, not_and]; exact ⟨h1, h18, fun _ => hz1⟩)] at hN
      simp only [am, amo, amc, Nat.reduceAdd, Nat.reduceEqDiff, encs_length, List.length_map, decide_true, decide_false, Int.reduceEq, Int.reduceLT, Int.reduceLE, Nat.reduceLT, Int.reduceToNat, Nat.reduceMul, Int.reduceMul, Int.reduceAdd, Int.reduceSub, if_false, reduceCtorEq, iCells_len, decide_eq_false (show ¬ (1 : Int) < s.length by omega)]
  case' neg =>
    rw [if_neg (by simp only [not_or, not_and]; exact ⟨h1, h18, fun e => absurd (Option.some.inj (hc.symm.trans e)) hz⟩)] at hN
    rw [decide_eq_false (show ¬ ((c.toNat : Nat) : Int) = 48 from fun e => hz (UInt8.toNat_inj.1 (by simpa using Int.ofNat_inj.1 e)))]
    simp only [am, amo, amc, Nat.reduceAdd, Nat.reduceEqDiff, encs_length, List.length_map, decide_true, decide_false, Int.reduceEq, Int.reduceLT, Int.reduceLE, Nat.reduceLT, Int.reduceToNat, Nat.reduceMul, Int.reduceMul, Int.reduceAdd, Int.reduceSub, if_false, reduceCtorEq, iCells_len]
  all_goals
    clear hc hc0
    refine vc_loop (fun p : FD s => invD2 s p.i σ) (fun p => s.length - p.i) ?_ ?_
    · refine Upd.enter ⟨0, by simp, by simp⟩ ?_ LLLe.rfl OLe.rfl
      simp [invD2, List.replicate, am, amo, valD]
    · rintro ⟨i, hle, hdig⟩
      simp only [invD2, List.replicate, am, amo]
      by_cases hlt : i < s.length
      · have hv := valD_lt _ hdig
        have hv18 : 10 ^ (s.take i).length ≤ 10 ^ 17 := Nat.pow_le_pow_right (by decide) (by rw [List.length_take]; omega)
        have hat : s[((i : Nat) : Int).toNat]? = some s[i] := by rw [Int.toNat_natCast]; exact List.getElem?_eq_getElem hlt
        have hall : isD s[i] = false → s.all isD = false := fun h => by
          rw [List.all_eq_false]; exact ⟨s[i], List.getElem_mem _, by simp [h]⟩
        have hstep := valD_take hlt
        have hal := all_take hlt hdig
        have hb : s[i].toNat < 256 := s[i].toNat_lt
        generalize s[i] = x at hat hall hstep hal hb
        rw [decide_eq_true (show (i : Int) < s.length by omega)]
        simp only [am, amo, amc, Nat.reduceAdd, Nat.reduceEqDiff, encs_length, List.length_map, decide_true, decide_false, Int.reduceEq, Int.reduceLT, Int.reduceLE, Nat.reduceLT, Int.reduceToNat, Nat.reduceMul, Int.reduceMul, Int.reduceAdd, Int.reduceSub, if_false, reduceCtorEq, iCells_len]
        refine idxSL_intro (by omega) hat ?_
        simp only [am, amo, amc, Nat.reduceAdd, Nat.reduceEqDiff, encs_length, List.length_map, decide_true, decide_false, Int.reduceEq, Int.reduceLT, Int.reduceLE, Nat.reduceLT, Int.reduceToNat, Nat.reduceMul, Int.reduceMul, Int.reduceAdd, Int.reduceSub, if_false, reduceCtorEq, iCells_len]
        by_cases x1 : x.toNat < 48
        · rw [if_neg (by rw [hall (by simp [isD]; omega)]; simp)] at hN
          rw [decide_eq_true (show ((x.toNat : Nat) : Int) < 48 by omega)]
          simp only [am, amo, amc, Nat.reduceAdd, Nat.reduceEqDiff, encs_length, List.length_map, decide_true, decide_false, Int.reduceEq, Int.reduceLT, Int.reduceLE, Nat.reduceLT, Int.reduceToNat, Nat.reduceMul, Int.reduceMul, Int.reduceAdd, Int.reduceSub, if_false, reduceCtorEq, iCells_len]
          refine retK_intro rfl (Store.sub_refl _) ⟨?_, rfl⟩
          simp [V.erase, eraseL, hR, hN]
        rw [decide_eq_false (show ¬ ((x.toNat : Nat) : Int) < 48 by omega)]
        simp only [am, amo, amc, Nat.reduceAdd, Nat.reduceEqDiff, encs_length, List.length_map, decide_true, decide_false, Int.reduceEq, Int.reduceLT, Int.reduceLE, Nat.reduceLT, Int.reduceToNat, Nat.reduceMul, Int.reduceMul, Int.reduceAdd, Int.reduceSub, if_false, reduceCtorEq, iCells_len]
        refine idxSL_intro (by omega) hat ?_
        simp only [am, amo, amc, Nat.reduceAdd, Nat.reduceEqDiff, encs_length, List.length_map, decide_true, decide_false, Int.reduceEq, Int.reduceLT, Int.reduceLE, Nat.reduceLT, Int.reduceToNat, Nat.reduceMul, Int.reduceMul, Int.reduceAdd, Int.reduceSub, if_false, reduceCtorEq, iCells_len]
        by_cases x2 : 57 < x.toNat
        · rw [if_neg (by rw [hall (by simp [isD]; omega)]; simp)] at hN
          rw [decide_eq_true (show (57 : Int) < ((x.toNat : Nat) : Int) by omega)]
          simp only [am, amo, amc, Nat.reduceAdd, Nat.reduceEqDiff, encs_length, List.length_map, decide_true, decide_false, Int.reduceEq, Int.reduceLT, Int.reduceLE, Nat.reduceLT, Int.reduceToNat, Nat.reduceMul, Int.reduceMul, Int.reduceAdd, Int.reduceSub, if_false, reduceCtorEq, iCells_len]
          refine retK_intro rfl (Store.sub_refl _) ⟨?_, rfl⟩
          simp [V.erase, eraseL, hR, hN]
        rw [decide_eq_false (show ¬ (57 : Int) < ((x.toNat : Nat) : Int) by omega)]
        simp only [am, amo, amc, Nat.reduceAdd, Nat.reduceEqDiff, encs_length, List.length_map, decide_true, decide_false, Int.reduceEq, Int.reduceLT, Int.reduceLE, Nat.reduceLT, Int.reduceToNat, Nat.reduceMul, Int.reduceMul, Int.reduceAdd, Int.reduceSub, if_false, reduceCtorEq, iCells_len]
        refine idxSL_intro (by omega) hat ?_
        simp only [am, amo, amc, Nat.reduceAdd, Nat.reduceEqDiff, encs_length, List.length_map, decide_true, decide_false, Int.reduceEq, Int.reduceLT, Int.reduceLE, Nat.reduceLT, Int.reduceToNat, Nat.reduceMul, Int.reduceMul, Int.reduceAdd, Int.reduceSub, if_false, reduceCtorEq, iCells_len, ami]
        have e : IntKind.i64.wrap (IntKind.i64.wrap ((valD (s.take i) : Nat) * 10) + IntKind.i64.wrap (IntKind.u8.wrap (((x.toNat : Nat) : Int) - 48))) = ((valD (s.take (i + 1)) : Nat) : Int) := by
          rw [hstep, wrap_u8 (by omega) (by omega), wrap_i64 (x := (valD (s.take i) : Nat) * 10) (by omega) (by omega), wrap_i64 (x := ((x.toNat : Nat) : Int) - 48) (by omega) (by omega), wrap_i64 (by omega) (by omega)]; omega
        rw [e, wrap_i64 (x := (i : Int) + 1) (by omega) (by omega)]
        refine Upd.again (I := fun p : FD s => invD2 s p.i σ) (μ := fun p : FD s => s.length - p.i) ⟨i + 1, hlt, hal (by simp [isD]; omega)⟩ (by simp only; omega) ?_ LLLe.rfl OLe.rfl
        simp [invD2, List.replicate, am]
      · have hge : i = s.length := by omega
        rw [hge, List.take_length] at hdig
        rw [if_pos hdig] at hN
        rw [hge, List.take_length, decide_eq_false (by omega)]
        simp only [am, amo, amc, Nat.reduceAdd, Nat.reduceEqDiff, encs_length, List.length_map, decide_true, decide_false, Int.reduceEq, Int.reduceLT, Int.reduceLE, Nat.reduceLT, Int.reduceToNat, Nat.reduceMul, Int.reduceMul, Int.reduceAdd, Int.reduceSub, if_false, reduceCtorEq, iCells_len]
        refine retK_intro rfl (Store.sub_refl _) ⟨?_, rfl⟩
        simp [V.erase, eraseL, hR, hN]
end Go.Proofs.Tryd

namespace Go.Proofs.Tryd
open Go.Am
set_option maxRecDepth 4000
set_option maxHeartbeats 4000000
def ac33 : AC := .seq (.reg [⟨(some 2), .mv (.c (.sl .full 1 [])), none⟩, ⟨(some 3), .mv (.c (.bool false)), none⟩])
 (.seq (.reg [⟨(some 4), .mv (.c (.sl .full 1 [])), none⟩])
 (.seq (.seq (.reg [xm 9 0, xL 10 9, xi 11 0])
 (.block 0 (.loop (.seq (.reg [xb .lss 12 11 10])
 (.seq (.cond (.s 12) (.skip)
 (.exit 0))
 (.seq (.block 1 (.seq (.reg [xA 1 13 9 11, xo 14 13, xm 6 14])
 (.seq (.reg [xm 16 6, xc 43 17 [.s 16], xm 15 17, xe 18 15 0, xe 19 15 1, xm 7 18, xm 8 19])
 (.seq (.seq (.reg [xm 20 8, ⟨(some 21), .not (.s 20), none⟩])
 (.cond (.s 21) (.seq (.reg [⟨(some 2), .mv (.c (.sl .full 1 [])), none⟩, ⟨(some 3), .mv (.c (.bool false)), none⟩])
 (.ret))
 (.skip)))
 (.reg [xm 22 4, xm 23 7, ⟨(some 24), .bslice 1 [(.s 23)], none⟩, xa 1 25 22 24, xm 4 25])))))
 (.reg [xB .add 26 11 1, xm 11 26])))))))
 (.seq (.reg [xm 27 4, xm 2 27, ⟨(some 3), .mv (.c (.bool true)), none⟩])
 (.ret))))
theorem fn33 : IsFn prog 33 ac33 [.tmp 2, .tmp 3] 28 := ⟨f33, ⟨[], []⟩, func33, by kernel_rfl, by kernel_rfl, by kernel_rfl, by kernel_rfl⟩
def ac36 : AC := .seq (.reg [⟨(some 2), .mv (.c (.sl .full 1 [])), none⟩])
 (.seq (.reg [⟨(some 3), .mv (.c (.sl .full 1 [])), none⟩])
 (.seq (.reg [xi 4 0])
 (.seq (.seq (.reg [xi 5 0])
 (.block 0 (.loop (.seq (.seq (.reg [xm 6 5, xm 7 0, xT 8 7, xb .leq 9 6 8])
 (.cond (.s 9) (.skip)
 (.exit 0)))
 (.seq (.block 1 (.seq (.reg [xm 12 5, xm 13 0, xT 14 13, xb .eql 15 12 14, xm 16 15, xh 16 (xm 17 0), xh 16 (xm 18 5), xh 16 (xS 19 17 18), xh 16 (xu .eql 20 19 32), ⟨(some 21), .pick (.s 16) (.c (.bool true)) (.s 20), none⟩])
 (.cond (.s 21) (.seq (.reg [xm 22 3, xm 23 0, xm 24 4, xm 25 5, ⟨(some 26), .slS (.s 23) (some (.s 24)) (some (.s 25)), none⟩, ⟨(some 27), .bslice 1 [(.s 26)], none⟩, xa 1 28 22 27, xm 3 28])
 (.reg [xm 29 5, xB .add 30 29 1, xm 4 30]))
 (.skip))))
 (.reg [xm 10 5, xB .add 11 10 1, xm 5 11]))))))
 (.seq (.reg [xm 31 3, xm 2 31])
 (.ret)))))
theorem fn36 : IsFn prog 36 ac36 [.tmp 2] 32 := ⟨f36, ⟨[], []⟩, func36, by kernel_rfl, by kernel_rfl, by kernel_rfl, by kernel_rfl⟩
def tCells (ws : List (List UInt8)) : List (List V) := ws.map fun w => [.str w]
theorem tCells_len (ws : List (List UInt8)) : (tCells ws).length = ws.length := by simp [tCells]
theorem tCells_at {l : List (List UInt8)} {j : Nat} (h : j < l.length) : (tCells l)[((j : Nat) : Int).toNat]? = some [.str l[j]] := by simp [tCells, h]
def nsOut (ws : List (List UInt8)) : V := .tup [.sl .no 1 (iCells ((numsR ws).getD [])), .bool (numsR ws).isSome]
structure FW (ws : List (List UInt8)) (σ : Store) where
  acc : List Int
  tk : Tk
  s : Store
  le : acc.length ≤ ws.length
  tok : Toks σ s [(tk, acc.length)]
  res : numsR ws = (numsR (ws.drop acc.length)).map (acc ++ ·)
def invW (ws : List (List UInt8)) (acc : List Int) (tk : Tk) (s : Store) : St :=
  ⟨[.sl .no 1 (tCells ws), .any, .sl .full 1 [], .bool false, .sl tk 1 (iCells acc), .any, .any, .any, .any, .sl .no 1 (tCells ws), .int .i64 (ws.length : Nat), .int .i64 (acc.length : Nat)] ++ List.replicate 16 .any, [], s⟩
theorem nums_calls (ws : List (List UInt8)) (σ : Store) (hl : ws.length ≤ 5002) (hw : ∀ w ∈ ws, w.length ≤ 5000) : PCalls prog 33 [.sl .no 1 (tCells ws)] σ fun v σ' => v = nsOut ws ∧ σ' = σ := by
  have hR : nsOut ws = .tup [.sl .no 1 (iCells ((numsR ws).getD [])), .bool (numsR ws).isSome] := rfl
  generalize nsOut ws = R at hR ⊢
  refine fn33.calls ?_
  simp only [slots, ac33, am, ams, amo]
  simp only [tCells_len]
  refine vc_loop (fun p : FW ws σ => invW ws p.acc p.tk p.s) (fun p => ws.length - p.acc.length) ?_ ?_
  · refine Upd.enter ⟨[], .full, σ, by simp, Toks.init (by simp), by simp⟩ ?_ LLLe.rfl OLe.rfl
    simp [invW, List.replicate, am, amo, iCells]
  · rintro ⟨acc, tk, s, hle, hT, hres⟩
    simp only [invW, List.replicate, am, amo]
    by_cases hlt : acc.length < ws.length
    · rw [List.drop_eq_getElem_cons hlt, numsR] at hres
      rw [decide_eq_true (show (acc.length : Int) < ws.length by omega)]
      simp only [am, amo, amc, Nat.reduceAdd, Nat.reduceEqDiff, encs_length, List.length_map, decide_true, decide_false, Int.reduceEq, Int.reduceLT, Int.reduceLE, Nat.reduceLT, Int.reduceToNat, Nat.reduceMul, Int.reduceMul, Int.reduceAdd, Int.reduceSub, if_false, reduceCtorEq, iCells_len]
      refine idxL_intro (by omega) (tCells_at hlt) ?_
      simp only [am, amo, amc, Nat.reduceAdd, Nat.reduceEqDiff, encs_length, List.length_map, decide_true, decide_false, Int.reduceEq, Int.reduceLT, Int.reduceLE, Nat.reduceLT, Int.reduceToNat, Nat.reduceMul, Int.reduceMul, Int.reduceAdd, Int.reduceSub, if_false, reduceCtorEq, iCells_len]
      have hwl := hw ws[acc.length] (List.getElem_mem _)
      generalize ws[acc.length] = w at hres hwl ⊢
      refine (num_calls w _ hwl).mono ?_
      rintro v s ⟨rfl, rfl⟩
      simp only [am, amo, amc, Nat.reduceAdd, Nat.reduceEqDiff, encs_length, List.length_map, decide_true, decide_false, Int.reduceEq, Int.reduceLT, Int.reduceLE, Nat.reduceLT, Int.reduceToNat, Nat.reduceMul, Int.reduceMul, Int.reduceAdd, Int.reduceSub, if_false, reduceCtorEq, iCells_len, nOut]
      cases hn : numR w with
      | none =>
        rw [hn] at hres
        simp only [am, amo, amc, Nat.reduceAdd, Nat.reduceEqDiff, encs_length, List.length_map, decide_true, decide_false, Int.reduceEq, Int.reduceLT, Int.reduceLE, Nat.reduceLT, Int.reduceToNat, Nat.reduceMul, Int.reduceMul, Int.reduceAdd, Int.reduceSub, if_false, reduceCtorEq, iCells_len, Option.getD_none, Option.isSome_none]
        refine retK_intro rfl hT.1 ⟨?_, rfl⟩
        rw [hR, hres]; rfl
      | some n =>
        rw [hn] at hres
        simp only [am, amo, amc, Nat.reduceAdd, Nat.reduceEqDiff, encs_length, List.length_map, decide_true, decide_false, Int.reduceEq, Int.reduceLT, Int.reduceLE, Nat.reduceLT, Int.reduceToNat, Nat.reduceMul, Int.reduceMul, Int.reduceAdd, Int.reduceSub, if_false, reduceCtorEq, iCells_len, Option.getD_some, Option.isSome_some]
        rw [← iCells_len acc] at hT
        refine app_any hT (by simp [iCells_len, big]; omega) fun υ hυ => ?_
        rw [show iCells acc ++ [[V.int .i64 (n : Nat)]] = iCells (acc ++ [(n : Int)]) by simp [iCells]]
        simp only [am, amo, amc, Nat.reduceAdd, Nat.reduceEqDiff, encs_length, List.length_map, decide_true, decide_false, Int.reduceEq, Int.reduceLT, Int.reduceLE, Nat.reduceLT, Int.reduceToNat, Nat.reduceMul, Int.reduceMul, Int.reduceAdd, Int.reduceSub, if_false, reduceCtorEq, iCells_len]
        rw [wrap_i64 (by omega) (by omega)]
        refine Upd.again (I := fun p : FW ws σ => invW ws p.acc p.tk p.s) (μ := fun p : FW ws σ => ws.length - p.acc.length) ⟨acc ++ [(n : Int)], .tk υ, _, by simp; omega, by rw [List.length_append, List.length_singleton]; rw [iCells_len] at hυ; exact hυ, ?_⟩ (by simp; omega) ?_ LLLe.rfl OLe.rfl
        · rw [hres, List.length_append, List.length_singleton]
          simp only [Option.map_map]
          congr 1
          funext l; simp
        · simp [invW, List.replicate, am]
    · have hge : acc.length = ws.length := by omega
      rw [hge, List.drop_length, numsR] at hres
      rw [decide_eq_false (by omega)]
      simp only [am, amo, amc, Nat.reduceAdd, Nat.reduceEqDiff, encs_length, List.length_map, decide_true, decide_false, Int.reduceEq, Int.reduceLT, Int.reduceLE, Nat.reduceLT, Int.reduceToNat, Nat.reduceMul, Int.reduceMul, Int.reduceAdd, Int.reduceSub, if_false, reduceCtorEq, iCells_len]
      refine retK_intro rfl hT.1 ⟨?_, rfl⟩
      rw [hR, hres]
      simp [V.erase, eraseL]
theorem drop_cut {s : List UInt8} {st i : Nat} (h : i < s.length) (hs : st ≤ i) : s.drop st = (s.drop st).take (i - st) ++ s[i] :: s.drop (i + 1) := by
  have h1 := List.take_append_drop (i - st) (s.drop st)
  rw [List.drop_drop, show st + (i - st) = i by omega, List.drop_eq_getElem_cons h] at h1
  exact h1.symm
theorem cut_end {s : List UInt8} {st i : Nat} (h : i = s.length) : (s.drop st).take (i - st) = s.drop st := by
  rw [List.take_of_length_le (by rw [List.length_drop]; omega)]
theorem cut_more {s : List UInt8} {st i : Nat} (h : i < s.length) (hs : st ≤ i) : (s.drop st).take (i + 1 - st) = (s.drop st).take (i - st) ++ [s[i]] := by
  rw [show i + 1 - st = (i - st) + 1 by omega, List.take_succ_eq_append_getElem (by rw [List.length_drop]; omega), List.getElem_drop]
  simp only [show st + (i - st) = i by omega]
structure FWs (s : List UInt8) (σ : Store) where
  i : Nat
  st : Nat
  acc : List (List UInt8)
  tk : Tk
  m : Store
  le1 : st ≤ i
  le2 : i ≤ s.length + 1
  len : acc.length ≤ i
  tok : Toks σ m [(tk, acc.length)]
  no : 32 ∉ (s.drop st).take (i - st)
  res : i ≤ s.length → splitW s = acc ++ splitW (s.drop st)
  fin : i = s.length + 1 → splitW s = acc
def invWs (s : List UInt8) (i st : Nat) (acc : List (List UInt8)) (tk : Tk) (m : Store) : St :=
  ⟨[.str s, .any, .sl .full 1 [], .sl tk 1 (tCells acc), .int .i64 (st : Nat), .int .i64 (i : Nat)] ++ List.replicate 26 .any, [], m⟩
theorem words_calls (s : List UInt8) (σ : Store) (hl : s.length ≤ 5000) : PCalls prog 36 [.str s] σ fun v σ' => v = .sl .no 1 (tCells (splitW s)) ∧ σ' = σ := by
  refine fn36.calls ?_
  simp only [slots, ac36, am, ams, amo]
  refine vc_loop (fun p : FWs s σ => invWs s p.i p.st p.acc p.tk p.m) (fun p => s.length + 1 - p.i) ?_ ?_
  · refine Upd.enter ⟨0, 0, [], .full, σ, by simp, by simp, by simp, Toks.init (by simp), by simp, fun _ => by simp, fun h => by omega⟩ ?_ LLLe.rfl OLe.rfl
    simp [invWs, List.replicate, am, amo, tCells]
  · rintro ⟨i, st, acc, tk, m, le1, le2, hlen, hT, hno, hres, hfin⟩
    simp only [invWs, List.replicate, am, amo]
    by_cases hlt : i ≤ s.length
    · rw [decide_eq_true (show (i : Int) ≤ s.length by omega)]
      have hres := hres hlt
      simp only [am, amo, amc, Nat.reduceAdd, Nat.reduceEqDiff, encs_length, List.length_map, decide_true, decide_false, Int.reduceEq, Int.reduceLT, Int.reduceLE, Nat.reduceLT, Int.reduceToNat, Nat.reduceMul, Int.reduceMul, Int.reduceAdd, Int.reduceSub, if_false, reduceCtorEq, iCells_len]
      have wi : IntKind.i64.wrap ((i : Int) + 1) = ((i + 1 : Nat) : Int) := by rw [wrap_i64 (by omega) (by omega)]; omega
      have hcut : (s.take i).drop st = (s.drop st).take (i - st) := by rw [List.drop_take]
      have put : ∀ (t : List V) (υ : Nat) (m' : Store), Toks σ m' [(.tk υ, acc.length + 1)] → (i < s.length → splitW s = (acc ++ [(s.drop st).take (i - st)]) ++ splitW (s.drop (i + 1))) → (i = s.length → splitW s = acc ++ [(s.drop st).take (i - st)]) →
          LLe t (invWs s (i + 1) (i + 1) (acc ++ [(s.drop st).take (i - st)]) (.tk υ) m').t → Upd ⟨t, [], m'⟩ fun st' => ∃ p : FWs s σ, st' = invWs s p.i p.st p.acc p.tk p.m ∧ s.length + 1 - p.i < s.length + 1 - i := fun t υ m' h1 h2 h3 h4 =>
        Upd.again (I := fun p : FWs s σ => invWs s p.i p.st p.acc p.tk p.m) (μ := fun p : FWs s σ => s.length + 1 - p.i) ⟨i + 1, i + 1, acc ++ [(s.drop st).take (i - st)], .tk υ, m', Nat.le_refl _, by omega, by rw [List.length_append, List.length_singleton]; omega, by rw [List.length_append, List.length_singleton]; exact h1, by simp, fun h => h2 (by omega), fun h => h3 (by omega)⟩ (by simp only; omega) h4 LLLe.rfl OLe.rfl
      by_cases he : i = s.length
      · have hsp : splitW s = acc ++ [(s.drop st).take (i - st)] := by
          rw [hres, cut_end he]
          rw [cut_end he] at hno
          rw [splitW_word hno]
        rw [decide_eq_true (show (i : Int) = s.length by omega)]
        simp only [am, amo, amc, Nat.reduceAdd, Nat.reduceEqDiff, encs_length, List.length_map, decide_true, decide_false, Int.reduceEq, Int.reduceLT, Int.reduceLE, Nat.reduceLT, Int.reduceToNat, Nat.reduceMul, Int.reduceMul, Int.reduceAdd, Int.reduceSub, if_false, reduceCtorEq, iCells_len]
        refine slSL_intro (a := st) (b := i) le1 hlt ?_
        rw [hcut]
        simp only [am, amo, amc, Nat.reduceAdd, Nat.reduceEqDiff, encs_length, List.length_map, decide_true, decide_false, Int.reduceEq, Int.reduceLT, Int.reduceLE, Nat.reduceLT, Int.reduceToNat, Nat.reduceMul, Int.reduceMul, Int.reduceAdd, Int.reduceSub, if_false, reduceCtorEq, iCells_len]
        rw [← tCells_len acc] at hT
        refine app_any hT (by simp [tCells_len, big]; omega) fun υ hυ => ?_
        rw [tCells_len] at hυ
        rw [show tCells acc ++ [[V.str ((s.drop st).take (i - st))]] = tCells (acc ++ [(s.drop st).take (i - st)]) by simp [tCells]]
        simp only [am, amo, amc, Nat.reduceAdd, Nat.reduceEqDiff, encs_length, List.length_map, decide_true, decide_false, Int.reduceEq, Int.reduceLT, Int.reduceLE, Nat.reduceLT, Int.reduceToNat, Nat.reduceMul, Int.reduceMul, Int.reduceAdd, Int.reduceSub, if_false, reduceCtorEq, iCells_len, wi]
        rw [tCells_len]
        exact put _ υ _ hυ (fun h => by omega) (fun _ => hsp) (by simp [invWs, List.replicate, am])
      · have hlt' : i < s.length := by omega
        have hd := drop_cut hlt' le1
        have hmore := cut_more hlt' le1
        have hat : s[((i : Nat) : Int).toNat]? = some s[i] := by rw [Int.toNat_natCast]; exact List.getElem?_eq_getElem hlt'
        generalize s[i] = x at hd hmore hat
        rw [decide_eq_false (show ¬ (i : Int) = s.length by omega)]
        simp only [am, amo, amc, Nat.reduceAdd, Nat.reduceEqDiff, encs_length, List.length_map, decide_true, decide_false, Int.reduceEq, Int.reduceLT, Int.reduceLE, Nat.reduceLT, Int.reduceToNat, Nat.reduceMul, Int.reduceMul, Int.reduceAdd, Int.reduceSub, if_false, reduceCtorEq, iCells_len]
        refine idxSL_intro (by omega) hat ?_
        simp only [am, amo, amc, Nat.reduceAdd, Nat.reduceEqDiff, encs_length, List.length_map, decide_true, decide_false, Int.reduceEq, Int.reduceLT, Int.reduceLE, Nat.reduceLT, Int.reduceToNat, Nat.reduceMul, Int.reduceMul, Int.reduceAdd, Int.reduceSub, if_false, reduceCtorEq, iCells_len]
        by_cases hx : x = 32
        · subst hx
          have hsp : splitW s = (acc ++ [(s.drop st).take (i - st)]) ++ splitW (s.drop (i + 1)) := by
            rw [hres, (congrArg splitW hd).trans (splitW_app hno _)]; simp
          rw [decide_eq_true (show (((32 : UInt8).toNat : Nat) : Int) = 32 from rfl)]
          simp only [am, amo, amc, Nat.reduceAdd, Nat.reduceEqDiff, encs_length, List.length_map, decide_true, decide_false, Int.reduceEq, Int.reduceLT, Int.reduceLE, Nat.reduceLT, Int.reduceToNat, Nat.reduceMul, Int.reduceMul, Int.reduceAdd, Int.reduceSub, if_false, reduceCtorEq, iCells_len]
          refine slSL_intro (a := st) (b := i) le1 hlt ?_
          rw [hcut]
          simp only [am, amo, amc, Nat.reduceAdd, Nat.reduceEqDiff, encs_length, List.length_map, decide_true, decide_false, Int.reduceEq, Int.reduceLT, Int.reduceLE, Nat.reduceLT, Int.reduceToNat, Nat.reduceMul, Int.reduceMul, Int.reduceAdd, Int.reduceSub, if_false, reduceCtorEq, iCells_len]
          rw [← tCells_len acc] at hT
          refine app_any hT (by simp [tCells_len, big]; omega) fun υ hυ => ?_
          rw [tCells_len] at hυ
          rw [show tCells acc ++ [[V.str ((s.drop st).take (i - st))]] = tCells (acc ++ [(s.drop st).take (i - st)]) by simp [tCells]]
          simp only [am, amo, amc, Nat.reduceAdd, Nat.reduceEqDiff, encs_length, List.length_map, decide_true, decide_false, Int.reduceEq, Int.reduceLT, Int.reduceLE, Nat.reduceLT, Int.reduceToNat, Nat.reduceMul, Int.reduceMul, Int.reduceAdd, Int.reduceSub, if_false, reduceCtorEq, iCells_len, wi]
          rw [tCells_len]
          exact put _ υ _ hυ (fun _ => hsp) (fun h => absurd h he) (by simp [invWs, List.replicate, am])
        · rw [decide_eq_false (show ¬ ((x.toNat : Nat) : Int) = 32 from fun e => hx (UInt8.toNat_inj.1 (by simpa using Int.ofNat_inj.1 e)))]
          simp only [am, amo, amc, Nat.reduceAdd, Nat.reduceEqDiff, encs_length, List.length_map, decide_true, decide_false, Int.reduceEq, Int.reduceLT, Int.reduceLE, Nat.reduceLT, Int.reduceToNat, Nat.reduceMul, Int.reduceMul, Int.reduceAdd, Int.reduceSub, if_false, reduceCtorEq, iCells_len, wi]
          refine Upd.again (I := fun p : FWs s σ => invWs s p.i p.st p.acc p.tk p.m) (μ := fun p : FWs s σ => s.length + 1 - p.i) ⟨i + 1, st, acc, tk, m, by omega, by omega, by omega, hT, ?_, fun _ => hres, fun h => by omega⟩ (by simp only; omega) ?_ LLLe.rfl OLe.rfl
          · rw [hmore]; simp only [List.mem_append, not_or, List.mem_singleton]; exact ⟨hno, fun e => hx e.symm⟩
          · simp [invWs, List.replicate, am]
    · have hge : i = s.length + 1 := by omega
      have hfin := hfin hge
      rw [decide_eq_false (by omega)]
      simp only [am, amo, amc, Nat.reduceAdd, Nat.reduceEqDiff, encs_length, List.length_map, decide_true, decide_false, Int.reduceEq, Int.reduceLT, Int.reduceLE, Nat.reduceLT, Int.reduceToNat, Nat.reduceMul, Int.reduceMul, Int.reduceAdd, Int.reduceSub, if_false, reduceCtorEq, iCells_len]
      refine retK_intro rfl hT.1 ⟨?_, rfl⟩
      rw [hfin]
      simp [V.erase, eraseL]
end Go.Proofs.Tryd

namespace Go.Proofs.Tryd
open Go.Am
set_option maxRecDepth 4000
set_option maxHeartbeats 4000000
def ac31 : AC := .seq (.reg [⟨(some 4), .mv (.c (.str [])), none⟩, ⟨(some 5), .mv (.c (.bool false)), none⟩])
 (.seq (.reg [xm 6 0, xm 7 1, xc 41 8 [.s 6, .s 7], xe 9 8 0, xe 10 8 1, xm 4 9, xm 5 10])
 (.ret))
theorem fn31 : IsFn prog 31 ac31 [.tmp 4, .tmp 5] 11 := ⟨f31, ⟨[], []⟩, func31, by kernel_rfl, by kernel_rfl, by kernel_rfl, by kernel_rfl⟩
def ac32 : AC := .seq (.reg [⟨(some 4), .mv (.c (.sl .full 1 [])), none⟩])
 (.seq (.reg [xm 5 0, xm 6 1, xc 42 7 [.s 5, .s 6, .c (.int .i64 0), .c (.int .i64 (-1))], xm 4 7])
 (.ret))
theorem fn32 : IsFn prog 32 ac32 [.tmp 4] 8 := ⟨f32, ⟨[], []⟩, func32, by kernel_rfl, by kernel_rfl, by kernel_rfl, by kernel_rfl⟩
def ac41 : AC := .seq (.reg [⟨(some 4), .mv (.c (.str [])), none⟩, ⟨(some 5), .mv (.c (.bool false)), none⟩])
 (.seq (.seq (.reg [xm 6 0, xm 7 1, xc 51 8 [.s 6, .s 7], ⟨(some 9), .not (.s 8), none⟩])
 (.cond (.s 9) (.seq (.reg [xm 10 0, xm 4 10, ⟨(some 5), .mv (.c (.bool false)), none⟩])
 (.ret))
 (.skip)))
 (.seq (.reg [xm 11 0, xm 12 1, xT 13 12, ⟨(some 14), .slS (.s 11) (some (.s 13)) none, none⟩, xm 4 14, ⟨(some 5), .mv (.c (.bool true)), none⟩])
 (.ret)))
theorem fn41 : IsFn prog 41 ac41 [.tmp 4, .tmp 5] 15 := ⟨f41, ⟨[], []⟩, func41, by kernel_rfl, by kernel_rfl, by kernel_rfl, by kernel_rfl⟩
def ac42 : AC := .seq (.reg [⟨(some 8), .own .nil [], none⟩])
 (.seq (.seq (.reg [xm 12 3, xB .eql 13 12 0])
 (.cond (.s 13) (.seq (.reg [⟨(some 8), .own .nil [], none⟩])
 (.ret))
 (.skip)))
 (.seq (.seq (.reg [xm 14 1, ⟨(some 15), .binS .eql (.s 14) (.c (.str [])), none⟩])
 (.cond (.s 15) (.seq (.reg [xm 16 0, xm 17 3, xc 52 18 [.s 16, .s 17], xm 8 18])
 (.ret))
 (.skip)))
 (.seq (.seq (.reg [xm 19 3, xB .lss 20 19 0])
 (.cond (.s 20) (.reg [xm 21 0, xm 22 1, xc 53 23 [.s 21, .s 22], xB .add 24 23 1, xm 3 24])
 (.skip)))
 (.seq (.reg [xm 25 3, xm 26 0, xT 27 26, xB .add 28 27 1, ⟨(some 29), .own .min [(.s 25), (.s 28)], none⟩, xm 3 29])
 (.seq (.reg [xm 30 3, ⟨(some 31), .own (.mk [(.str [])]) [(.s 30)], none⟩, xm 9 31])
 (.seq (.reg [xm 32 3, xB .sub 33 32 1, xm 3 33])
 (.seq (.reg [xi 10 0])
 (.seq (.block 0 (.loop (.seq (.seq (.reg [xm 34 10, xm 35 3, xb .lss 36 34 35])
 (.cond (.s 36) (.skip)
 (.exit 0)))
 (.block 1 (.seq (.reg [xm 37 0, xm 38 1, xc 30 39 [.s 37, .s 38], xm 11 39])
 (.seq (.seq (.reg [xm 40 11, xB .lss 41 40 0])
 (.cond (.s 41) (.exit 0)
 (.skip)))
 (.seq (.reg [xm 42 9, xm 43 10, xm 44 0, xm 45 11, xm 46 2, xb .add 47 45 46, ⟨(some 48), .slS (.s 44) none (some (.s 47)), none⟩, ⟨(some 49), .own (.idx 1) [(.s 42), (.s 43)], none⟩, xs 1 49 48])
 (.seq (.reg [xm 50 0, xm 51 11, xm 52 1, xT 53 52, xb .add 54 51 53, ⟨(some 55), .slS (.s 50) (some (.s 54)) none, none⟩, xm 0 55])
 (.reg [xm 56 10, xB .add 57 56 1, xm 10 57])))))))))
 (.seq (.reg [xm 58 9, xm 59 10, xm 60 0, ⟨(some 61), .own (.idx 1) [(.s 58), (.s 59)], none⟩, xs 1 61 60])
 (.seq (.reg [xm 62 9, xm 63 10, xB .add 64 63 1, ⟨(some 65), .own (.frz 1 false true) [(.s 62), (.s 64)], none⟩, xm 8 65])
 (.ret)))))))))))
theorem fn42 : IsFn prog 42 ac42 [.tmp 8] 66 := ⟨f42, ⟨[8, 8, 31, 49, 61, 65, 100065], []⟩, func42, by kernel_rfl, by kernel_rfl, by kernel_rfl, by kernel_rfl⟩
def ac51 : AC := .seq (.reg [⟨(some 4), .mv (.c (.bool false)), none⟩])
 (.seq (.reg [xm 5 0, xT 6 5, xm 7 1, xT 8 7, xb .geq 9 6 8, xm 10 9, xg 10 (xm 11 0), xg 10 (xm 12 1), xg 10 (xT 13 12), ⟨(some 14), .slS (.s 11) none (some (.s 13)), (some (10, true))⟩, xg 10 (xm 15 1), ⟨(some 16), .binS .eql (.s 14) (.s 15), (some (10, true))⟩, ⟨(some 17), .pick (.s 10) (.s 16) (.c (.bool false)), none⟩, xm 4 17])
 (.ret))
theorem fn51 : IsFn prog 51 ac51 [.tmp 4] 18 := ⟨f51, ⟨[], []⟩, func51, by kernel_rfl, by kernel_rfl, by kernel_rfl, by kernel_rfl⟩
def ac53 : AC := .seq (.reg [xi 4 0])
 (.seq (.seq (.reg [xm 7 1, xT 8 7, xB .eql 9 8 0])
 (.cond (.s 9) (.seq (.reg [xm 10 0, xc 60 11 [.s 10], xB .add 12 11 1, xm 4 12])
 (.ret))
 (.skip)))
 (.seq (.seq (.reg [xm 13 1, xT 14 13, xB .eql 15 14 1])
 (.cond (.s 15) (.seq (.reg [xm 16 0, xm 17 1, ⟨(some 18), .idxS (.s 17) (.c (.int .i64 0)), none⟩, ⟨(some 19), .own .cntS [(.s 16), (.s 18)], none⟩, xm 4 19])
 (.ret))
 (.skip)))
 (.seq (.reg [xi 5 0])
 (.block 0 (.loop (.block 1 (.seq (.reg [xm 20 0, xm 21 1, xc 30 22 [.s 20, .s 21], xm 6 22])
 (.seq (.seq (.reg [xm 23 6, xB .eql 24 23 (-1)])
 (.cond (.s 24) (.seq (.reg [xm 25 5, xm 4 25])
 (.ret))
 (.skip)))
 (.seq (.reg [xm 26 5, xB .add 27 26 1, xm 5 27])
 (.reg [xm 28 0, xm 29 6, xm 30 1, xT 31 30, xb .add 32 29 31, ⟨(some 33), .slS (.s 28) (some (.s 32)) none, none⟩, xm 0 33]))))))))))
theorem fn53 : IsFn prog 53 ac53 [.tmp 4] 34 := ⟨f53, ⟨[], []⟩, func53, by kernel_rfl, by kernel_rfl, by kernel_rfl, by kernel_rfl⟩
theorem count_calls (s : List UInt8) (σ : Store) : PCalls prog 53 [.str s, .str [32]] σ fun v σ' => v = .int .i64 (s.count 32 : Nat) ∧ σ' = σ := by
  refine fn53.calls ?_
  simp only [slots, ac53, am, amo, amc, ams, Nat.reduceAdd, Nat.reduceEqDiff, decide_true, decide_false, Int.reduceEq, Int.reduceLT, Int.reduceLE, Nat.reduceLT, Int.reduceToNat, Nat.reduceMul, Int.reduceMul, Int.reduceAdd, Int.reduceSub, if_false, reduceCtorEq, iCells_len]
  simp only [am, amo, amc, Nat.reduceAdd, Nat.reduceEqDiff, encs_length, List.length_map, decide_true, decide_false, Int.reduceEq, Int.reduceLT, Int.reduceLE, Nat.reduceLT, Int.reduceToNat, Nat.reduceMul, Int.reduceMul, Int.reduceAdd, Int.reduceSub, if_false, reduceCtorEq, iCells_len, show ((([32] : List UInt8).length : Nat) : Int) = 1 from rfl]
  refine idxSL_intro (s := [32]) (n := 0) (c := 32) (by omega) rfl ?_
  simp only [am, amo, amc, Nat.reduceAdd, Nat.reduceEqDiff, encs_length, List.length_map, decide_true, decide_false, Int.reduceEq, Int.reduceLT, Int.reduceLE, Nat.reduceLT, Int.reduceToNat, Nat.reduceMul, Int.reduceMul, Int.reduceAdd, Int.reduceSub, if_false, reduceCtorEq, iCells_len]
  rw [show ((((32 : UInt8).toNat : Nat) : Int)) = 32 from rfl, cntS_eq, show ((32 : Int).toNat.toUInt8) = 32 from rfl]
  simp only [am, amo, amc, Nat.reduceAdd, Nat.reduceEqDiff, encs_length, List.length_map, decide_true, decide_false, Int.reduceEq, Int.reduceLT, Int.reduceLE, Nat.reduceLT, Int.reduceToNat, Nat.reduceMul, Int.reduceMul, Int.reduceAdd, Int.reduceSub, if_false, reduceCtorEq, iCells_len]
  refine retK_intro rfl (Store.sub_refl _) ⟨?_, rfl⟩
  simp [V.erase, eraseL]
theorem idx_raw {σ : Store} {H : V → Store → Prop} {b o n cap k : Nat} {i : IntKind} {j : Int} (h0 : 0 ≤ j) (h1 : j < n) (hk : H (.ptr (.out b) (o + j.toNat * k)) σ) : OQ.sem σ H (.idx k) [.raw (.slice (some ⟨b, o, none⟩) n cap), .int i j] := ⟨h0, h1, hk⟩
theorem slSL_hi {s : List UInt8} {j' : IntKind} {b : Nat} {H : V → Prop} (h2 : b ≤ s.length) (h : H (.str (s.take b))) : slSL (.str s) none (some (.int j' b)) H := ⟨s, 0, b, rfl, Nat.zero_le _, h2, rfl, ⟨j', rfl⟩, h⟩
theorem slSL_lo {s : List UInt8} {j : IntKind} {a : Nat} {H : V → Prop} (h1 : a ≤ s.length) (h : H (.str (s.drop a))) : slSL (.str s) (some (.int j a)) none H := ⟨s, a, s.length, rfl, h1, Nat.le_refl _, ⟨j, rfl⟩, rfl, by rw [List.take_length]; exact h⟩
theorem sub_del {σ : Store} {b : Nat} {cs : List V} (h : σ.box b = none) : σ.sub ((σ.set b cs).del b) := by
  refine ⟨fun g ds hg => ?_, fun _ _ h => h⟩
  have hne : g ≠ b := by rintro rfl; rw [h] at hg; simp at hg
  simp only [Store.del, if_neg hne]
  rw [Store.set_other _ _ hne]; exact hg
structure FG (s : List UInt8) where
  r : List UInt8
  ws : List (List UInt8)
  res : splitW s = ws ++ splitW r
  cnt : ws.length + r.count 32 = s.count 32
  len : r.length ≤ s.length
def invG (C : Nat) (b : Nat) (r : List UInt8) (ws : List (List UInt8)) (σ : Store) : St :=
  ⟨[.str r, .str [32], .int .i64 0, .int .i64 (C : Nat), .any, .any, .any, .any, .any, .raw (.slice (some ⟨b, 0, none⟩) (C + 1) (C + 1)), .int .i64 (ws.length : Nat)] ++ List.replicate 55 .any, [], σ.set b (ws.map .str ++ List.replicate (C + 1 - ws.length) (.str []))⟩
theorem gensplit_calls (s : List UInt8) (σ : Store) (hl : s.length ≤ 5000) : PCalls prog 42 [.str s, .str [32], .int .i64 0, .int .i64 (-1)] σ fun v σ' => v = .sl .no 1 (tCells (splitW s)) ∧ σ' = σ := by
  have hc : s.count 32 ≤ s.length := List.count_le_length
  refine fn42.calls ?_
  simp only [slots, ac42, am, ams, amo]
  simp only [am, amo, amc, Nat.reduceAdd, Nat.reduceEqDiff, encs_length, List.length_map, decide_true, decide_false, Int.reduceEq, Int.reduceLT, Int.reduceLE, Nat.reduceLT, Int.reduceToNat, Nat.reduceMul, Int.reduceMul, Int.reduceAdd, Int.reduceSub, if_false, reduceCtorEq, iCells_len, show decide ((-1 : Int) = 0) = false from rfl, show decide ((-1 : Int) < 0) = true from rfl, show decide (([32] : List UInt8) = []) = false from rfl]
  refine (count_calls s _).mono ?_
  rintro v σ1 ⟨rfl, rfl⟩
  simp only [am, amo, amc, Nat.reduceAdd, Nat.reduceEqDiff, encs_length, List.length_map, decide_true, decide_false, Int.reduceEq, Int.reduceLT, Int.reduceLE, Nat.reduceLT, Int.reduceToNat, Nat.reduceMul, Int.reduceMul, Int.reduceAdd, Int.reduceSub, if_false, reduceCtorEq, iCells_len]
  have e1 : IntKind.i64.wrap ((s.count 32 : Int) + 1) = ((s.count 32 + 1 : Nat) : Int) := by rw [wrap_i64 (by omega) (by omega)]; omega
  have e2 : IntKind.i64.wrap ((s.length : Int) + 1) = ((s.length + 1 : Nat) : Int) := by rw [wrap_i64 (by omega) (by omega)]; omega
  have e3 : IntKind.i64.wrap (((s.count 32 + 1 : Nat) : Int) - 1) = ((s.count 32 : Nat) : Int) := by rw [wrap_i64 (by omega) (by omega)]; omega
  rw [e1, e2]
  refine min_intro ?_
  rw [if_neg (by omega)]
  simp only [am, amo, amc, Nat.reduceAdd, Nat.reduceEqDiff, encs_length, List.length_map, decide_true, decide_false, Int.reduceEq, Int.reduceLT, Int.reduceLE, Nat.reduceLT, Int.reduceToNat, Nat.reduceMul, Int.reduceMul, Int.reduceAdd, Int.reduceSub, if_false, reduceCtorEq, iCells_len]
  refine mk_intro (by omega) (by simp [big]; omega) rfl (by simp) fun b hb => ?_
  simp only [am, amo, amc, Nat.reduceAdd, Nat.reduceEqDiff, encs_length, List.length_map, decide_true, decide_false, Int.reduceEq, Int.reduceLT, Int.reduceLE, Nat.reduceLT, Int.reduceToNat, Nat.reduceMul, Int.reduceMul, Int.reduceAdd, Int.reduceSub, if_false, reduceCtorEq, iCells_len, e3]
  rw [Int.toNat_natCast]
  generalize hC : s.count 32 = C at e1 e2 e3 hc ⊢
  refine vc_loop (fun p : FG s => invG C b p.r p.ws σ1) (fun p => C - p.ws.length) ?_ ?_
  · refine Upd.enter ⟨s, [], rfl, by simp, Nat.le_refl _⟩ ?_ LLLe.rfl ?_
    · simp [invG, List.replicate, am, amo, hC]
    · simp only [invG, hC]; simp; exact OLe.rfl
  · rintro ⟨r, ws, hres, hcnt, hlen⟩
    rw [hC] at hcnt
    simp only [invG, List.replicate, am, amo, hC]
    have hP : (ws.map V.str).length = ws.length := List.length_map ..
    have hrep : List.replicate (C + 1 - ws.length) (V.str []) = V.str [] :: List.replicate (C - ws.length) (V.str []) := by
      rw [show C + 1 - ws.length = (C - ws.length) + 1 by omega]; rfl
    by_cases hlt : ws.length < C
    · rw [decide_eq_true (show (ws.length : Int) < C by omega), hrep]
      simp only [am, amo, amc, Nat.reduceAdd, Nat.reduceEqDiff, encs_length, List.length_map, decide_true, decide_false, Int.reduceEq, Int.reduceLT, Int.reduceLE, Nat.reduceLT, Int.reduceToNat, Nat.reduceMul, Int.reduceMul, Int.reduceAdd, Int.reduceSub, if_false, reduceCtorEq, iCells_len]
      refine (index_calls r 32 _).mono ?_
      rintro v σ2 ⟨rfl, rfl⟩
      simp only [am, amo, amc, Nat.reduceAdd, Nat.reduceEqDiff, encs_length, List.length_map, decide_true, decide_false, Int.reduceEq, Int.reduceLT, Int.reduceLE, Nat.reduceLT, Int.reduceToNat, Nat.reduceMul, Int.reduceMul, Int.reduceAdd, Int.reduceSub, if_false, reduceCtorEq, iCells_len]
      rcases findB_spec r 32 with ⟨_, h2⟩ | ⟨w, r', hr, hw, hf⟩
      · have := List.count_eq_zero.2 h2; omega
      rw [hf, decide_eq_false (by omega)]
      have hrl : w.length + 1 + r'.length = r.length := by rw [hr]; simp; omega
      have htake : r.take w.length = w := by rw [hr]; simp
      have hdrop : r.drop (w.length + 1) = r' := by rw [hr, show w ++ 32 :: r' = (w ++ [32]) ++ r' by simp]; exact List.drop_left' (by simp)
      simp only [am, amo, amc, Nat.reduceAdd, Nat.reduceEqDiff, encs_length, List.length_map, decide_true, decide_false, Int.reduceEq, Int.reduceLT, Int.reduceLE, Nat.reduceLT, Int.reduceToNat, Nat.reduceMul, Int.reduceMul, Int.reduceAdd, Int.reduceSub, if_false, reduceCtorEq, iCells_len]
      rw [show (w.length : Int) + 0 = w.length by omega, wrap_i64 (x := (w.length : Nat)) (by omega) (by omega)]
      refine slSL_hi (by omega) ?_
      rw [htake]
      simp only [am, amo, amc, Nat.reduceAdd, Nat.reduceEqDiff, encs_length, List.length_map, decide_true, decide_false, Int.reduceEq, Int.reduceLT, Int.reduceLE, Nat.reduceLT, Int.reduceToNat, Nat.reduceMul, Int.reduceMul, Int.reduceAdd, Int.reduceSub, if_false, reduceCtorEq, iCells_len]
      refine idx_raw (by omega) (by omega) ?_
      simp only [am, amo, amc, Nat.reduceAdd, Nat.reduceEqDiff, encs_length, List.length_map, decide_true, decide_false, Int.reduceEq, Int.reduceLT, Int.reduceLE, Nat.reduceLT, Int.reduceToNat, Nat.reduceMul, Int.reduceMul, Int.reduceAdd, Int.reduceSub, if_false, reduceCtorEq, iCells_len, Int.toNat_natCast, Nat.zero_add, Nat.mul_one, set_app0 hP, drop_app0 hP]
      rw [show (w.length : Int) + ((([32] : List UInt8).length : Nat) : Int) = ((w.length + 1 : Nat) : Int) from rfl, wrap_i64 (x := ((w.length + 1 : Nat) : Int)) (by omega) (by omega)]
      refine slSL_from (by omega) ?_
      rw [hdrop]
      simp only [am, amo, amc, Nat.reduceAdd, Nat.reduceEqDiff, encs_length, List.length_map, decide_true, decide_false, Int.reduceEq, Int.reduceLT, Int.reduceLE, Nat.reduceLT, Int.reduceToNat, Nat.reduceMul, Int.reduceMul, Int.reduceAdd, Int.reduceSub, if_false, reduceCtorEq, iCells_len]
      rw [wrap_i64 (x := (ws.length : Int) + 1) (by omega) (by omega)]
      have hcr : r.count 32 = r'.count 32 + 1 := by rw [hr, List.count_append, List.count_cons_self, List.count_eq_zero.2 hw]; omega
      refine Upd.again (I := fun p : FG s => invG C b p.r p.ws σ1) (μ := fun p : FG s => C - p.ws.length) ⟨r', ws ++ [w], by rw [hres, hr, splitW_app hw]; simp, by rw [List.length_append, List.length_singleton]; omega, by omega⟩ (by simp only [List.length_append, List.length_singleton]; omega) ?_ LLLe.rfl ?_
      · simp [invG, List.replicate, am, hC]
      · simp only [invG, hC, List.map_append, List.map_cons, List.map_nil, List.length_append, List.length_singleton, List.append_assoc, List.cons_append, List.nil_append, Nat.add_sub_add_right]
        exact OLe.rfl
    · rw [decide_eq_false (show ¬ (ws.length : Int) < C by omega), hrep]
      have hwc : ws.length = C := by omega
      have h32 : 32 ∉ r := List.count_eq_zero.1 (by omega)
      simp only [am, amo, amc, Nat.reduceAdd, Nat.reduceEqDiff, encs_length, List.length_map, decide_true, decide_false, Int.reduceEq, Int.reduceLT, Int.reduceLE, Nat.reduceLT, Int.reduceToNat, Nat.reduceMul, Int.reduceMul, Int.reduceAdd, Int.reduceSub, if_false, reduceCtorEq, iCells_len]
      refine idx_raw (by omega) (by omega) ?_
      simp only [am, amo, amc, Nat.reduceAdd, Nat.reduceEqDiff, encs_length, List.length_map, decide_true, decide_false, Int.reduceEq, Int.reduceLT, Int.reduceLE, Nat.reduceLT, Int.reduceToNat, Nat.reduceMul, Int.reduceMul, Int.reduceAdd, Int.reduceSub, if_false, reduceCtorEq, iCells_len, Int.toNat_natCast, Nat.zero_add, Nat.mul_one, set_app0 hP, drop_app0 hP]
      rw [wrap_i64 (x := (ws.length : Int) + 1) (by omega) (by omega)]
      have hcs : List.map V.str ws ++ V.str r :: List.replicate (C - ws.length) (V.str []) = (ws ++ [r]).map V.str := by
        rw [hwc, Nat.sub_self]; simp
      have htk : ((ws ++ [r]).map V.str).take ((ws.length : Int) + 1).toNat = (ws ++ [r]).map V.str := by
        rw [List.take_of_length_le]; rw [List.length_map, List.length_append, List.length_singleton]; omega
      have hone : ∀ l : List (List UInt8), oneL (l.map V.str) = true := fun l => by induction l with | nil => rfl | cons a l ih => simpa [oneL, V.one] using ih
      have hnol : ∀ l : List (List UInt8), nolL (l.map V.str) = true := fun l => by induction l with | nil => rfl | cons a l ih => simpa [nolL, V.nol] using ih
      rw [hcs]
      refine frz_intro (Store.set_same _ _ _) (by omega) (by omega) (by rw [List.length_map, List.length_append, List.length_singleton]; omega) (by rw [htk]; exact hone _) (by rw [htk]; exact hnol _) ?_
      rw [htk]
      simp only [am, amo, amc, Nat.reduceAdd, Nat.reduceEqDiff, encs_length, List.length_map, decide_true, decide_false, Int.reduceEq, Int.reduceLT, Int.reduceLE, Nat.reduceLT, Int.reduceToNat, Nat.reduceMul, Int.reduceMul, Int.reduceAdd, Int.reduceSub, if_false, reduceCtorEq, iCells_len]
      refine retK_intro rfl (sub_del hb) ⟨?_, rfl⟩
      rw [hres, splitW_word h32]
      simp [V.erase, eraseL, tCells, cellRows]
theorem split_calls (s : List UInt8) (σ : Store) (hl : s.length ≤ 5000) : PCalls prog 32 [.str s, .str [32]] σ fun v σ' => v = .sl .no 1 (tCells (splitW s)) ∧ σ' = σ := by
  refine fn32.calls ?_
  simp only [slots, ac32, am, amo, amc, ams, Nat.reduceAdd, Nat.reduceEqDiff, decide_true, decide_false, Int.reduceEq, Int.reduceLT, Int.reduceLE, Nat.reduceLT, Int.reduceToNat, Nat.reduceMul, Int.reduceMul, Int.reduceAdd, Int.reduceSub, if_false, reduceCtorEq, iCells_len]
  refine (gensplit_calls s _ hl).mono ?_
  rintro v σ ⟨rfl, rfl⟩
  simp only [am, amo, amc, Nat.reduceAdd, Nat.reduceEqDiff, encs_length, List.length_map, decide_true, decide_false, Int.reduceEq, Int.reduceLT, Int.reduceLE, Nat.reduceLT, Int.reduceToNat, Nat.reduceMul, Int.reduceMul, Int.reduceAdd, Int.reduceSub, if_false, reduceCtorEq, iCells_len]
  refine retK_intro rfl (Store.sub_refl _) ⟨?_, rfl⟩
  simp [V.erase, eraseL, tCells]
theorem prefix_calls (s p : List UInt8) (σ : Store) : PCalls prog 51 [.str s, .str p] σ fun v σ' => v = .bool (p.isPrefixOf s) ∧ σ' = σ := by
  have hR : p.isPrefixOf s = decide (p.length ≤ s.length ∧ s.take p.length = p) := by
    rw [Bool.eq_iff_iff, List.isPrefixOf_iff_prefix, decide_eq_true_eq]
    constructor
    · rintro ⟨t, rfl⟩; simp
    · rintro ⟨_, h⟩; exact ⟨s.drop p.length, by conv => rhs; rw [← List.take_append_drop p.length s, h]⟩
  generalize p.isPrefixOf s = R at hR ⊢
  refine fn51.calls ?_
  simp only [slots, ac51, am, amo, amc, ams, Nat.reduceAdd, Nat.reduceEqDiff, decide_true, decide_false, Int.reduceEq, Int.reduceLT, Int.reduceLE, Nat.reduceLT, Int.reduceToNat, Nat.reduceMul, Int.reduceMul, Int.reduceAdd, Int.reduceSub, if_false, reduceCtorEq, iCells_len]
  by_cases h : p.length ≤ s.length
  · rw [decide_eq_true (show (p.length : Int) ≤ s.length by omega)]
    simp only [am, amo, amc, Nat.reduceAdd, Nat.reduceEqDiff, encs_length, List.length_map, decide_true, decide_false, Int.reduceEq, Int.reduceLT, Int.reduceLE, Nat.reduceLT, Int.reduceToNat, Nat.reduceMul, Int.reduceMul, Int.reduceAdd, Int.reduceSub, if_false, reduceCtorEq, iCells_len]
    refine slSL_hi h ?_
    simp only [am, amo, amc, Nat.reduceAdd, Nat.reduceEqDiff, encs_length, List.length_map, decide_true, decide_false, Int.reduceEq, Int.reduceLT, Int.reduceLE, Nat.reduceLT, Int.reduceToNat, Nat.reduceMul, Int.reduceMul, Int.reduceAdd, Int.reduceSub, if_false, reduceCtorEq, iCells_len]
    refine retK_intro rfl (Store.sub_refl _) ⟨?_, rfl⟩
    simp [V.erase, eraseL, hR, h]
  · rw [decide_eq_false (show ¬ (p.length : Int) ≤ s.length by omega)]
    simp only [am, amo, amc, Nat.reduceAdd, Nat.reduceEqDiff, encs_length, List.length_map, decide_true, decide_false, Int.reduceEq, Int.reduceLT, Int.reduceLE, Nat.reduceLT, Int.reduceToNat, Nat.reduceMul, Int.reduceMul, Int.reduceAdd, Int.reduceSub, if_false, reduceCtorEq, iCells_len]
    refine retK_intro rfl (Store.sub_refl _) ⟨?_, rfl⟩
    simp [V.erase, eraseL, hR, h]
theorem cut1_calls (s p : List UInt8) (σ : Store) : PCalls prog 41 [.str s, .str p] σ fun v σ' => v = .tup [.str (if p.isPrefixOf s = true then s.drop p.length else s), .bool (p.isPrefixOf s)] ∧ σ' = σ := by
  refine fn41.calls ?_
  simp only [slots, ac41, am, amo, amc, ams, Nat.reduceAdd, Nat.reduceEqDiff, decide_true, decide_false, Int.reduceEq, Int.reduceLT, Int.reduceLE, Nat.reduceLT, Int.reduceToNat, Nat.reduceMul, Int.reduceMul, Int.reduceAdd, Int.reduceSub, if_false, reduceCtorEq, iCells_len]
  refine (prefix_calls s p σ).mono ?_
  rintro v σ ⟨rfl, rfl⟩
  simp only [am, amo, amc, Nat.reduceAdd, Nat.reduceEqDiff, encs_length, List.length_map, decide_true, decide_false, Int.reduceEq, Int.reduceLT, Int.reduceLE, Nat.reduceLT, Int.reduceToNat, Nat.reduceMul, Int.reduceMul, Int.reduceAdd, Int.reduceSub, if_false, reduceCtorEq, iCells_len]
  cases hp : p.isPrefixOf s with
  | false =>
    simp only [am, amo, amc, Nat.reduceAdd, Nat.reduceEqDiff, encs_length, List.length_map, decide_true, decide_false, Int.reduceEq, Int.reduceLT, Int.reduceLE, Nat.reduceLT, Int.reduceToNat, Nat.reduceMul, Int.reduceMul, Int.reduceAdd, Int.reduceSub, if_false, reduceCtorEq, iCells_len]
    refine retK_intro rfl (Store.sub_refl _) ⟨?_, rfl⟩
    simp [V.erase, eraseL]
  | true =>
    have hl : p.length ≤ s.length := (List.isPrefixOf_iff_prefix.1 hp).length_le
    simp only [am, amo, amc, Nat.reduceAdd, Nat.reduceEqDiff, encs_length, List.length_map, decide_true, decide_false, Int.reduceEq, Int.reduceLT, Int.reduceLE, Nat.reduceLT, Int.reduceToNat, Nat.reduceMul, Int.reduceMul, Int.reduceAdd, Int.reduceSub, if_false, reduceCtorEq, iCells_len]
    refine slSL_from hl ?_
    simp only [am, amo, amc, Nat.reduceAdd, Nat.reduceEqDiff, encs_length, List.length_map, decide_true, decide_false, Int.reduceEq, Int.reduceLT, Int.reduceLE, Nat.reduceLT, Int.reduceToNat, Nat.reduceMul, Int.reduceMul, Int.reduceAdd, Int.reduceSub, if_false, reduceCtorEq, iCells_len]
    refine retK_intro rfl (Store.sub_refl _) ⟨?_, rfl⟩
    simp [V.erase, eraseL]
theorem cut_calls (s p : List UInt8) (σ : Store) : PCalls prog 31 [.str s, .str p] σ fun v σ' => v = .tup [.str (if p.isPrefixOf s = true then s.drop p.length else s), .bool (p.isPrefixOf s)] ∧ σ' = σ := by
  refine fn31.calls ?_
  simp only [slots, ac31, am, amo, amc, ams, Nat.reduceAdd, Nat.reduceEqDiff, decide_true, decide_false, Int.reduceEq, Int.reduceLT, Int.reduceLE, Nat.reduceLT, Int.reduceToNat, Nat.reduceMul, Int.reduceMul, Int.reduceAdd, Int.reduceSub, if_false, reduceCtorEq, iCells_len]
  refine (cut1_calls s p _).mono ?_
  rintro v σ ⟨rfl, rfl⟩
  simp only [am, amo, amc, Nat.reduceAdd, Nat.reduceEqDiff, encs_length, List.length_map, decide_true, decide_false, Int.reduceEq, Int.reduceLT, Int.reduceLE, Nat.reduceLT, Int.reduceToNat, Nat.reduceMul, Int.reduceMul, Int.reduceAdd, Int.reduceSub, if_false, reduceCtorEq, iCells_len]
  refine retK_intro rfl (Store.sub_refl _) ⟨?_, rfl⟩
  simp [V.erase, eraseL]
end Go.Proofs.Tryd

namespace Go.Proofs.Tryd
open Go.Am
set_option maxRecDepth 4000
set_option maxHeartbeats 4000000
def ac34 : AC := .seq (.reg [⟨(some 1), .boxO 1 (.s 0), none⟩, ⟨(some 2), .alloc [(.int .i64 0), (.str []), (.sl .full 1 []), (.int .i64 0), (.int .i64 0), (.int .i64 0)], none⟩, ⟨(some 3), .mv (.c (.bool false)), none⟩])
 (.seq (.reg [⟨(some 8), .build [(.int .i64 0), (.str []), (.sl .full 1 []), (.int .i64 0), (.int .i64 0), (.int .i64 0)] [(0, 1, (.c (.int .i64 8)))], none⟩, ⟨(some 4), .alloc [(.int .i64 0), (.str []), (.sl .full 1 []), (.int .i64 0), (.int .i64 0), (.int .i64 0)], none⟩, xs 6 4 8])
 (.seq (.reg [⟨(some 5), .mv (.c (.bool true)), none⟩])
 (.seq (.reg [⟨(some 9), .mkfn (.func 44) [] [(.s 1)], none⟩, xm 6 9])
 (.seq (.seq (.reg [xo 10 1, xL 11 10, xB .eql 12 11 4, xm 13 12, xg 13 (xo 14 1), ⟨(some 15), .idxA 1 (.s 14) (.c (.int .i64 0)), (some (13, true))⟩, xg 13 (xo 16 15), ⟨(some 17), .binS .eql (.s 16) (.c (.str [108, 105, 110, 101])), (some (13, true))⟩, ⟨(some 18), .pick (.s 13) (.s 17) (.c (.bool false)), none⟩])
 (.cond (.s 18) (.seq (.reg [xo 20 1, ⟨(some 21), .idxA 1 (.s 20) (.c (.int .i64 1)), none⟩, xo 22 21, xc 43 23 [.s 22], xm 19 23, xe 24 19 0, xe 25 19 1, xf 3 26 4, xs 1 26 24, xm 5 25])
 (.seq (.seq (.reg [xf 3 27 4, xo 28 27, xB .eql 29 28 0])
 (.cond (.s 29) (.seq (.reg [⟨(some 30), .build [(.int .i64 0), (.str []), (.sl .full 1 []), (.int .i64 0), (.int .i64 0), (.int .i64 0)] [], none⟩, xs 6 2 30, ⟨(some 3), .mv (.c (.bool false)), none⟩])
 (.ret))
 (.skip)))
 (.reg [xm 31 6, ⟨(some 32), .callv (.s 31) [(.c (.int .i64 2))], none⟩])))
 (.skip)))
 (.seq (.seq (.reg [xm 33 5, ⟨(some 34), .not (.s 33), none⟩, xm 35 34, xh 35 (xo 36 1), xh 35 (xL 37 36), xh 35 (xB .neq 38 37 2), ⟨(some 39), .pick (.s 35) (.c (.bool true)) (.s 38), none⟩])
 (.cond (.s 39) (.seq (.reg [⟨(some 40), .build [(.int .i64 0), (.str []), (.sl .full 1 []), (.int .i64 0), (.int .i64 0), (.int .i64 0)] [], none⟩, xs 6 2 40, ⟨(some 3), .mv (.c (.bool false)), none⟩])
 (.ret))
 (.skip)))
 (.seq (.seq (.reg [xi 41 0])
 (.block 0 (.loop (.seq (.reg [xB .lss 42 41 9])
 (.seq (.cond (.s 42) (.skip)
 (.exit 0))
 (.seq (.block 1 (.seq (.reg [xm 43 41, xm 7 43])
 (.seq (.draw [(xm 44 7, []), (xB .gtr 45 44 0, []), (xm 46 45, []), (xg 46 (xm 47 7), []), (⟨(some 48), .idxP 9 1 (.c (.ptr (.out 1) 0)) (.s 47), (some (46, true))⟩, []), (xg 46 (xo 49 48), []), (xg 46 (xo 50 1), []), (⟨(some 51), .idxA 1 (.s 50) (.c (.int .i64 0)), (some (46, true))⟩, []), (xg 46 (xo 52 51), []), (⟨(some 53), .binS .eql (.s 49) (.s 52), (some (46, true))⟩, []), (⟨(some 54), .pick (.s 46) (.s 53) (.c (.bool false)), none⟩, [])])
 (.cond (.s 54) (.reg [xm 55 7, xf 4 56 4, xs 1 56 55])
 (.skip)))))
 (.reg [xB .add 57 41 1, xm 41 57])))))))
 (.seq (.reg [xo 59 1, ⟨(some 60), .idxA 1 (.s 59) (.c (.int .i64 1)), none⟩, xo 61 60, xc 43 62 [.s 61], xm 58 62, xe 63 58 0, xe 64 58 1, xf 5 65 4, xs 1 65 63, xm 5 64])
 (.seq (.reg [xl 6 66 4, xm 67 5, xs 6 2 66, xm 3 67])
 (.ret)))))))))
theorem fn34 : IsFn prog 34 ac34 [.cell 2 true 6, .tmp 3] 68 := ⟨f34, ⟨[1], []⟩, func34, by kernel_rfl, by kernel_rfl, by kernel_rfl, by kernel_rfl⟩
def ac35 : AC := .seq (.reg [⟨(some 2), .alloc [(.int .i64 0), (.str []), (.sl .full 1 []), (.int .i64 0), (.int .i64 0), (.int .i64 0)], none⟩])
 (.seq (.seq (.reg [⟨(some 5), .bslice 1 [(.c (.int .i64 1)), (.c (.int .i64 2)), (.c (.int .i64 3)), (.c (.int .i64 5)), (.c (.int .i64 7))], none⟩, xL 6 5, xi 7 0])
 (.block 0 (.loop (.seq (.reg [xb .lss 8 7 6])
 (.seq (.cond (.s 8) (.skip)
 (.exit 0))
 (.seq (.block 1 (.seq (.reg [xA 1 9 5 7, xo 10 9, xm 4 10])
 (.seq (.reg [xm 11 4, ⟨(some 12), .idxP 9 1 (.c (.ptr (.out 0) 0)) (.s 11), none⟩, xo 13 12, xm 14 0, ⟨(some 15), .binS .eql (.s 13) (.s 14), none⟩])
 (.cond (.s 15) (.seq (.reg [xm 16 4, ⟨(some 17), .build [(.int .i64 0), (.str []), (.sl .full 1 []), (.int .i64 0), (.int .i64 0), (.int .i64 0)] [(0, 1, (.s 16))], none⟩, xs 6 2 17])
 (.ret))
 (.skip)))))
 (.reg [xB .add 18 7 1, xm 7 18])))))))
 (.seq (.reg [⟨(some 19), .build [(.int .i64 0), (.str []), (.sl .full 1 []), (.int .i64 0), (.int .i64 0), (.int .i64 0)] [], none⟩, xs 6 2 19])
 (.ret)))
theorem fn35 : IsFn prog 35 ac35 [.cell 2 true 6] 20 := ⟨f35, ⟨[], []⟩, func35, by kernel_rfl, by kernel_rfl, by kernel_rfl, by kernel_rfl⟩
def ac44 : AC := .reg [xo 3 1, xm 4 0, ⟨(some 5), .slc 1 (.s 3) (some (.s 4)) none none, none⟩, xs 1 1 5]
theorem fn44 : IsFn prog 44 ac44 [] 6 := ⟨f44, ⟨[], []⟩, func44, by kernel_rfl, by kernel_rfl, by kernel_rfl, by kernel_rfl⟩
def plainF (s : List UInt8) : List Int → Rep
  | [] => .zero
  | k :: ks => if tabAt wordT k = s then { Rep.zero with kind := k } else plainF s ks
def plainK : List Int := [1, 2, 3, 5, 7]
theorem plainF_eq (s : List UInt8) : plainF s plainK = plainR s := rfl
def zeroC : List V := [.int .i64 0, .str [], .sl .full 1 [], .int .i64 0, .int .i64 0, .int .i64 0]
structure FP (s : List UInt8) where
  i : Nat
  le : i ≤ 5
  res : plainR s = plainF s (plainK.drop i)
def invP29 (s : List UInt8) (i : Nat) (σ : Store) : St :=
  ⟨[.str s, .any, .ptr (.loc 0) 0, .any, .any, .sl .full 1 (iCells plainK), .int .i64 5, .int .i64 (i : Nat)] ++ List.replicate 12 .any, [zeroC], σ⟩
theorem plain_calls (s : List UInt8) {σ : Store} (hg : Glob σ) : PCalls prog 35 [.str s] σ fun v σ' => v = .agg (renc (plainR s)) ∧ σ' = σ := by
  refine fn35.calls ?_
  simp only [slots, ac35, am, ams, amo]
  refine vc_loop (fun p : FP s => invP29 s p.i σ) (fun p => 5 - p.i) ?_ ?_
  · refine Upd.enter ⟨0, by simp, rfl⟩ ?_ LLLe.rfl OLe.rfl
    simp [invP29, List.replicate, am, amo, iCells, plainK]
  · rintro ⟨i, hle, hres⟩
    simp only [invP29, List.replicate, am, amo, zeroC]
    by_cases hlt : i < 5
    · have hlt' : i < plainK.length := hlt
      rw [List.drop_eq_getElem_cons hlt', plainF] at hres
      have hk : 1 ≤ plainK[i] ∧ plainK[i] ≤ 7 := by
        have : ∀ j (h : j < plainK.length), 1 ≤ plainK[j] ∧ plainK[j] ≤ 7 := by decide
        exact this i hlt'
      rw [decide_eq_true (show (i : Int) < 5 by omega)]
      simp only [am, amo, amc, Nat.reduceAdd, Nat.reduceEqDiff, encs_length, List.length_map, decide_true, decide_false, Int.reduceEq, Int.reduceLT, Int.reduceLE, Nat.reduceLT, Int.reduceToNat, Nat.reduceMul, Int.reduceMul, Int.reduceAdd, Int.reduceSub, if_false, reduceCtorEq, iCells_len]
      refine idxL_intro (by omega) (iCells_at hlt') ?_
      simp only [am, amo, amc, Nat.reduceAdd, Nat.reduceEqDiff, encs_length, List.length_map, decide_true, decide_false, Int.reduceEq, Int.reduceLT, Int.reduceLE, Nat.reduceLT, Int.reduceToNat, Nat.reduceMul, Int.reduceMul, Int.reduceAdd, Int.reduceSub, if_false, reduceCtorEq, iCells_len]
      generalize plainK[i] = k at hres hk ⊢
      refine idxPL_ptr (by omega) (by omega) ?_
      simp only [am, amo, amc, Nat.reduceAdd, Nat.reduceEqDiff, encs_length, List.length_map, decide_true, decide_false, Int.reduceEq, Int.reduceLT, Int.reduceLE, Nat.reduceLT, Int.reduceToNat, Nat.reduceMul, Int.reduceMul, Int.reduceAdd, Int.reduceSub, if_false, reduceCtorEq, iCells_len, hg.w, wordCells, Nat.zero_add, Nat.mul_one, tab_drop (l := wordT) (c := k) rfl (by omega) (by omega)]
      by_cases he : tabAt wordT k = s
      · rw [if_pos he] at hres
        rw [decide_eq_true he]
        simp only [am, amo, amc, Nat.reduceAdd, Nat.reduceEqDiff, encs_length, List.length_map, decide_true, decide_false, Int.reduceEq, Int.reduceLT, Int.reduceLE, Nat.reduceLT, Int.reduceToNat, Nat.reduceMul, Int.reduceMul, Int.reduceAdd, Int.reduceSub, if_false, reduceCtorEq, iCells_len]
        exact retK_intro rfl (Store.sub_refl _) ⟨by rw [hres]; rfl, rfl⟩
      · rw [if_neg he] at hres
        rw [decide_eq_false he]
        simp only [am, amo, amc, Nat.reduceAdd, Nat.reduceEqDiff, encs_length, List.length_map, decide_true, decide_false, Int.reduceEq, Int.reduceLT, Int.reduceLE, Nat.reduceLT, Int.reduceToNat, Nat.reduceMul, Int.reduceMul, Int.reduceAdd, Int.reduceSub, if_false, reduceCtorEq, iCells_len]
        rw [wrap_i64 (by omega) (by omega)]
        refine Upd.again (I := fun p : FP s => invP29 s p.i σ) (μ := fun p : FP s => 5 - p.i) ⟨i + 1, hlt, hres⟩ (by simp only; omega) ?_ LLLe.rfl OLe.rfl
        simp [invP29, List.replicate, am, zeroC]
    · have hge : i = 5 := by omega
      subst hge
      rw [decide_eq_false (by omega)]
      simp only [am, amo, amc, Nat.reduceAdd, Nat.reduceEqDiff, encs_length, List.length_map, decide_true, decide_false, Int.reduceEq, Int.reduceLT, Int.reduceLE, Nat.reduceLT, Int.reduceToNat, Nat.reduceMul, Int.reduceMul, Int.reduceAdd, Int.reduceSub, if_false, reduceCtorEq, iCells_len]
      exact retK_intro rfl (Store.sub_refl _) ⟨by rw [hres]; rfl, rfl⟩
theorem drop2_calls {b : Nat} {ws : List (List UInt8)} {σ : Store} (hb : σ.box b = some [.sl .no 1 (tCells ws)]) (hw : 2 ≤ ws.length) : PCalls prog 44 [.int .i64 2, .ptr (.out b) 0] σ fun v σ' => v = .tup [] ∧ σ' = σ.set b [.sl .no 1 (tCells (ws.drop 2))] := by
  refine fn44.calls ?_
  simp only [slots, ac44, am, amo, amc, ams, Nat.reduceAdd, Nat.reduceEqDiff, decide_true, decide_false, Int.reduceEq, Int.reduceLT, Int.reduceLE, Nat.reduceLT, Int.reduceToNat, Nat.reduceMul, Int.reduceMul, Int.reduceAdd, Int.reduceSub, if_false, reduceCtorEq, iCells_len]
  simp only [am, amo, amc, Nat.reduceAdd, Nat.reduceEqDiff, encs_length, List.length_map, decide_true, decide_false, Int.reduceEq, Int.reduceLT, Int.reduceLE, Nat.reduceLT, Int.reduceToNat, Nat.reduceMul, Int.reduceMul, Int.reduceAdd, Int.reduceSub, if_false, reduceCtorEq, iCells_len, hb]
  refine slcL_from (a := 2) (by rw [tCells_len]; exact hw) ?_
  simp only [am, amo, amc, Nat.reduceAdd, Nat.reduceEqDiff, encs_length, List.length_map, decide_true, decide_false, Int.reduceEq, Int.reduceLT, Int.reduceLE, Nat.reduceLT, Int.reduceToNat, Nat.reduceMul, Int.reduceMul, Int.reduceAdd, Int.reduceSub, if_false, reduceCtorEq, iCells_len, hb]
  refine retK_intro rfl (Store.sub_refl _) ⟨rfl, ?_⟩
  simp [tCells]
structure FF (w : List UInt8) where
  i : Nat
  cur : Int
  le : i ≤ 9
  zero : i = 0 → cur = 0
  res : 1 ≤ i → clsR w = clsF w (9 - i) i cur
def invF (b : Nat) (ln : Int) (i : Nat) (cur : Int) (σ : Store) : St :=
  ⟨[.any, .ptr (.out b) 0, .ptr (.loc 0) 0, .bool false, .ptr (.loc 1) 0, .bool true] ++ List.replicate 35 .any ++ [.int .i64 (i : Nat)] ++ List.replicate 26 .any, [zeroC, [.int .i64 8, .str [], .sl .full 1 [], .int .i64 ln, .int .i64 cur, .int .i64 0]], σ⟩
theorem fail2 (x y : List UInt8) : failR [x, y] = (numR y).map fun (a : Nat) => (⟨8, [], [], 0, clsR x, (a : Int)⟩ : Rep) := by
  simp only [failR, List.length_cons, List.length_nil, Nat.reduceAdd, Nat.reduceEqDiff, false_and, if_false, if_true, List.getD_cons_succ, List.getD_cons_zero]
  cases numR y <;> rfl
theorem fail4 (u x y : List UInt8) : failR [lineW, u, x, y] = match numR u with | none => none | some 0 => none | some n => (numR y).map fun (a : Nat) => (⟨8, [], [], n, clsR x, (a : Int)⟩ : Rep) := by
  simp only [failR, List.length_cons, List.length_nil, Nat.reduceAdd, true_and, if_true, List.getD_cons_succ, List.getD_cons_zero]
  cases numR u with
  | none => rfl
  | some n => cases n with
    | zero => rfl
    | succ n => cases numR y <;> rfl
theorem fail_no {ws : List (List UInt8)} (h4 : ¬ (ws.length = 4 ∧ ws.getD 0 [] = lineW)) (h2 : ¬ ws.length = 2) : failR ws = none := by
  rw [failR, if_neg h4, if_neg h2]
theorem failed_calls (ws : List (List UInt8)) {σ : Store} (hg : Glob σ) (hl : ws.length ≤ 5002) (hw : ∀ w ∈ ws, w.length ≤ 5000) : PCalls prog 34 [.sl .no 1 (tCells ws)] σ fun v σ' => (∃ r, v = .tup [.agg (renc r), .bool (failR ws).isSome] ∧ ∀ q, failR ws = some q → r = q) ∧ σ' = σ := by
  generalize hF : failR ws = F
  refine fn34.calls ?_
  simp only [slots, ac34, am, ams, amo]
  refine kO_intro fun b hb => ?_
  simp only [am, amo, amc, Nat.reduceAdd, Nat.reduceEqDiff, encs_length, List.length_map, decide_true, decide_false, Int.reduceEq, Int.reduceLT, Int.reduceLE, Nat.reduceLT, Int.reduceToNat, Nat.reduceMul, Int.reduceMul, Int.reduceAdd, Int.reduceSub, if_false, reduceCtorEq, iCells_len, tCells_len]
  have hgc : ∀ cs, (σ.set b cs).box 1 = some clsCells := fun cs => set_new hb hg.c
  have fin : ∀ (t : List V) (l : List (List V)) (cs : List V), F = none → RetK (fun v σ' => (∃ r, v = .tup [.agg (renc r), .bool F.isSome] ∧ ∀ q, F = some q → r = q) ∧ σ' = σ) ⟨t, l, σ.set b cs⟩ (.tup [.agg zeroC, .bool false]) := fun t l cs h => by
    refine retK_intro rfl (sub_set hb) ⟨⟨.zero, ?_, fun q hq => by rw [h] at hq; simp at hq⟩, rfl⟩
    rw [h]; rfl
  simp only [zeroC] at fin
  by_cases h4 : ws.length = 4
  case' pos =>
    obtain ⟨a, u, x, y, rfl⟩ : ∃ a u x y, ws = [a, u, x, y] := by
      match ws, h4 with
      | [a, u, x, y], _ => exact ⟨a, u, x, y, rfl⟩
    simp only [am, amo, amc, Nat.reduceAdd, Nat.reduceEqDiff, encs_length, List.length_map, decide_true, decide_false, Int.reduceEq, Int.reduceLT, Int.reduceLE, Nat.reduceLT, Int.reduceToNat, Nat.reduceMul, Int.reduceMul, Int.reduceAdd, Int.reduceSub, if_false, reduceCtorEq, iCells_len, show ((([a, u, x, y] : List (List UInt8)).length : Nat) : Int) = 4 from rfl]
    refine idxL_intro (c := [.str a]) (by omega) rfl ?_
    simp only [am, amo, amc, Nat.reduceAdd, Nat.reduceEqDiff, encs_length, List.length_map, decide_true, decide_false, Int.reduceEq, Int.reduceLT, Int.reduceLE, Nat.reduceLT, Int.reduceToNat, Nat.reduceMul, Int.reduceMul, Int.reduceAdd, Int.reduceSub, if_false, reduceCtorEq, iCells_len]
    by_cases ha : a = [108, 105, 110, 101]
    case' neg =>
      rw [decide_eq_false ha]
      have hf := hF.symm.trans (fail_no (ws := [a, u, x, y]) (fun h => ha h.2) (by simp))
      simp only [am, amo, amc, Nat.reduceAdd, Nat.reduceEqDiff, encs_length, List.length_map, decide_true, decide_false, Int.reduceEq, Int.reduceLT, Int.reduceLE, Nat.reduceLT, Int.reduceToNat, Nat.reduceMul, Int.reduceMul, Int.reduceAdd, Int.reduceSub, if_false, reduceCtorEq, iCells_len, show ((([a, u, x, y] : List (List UInt8)).length : Nat) : Int) = 4 from rfl, tCells_len]
      exact fin _ _ _ hf
    case' pos =>
      rw [decide_eq_true ha]
      obtain rfl : a = lineW := ha
      rw [fail4] at hF
      simp only [am, amo, amc, Nat.reduceAdd, Nat.reduceEqDiff, encs_length, List.length_map, decide_true, decide_false, Int.reduceEq, Int.reduceLT, Int.reduceLE, Nat.reduceLT, Int.reduceToNat, Nat.reduceMul, Int.reduceMul, Int.reduceAdd, Int.reduceSub, if_false, reduceCtorEq, iCells_len]
      refine idxL_intro (c := [.str u]) (by omega) rfl ?_
      simp only [am, amo, amc, Nat.reduceAdd, Nat.reduceEqDiff, encs_length, List.length_map, decide_true, decide_false, Int.reduceEq, Int.reduceLT, Int.reduceLE, Nat.reduceLT, Int.reduceToNat, Nat.reduceMul, Int.reduceMul, Int.reduceAdd, Int.reduceSub, if_false, reduceCtorEq, iCells_len]
      refine (num_calls u _ (hw u (by simp))).mono ?_
      rintro v σ1 ⟨rfl, rfl⟩
      simp only [am, amo, amc, Nat.reduceAdd, Nat.reduceEqDiff, encs_length, List.length_map, decide_true, decide_false, Int.reduceEq, Int.reduceLT, Int.reduceLE, Nat.reduceLT, Int.reduceToNat, Nat.reduceMul, Int.reduceMul, Int.reduceAdd, Int.reduceSub, if_false, reduceCtorEq, iCells_len, nOut]
      rcases hn : numR u with _ | _ | n
      case' none =>
        rw [hn] at hF
        simp only [am, amo, amc, Nat.reduceAdd, Nat.reduceEqDiff, encs_length, List.length_map, decide_true, decide_false, Int.reduceEq, Int.reduceLT, Int.reduceLE, Nat.reduceLT, Int.reduceToNat, Nat.reduceMul, Int.reduceMul, Int.reduceAdd, Int.reduceSub, if_false, reduceCtorEq, iCells_len, Option.getD_none, Int.natCast_zero]
        exact fin _ _ _ hF.symm
      case' some.zero =>
        rw [hn] at hF
        simp only [am, amo, amc, Nat.reduceAdd, Nat.reduceEqDiff, encs_length, List.length_map, decide_true, decide_false, Int.reduceEq, Int.reduceLT, Int.reduceLE, Nat.reduceLT, Int.reduceToNat, Nat.reduceMul, Int.reduceMul, Int.reduceAdd, Int.reduceSub, if_false, reduceCtorEq, iCells_len, Option.getD_some, Int.natCast_zero]
        exact fin _ _ _ hF.symm
      case' some.succ =>
        rw [hn] at hF
        simp only at hF
        simp only [am, amo, amc, Nat.reduceAdd, Nat.reduceEqDiff, encs_length, List.length_map, decide_true, decide_false, Int.reduceEq, Int.reduceLT, Int.reduceLE, Nat.reduceLT, Int.reduceToNat, Nat.reduceMul, Int.reduceMul, Int.reduceAdd, Int.reduceSub, if_false, reduceCtorEq, iCells_len, Option.getD_some, decide_eq_false (show ¬ ((n + 1 : Nat) : Int) = 0 by omega), Option.isSome_some]
        refine (drop2_calls (ws := [lineW, u, x, y]) (Store.set_same _ _ _) (by simp)).mono ?_
        rintro _ _ ⟨rfl, rfl⟩
        simp only [List.drop_succ_cons, List.drop_zero]
        simp only [am, amo, amc, Nat.reduceAdd, Nat.reduceEqDiff, encs_length, List.length_map, decide_true, decide_false, Int.reduceEq, Int.reduceLT, Int.reduceLE, Nat.reduceLT, Int.reduceToNat, Nat.reduceMul, Int.reduceMul, Int.reduceAdd, Int.reduceSub, if_false, reduceCtorEq, iCells_len, tCells_len, show ((([x, y] : List (List UInt8)).length : Nat) : Int) = 2 from rfl]
        have hwx := hw x (by simp)
        have hwy := hw y (by simp)
        generalize hln : ((n + 1 : Nat) : Int) = ln at hF ⊢
        clear h4 hw hl hn
  case' neg =>
    rw [decide_eq_false (by omega)]
    simp only [am, amo, amc, Nat.reduceAdd, Nat.reduceEqDiff, encs_length, List.length_map, decide_true, decide_false, Int.reduceEq, Int.reduceLT, Int.reduceLE, Nat.reduceLT, Int.reduceToNat, Nat.reduceMul, Int.reduceMul, Int.reduceAdd, Int.reduceSub, if_false, reduceCtorEq, iCells_len, tCells_len]
    by_cases h2 : ws.length = 2
    case' neg =>
      have hf := hF.symm.trans (fail_no (fun h => h4 h.1) h2)
      rw [decide_eq_false (by omega)]
      simp only [am, amo, amc, Nat.reduceAdd, Nat.reduceEqDiff, encs_length, List.length_map, decide_true, decide_false, Int.reduceEq, Int.reduceLT, Int.reduceLE, Nat.reduceLT, Int.reduceToNat, Nat.reduceMul, Int.reduceMul, Int.reduceAdd, Int.reduceSub, if_false, reduceCtorEq, iCells_len]
      exact fin _ _ _ hf
    case' pos =>
      obtain ⟨x, y, rfl⟩ : ∃ x y, ws = [x, y] := by
        match ws, h2 with
        | [x, y], _ => exact ⟨x, y, rfl⟩
      rw [fail2] at hF
      simp only [am, amo, amc, Nat.reduceAdd, Nat.reduceEqDiff, encs_length, List.length_map, decide_true, decide_false, Int.reduceEq, Int.reduceLT, Int.reduceLE, Nat.reduceLT, Int.reduceToNat, Nat.reduceMul, Int.reduceMul, Int.reduceAdd, Int.reduceSub, if_false, reduceCtorEq, iCells_len, show ((([x, y] : List (List UInt8)).length : Nat) : Int) = 2 from rfl]
      have hwx := hw x (by simp)
      have hwy := hw y (by simp)
      obtain ⟨ln, hln⟩ : ∃ ln : Int, 0 = ln := ⟨0, rfl⟩
      rw [show (fun a : Nat => (⟨8, [], [], 0, clsR x, (a : Int)⟩ : Rep)) = fun a : Nat => ⟨8, [], [], ln, clsR x, (a : Int)⟩ by rw [hln]] at hF
      clear h4 hw hl h2
  all_goals
    refine vc_loop (fun p : FF x => invF b ln p.i p.cur (σ.set b [.sl .no 1 (tCells [x, y])])) (fun p => 9 - p.i) ?_ ?_
    · refine Upd.enter ⟨0, 0, by omega, fun _ => rfl, fun h => by omega⟩ ?_ ?_ OLe.rfl
      · simp [invF, List.replicate, am, amo]
      · simp [invF, zeroC, am, ← hln]
    · rintro ⟨i, cur, hle, hz, hres⟩
      simp only [invF, List.replicate, am, amo, zeroC]
      by_cases hlt : i < 9
      · rw [decide_eq_true (show (i : Int) < 9 by omega)]
        simp only [am, amo, amc, Nat.reduceAdd, Nat.reduceEqDiff, encs_length, List.length_map, decide_true, decide_false, Int.reduceEq, Int.reduceLT, Int.reduceLE, Nat.reduceLT, Int.reduceToNat, Nat.reduceMul, Int.reduceMul, Int.reduceAdd, Int.reduceSub, if_false, reduceCtorEq, iCells_len]
        have again : ∀ (t : List V) (c2 : Int), (clsR x = clsF x (9 - (i + 1)) (i + 1) c2) → LLe t (invF b ln (i + 1) c2 (σ.set b [.sl .no 1 (tCells [x, y])])).t → Upd ⟨t, [zeroC, [.int .i64 8, .str [], .sl .full 1 [], .int .i64 ln, .int .i64 c2, .int .i64 0]], σ.set b [.sl .no 1 (tCells [x, y])]⟩ fun st' => ∃ p : FF x, st' = invF b ln p.i p.cur (σ.set b [.sl .no 1 (tCells [x, y])]) ∧ 9 - p.i < 9 - i := fun t c2 h1 h2 =>
          Upd.again (I := fun p : FF x => invF b ln p.i p.cur (σ.set b [.sl .no 1 (tCells [x, y])])) (μ := fun p : FF x => 9 - p.i) ⟨i + 1, c2, hlt, fun h => by omega, fun _ => h1⟩ (by simp only; omega) h2 LLLe.rfl OLe.rfl
        have wi : IntKind.i64.wrap ((i : Int) + 1) = ((i + 1 : Nat) : Int) := by rw [wrap_i64 (by omega) (by omega)]; omega
        by_cases h0 : 0 < i
        · have hres := hres h0
          rw [show 9 - i = (9 - (i + 1)) + 1 by omega, clsF] at hres
          rw [decide_eq_true (show (0 : Int) < i by omega)]
          simp only [am, amo, amc, Nat.reduceAdd, Nat.reduceEqDiff, encs_length, List.length_map, decide_true, decide_false, Int.reduceEq, Int.reduceLT, Int.reduceLE, Nat.reduceLT, Int.reduceToNat, Nat.reduceMul, Int.reduceMul, Int.reduceAdd, Int.reduceSub, if_false, reduceCtorEq, iCells_len]
          refine idxPL_ptr (by omega) (by omega) ?_
          simp only [am, amo, amc, Nat.reduceAdd, Nat.reduceEqDiff, encs_length, List.length_map, decide_true, decide_false, Int.reduceEq, Int.reduceLT, Int.reduceLE, Nat.reduceLT, Int.reduceToNat, Nat.reduceMul, Int.reduceMul, Int.reduceAdd, Int.reduceSub, if_false, reduceCtorEq, iCells_len, hgc, clsCells, Nat.zero_add, Nat.mul_one, tab_drop (l := classT) (c := (i : Int)) rfl (by omega) (by omega)]
          refine idxL_intro (c := [.str x]) (by omega) rfl ?_
          simp only [am, amo, amc, Nat.reduceAdd, Nat.reduceEqDiff, encs_length, List.length_map, decide_true, decide_false, Int.reduceEq, Int.reduceLT, Int.reduceLE, Nat.reduceLT, Int.reduceToNat, Nat.reduceMul, Int.reduceMul, Int.reduceAdd, Int.reduceSub, if_false, reduceCtorEq, iCells_len]
          by_cases he : tabAt classT i = x
          · rw [if_pos he] at hres
            rw [decide_eq_true he]
            simp only [am, amo, amc, Nat.reduceAdd, Nat.reduceEqDiff, encs_length, List.length_map, decide_true, decide_false, Int.reduceEq, Int.reduceLT, Int.reduceLE, Nat.reduceLT, Int.reduceToNat, Nat.reduceMul, Int.reduceMul, Int.reduceAdd, Int.reduceSub, if_false, reduceCtorEq, iCells_len, wi]
            exact again _ _ hres (by simp [invF, List.replicate, am])
          · rw [if_neg he] at hres
            rw [decide_eq_false he]
            simp only [am, amo, amc, Nat.reduceAdd, Nat.reduceEqDiff, encs_length, List.length_map, decide_true, decide_false, Int.reduceEq, Int.reduceLT, Int.reduceLE, Nat.reduceLT, Int.reduceToNat, Nat.reduceMul, Int.reduceMul, Int.reduceAdd, Int.reduceSub, if_false, reduceCtorEq, iCells_len, wi]
            exact again _ _ hres (by simp [invF, List.replicate, am])
        · obtain rfl : i = 0 := by omega
          have hc0 := hz rfl
          subst hc0
          rw [decide_eq_false (show ¬ (0 : Int) < ((0 : Nat) : Int) by omega)]
          simp only [am, amo, amc, Nat.reduceAdd, Nat.reduceEqDiff, encs_length, List.length_map, decide_true, decide_false, Int.reduceEq, Int.reduceLT, Int.reduceLE, Nat.reduceLT, Int.reduceToNat, Nat.reduceMul, Int.reduceMul, Int.reduceAdd, Int.reduceSub, if_false, reduceCtorEq, iCells_len, wi]
          exact again _ _ rfl (by simp [invF, List.replicate, am])
      · have hge : i = 9 := by omega
        subst hge
        have hres := hres (by omega)
        rw [decide_eq_false (by omega)]
        simp only [am, amo, amc, Nat.reduceAdd, Nat.reduceEqDiff, encs_length, List.length_map, decide_true, decide_false, Int.reduceEq, Int.reduceLT, Int.reduceLE, Nat.reduceLT, Int.reduceToNat, Nat.reduceMul, Int.reduceMul, Int.reduceAdd, Int.reduceSub, if_false, reduceCtorEq, iCells_len]
        refine idxL_intro (c := [.str y]) (by omega) rfl ?_
        simp only [am, amo, amc, Nat.reduceAdd, Nat.reduceEqDiff, encs_length, List.length_map, decide_true, decide_false, Int.reduceEq, Int.reduceLT, Int.reduceLE, Nat.reduceLT, Int.reduceToNat, Nat.reduceMul, Int.reduceMul, Int.reduceAdd, Int.reduceSub, if_false, reduceCtorEq, iCells_len]
        refine (num_calls y _ hwy).mono ?_
        rintro v σ1 ⟨rfl, rfl⟩
        simp only [am, amo, amc, Nat.reduceAdd, Nat.reduceEqDiff, encs_length, List.length_map, decide_true, decide_false, Int.reduceEq, Int.reduceLT, Int.reduceLE, Nat.reduceLT, Int.reduceToNat, Nat.reduceMul, Int.reduceMul, Int.reduceAdd, Int.reduceSub, if_false, reduceCtorEq, iCells_len, nOut]
        refine retK_intro rfl (sub_set hb) ⟨⟨⟨8, [], [], ln, clsR x, ((numR y).getD 0 : Nat)⟩, ?_, ?_⟩, rfl⟩
        · rw [hF.symm, hres]
          cases numR y <;> rfl
        · intro q hq
          rw [← hF] at hq
          cases hy : numR y with
          | none => rw [hy] at hq; simp at hq
          | some a => rw [hy] at hq; simpa using hq
end Go.Proofs.Tryd

namespace Go.Proofs.Tryd
open Go.Am
set_option maxRecDepth 4000
set_option maxHeartbeats 4000000
def ac15 : AC := .seq (.reg [⟨(some 2), .alloc [(.int .i64 0), (.str []), (.sl .full 1 []), (.int .i64 0), (.int .i64 0), (.int .i64 0)], none⟩, ⟨(some 3), .mv (.c (.bool false)), none⟩])
 (.seq (.reg [xm 7 0, xc 25 8 [.s 7], xm 6 8, xe 9 6 0, xe 10 6 1, ⟨(some 4), .alloc [(.int .i64 0), (.str []), (.sl .full 1 []), (.int .i64 0), (.int .i64 0), (.int .i64 0)], none⟩, xs 6 4 9, xm 5 10])
 (.seq (.seq (.reg [xm 11 5, ⟨(some 12), .not (.s 11), none⟩, xm 13 12, xh 13 (xl 6 14 4), xh 13 (xc 11 15 [.s 14]), ⟨(some 16), .not (.s 15), (some (13, false))⟩, ⟨(some 17), .pick (.s 13) (.c (.bool true)) (.s 16), none⟩])
 (.cond (.s 17) (.seq (.reg [⟨(some 18), .build [(.int .i64 0), (.str []), (.sl .full 1 []), (.int .i64 0), (.int .i64 0), (.int .i64 0)] [], none⟩, xs 6 2 18, ⟨(some 3), .mv (.c (.bool false)), none⟩])
 (.ret))
 (.skip)))
 (.seq (.reg [xl 6 19 4, xs 6 2 19, ⟨(some 3), .mv (.c (.bool true)), none⟩])
 (.ret))))
theorem fn15 : IsFn prog 15 ac15 [.cell 2 true 6, .tmp 3] 20 := ⟨f15, ⟨[], []⟩, func15, by kernel_rfl, by kernel_rfl, by kernel_rfl, by kernel_rfl⟩
def ac25 : AC := .seq (.reg [⟨(some 2), .alloc [(.int .i64 0), (.str []), (.sl .full 1 []), (.int .i64 0), (.int .i64 0), (.int .i64 0)], none⟩, ⟨(some 3), .mv (.c (.bool false)), none⟩])
 (.seq (.seq (.reg [xm 12 0, xc 31 13 [.s 12, .c (.str [115, 97, 116, 32])], xm 11 13, xe 14 11 0, xe 15 11 1, xm 4 14, xm 5 15])
 (.seq (.reg [xm 16 5])
 (.cond (.s 16) (.seq (.reg [xm 17 4, ⟨(some 18), .build [(.int .i64 0), (.str []), (.sl .full 1 []), (.int .i64 0), (.int .i64 0), (.int .i64 0)] [(0, 1, (.c (.int .i64 2))), (1, 1, (.s 17))], none⟩, xm 19 4, ⟨(some 20), .binS .neq (.s 19) (.c (.str [])), none⟩, xs 6 2 18, xm 3 20])
 (.ret))
 (.skip))))
 (.seq (.reg [xm 21 0, xc 32 22 [.s 21, .c (.str [32])], xm 6 22])
 (.seq (.seq (.reg [xm 23 6, ⟨(some 24), .idxA 1 (.s 23) (.c (.int .i64 0)), none⟩, xo 25 24])
 (.block 0 (.seq (.reg [⟨(some 27), .binS .eql (.s 25) (.c (.str [99, 111, 114, 101])), none⟩, xm 26 27])
 (.cond (.s 26) (.seq (.reg [xm 29 6, ⟨(some 30), .slc 1 (.s 29) (some (.c (.int .i64 1))) none none, none⟩, xc 33 31 [.s 30], xm 28 31, xe 32 28 0, xe 33 28 1, xm 7 32, xm 8 33])
 (.seq (.reg [xm 34 7, ⟨(some 35), .build [(.int .i64 0), (.str []), (.sl .full 1 []), (.int .i64 0), (.int .i64 0), (.int .i64 0)] [(0, 1, (.c (.int .i64 4))), (2, 1, (.s 34))], none⟩, xm 36 8, xs 6 2 35, xm 3 36])
 (.ret)))
 (.seq (.reg [⟨(some 38), .binS .eql (.s 25) (.c (.str [119, 104, 121])), none⟩, xm 37 38])
 (.cond (.s 37) (.seq (.reg [xm 40 6, ⟨(some 41), .slc 1 (.s 40) (some (.c (.int .i64 1))) none none, none⟩, xc 33 42 [.s 41], xm 39 42, xe 43 39 0, xe 44 39 1, xm 9 43, xm 10 44])
 (.seq (.reg [xm 45 9, ⟨(some 46), .build [(.int .i64 0), (.str []), (.sl .full 1 []), (.int .i64 0), (.int .i64 0), (.int .i64 0)] [(0, 1, (.c (.int .i64 6))), (2, 1, (.s 45))], none⟩, xm 47 10, xs 6 2 46, xm 3 47])
 (.ret)))
 (.seq (.reg [⟨(some 49), .binS .eql (.s 25) (.c (.str [101, 114, 114, 111, 114])), none⟩, xm 48 49])
 (.cond (.s 48) (.seq (.reg [xm 50 6, ⟨(some 51), .slc 1 (.s 50) (some (.c (.int .i64 1))) none none, none⟩, xc 34 52 [.s 51], xe 53 52 0, xe 54 52 1, xs 6 2 53, xm 3 54])
 (.ret))
 (.skip)))))))))
 (.seq (.reg [xm 55 0, xc 35 56 [.s 55], xs 6 2 56, ⟨(some 3), .mv (.c (.bool true)), none⟩])
 (.ret)))))
theorem fn25 : IsFn prog 25 ac25 [.cell 2 true 6, .tmp 3] 57 := ⟨f25, ⟨[], []⟩, func25, by kernel_rfl, by kernel_rfl, by kernel_rfl, by kernel_rfl⟩
theorem splitW_len (s : List UInt8) : (splitW s).length ≤ s.length + 1 := by
  induction s with
  | nil => simp [splitW]
  | cons c s ih =>
    simp only [splitW]
    cases h : splitW s with
    | nil => simp
    | cons w ws => rw [h] at ih; simp only; split <;> simp at ih ⊢ <;> omega
theorem splitW_mem (s : List UInt8) : ∀ w ∈ splitW s, w.length ≤ s.length := by
  induction s with
  | nil => simp [splitW]
  | cons c s ih =>
    simp only [splitW]
    cases h : splitW s with
    | nil => simp
    | cons w ws =>
      rw [h] at ih
      intro x hx
      simp only at hx
      split at hx
      · rcases List.mem_cons.1 hx with rfl | hx
        · simp
        · have := ih x hx; simp; omega
      · rcases List.mem_cons.1 hx with rfl | hx
        · have := ih w (by simp); simp; omega
        · have := ih x (by simp [hx]); simp; omega
theorem iok_nat {n : Nat} (h : n < 10 ^ 18) : Iok (n : Int) := ⟨by omega, by omega⟩
theorem numsR_ok : ∀ (ss : List (List UInt8)) (l : List Int), numsR ss = some l → l.length = ss.length ∧ ∀ n ∈ l, Iok n
  | [], l, h => by simp [numsR] at h; subst h; simp
  | s :: ss, l, h => by
    simp only [numsR] at h
    cases hq : numR s with
    | none => rw [hq] at h; simp at h
    | some n =>
      rw [hq] at h
      simp only [Option.map_eq_some_iff] at h
      obtain ⟨l', h1, rfl⟩ := h
      obtain ⟨g1, g2⟩ := numsR_ok ss l' h1
      refine ⟨by simp [g1], fun m hm => ?_⟩
      rcases List.mem_cons.1 hm with rfl | hm
      · exact iok_nat (numR_some hq).2
      · exact g2 m hm
theorem iok0 : Iok 0 := ⟨by omega, by omega⟩
theorem fail_ok {ws : List (List UInt8)} {r : Rep} (h : failR ws = some r) : ROk r := by
  unfold failR at h
  split at h
  · split at h
    · simp at h
    · simp at h
    · rename_i n _ hn
      split at h
      · rename_i a ha
        obtain rfl := Option.some.inj h
        exact ⟨iok_nat (numR_some hn).2, iok_nat (numR_some ha).2, by simp, by simp, by simp⟩
      · simp at h
  · split at h
    · split at h
      · rename_i a ha
        obtain rfl := Option.some.inj h
        exact ⟨iok0, iok_nat (numR_some ha).2, by simp, by simp, by simp⟩
      · simp at h
    · simp at h
theorem zero_ok {k : Int} : ROk { Rep.zero with kind := k } := ⟨iok0, iok0, by simp [Rep.zero], by simp [Rep.zero], by simp [Rep.zero]⟩
theorem plain_ok (s : List UInt8) : ROk (plainR s) := by
  unfold plainR
  repeat' split
  all_goals exact zero_ok
theorem raw_ok {s : List UInt8} {r : Rep} (h : rawR s = some r) (hl : s.length ≤ 5000) : ROk r := by
  unfold rawR at h
  have hsl := splitW_len s
  have key : ∀ k : Int, (numsR (splitW s).tail).map (fun l => ({ Rep.zero with kind := k, list := l } : Rep)) = some r → ROk r := fun k h => by
    obtain ⟨l, h1, rfl⟩ := Option.map_eq_some_iff.1 h
    obtain ⟨g1, g2⟩ := numsR_ok _ _ h1
    refine ⟨iok0, iok0, ?_, g2, by simp [Rep.zero]⟩
    show l.length ≤ 5000
    rw [g1, List.length_tail]; omega
  split at h
  · split at h
    · simp at h
    · obtain rfl := Option.some.inj h
      refine ⟨iok0, iok0, by simp [Rep.zero], by simp [Rep.zero], ?_⟩
      show (s.drop 4).length ≤ 5000
      rw [List.length_drop]; omega
  split at h
  · exact key _ h
  split at h
  · exact key _ h
  split at h
  · exact fail_ok h
  · obtain rfl := Option.some.inj h; exact plain_ok s
theorem read_calls (s : List UInt8) {σ : Store} (hg : Glob σ) (hl : s.length ≤ 5000) : PCalls prog 25 [.str s] σ fun v σ' => (∃ r, v = .tup [.agg (renc r), .bool (rawR s).isSome] ∧ ∀ q, rawR s = some q → r = q) ∧ σ' = σ := by
  have hsl := splitW_len s
  have hsm := splitW_mem s
  obtain ⟨w, ws, hw⟩ : ∃ w ws, splitW s = w :: ws := by
    cases h : splitW s with
    | nil => exact absurd h (splitW_ne s)
    | cons w ws => exact ⟨w, ws, rfl⟩
  have hF : rawR s = if (satW ++ [32]).isPrefixOf s = true then (if s.drop 4 = [] then none else some { Rep.zero with kind := 2, text := s.drop 4 })
    else if w = coreW then (numsR ws).map fun l => { Rep.zero with kind := 4, list := l }
    else if w = whyW then (numsR ws).map fun l => { Rep.zero with kind := 6, list := l }
    else if w = errorW then failR ws
    else some (plainR s) := by
    unfold rawR; rw [hw]; rfl
  generalize rawR s = F at hF ⊢
  rw [hw] at hsl hsm
  simp only [List.length_cons] at hsl
  have hws : ∀ x ∈ ws, x.length ≤ 5000 := fun x hx => by have := hsm x (by simp [hx]); omega
  refine fn25.calls ?_
  simp only [slots, ac25, am, amo, amc, ams, Nat.reduceAdd, Nat.reduceEqDiff, decide_true, decide_false, Int.reduceEq, Int.reduceLT, Int.reduceLE, Nat.reduceLT, Int.reduceToNat, Nat.reduceMul, Int.reduceMul, Int.reduceAdd, Int.reduceSub, if_false, reduceCtorEq, iCells_len]
  refine (cut_calls s (satW ++ [32]) σ).mono ?_
  rintro v σ ⟨rfl, rfl⟩
  simp only [am, amo, amc, Nat.reduceAdd, Nat.reduceEqDiff, encs_length, List.length_map, decide_true, decide_false, Int.reduceEq, Int.reduceLT, Int.reduceLE, Nat.reduceLT, Int.reduceToNat, Nat.reduceMul, Int.reduceMul, Int.reduceAdd, Int.reduceSub, if_false, reduceCtorEq, iCells_len]
  cases hp : (satW ++ [32]).isPrefixOf s with
  | true =>
    rw [if_pos hp] at hF
    simp only [am, amo, amc, Nat.reduceAdd, Nat.reduceEqDiff, encs_length, List.length_map, decide_true, decide_false, Int.reduceEq, Int.reduceLT, Int.reduceLE, Nat.reduceLT, Int.reduceToNat, Nat.reduceMul, Int.reduceMul, Int.reduceAdd, Int.reduceSub, if_false, reduceCtorEq, iCells_len, show (satW ++ [32]).length = 4 from rfl]
    refine retK_intro rfl (Store.sub_refl _) ⟨⟨{ Rep.zero with kind := 2, text := s.drop 4 }, ?_, ?_⟩, rfl⟩
    · rw [hF]
      by_cases hd : s.drop 4 = []
      · simp [hd, V.erase, eraseL, renc, Rep.zero, iCells]
      · simp [hd, V.erase, eraseL, renc, Rep.zero, iCells]
    · intro q hq
      rw [hF] at hq
      split at hq
      · simp at hq
      · exact Option.some.inj hq
  | false =>
    rw [if_neg (by rw [hp]; simp)] at hF
    simp only [am, amo, amc, Nat.reduceAdd, Nat.reduceEqDiff, encs_length, List.length_map, decide_true, decide_false, Int.reduceEq, Int.reduceLT, Int.reduceLE, Nat.reduceLT, Int.reduceToNat, Nat.reduceMul, Int.reduceMul, Int.reduceAdd, Int.reduceSub, if_false, reduceCtorEq, iCells_len]
    refine (split_calls s _ hl).mono ?_
    rintro v σ ⟨rfl, rfl⟩
    rw [hw]
    simp only [am, amo, amc, Nat.reduceAdd, Nat.reduceEqDiff, encs_length, List.length_map, decide_true, decide_false, Int.reduceEq, Int.reduceLT, Int.reduceLE, Nat.reduceLT, Int.reduceToNat, Nat.reduceMul, Int.reduceMul, Int.reduceAdd, Int.reduceSub, if_false, reduceCtorEq, iCells_len]
    refine idxL_intro (c := [.str w]) (by omega) rfl ?_
    simp only [am, amo, amc, Nat.reduceAdd, Nat.reduceEqDiff, encs_length, List.length_map, decide_true, decide_false, Int.reduceEq, Int.reduceLT, Int.reduceLE, Nat.reduceLT, Int.reduceToNat, Nat.reduceMul, Int.reduceMul, Int.reduceAdd, Int.reduceSub, if_false, reduceCtorEq, iCells_len]
    have cut1 : (tCells (w :: ws)).drop 1 = tCells ws := rfl
    by_cases hc : w = coreW
    · obtain rfl : w = coreW := hc
      rw [if_pos rfl] at hF
      simp only [am, amo, amc, Nat.reduceAdd, Nat.reduceEqDiff, encs_length, List.length_map, decide_true, decide_false, Int.reduceEq, Int.reduceLT, Int.reduceLE, Nat.reduceLT, Int.reduceToNat, Nat.reduceMul, Int.reduceMul, Int.reduceAdd, Int.reduceSub, if_false, reduceCtorEq, iCells_len, show decide (coreW = [99, 111, 114, 101]) = true from rfl]
      refine slcL_from (a := 1) (by rw [tCells_len]; simp) ?_
      rw [cut1]
      simp only [am, amo, amc, Nat.reduceAdd, Nat.reduceEqDiff, encs_length, List.length_map, decide_true, decide_false, Int.reduceEq, Int.reduceLT, Int.reduceLE, Nat.reduceLT, Int.reduceToNat, Nat.reduceMul, Int.reduceMul, Int.reduceAdd, Int.reduceSub, if_false, reduceCtorEq, iCells_len]
      refine (nums_calls ws _ (by omega) hws).mono ?_
      rintro v σ ⟨rfl, rfl⟩
      simp only [am, amo, amc, Nat.reduceAdd, Nat.reduceEqDiff, encs_length, List.length_map, decide_true, decide_false, Int.reduceEq, Int.reduceLT, Int.reduceLE, Nat.reduceLT, Int.reduceToNat, Nat.reduceMul, Int.reduceMul, Int.reduceAdd, Int.reduceSub, if_false, reduceCtorEq, iCells_len, nsOut]
      refine retK_intro rfl (Store.sub_refl _) ⟨⟨{ Rep.zero with kind := 4, list := (numsR ws).getD [] }, ?_, ?_⟩, rfl⟩
      · rw [hF]; simp [V.erase, eraseL, renc, Rep.zero]
      · intro q hq
        rw [hF] at hq
        obtain ⟨l, h1, rfl⟩ := Option.map_eq_some_iff.1 hq
        rw [h1]; rfl
    rw [if_neg hc] at hF
    rw [decide_eq_false (show ¬ w = [99, 111, 114, 101] from hc)]
    simp only [am, amo, amc, Nat.reduceAdd, Nat.reduceEqDiff, encs_length, List.length_map, decide_true, decide_false, Int.reduceEq, Int.reduceLT, Int.reduceLE, Nat.reduceLT, Int.reduceToNat, Nat.reduceMul, Int.reduceMul, Int.reduceAdd, Int.reduceSub, if_false, reduceCtorEq, iCells_len]
    by_cases hy : w = whyW
    · obtain rfl : w = whyW := hy
      rw [if_pos rfl] at hF
      simp only [am, amo, amc, Nat.reduceAdd, Nat.reduceEqDiff, encs_length, List.length_map, decide_true, decide_false, Int.reduceEq, Int.reduceLT, Int.reduceLE, Nat.reduceLT, Int.reduceToNat, Nat.reduceMul, Int.reduceMul, Int.reduceAdd, Int.reduceSub, if_false, reduceCtorEq, iCells_len, show decide (whyW = [119, 104, 121]) = true from rfl]
      refine slcL_from (a := 1) (by rw [tCells_len]; simp) ?_
      rw [cut1]
      simp only [am, amo, amc, Nat.reduceAdd, Nat.reduceEqDiff, encs_length, List.length_map, decide_true, decide_false, Int.reduceEq, Int.reduceLT, Int.reduceLE, Nat.reduceLT, Int.reduceToNat, Nat.reduceMul, Int.reduceMul, Int.reduceAdd, Int.reduceSub, if_false, reduceCtorEq, iCells_len]
      refine (nums_calls ws _ (by omega) hws).mono ?_
      rintro v σ ⟨rfl, rfl⟩
      simp only [am, amo, amc, Nat.reduceAdd, Nat.reduceEqDiff, encs_length, List.length_map, decide_true, decide_false, Int.reduceEq, Int.reduceLT, Int.reduceLE, Nat.reduceLT, Int.reduceToNat, Nat.reduceMul, Int.reduceMul, Int.reduceAdd, Int.reduceSub, if_false, reduceCtorEq, iCells_len, nsOut]
      refine retK_intro rfl (Store.sub_refl _) ⟨⟨{ Rep.zero with kind := 6, list := (numsR ws).getD [] }, ?_, ?_⟩, rfl⟩
      · rw [hF]; simp [V.erase, eraseL, renc, Rep.zero]
      · intro q hq
        rw [hF] at hq
        obtain ⟨l, h1, rfl⟩ := Option.map_eq_some_iff.1 hq
        rw [h1]; rfl
    rw [if_neg hy] at hF
    rw [decide_eq_false (show ¬ w = [119, 104, 121] from hy)]
    simp only [am, amo, amc, Nat.reduceAdd, Nat.reduceEqDiff, encs_length, List.length_map, decide_true, decide_false, Int.reduceEq, Int.reduceLT, Int.reduceLE, Nat.reduceLT, Int.reduceToNat, Nat.reduceMul, Int.reduceMul, Int.reduceAdd, Int.reduceSub, if_false, reduceCtorEq, iCells_len]
    by_cases he : w = errorW
    · obtain rfl : w = errorW := he
      rw [if_pos rfl] at hF
      simp only [am, amo, amc, Nat.reduceAdd, Nat.reduceEqDiff, encs_length, List.length_map, decide_true, decide_false, Int.reduceEq, Int.reduceLT, Int.reduceLE, Nat.reduceLT, Int.reduceToNat, Nat.reduceMul, Int.reduceMul, Int.reduceAdd, Int.reduceSub, if_false, reduceCtorEq, iCells_len, show decide (errorW = [101, 114, 114, 111, 114]) = true from rfl]
      refine slcL_from (a := 1) (by rw [tCells_len]; simp) ?_
      rw [cut1]
      simp only [am, amo, amc, Nat.reduceAdd, Nat.reduceEqDiff, encs_length, List.length_map, decide_true, decide_false, Int.reduceEq, Int.reduceLT, Int.reduceLE, Nat.reduceLT, Int.reduceToNat, Nat.reduceMul, Int.reduceMul, Int.reduceAdd, Int.reduceSub, if_false, reduceCtorEq, iCells_len]
      refine (failed_calls ws hg (by omega) hws).mono ?_
      rintro _ σ ⟨⟨r, rfl, hq⟩, rfl⟩
      simp only [am, amo, amc, Nat.reduceAdd, Nat.reduceEqDiff, encs_length, List.length_map, decide_true, decide_false, Int.reduceEq, Int.reduceLT, Int.reduceLE, Nat.reduceLT, Int.reduceToNat, Nat.reduceMul, Int.reduceMul, Int.reduceAdd, Int.reduceSub, if_false, reduceCtorEq, iCells_len, renc]
      refine retK_intro rfl (Store.sub_refl _) ⟨⟨r, ?_, ?_⟩, rfl⟩
      · rw [hF]; simp [V.erase, eraseL, renc]
      · rw [hF]; exact hq
    rw [if_neg he] at hF
    rw [decide_eq_false (show ¬ w = [101, 114, 114, 111, 114] from he)]
    simp only [am, amo, amc, Nat.reduceAdd, Nat.reduceEqDiff, encs_length, List.length_map, decide_true, decide_false, Int.reduceEq, Int.reduceLT, Int.reduceLE, Nat.reduceLT, Int.reduceToNat, Nat.reduceMul, Int.reduceMul, Int.reduceAdd, Int.reduceSub, if_false, reduceCtorEq, iCells_len]
    refine (plain_calls s hg).mono ?_
    rintro v σ ⟨rfl, rfl⟩
    simp only [am, amo, amc, Nat.reduceAdd, Nat.reduceEqDiff, encs_length, List.length_map, decide_true, decide_false, Int.reduceEq, Int.reduceLT, Int.reduceLE, Nat.reduceLT, Int.reduceToNat, Nat.reduceMul, Int.reduceMul, Int.reduceAdd, Int.reduceSub, if_false, reduceCtorEq, iCells_len, renc]
    refine retK_intro rfl (Store.sub_refl _) ⟨⟨plainR s, ?_, ?_⟩, rfl⟩
    · rw [hF]; simp [V.erase, eraseL, renc]
    · intro q hq; rw [hF] at hq; exact Option.some.inj hq
def rdOut (F : Option Rep) : V := .tup [.agg (renc (F.getD .zero)), .bool F.isSome]
theorem Read_calls (s : List UInt8) {σ : Store} (hg : Glob σ) (hl : s.length ≤ 5000) : PCalls prog 15 [.str s] σ fun v σ' => v = rdOut (readP29 s) ∧ σ' = σ := by
  have hF : readP29 s = match rawR s with | some r => if r.rightP = true then some r else none | none => none := rfl
  have hro : ∀ r, rawR s = some r → ROk r := fun r h => raw_ok h hl
  generalize readP29 s = F at hF ⊢
  refine fn15.calls ?_
  simp only [slots, ac15, am, amo, amc, ams, Nat.reduceAdd, Nat.reduceEqDiff, decide_true, decide_false, Int.reduceEq, Int.reduceLT, Int.reduceLE, Nat.reduceLT, Int.reduceToNat, Nat.reduceMul, Int.reduceMul, Int.reduceAdd, Int.reduceSub, if_false, reduceCtorEq, iCells_len]
  refine (read_calls s hg hl).mono ?_
  rintro _ σ ⟨⟨r, rfl, hq⟩, rfl⟩
  generalize rawR s = G at hF hq hro ⊢
  simp only [am, amo, amc, Nat.reduceAdd, Nat.reduceEqDiff, encs_length, List.length_map, decide_true, decide_false, Int.reduceEq, Int.reduceLT, Int.reduceLE, Nat.reduceLT, Int.reduceToNat, Nat.reduceMul, Int.reduceMul, Int.reduceAdd, Int.reduceSub, if_false, reduceCtorEq, iCells_len, renc]
  cases G with
  | none =>
    simp only [am, amo, amc, Nat.reduceAdd, Nat.reduceEqDiff, encs_length, List.length_map, decide_true, decide_false, Int.reduceEq, Int.reduceLT, Int.reduceLE, Nat.reduceLT, Int.reduceToNat, Nat.reduceMul, Int.reduceMul, Int.reduceAdd, Int.reduceSub, if_false, reduceCtorEq, iCells_len, Option.isSome_none]
    refine retK_intro rfl (Store.sub_refl _) ⟨?_, rfl⟩
    rw [hF]; rfl
  | some q =>
    obtain rfl := hq q rfl
    simp only [am, amo, amc, Nat.reduceAdd, Nat.reduceEqDiff, encs_length, List.length_map, decide_true, decide_false, Int.reduceEq, Int.reduceLT, Int.reduceLE, Nat.reduceLT, Int.reduceToNat, Nat.reduceMul, Int.reduceMul, Int.reduceAdd, Int.reduceSub, if_false, reduceCtorEq, iCells_len, Option.isSome_some]
    refine (right_calls r hg (hro r rfl)).mono ?_
    rintro v σ ⟨rfl, rfl⟩
    simp only [am, amo, amc, Nat.reduceAdd, Nat.reduceEqDiff, encs_length, List.length_map, decide_true, decide_false, Int.reduceEq, Int.reduceLT, Int.reduceLE, Nat.reduceLT, Int.reduceToNat, Nat.reduceMul, Int.reduceMul, Int.reduceAdd, Int.reduceSub, if_false, reduceCtorEq, iCells_len]
    cases hr : r.rightP with
    | false =>
      simp only [hr] at hF
      simp only [am, amo, amc, Nat.reduceAdd, Nat.reduceEqDiff, encs_length, List.length_map, decide_true, decide_false, Int.reduceEq, Int.reduceLT, Int.reduceLE, Nat.reduceLT, Int.reduceToNat, Nat.reduceMul, Int.reduceMul, Int.reduceAdd, Int.reduceSub, if_false, reduceCtorEq, iCells_len]
      refine retK_intro rfl (Store.sub_refl _) ⟨?_, rfl⟩
      rw [hF]; rfl
    | true =>
      simp only [hr, if_true] at hF
      simp only [am, amo, amc, Nat.reduceAdd, Nat.reduceEqDiff, encs_length, List.length_map, decide_true, decide_false, Int.reduceEq, Int.reduceLT, Int.reduceLE, Nat.reduceLT, Int.reduceToNat, Nat.reduceMul, Int.reduceMul, Int.reduceAdd, Int.reduceSub, if_false, reduceCtorEq, iCells_len]
      refine retK_intro rfl (Store.sub_refl _) ⟨?_, rfl⟩
      rw [hF]; simp [V.erase, eraseL, rdOut, renc]
end Go.Proofs.Tryd

namespace Go.Proofs.Tryd
open Go.Am
set_option maxRecDepth 4000
set_option maxHeartbeats 4000000
def ac26 : AC := .seq (.reg [⟨(some 2), .alloc [(.int .i64 0), (.str []), (.sl .full 1 []), (.int .i64 0), (.int .i64 0), (.int .i64 0)], none⟩])
 (.seq (.reg [xm 9 0, xc 36 10 [.s 9], xm 3 10])
 (.seq (.seq (.reg [xi 4 1])
 (.block 0 (.loop (.seq (.seq (.reg [xm 11 4, xB .leq 12 11 8])
 (.cond (.s 12) (.skip)
 (.exit 0)))
 (.seq (.block 1 (.seq (.reg [xm 15 4, xB .neq 16 15 2, xm 17 16, xg 17 (xm 18 4), xg 17 (xB .neq 19 18 4), ⟨(some 20), .pick (.s 17) (.s 19) (.c (.bool false)), none⟩, xm 21 20, xg 21 (xm 22 4), xg 21 (xB .neq 23 22 6), ⟨(some 24), .pick (.s 21) (.s 23) (.c (.bool false)), none⟩, xm 25 24, xg 25 (xm 26 4), xg 25 (xB .neq 27 26 8), ⟨(some 28), .pick (.s 25) (.s 27) (.c (.bool false)), none⟩, xm 29 28, xg 29 (xm 30 0), xg 29 (xm 31 4), ⟨(some 32), .build [(.int .i64 0), (.str []), (.sl .full 1 []), (.int .i64 0), (.int .i64 0), (.int .i64 0)] [(0, 1, (.s 31))], (some (29, true))⟩, xg 29 (xc 10 33 [.s 32]), ⟨(some 34), .binS .eql (.s 30) (.s 33), (some (29, true))⟩, ⟨(some 35), .pick (.s 29) (.s 34) (.c (.bool false)), none⟩])
 (.cond (.s 35) (.seq (.reg [xm 36 4, ⟨(some 37), .build [(.int .i64 0), (.str []), (.sl .full 1 []), (.int .i64 0), (.int .i64 0), (.int .i64 0)] [(0, 1, (.s 36))], none⟩, xs 6 2 37])
 (.ret))
 (.skip))))
 (.reg [xm 13 4, xB .add 14 13 1, xm 4 14]))))))
 (.seq (.seq (.reg [xm 38 0, xT 39 38, xB .geq 40 39 4, xm 41 40, xg 41 (xm 42 0), ⟨(some 43), .slS (.s 42) none (some (.c (.int .i64 4))), (some (41, true))⟩, ⟨(some 44), .binS .eql (.s 43) (.c (.str [115, 97, 116, 32])), (some (41, true))⟩, ⟨(some 45), .pick (.s 41) (.s 44) (.c (.bool false)), none⟩])
 (.cond (.s 45) (.seq (.reg [xm 46 0, ⟨(some 47), .slS (.s 46) (some (.c (.int .i64 4))) none, none⟩, ⟨(some 48), .build [(.int .i64 0), (.str []), (.sl .full 1 []), (.int .i64 0), (.int .i64 0), (.int .i64 0)] [(0, 1, (.c (.int .i64 2))), (1, 1, (.s 47))], none⟩, xs 6 2 48])
 (.ret))
 (.skip)))
 (.seq (.seq (.reg [xm 49 3, ⟨(some 50), .idxA 1 (.s 49) (.c (.int .i64 0)), none⟩, xo 51 50, ⟨(some 52), .binS .eql (.s 51) (.c (.str [115, 97, 116])), none⟩])
 (.cond (.s 52) (.seq (.reg [⟨(some 53), .build [(.int .i64 0), (.str []), (.sl .full 1 []), (.int .i64 0), (.int .i64 0), (.int .i64 0)] [(0, 1, (.c (.int .i64 2)))], none⟩, xs 6 2 53])
 (.ret))
 (.skip)))
 (.seq (.seq (.reg [xm 54 3, ⟨(some 55), .idxA 1 (.s 54) (.c (.int .i64 0)), none⟩, xo 56 55, ⟨(some 57), .binS .eql (.s 56) (.c (.str [99, 111, 114, 101])), none⟩, xm 58 57, xh 58 (xm 59 3), ⟨(some 60), .idxA 1 (.s 59) (.c (.int .i64 0)), (some (58, false))⟩, xh 58 (xo 61 60), ⟨(some 62), .binS .eql (.s 61) (.c (.str [119, 104, 121])), (some (58, false))⟩, ⟨(some 63), .pick (.s 58) (.c (.bool true)) (.s 62), none⟩])
 (.cond (.s 63) (.seq (.reg [⟨(some 64), .build [(.int .i64 0), (.str []), (.sl .full 1 []), (.int .i64 0), (.int .i64 0), (.int .i64 0)] [(0, 1, (.c (.int .i64 4)))], none⟩, ⟨(some 5), .alloc [(.int .i64 0), (.str []), (.sl .full 1 []), (.int .i64 0), (.int .i64 0), (.int .i64 0)], none⟩, xs 6 5 64])
 (.seq (.seq (.reg [xm 65 3, ⟨(some 66), .idxA 1 (.s 65) (.c (.int .i64 0)), none⟩, xo 67 66, ⟨(some 68), .binS .eql (.s 67) (.c (.str [119, 104, 121])), none⟩])
 (.cond (.s 68) (.reg [xf 0 69 5, ⟨none, .store 1 (.s 69) (.c (.int .i64 6)), none⟩])
 (.skip)))
 (.seq (.seq (.reg [xi 6 1])
 (.block 2 (.loop (.seq (.seq (.reg [xm 70 6, xm 71 3, xL 72 71, xb .lss 73 70 72])
 (.cond (.s 73) (.skip)
 (.exit 2)))
 (.seq (.block 3 (.draw [(xf 2 76 5, []), (xo 77 76, [1]), (xm 78 3, []), (xm 79 6, []), (xA 1 80 78 79, []), (xo 81 80, []), (xc 37 82 [.s 81], []), (⟨(some 83), .bslice 1 [(.s 82)], none⟩, []), (xa 1 84 77 83, []), (xf 2 85 5, []), (xs 1 85 84, [])]))
 (.reg [xm 74 6, xB .add 75 74 1, xm 6 75]))))))
 (.seq (.reg [xl 6 86 5, xs 6 2 86])
 (.ret)))))
 (.skip)))
 (.seq (.reg [⟨(some 87), .build [(.int .i64 0), (.str []), (.sl .full 1 []), (.int .i64 0), (.int .i64 0), (.int .i64 0)] [(0, 1, (.c (.int .i64 8)))], none⟩, ⟨(some 7), .alloc [(.int .i64 0), (.str []), (.sl .full 1 []), (.int .i64 0), (.int .i64 0), (.int .i64 0)], none⟩, xs 6 7 87])
 (.seq (.seq (.reg [xm 88 3, xL 89 88, xB .eql 90 89 5])
 (.cond (.s 90) (.seq (.reg [xm 91 3, ⟨(some 92), .idxA 1 (.s 91) (.c (.int .i64 2)), none⟩, xo 93 92, xc 37 94 [.s 93], xf 3 95 7, xs 1 95 94])
 (.draw [(xm 96 3, []), (⟨(some 97), .idxA 1 (.s 96) (.c (.int .i64 0)), none⟩, []), (xo 98 97, []), (xm 99 3, []), (⟨(some 100), .idxA 1 (.s 99) (.c (.int .i64 3)), none⟩, []), (xo 101 100, []), (xm 102 3, []), (⟨(some 103), .idxA 1 (.s 102) (.c (.int .i64 4)), none⟩, []), (xo 104 103, []), (⟨(some 105), .bslice 1 [(.s 98), (.s 101), (.s 104)], none⟩, []), (xm 3 105, [])]))
 (.skip)))
 (.seq (.seq (.reg [xm 106 3, xL 107 106, xB .neq 108 107 3])
 (.cond (.s 108) (.seq (.reg [⟨(some 109), .build [(.int .i64 0), (.str []), (.sl .full 1 []), (.int .i64 0), (.int .i64 0), (.int .i64 0)] [], none⟩, xs 6 2 109])
 (.ret))
 (.skip)))
 (.seq (.seq (.reg [xi 8 1])
 (.block 4 (.loop (.seq (.seq (.reg [xm 110 8, xB .leq 111 110 8])
 (.cond (.s 111) (.skip)
 (.exit 4)))
 (.seq (.block 5 (.seq (.draw [(xm 114 8, []), (xc 14 115 [.s 114], []), (xm 116 3, []), (⟨(some 117), .idxA 1 (.s 116) (.c (.int .i64 1)), none⟩, []), (xo 118 117, [0]), (⟨(some 119), .binS .eql (.s 115) (.s 118), none⟩, [])])
 (.cond (.s 119) (.reg [xm 120 8, xf 4 121 7, xs 1 121 120])
 (.skip))))
 (.reg [xm 112 8, xB .add 113 112 1, xm 8 113]))))))
 (.seq (.reg [xm 122 3, ⟨(some 123), .idxA 1 (.s 122) (.c (.int .i64 2)), none⟩, xo 124 123, xc 37 125 [.s 124], xf 5 126 7, xs 1 126 125])
 (.seq (.reg [xl 6 127 7, xs 6 2 127])
 (.ret))))))))))))
theorem fn26 : IsFn prog 26 ac26 [.cell 2 true 6] 128 := ⟨f26, ⟨[], []⟩, func26, by kernel_rfl, by kernel_rfl, by kernel_rfl, by kernel_rfl⟩
def tryF (s : List UInt8) (R : Rep) : Nat → Nat → Rep
  | 0, _ => R
  | n + 1, k => if k % 2 = 1 ∧ s = tabAt wordT k then { Rep.zero with kind := k } else tryF s R n (k + 1)
def restF (s : List UInt8) (ws : List (List UInt8)) (h : List UInt8) : Rep :=
  if 4 ≤ s.length ∧ s.take 4 = satW ++ [32] then { Rep.zero with kind := 2, text := s.drop 4 }
  else if h = satW then { Rep.zero with kind := 2 }
  else if h = coreW ∨ h = whyW then { Rep.zero with kind := if h = whyW then 6 else 4, list := ws.tail.map valZ }
  else if ws.length = 5 then ⟨8, [], [], valZ (ws.getD 2 []), clsR (ws.getD 3 []), valZ (ws.getD 4 [])⟩
  else if ws.length = 3 then ⟨8, [], [], 0, clsR (ws.getD 1 []), valZ (ws.getD 2 [])⟩
  else .zero
theorem guessF_eq (s : List UInt8) (ws : List (List UInt8)) (h : List UInt8) : guessF s ws h = tryF s (restF s ws h) 8 1 := by
  simp [guessF, tryF, restF]
theorem er_calls {f : FuncId} {v v' : V} {σ : Store} {R' : V → Store → Prop} (h : PCalls prog f [v'] σ R') (e : v.erase = v') : PCalls prog f [v] σ R' :=
  h.weak (show LLe [v] [v'] from ⟨e ▸ VLe.erase, trivial⟩) OLe.rfl
theorem text_kind {i : Nat} (h1 : 1 ≤ i) (h8 : i ≤ 8) (hodd : i % 2 = 1) : textR29 { Rep.zero with kind := (i : Nat) } = tabAt wordT (i : Nat) := by
  rcases (show i = 1 ∨ i = 3 ∨ i = 5 ∨ i = 7 by omega) with rfl | rfl | rfl | rfl <;> rfl
structure FK (s : List UInt8) (R : Rep) (G : Rep) where
  i : Nat
  ge : 1 ≤ i
  le : i ≤ 9
  res : G = tryF s R (9 - i) i
def invK (s : List UInt8) (ws : List (List UInt8)) (i : Nat) (σ : Store) : St :=
  ⟨[.str s, .any, .ptr (.loc 0) 0, .sl .no 1 (tCells ws), .int .i64 (i : Nat)] ++ List.replicate 123 .any, [zeroC], σ⟩
structure FV (ws : List (List UInt8)) (σ : Store) where
  i : Nat
  ge : 1 ≤ i
  le : i ≤ ws.length + 1
  τ : Nat
  new : σ.tip τ = none
def invV (s w : List UInt8) (ws : List (List UInt8)) (k : Int) (i τ : Nat) (m : Store) : St :=
  ⟨[.str s, .any, .ptr (.loc 0) 0, .sl .no 1 (tCells (w :: ws)), .any, .ptr (.loc 1) 0, .int .i64 (i : Nat)] ++ List.replicate 121 .any, [zeroC, [.int .i64 k, .str [], .sl (.tk τ) 1 (iCells ((ws.take (i - 1)).map valZ)), .int .i64 0, .int .i64 0, .int .i64 0]], m⟩
structure FC (x : List UInt8) where
  i : Nat
  cur : Int
  ge : 1 ≤ i
  le : i ≤ 9
  res : clsR x = clsF x (9 - i) i cur
def invC (s w x y : List UInt8) (ln : Int) (i : Nat) (cur : Int) (σ : Store) : St :=
  ⟨[.str s, .any, .ptr (.loc 0) 0, .sl .no 1 (tCells [w, x, y]), .any, .any, .any, .ptr (.loc 1) 0, .int .i64 (i : Nat)] ++ List.replicate 119 .any, [zeroC, [.int .i64 8, .str [], .sl .full 1 [], .int .i64 ln, .int .i64 cur, .int .i64 0]], σ⟩
theorem guess_calls (s : List UInt8) (σ : Store) (hl : s.length ≤ 5000) : PCalls prog 26 [.str s] σ fun v σ' => v = .agg (renc (guess s)) ∧ σ' = σ := by
  have hsl := splitW_len s
  have hsm := splitW_mem s
  obtain ⟨w, ws, hw⟩ : ∃ w ws, splitW s = w :: ws := by
    cases h : splitW s with
    | nil => exact absurd h (splitW_ne s)
    | cons w ws => exact ⟨w, ws, rfl⟩
  have hG : guess s = tryF s (restF s (w :: ws) w) 8 1 := by rw [guess, hw]; exact guessF_eq _ _ _
  have hRe : restF s (w :: ws) w = if 4 ≤ s.length ∧ s.take 4 = satW ++ [32] then { Rep.zero with kind := 2, text := s.drop 4 }
    else if w = satW then { Rep.zero with kind := 2 }
    else if w = coreW ∨ w = whyW then { Rep.zero with kind := if w = whyW then 6 else 4, list := ws.map valZ }
    else if (w :: ws).length = 5 then ⟨8, [], [], valZ ((w :: ws).getD 2 []), clsR ((w :: ws).getD 3 []), valZ ((w :: ws).getD 4 [])⟩
    else if (w :: ws).length = 3 then ⟨8, [], [], 0, clsR ((w :: ws).getD 1 []), valZ ((w :: ws).getD 2 [])⟩
    else .zero := rfl
  generalize guess s = G at hG ⊢
  generalize restF s (w :: ws) w = R at hG hRe
  refine fn26.calls ?_
  simp only [slots, ac26, am, ams, amo]
  refine (words_calls s _ hl).mono ?_
  rintro v σ1 ⟨rfl, rfl⟩
  rw [hw] at hsl hsm ⊢
  simp only [List.length_cons] at hsl
  have hws : ∀ x ∈ w :: ws, x.length ≤ 5000 := fun x hx => by have := hsm x hx; omega
  simp only [am, amo, amc, Nat.reduceAdd, Nat.reduceEqDiff, encs_length, List.length_map, decide_true, decide_false, Int.reduceEq, Int.reduceLT, Int.reduceLE, Nat.reduceLT, Int.reduceToNat, Nat.reduceMul, Int.reduceMul, Int.reduceAdd, Int.reduceSub, if_false, reduceCtorEq, iCells_len]
  refine vc_loop (fun p : FK s R G => invK s (w :: ws) p.i σ1) (fun p => 9 - p.i) ?_ ?_
  · refine Upd.enter ⟨1, by omega, by omega, hG⟩ ?_ LLLe.rfl OLe.rfl
    simp [invK, List.replicate, am, amo]
  · rintro ⟨i, hge, hle, hres⟩
    simp only [invK, List.replicate, am, amo, zeroC]
    have wi : IntKind.i64.wrap ((i : Int) + 1) = ((i + 1 : Nat) : Int) := by rw [wrap_i64 (by omega) (by omega)]; omega
    by_cases hlt : i ≤ 8
    · rw [decide_eq_true (show (i : Int) ≤ 8 by omega)]
      rw [show 9 - i = (8 - i) + 1 by omega, tryF] at hres
      have again : ∀ (t : List V), G = tryF s R (8 - i) (i + 1) → LLe t (invK s (w :: ws) (i + 1) σ1).t → Upd ⟨t, [zeroC], σ1⟩ fun st' => ∃ p : FK s R G, st' = invK s (w :: ws) p.i σ1 ∧ 9 - p.i < 9 - i := fun t h1 h2 =>
        Upd.again (I := fun p : FK s R G => invK s (w :: ws) p.i σ1) (μ := fun p : FK s R G => 9 - p.i) ⟨i + 1, by omega, by omega, by rw [h1]; congr 1; omega⟩ (by simp only; omega) h2 LLLe.rfl OLe.rfl
      simp only [am, amo, amc, Nat.reduceAdd, Nat.reduceEqDiff, encs_length, List.length_map, decide_true, decide_false, Int.reduceEq, Int.reduceLT, Int.reduceLE, Nat.reduceLT, Int.reduceToNat, Nat.reduceMul, Int.reduceMul, Int.reduceAdd, Int.reduceSub, if_false, reduceCtorEq, iCells_len]
      by_cases hodd : i % 2 = 1
      · rw [decide_eq_false (show ¬ (i : Int) = 2 by omega)]
        simp only [am, amo, amc, Nat.reduceAdd, Nat.reduceEqDiff, encs_length, List.length_map, decide_true, decide_false, Int.reduceEq, Int.reduceLT, Int.reduceLE, Nat.reduceLT, Int.reduceToNat, Nat.reduceMul, Int.reduceMul, Int.reduceAdd, Int.reduceSub, if_false, reduceCtorEq, iCells_len, decide_eq_false (show ¬ (i : Int) = 4 by omega), decide_eq_false (show ¬ (i : Int) = 6 by omega), decide_eq_false (show ¬ (i : Int) = 8 by omega)]
        refine (er_calls (TextR_calls { Rep.zero with kind := (i : Nat) } σ1 zero_ok) rfl).mono ?_
        rintro _ σ1 ⟨rfl, rfl⟩
        rw [text_kind hge hlt hodd]
        simp only [am, amo, amc, Nat.reduceAdd, Nat.reduceEqDiff, encs_length, List.length_map, decide_true, decide_false, Int.reduceEq, Int.reduceLT, Int.reduceLE, Nat.reduceLT, Int.reduceToNat, Nat.reduceMul, Int.reduceMul, Int.reduceAdd, Int.reduceSub, if_false, reduceCtorEq, iCells_len]
        by_cases he : s = tabAt wordT i
        · rw [if_pos ⟨hodd, he⟩] at hres
          rw [decide_eq_true he]
          simp only [am, amo, amc, Nat.reduceAdd, Nat.reduceEqDiff, encs_length, List.length_map, decide_true, decide_false, Int.reduceEq, Int.reduceLT, Int.reduceLE, Nat.reduceLT, Int.reduceToNat, Nat.reduceMul, Int.reduceMul, Int.reduceAdd, Int.reduceSub, if_false, reduceCtorEq, iCells_len]
          refine retK_intro rfl (Store.sub_refl _) ⟨?_, rfl⟩
          rw [hres]; rfl
        · rw [if_neg (fun h => he h.2)] at hres
          rw [decide_eq_false he]
          simp only [am, amo, amc, Nat.reduceAdd, Nat.reduceEqDiff, encs_length, List.length_map, decide_true, decide_false, Int.reduceEq, Int.reduceLT, Int.reduceLE, Nat.reduceLT, Int.reduceToNat, Nat.reduceMul, Int.reduceMul, Int.reduceAdd, Int.reduceSub, if_false, reduceCtorEq, iCells_len, wi]
          exact again _ hres (by simp [invK, List.replicate, am])
      · rw [if_neg (fun h => hodd h.1)] at hres
        rcases (show i = 2 ∨ i = 4 ∨ i = 6 ∨ i = 8 by omega) with rfl | rfl | rfl | rfl
        all_goals
          simp only [am, amo, amc, Nat.reduceAdd, Nat.reduceEqDiff, encs_length, List.length_map, decide_true, decide_false, Int.reduceEq, Int.reduceLT, Int.reduceLE, Nat.reduceLT, Int.reduceToNat, Nat.reduceMul, Int.reduceMul, Int.reduceAdd, Int.reduceSub, if_false, reduceCtorEq, iCells_len, Int.cast_ofNat_Int]
          exact again _ hres (by simp [invK, List.replicate, am]; decide)
    · obtain rfl : i = 9 := by omega
      rw [show 9 - 9 = 0 from rfl, tryF] at hres
      subst hres
      clear hG
      rw [decide_eq_false (by omega)]
      simp only [am, amo, amc, Nat.reduceAdd, Nat.reduceEqDiff, encs_length, List.length_map, decide_true, decide_false, Int.reduceEq, Int.reduceLT, Int.reduceLE, Nat.reduceLT, Int.reduceToNat, Nat.reduceMul, Int.reduceMul, Int.reduceAdd, Int.reduceSub, if_false, reduceCtorEq, iCells_len]
      by_cases h4 : 4 ≤ s.length
      case' pos =>
        rw [decide_eq_true (show (4 : Int) ≤ s.length by omega)]
        simp only [am, amo, amc, Nat.reduceAdd, Nat.reduceEqDiff, encs_length, List.length_map, decide_true, decide_false, Int.reduceEq, Int.reduceLT, Int.reduceLE, Nat.reduceLT, Int.reduceToNat, Nat.reduceMul, Int.reduceMul, Int.reduceAdd, Int.reduceSub, if_false, reduceCtorEq, iCells_len]
        refine slSL_to (b := 4) h4 ?_
        simp only [am, amo, amc, Nat.reduceAdd, Nat.reduceEqDiff, encs_length, List.length_map, decide_true, decide_false, Int.reduceEq, Int.reduceLT, Int.reduceLE, Nat.reduceLT, Int.reduceToNat, Nat.reduceMul, Int.reduceMul, Int.reduceAdd, Int.reduceSub, if_false, reduceCtorEq, iCells_len]
        by_cases hsat : s.take 4 = [115, 97, 116, 32]
        case' pos =>
          rw [if_pos ⟨h4, hsat⟩] at hRe
          rw [decide_eq_true hsat]
          simp only [am, amo, amc, Nat.reduceAdd, Nat.reduceEqDiff, encs_length, List.length_map, decide_true, decide_false, Int.reduceEq, Int.reduceLT, Int.reduceLE, Nat.reduceLT, Int.reduceToNat, Nat.reduceMul, Int.reduceMul, Int.reduceAdd, Int.reduceSub, if_false, reduceCtorEq, iCells_len]
          refine slSL_from (a := 4) h4 ?_
          simp only [am, amo, amc, Nat.reduceAdd, Nat.reduceEqDiff, encs_length, List.length_map, decide_true, decide_false, Int.reduceEq, Int.reduceLT, Int.reduceLE, Nat.reduceLT, Int.reduceToNat, Nat.reduceMul, Int.reduceMul, Int.reduceAdd, Int.reduceSub, if_false, reduceCtorEq, iCells_len]
          refine retK_intro rfl (Store.sub_refl _) ⟨?_, rfl⟩
          rw [hRe]; rfl
        case' neg =>
          rw [if_neg (fun h => hsat h.2)] at hRe
          rw [decide_eq_false hsat]
          simp only [am, amo, amc, Nat.reduceAdd, Nat.reduceEqDiff, encs_length, List.length_map, decide_true, decide_false, Int.reduceEq, Int.reduceLT, Int.reduceLE, Nat.reduceLT, Int.reduceToNat, Nat.reduceMul, Int.reduceMul, Int.reduceAdd, Int.reduceSub, if_false, reduceCtorEq, iCells_len]
      case' neg =>
        rw [if_neg (fun h => h4 h.1)] at hRe
        rw [decide_eq_false (show ¬ (4 : Int) ≤ s.length by omega)]
        simp only [am, amo, amc, Nat.reduceAdd, Nat.reduceEqDiff, encs_length, List.length_map, decide_true, decide_false, Int.reduceEq, Int.reduceLT, Int.reduceLE, Nat.reduceLT, Int.reduceToNat, Nat.reduceMul, Int.reduceMul, Int.reduceAdd, Int.reduceSub, if_false, reduceCtorEq, iCells_len]
      all_goals
        refine idxL_intro (c := [.str w]) (by omega) rfl ?_
        simp only [am, amo, amc, Nat.reduceAdd, Nat.reduceEqDiff, encs_length, List.length_map, decide_true, decide_false, Int.reduceEq, Int.reduceLT, Int.reduceLE, Nat.reduceLT, Int.reduceToNat, Nat.reduceMul, Int.reduceMul, Int.reduceAdd, Int.reduceSub, if_false, reduceCtorEq, iCells_len]
        by_cases hs : w = satW
        · rw [if_pos hs] at hRe
          rw [decide_eq_true (show w = [115, 97, 116] from hs)]
          simp only [am, amo, amc, Nat.reduceAdd, Nat.reduceEqDiff, encs_length, List.length_map, decide_true, decide_false, Int.reduceEq, Int.reduceLT, Int.reduceLE, Nat.reduceLT, Int.reduceToNat, Nat.reduceMul, Int.reduceMul, Int.reduceAdd, Int.reduceSub, if_false, reduceCtorEq, iCells_len]
          refine retK_intro rfl (Store.sub_refl _) ⟨?_, rfl⟩
          rw [hRe]; rfl
        rw [if_neg hs] at hRe
        rw [decide_eq_false (show ¬ w = [115, 97, 116] from hs)]
        simp only [am, amo, amc, Nat.reduceAdd, Nat.reduceEqDiff, encs_length, List.length_map, decide_true, decide_false, Int.reduceEq, Int.reduceLT, Int.reduceLE, Nat.reduceLT, Int.reduceToNat, Nat.reduceMul, Int.reduceMul, Int.reduceAdd, Int.reduceSub, if_false, reduceCtorEq, iCells_len]
        refine idxL_intro (c := [.str w]) (by omega) rfl ?_
        simp only [am, amo, amc, Nat.reduceAdd, Nat.reduceEqDiff, encs_length, List.length_map, decide_true, decide_false, Int.reduceEq, Int.reduceLT, Int.reduceLE, Nat.reduceLT, Int.reduceToNat, Nat.reduceMul, Int.reduceMul, Int.reduceAdd, Int.reduceSub, if_false, reduceCtorEq, iCells_len]
        by_cases hcw : w = coreW ∨ w = whyW
        · rw [if_pos hcw] at hRe
          obtain ⟨k, hk⟩ : ∃ k : Int, k = if w = whyW then 6 else 4 := ⟨_, rfl⟩
          rw [← hk] at hRe
          rcases hcw with hw1 | hw1
          case' inl =>
            have hk2 : k = 4 := by rw [hk, if_neg (by rw [hw1]; decide)]
            rw [decide_eq_true (show w = [99, 111, 114, 101] from hw1)]
            simp only [am, amo, amc, Nat.reduceAdd, Nat.reduceEqDiff, encs_length, List.length_map, decide_true, decide_false, Int.reduceEq, Int.reduceLT, Int.reduceLE, Nat.reduceLT, Int.reduceToNat, Nat.reduceMul, Int.reduceMul, Int.reduceAdd, Int.reduceSub, if_false, reduceCtorEq, iCells_len]
            refine idxL_intro (c := [.str w]) (by omega) rfl ?_
            simp only [am, amo, amc, Nat.reduceAdd, Nat.reduceEqDiff, encs_length, List.length_map, decide_true, decide_false, Int.reduceEq, Int.reduceLT, Int.reduceLE, Nat.reduceLT, Int.reduceToNat, Nat.reduceMul, Int.reduceMul, Int.reduceAdd, Int.reduceSub, if_false, reduceCtorEq, iCells_len, decide_eq_false (show ¬ w = [119, 104, 121] by rw [hw1]; decide)]
          case' inr =>
            have hk2 : k = 6 := by rw [hk, if_pos hw1]
            rw [decide_eq_false (show ¬ w = [99, 111, 114, 101] by rw [hw1]; decide)]
            simp only [am, amo, amc, Nat.reduceAdd, Nat.reduceEqDiff, encs_length, List.length_map, decide_true, decide_false, Int.reduceEq, Int.reduceLT, Int.reduceLE, Nat.reduceLT, Int.reduceToNat, Nat.reduceMul, Int.reduceMul, Int.reduceAdd, Int.reduceSub, if_false, reduceCtorEq, iCells_len]
            refine idxL_intro (c := [.str w]) (by omega) rfl ?_
            simp only [am, amo, amc, Nat.reduceAdd, Nat.reduceEqDiff, encs_length, List.length_map, decide_true, decide_false, Int.reduceEq, Int.reduceLT, Int.reduceLE, Nat.reduceLT, Int.reduceToNat, Nat.reduceMul, Int.reduceMul, Int.reduceAdd, Int.reduceSub, if_false, reduceCtorEq, iCells_len, decide_eq_true (show w = [119, 104, 121] from hw1)]
            refine idxL_intro (c := [.str w]) (by omega) rfl ?_
            simp only [am, amo, amc, Nat.reduceAdd, Nat.reduceEqDiff, encs_length, List.length_map, decide_true, decide_false, Int.reduceEq, Int.reduceLT, Int.reduceLE, Nat.reduceLT, Int.reduceToNat, Nat.reduceMul, Int.reduceMul, Int.reduceAdd, Int.reduceSub, if_false, reduceCtorEq, iCells_len, decide_eq_true (show w = [119, 104, 121] from hw1)]
          all_goals
            clear hk
            refine vc_loop (fun p : FV ws σ1 => invV s w ws k p.i p.τ (σ1.setTip p.τ (p.i - 1))) (fun p => ws.length + 1 - p.i) ?_ ?_
            · refine Upd.tok 0 fun τ hτ => ⟨(invV s w ws k 1 τ σ1).t, (invV s w ws k 1 τ σ1).loc, σ1, ?_, rfl, ?_, OTo.rfl, ⟨1, by omega, by omega, τ, hτ⟩, rfl⟩
              · simp [invV, List.replicate, lto]
              · intro i c' hc'
                match i with
                | 0 => exact ⟨_, rfl, by obtain rfl := Option.some.inj hc'; simp [zeroC, lto]⟩
                | 1 => exact ⟨_, rfl, by obtain rfl := Option.some.inj hc'; simp [iCells, lto, hk2]⟩
                | i + 2 => simp [invV] at hc'
            · rintro ⟨i, hge, hle, τ, hτ⟩
              simp only [invV, List.replicate, am, amo, zeroC, tCells_len, List.length_cons]
              by_cases hlt : i ≤ ws.length
              · rw [decide_eq_true (show (i : Int) < ((ws.length + 1 : Nat) : Int) by omega)]
                simp only [am, amo, amc, Nat.reduceAdd, Nat.reduceEqDiff, encs_length, List.length_map, decide_true, decide_false, Int.reduceEq, Int.reduceLT, Int.reduceLE, Nat.reduceLT, Int.reduceToNat, Nat.reduceMul, Int.reduceMul, Int.reduceAdd, Int.reduceSub, if_false, reduceCtorEq, iCells_len]
                obtain ⟨j, rfl⟩ : ∃ j, i = j + 1 := ⟨i - 1, by omega⟩
                have hj : j < ws.length := by omega
                have hat : (tCells (w :: ws))[(((j + 1 : Nat) : Nat) : Int).toNat]? = some [.str ws[j]] := by
                  rw [tCells_at (show j + 1 < (w :: ws).length by simp; omega)]; rfl
                have htk : (ws.take (j + 1)).map valZ = (ws.take j).map valZ ++ [valZ ws[j]] := by
                  rw [List.take_succ_eq_append_getElem hj]; simp only [List.map_append, List.map_cons, List.map_nil]
                have hwj := hws ws[j] (by simp)
                generalize ws[j] = x at hat htk hwj
                refine idxL_intro (by omega) hat ?_
                simp only [am, amo, amc, Nat.reduceAdd, Nat.reduceEqDiff, encs_length, List.length_map, decide_true, decide_false, Int.reduceEq, Int.reduceLT, Int.reduceLE, Nat.reduceLT, Int.reduceToNat, Nat.reduceMul, Int.reduceMul, Int.reduceAdd, Int.reduceSub, if_false, reduceCtorEq, iCells_len]
                refine CallD.intro (value_calls x _ hwj) ?_
                simp only [am, amo, amc, Nat.reduceAdd, Nat.reduceEqDiff, encs_length, List.length_map, decide_true, decide_false, Int.reduceEq, Int.reduceLT, Int.reduceLE, Nat.reduceLT, Int.reduceToNat, Nat.reduceMul, Int.reduceMul, Int.reduceAdd, Int.reduceSub, if_false, reduceCtorEq, iCells_len, Nat.add_sub_cancel]
                have hlj : ((ws.take j).map valZ).length = j := by rw [List.length_map, List.length_take]; omega
                refine appD_tk (by rw [iCells_len, hlj]; simp [big]; omega) (by rw [iCells_len, hlj]; exact setTip_tip_same) ?_
                rw [iCells_len, hlj, show iCells ((ws.take j).map valZ) ++ [[V.int .i64 (valZ x)]] = iCells ((ws.take (j + 1)).map valZ) by rw [htk]; simp [iCells]]
                simp only [am, amo, amc, Nat.reduceAdd, Nat.reduceEqDiff, encs_length, List.length_map, decide_true, decide_false, Int.reduceEq, Int.reduceLT, Int.reduceLE, Nat.reduceLT, Int.reduceToNat, Nat.reduceMul, Int.reduceMul, Int.reduceAdd, Int.reduceSub, if_false, reduceCtorEq, iCells_len, setTip_setTip]
                rw [wrap_i64 (x := ((j + 1 : Nat) : Int) + 1) (by omega) (by omega)]
                refine Upd.again (I := fun p : FV ws σ1 => invV s w ws k p.i p.τ (σ1.setTip p.τ (p.i - 1))) (μ := fun p : FV ws σ1 => ws.length + 1 - p.i) ⟨j + 2, by omega, by omega, τ, hτ⟩ (by simp only; omega) ?_ LLLe.rfl OLe.rfl
                simp [invV, List.replicate, am]
                try omega
              · have hge : i = ws.length + 1 := by omega
                subst hge
                rw [decide_eq_false (by omega)]
                simp only [am, amo, amc, Nat.reduceAdd, Nat.reduceEqDiff, encs_length, List.length_map, decide_true, decide_false, Int.reduceEq, Int.reduceLT, Int.reduceLE, Nat.reduceLT, Int.reduceToNat, Nat.reduceMul, Int.reduceMul, Int.reduceAdd, Int.reduceSub, if_false, reduceCtorEq, iCells_len, Nat.add_sub_cancel, List.take_length]
                refine retK_intro rfl (sub_tip hτ) ⟨?_, rfl⟩
                rw [hRe]
                simp [V.erase, eraseL, renc, Rep.zero]
        · rw [if_neg hcw] at hRe
          have hc1 : ¬ w = [99, 111, 114, 101] := fun h => hcw (.inl h)
          have hc2 : ¬ w = [119, 104, 121] := fun h => hcw (.inr h)
          rw [decide_eq_false hc1]
          simp only [am, amo, amc, Nat.reduceAdd, Nat.reduceEqDiff, encs_length, List.length_map, decide_true, decide_false, Int.reduceEq, Int.reduceLT, Int.reduceLE, Nat.reduceLT, Int.reduceToNat, Nat.reduceMul, Int.reduceMul, Int.reduceAdd, Int.reduceSub, if_false, reduceCtorEq, iCells_len]
          refine idxL_intro (c := [.str w]) (by omega) rfl ?_
          simp only [am, amo, amc, Nat.reduceAdd, Nat.reduceEqDiff, encs_length, List.length_map, decide_true, decide_false, Int.reduceEq, Int.reduceLT, Int.reduceLE, Nat.reduceLT, Int.reduceToNat, Nat.reduceMul, Int.reduceMul, Int.reduceAdd, Int.reduceSub, if_false, reduceCtorEq, iCells_len, decide_eq_false hc2, tCells_len]
          by_cases h5 : (w :: ws).length = 5
          case' pos =>
            obtain ⟨a, b, x, y, rfl⟩ : ∃ a b x y, ws = [a, b, x, y] := by
              match ws, h5 with
              | [a, b, x, y], _ => exact ⟨a, b, x, y, rfl⟩
            rw [if_pos h5] at hRe
            simp only [am, amo, amc, Nat.reduceAdd, Nat.reduceEqDiff, encs_length, List.length_map, decide_true, decide_false, Int.reduceEq, Int.reduceLT, Int.reduceLE, Nat.reduceLT, Int.reduceToNat, Nat.reduceMul, Int.reduceMul, Int.reduceAdd, Int.reduceSub, if_false, reduceCtorEq, iCells_len, show ((([w, a, b, x, y] : List (List UInt8)).length : Nat) : Int) = 5 from rfl]
            refine idxL_intro (c := [.str b]) (by omega) rfl ?_
            simp only [am, amo, amc, Nat.reduceAdd, Nat.reduceEqDiff, encs_length, List.length_map, decide_true, decide_false, Int.reduceEq, Int.reduceLT, Int.reduceLE, Nat.reduceLT, Int.reduceToNat, Nat.reduceMul, Int.reduceMul, Int.reduceAdd, Int.reduceSub, if_false, reduceCtorEq, iCells_len]
            refine (value_calls b _ (hws b (by simp))).mono ?_
            rintro v σ1 ⟨rfl, rfl⟩
            simp only [am, amo, amc, Nat.reduceAdd, Nat.reduceEqDiff, encs_length, List.length_map, decide_true, decide_false, Int.reduceEq, Int.reduceLT, Int.reduceLE, Nat.reduceLT, Int.reduceToNat, Nat.reduceMul, Int.reduceMul, Int.reduceAdd, Int.reduceSub, if_false, reduceCtorEq, iCells_len]
            refine idxL_intro (c := [.str w]) (by omega) rfl ?_
            simp only [am, amo, amc, Nat.reduceAdd, Nat.reduceEqDiff, encs_length, List.length_map, decide_true, decide_false, Int.reduceEq, Int.reduceLT, Int.reduceLE, Nat.reduceLT, Int.reduceToNat, Nat.reduceMul, Int.reduceMul, Int.reduceAdd, Int.reduceSub, if_false, reduceCtorEq, iCells_len]
            refine idxL_intro (c := [.str x]) (by omega) rfl ?_
            simp only [am, amo, amc, Nat.reduceAdd, Nat.reduceEqDiff, encs_length, List.length_map, decide_true, decide_false, Int.reduceEq, Int.reduceLT, Int.reduceLE, Nat.reduceLT, Int.reduceToNat, Nat.reduceMul, Int.reduceMul, Int.reduceAdd, Int.reduceSub, if_false, reduceCtorEq, iCells_len]
            refine idxL_intro (c := [.str y]) (by omega) rfl ?_
            simp only [am, amo, amc, Nat.reduceAdd, Nat.reduceEqDiff, encs_length, List.length_map, decide_true, decide_false, Int.reduceEq, Int.reduceLT, Int.reduceLE, Nat.reduceLT, Int.reduceToNat, Nat.reduceMul, Int.reduceMul, Int.reduceAdd, Int.reduceSub, if_false, reduceCtorEq, iCells_len, Int.cast_ofNat_Int]
            have hwy := hws y (by simp)
            obtain ⟨ln, hln⟩ : ∃ ln, ln = valZ b := ⟨_, rfl⟩
            have hRe : G = ⟨8, [], [], ln, clsR x, valZ y⟩ := by rw [hln]; exact hRe
          case' neg =>
            rw [if_neg h5] at hRe
            rw [decide_eq_false (by omega)]
            simp only [am, amo, amc, Nat.reduceAdd, Nat.reduceEqDiff, encs_length, List.length_map, decide_true, decide_false, Int.reduceEq, Int.reduceLT, Int.reduceLE, Nat.reduceLT, Int.reduceToNat, Nat.reduceMul, Int.reduceMul, Int.reduceAdd, Int.reduceSub, if_false, reduceCtorEq, iCells_len, tCells_len]
            by_cases h3 : (w :: ws).length = 3
            case' neg =>
              rw [if_neg h3] at hRe
              rw [decide_eq_false (by omega)]
              simp only [am, amo, amc, Nat.reduceAdd, Nat.reduceEqDiff, encs_length, List.length_map, decide_true, decide_false, Int.reduceEq, Int.reduceLT, Int.reduceLE, Nat.reduceLT, Int.reduceToNat, Nat.reduceMul, Int.reduceMul, Int.reduceAdd, Int.reduceSub, if_false, reduceCtorEq, iCells_len]
              refine retK_intro rfl (Store.sub_refl _) ⟨?_, rfl⟩
              rw [hRe]; rfl
            case' pos =>
              obtain ⟨x, y, rfl⟩ : ∃ x y, ws = [x, y] := by
                match ws, h3 with
                | [x, y], _ => exact ⟨x, y, rfl⟩
              rw [if_pos h3] at hRe
              simp only [am, amo, amc, Nat.reduceAdd, Nat.reduceEqDiff, encs_length, List.length_map, decide_true, decide_false, Int.reduceEq, Int.reduceLT, Int.reduceLE, Nat.reduceLT, Int.reduceToNat, Nat.reduceMul, Int.reduceMul, Int.reduceAdd, Int.reduceSub, if_false, reduceCtorEq, iCells_len, show ((([w, x, y] : List (List UInt8)).length : Nat) : Int) = 3 from rfl]
              have hwy := hws y (by simp)
              obtain ⟨ln, hln⟩ : ∃ ln : Int, ln = 0 := ⟨_, rfl⟩
              have hRe : G = ⟨8, [], [], ln, clsR x, valZ y⟩ := by rw [hln]; exact hRe
          all_goals
            refine vc_loop (fun p : FC x => invC s w x y ln p.i p.cur σ1) (fun p => 9 - p.i) ?_ ?_
            · refine Upd.enter ⟨1, 0, by omega, by omega, rfl⟩ ?_ ?_ OLe.rfl
              · simp [invC, List.replicate, am, amo, tCells]
              · simp [invC, zeroC, am, hln]
            · rintro ⟨i, cur, hge, hle, hres⟩
              simp only [invC, List.replicate, am, amo, zeroC]
              have wi : IntKind.i64.wrap ((i : Int) + 1) = ((i + 1 : Nat) : Int) := by rw [wrap_i64 (by omega) (by omega)]; omega
              by_cases hlt : i ≤ 8
              · rw [decide_eq_true (show (i : Int) ≤ 8 by omega)]
                rw [show 9 - i = (9 - (i + 1)) + 1 by omega, clsF] at hres
                have again : ∀ (t : List V) (c2 : Int), (clsR x = clsF x (9 - (i + 1)) (i + 1) c2) → LLe t (invC s w x y ln (i + 1) c2 σ1).t → Upd ⟨t, [zeroC, [.int .i64 8, .str [], .sl .full 1 [], .int .i64 ln, .int .i64 c2, .int .i64 0]], σ1⟩ fun st' => ∃ p : FC x, st' = invC s w x y ln p.i p.cur σ1 ∧ 9 - p.i < 9 - i := fun t c2 h1 h2 =>
                  Upd.again (I := fun p : FC x => invC s w x y ln p.i p.cur σ1) (μ := fun p : FC x => 9 - p.i) ⟨i + 1, c2, by omega, by omega, h1⟩ (by simp only; omega) h2 LLLe.rfl OLe.rfl
                simp only [am, amo, amc, Nat.reduceAdd, Nat.reduceEqDiff, encs_length, List.length_map, decide_true, decide_false, Int.reduceEq, Int.reduceLT, Int.reduceLE, Nat.reduceLT, Int.reduceToNat, Nat.reduceMul, Int.reduceMul, Int.reduceAdd, Int.reduceSub, if_false, reduceCtorEq, iCells_len]
                refine CallD.intro (ClassR_calls i σ1) ?_
                simp only [am, amo, amc, Nat.reduceAdd, Nat.reduceEqDiff, encs_length, List.length_map, decide_true, decide_false, Int.reduceEq, Int.reduceLT, Int.reduceLE, Nat.reduceLT, Int.reduceToNat, Nat.reduceMul, Int.reduceMul, Int.reduceAdd, Int.reduceSub, if_false, reduceCtorEq, iCells_len]
                refine idxL_intro (c := [.str x]) (by omega) rfl ?_
                simp only [am, amo, amc, Nat.reduceAdd, Nat.reduceEqDiff, encs_length, List.length_map, decide_true, decide_false, Int.reduceEq, Int.reduceLT, Int.reduceLE, Nat.reduceLT, Int.reduceToNat, Nat.reduceMul, Int.reduceMul, Int.reduceAdd, Int.reduceSub, if_false, reduceCtorEq, iCells_len]
                by_cases he : tabAt classT i = x
                · rw [if_pos he] at hres
                  rw [decide_eq_true he]
                  simp only [am, amo, amc, Nat.reduceAdd, Nat.reduceEqDiff, encs_length, List.length_map, decide_true, decide_false, Int.reduceEq, Int.reduceLT, Int.reduceLE, Nat.reduceLT, Int.reduceToNat, Nat.reduceMul, Int.reduceMul, Int.reduceAdd, Int.reduceSub, if_false, reduceCtorEq, iCells_len, wi]
                  exact again _ _ hres (by simp [invC, List.replicate, am])
                · rw [if_neg he] at hres
                  rw [decide_eq_false he]
                  simp only [am, amo, amc, Nat.reduceAdd, Nat.reduceEqDiff, encs_length, List.length_map, decide_true, decide_false, Int.reduceEq, Int.reduceLT, Int.reduceLE, Nat.reduceLT, Int.reduceToNat, Nat.reduceMul, Int.reduceMul, Int.reduceAdd, Int.reduceSub, if_false, reduceCtorEq, iCells_len, wi]
                  exact again _ _ hres (by simp [invC, List.replicate, am])
              · obtain rfl : i = 9 := by omega
                rw [decide_eq_false (by omega)]
                simp only [am, amo, amc, Nat.reduceAdd, Nat.reduceEqDiff, encs_length, List.length_map, decide_true, decide_false, Int.reduceEq, Int.reduceLT, Int.reduceLE, Nat.reduceLT, Int.reduceToNat, Nat.reduceMul, Int.reduceMul, Int.reduceAdd, Int.reduceSub, if_false, reduceCtorEq, iCells_len]
                refine idxL_intro (c := [.str y]) (by omega) rfl ?_
                simp only [am, amo, amc, Nat.reduceAdd, Nat.reduceEqDiff, encs_length, List.length_map, decide_true, decide_false, Int.reduceEq, Int.reduceLT, Int.reduceLE, Nat.reduceLT, Int.reduceToNat, Nat.reduceMul, Int.reduceMul, Int.reduceAdd, Int.reduceSub, if_false, reduceCtorEq, iCells_len]
                refine (value_calls y _ hwy).mono ?_
                rintro v σ1 ⟨rfl, rfl⟩
                simp only [am, amo, amc, Nat.reduceAdd, Nat.reduceEqDiff, encs_length, List.length_map, decide_true, decide_false, Int.reduceEq, Int.reduceLT, Int.reduceLE, Nat.reduceLT, Int.reduceToNat, Nat.reduceMul, Int.reduceMul, Int.reduceAdd, Int.reduceSub, if_false, reduceCtorEq, iCells_len]
                refine retK_intro rfl (Store.sub_refl _) ⟨?_, rfl⟩
                rw [hRe, hres]; rfl
end Go.Proofs.Tryd

namespace Go.Proofs.Tryd
open Go.Am
set_option maxRecDepth 4000
set_option maxHeartbeats 4000000
def ac7 : AC := .seq (.reg [⟨(some 1), .box 6 (.s 0), none⟩, ⟨(some 2), .mv (.c (.bool false)), none⟩])
 (.seq (.reg [xf 1 3 1, xo 4 3, xT 5 4, xB .gtr 6 5 3000, xm 7 6, xh 7 (xf 2 8 1), xh 7 (xo 9 8), xh 7 (xL 10 9), xh 7 (xB .gtr 11 10 200), ⟨(some 12), .pick (.s 7) (.c (.bool true)) (.s 11), none⟩, xm 2 12])
 (.ret))
theorem fn7 : IsFn prog 7 ac7 [.tmp 2] 13 := ⟨f7, ⟨[], []⟩, func7, by kernel_rfl, by kernel_rfl, by kernel_rfl, by kernel_rfl⟩
def ac8 : AC := .seq (.reg [⟨(some 0), .mv (.c (.bool false)), none⟩])
 (.seq (.reg [xc 15 4 [.c (.str [101, 114, 114, 111, 114, 32, 108, 105, 110, 101, 32, 51, 32, 110, 97, 109, 101, 32, 49, 50])], xm 3 4, xe 5 3 0, xe 6 3 1, ⟨(some 1), .alloc [(.int .i64 0), (.str []), (.sl .full 1 []), (.int .i64 0), (.int .i64 0), (.int .i64 0)], none⟩, xs 6 1 5, xm 2 6])
 (.seq (.reg [xm 7 2, xm 8 7, xg 8 (xf 3 9 1), xg 8 (xo 10 9), xg 8 (xB .eql 11 10 3), ⟨(some 12), .pick (.s 8) (.s 11) (.c (.bool false)), none⟩, xm 13 12, xg 13 (xf 4 14 1), xg 13 (xo 15 14), xg 13 (xB .eql 16 15 3), ⟨(some 17), .pick (.s 13) (.s 16) (.c (.bool false)), none⟩, xm 18 17, xg 18 (xf 5 19 1), xg 18 (xo 20 19), xg 18 (xB .eql 21 20 12), ⟨(some 22), .pick (.s 18) (.s 21) (.c (.bool false)), none⟩, xm 23 22, ⟨(some 24), .bslice 1 [(.c (.int .i64 1)), (.c (.int .i64 4))], (some (23, true))⟩, ⟨(some 25), .build [(.int .i64 0), (.str []), (.sl .full 1 []), (.int .i64 0), (.int .i64 0), (.int .i64 0)] [(0, 1, (.c (.int .i64 4))), (2, 1, (.s 24))], (some (23, true))⟩, xg 23 (xc 9 26 [.s 25]), ⟨(some 27), .binS .eql (.s 26) (.c (.str [99, 111, 114, 101, 32, 49, 32, 52])), (some (23, true))⟩, ⟨(some 28), .pick (.s 23) (.s 27) (.c (.bool false)), none⟩, xm 29 28, ⟨(some 30), .build [(.int .i64 0), (.str []), (.sl .full 1 []), (.int .i64 0), (.int .i64 0), (.int .i64 0)] [(0, 1, (.c (.int .i64 2))), (1, 1, (.c (.str [120, 61, 35, 108, 111])))], (some (29, true))⟩, xg 29 (xc 9 31 [.s 30]), ⟨(some 32), .binS .eql (.s 31) (.c (.str [115, 97, 116, 32, 120, 61, 35, 108, 111])), (some (29, true))⟩, ⟨(some 33), .pick (.s 29) (.s 32) (.c (.bool false)), none⟩, xm 0 33])
 (.ret)))
theorem fn8 : IsFn prog 8 ac8 [.tmp 0] 34 := ⟨f8, ⟨[], []⟩, func8, by kernel_rfl, by kernel_rfl, by kernel_rfl, by kernel_rfl⟩
def ac16 : AC := .seq (.reg [⟨(some 2), .alloc [(.int .i64 0), (.str []), (.sl .full 1 []), (.int .i64 0), (.int .i64 0), (.int .i64 0)], none⟩, ⟨(some 3), .mv (.c (.bool false)), none⟩])
 (.seq (.reg [xm 5 0, xc 26 6 [.s 5], ⟨(some 4), .alloc [(.int .i64 0), (.str []), (.sl .full 1 []), (.int .i64 0), (.int .i64 0), (.int .i64 0)], none⟩, xs 6 4 6])
 (.seq (.seq (.reg [xl 6 7 4, xc 12 8 [.s 7], ⟨(some 9), .not (.s 8), none⟩, xm 10 9, xh 10 (xl 6 11 4), xh 10 (xc 10 12 [.s 11]), xh 10 (xm 13 0), ⟨(some 14), .binS .neq (.s 12) (.s 13), (some (10, false))⟩, ⟨(some 15), .pick (.s 10) (.c (.bool true)) (.s 14), none⟩])
 (.cond (.s 15) (.seq (.reg [⟨(some 16), .build [(.int .i64 0), (.str []), (.sl .full 1 []), (.int .i64 0), (.int .i64 0), (.int .i64 0)] [], none⟩, xs 6 2 16, ⟨(some 3), .mv (.c (.bool false)), none⟩])
 (.ret))
 (.skip)))
 (.seq (.reg [xl 6 17 4, xs 6 2 17, ⟨(some 3), .mv (.c (.bool true)), none⟩])
 (.ret))))
theorem fn16 : IsFn prog 16 ac16 [.cell 2 true 6, .tmp 3] 18 := ⟨f16, ⟨[], []⟩, func16, by kernel_rfl, by kernel_rfl, by kernel_rfl, by kernel_rfl⟩
theorem valZ_ok (w : List UInt8) : Iok (valZ w) := by
  unfold valZ
  cases h : numR w with
  | none => exact ⟨by decide, by decide⟩
  | some n => exact iok_nat (numR_some h).2
theorem try_ok {s : List UInt8} {R : Rep} (h : ROk R) : ∀ n k, ROk (tryF s R n k)
  | 0, _ => h
  | n + 1, k => by
    simp only [tryF]
    split
    · exact zero_ok
    · exact try_ok h n (k + 1)
theorem guess_ok {s : List UInt8} (hl : s.length ≤ 5000) : ROk (guess s) := by
  rw [guess, guessF_eq]
  refine try_ok ?_ _ _
  have hsl := splitW_len s
  unfold restF
  split
  · refine ⟨iok0, iok0, by simp [Rep.zero], by simp [Rep.zero], ?_⟩
    show (s.drop 4).length ≤ 5000
    rw [List.length_drop]; omega
  split
  · exact zero_ok
  split
  · refine ⟨iok0, iok0, ?_, ?_, by simp [Rep.zero]⟩
    · show ((splitW s).tail.map valZ).length ≤ 5000
      rw [List.length_map, List.length_tail]; omega
    · intro n hn
      obtain ⟨w, _, rfl⟩ := List.mem_map.1 hn
      exact valZ_ok w
  split
  · exact ⟨valZ_ok _, valZ_ok _, by simp, by simp, by simp⟩
  split
  · exact ⟨iok0, valZ_ok _, by simp, by simp, by simp⟩
  · exact ⟨iok0, iok0, by simp [Rep.zero], by simp [Rep.zero], by simp [Rep.zero]⟩
theorem ReadR_calls (s : List UInt8) (σ : Store) (hl : s.length ≤ 5000) : PCalls prog 16 [.str s] σ fun v σ' => v = rdOut (readD29 s) ∧ σ' = σ := by
  have hF : readD29 s = if (guess s).rightP = true ∧ textR29 (guess s) = s then some (guess s) else none := rfl
  have hok := guess_ok hl
  have hg := guess_calls s σ hl
  generalize readD29 s = F at hF ⊢
  generalize guess s = g at hF hok hg
  refine fn16.calls ?_
  simp only [slots, ac16, am, amo, amc, ams, Nat.reduceAdd, Nat.reduceEqDiff, decide_true, decide_false, Int.reduceEq, Int.reduceLT, Int.reduceLE, Nat.reduceLT, Int.reduceToNat, Nat.reduceMul, Int.reduceMul, Int.reduceAdd, Int.reduceSub, if_false, reduceCtorEq, iCells_len]
  refine (hg).mono ?_
  rintro v σ ⟨rfl, rfl⟩
  simp only [am, amo, amc, Nat.reduceAdd, Nat.reduceEqDiff, encs_length, List.length_map, decide_true, decide_false, Int.reduceEq, Int.reduceLT, Int.reduceLE, Nat.reduceLT, Int.reduceToNat, Nat.reduceMul, Int.reduceMul, Int.reduceAdd, Int.reduceSub, if_false, reduceCtorEq, iCells_len, renc]
  refine (rightR_calls g _ hok).mono ?_
  rintro v σ ⟨rfl, rfl⟩
  rw [right29]
  simp only [am, amo, amc, Nat.reduceAdd, Nat.reduceEqDiff, encs_length, List.length_map, decide_true, decide_false, Int.reduceEq, Int.reduceLT, Int.reduceLE, Nat.reduceLT, Int.reduceToNat, Nat.reduceMul, Int.reduceMul, Int.reduceAdd, Int.reduceSub, if_false, reduceCtorEq, iCells_len]
  cases hr : g.rightP with
  | false =>
    rw [hr, if_neg (by simp)] at hF
    simp only [am, amo, amc, Nat.reduceAdd, Nat.reduceEqDiff, encs_length, List.length_map, decide_true, decide_false, Int.reduceEq, Int.reduceLT, Int.reduceLE, Nat.reduceLT, Int.reduceToNat, Nat.reduceMul, Int.reduceMul, Int.reduceAdd, Int.reduceSub, if_false, reduceCtorEq, iCells_len]
    refine retK_intro rfl (Store.sub_refl _) ⟨?_, rfl⟩
    rw [hF]; rfl
  | true =>
    rw [hr] at hF
    simp only [am, amo, amc, Nat.reduceAdd, Nat.reduceEqDiff, encs_length, List.length_map, decide_true, decide_false, Int.reduceEq, Int.reduceLT, Int.reduceLE, Nat.reduceLT, Int.reduceToNat, Nat.reduceMul, Int.reduceMul, Int.reduceAdd, Int.reduceSub, if_false, reduceCtorEq, iCells_len]
    refine (TextR_calls g _ hok).mono ?_
    rintro v σ ⟨rfl, rfl⟩
    simp only [am, amo, amc, Nat.reduceAdd, Nat.reduceEqDiff, encs_length, List.length_map, decide_true, decide_false, Int.reduceEq, Int.reduceLT, Int.reduceLE, Nat.reduceLT, Int.reduceToNat, Nat.reduceMul, Int.reduceMul, Int.reduceAdd, Int.reduceSub, if_false, reduceCtorEq, iCells_len]
    by_cases ht : textR29 g = s
    · rw [if_pos ⟨rfl, ht⟩] at hF
      rw [decide_eq_true ht]
      simp only [am, amo, amc, Nat.reduceAdd, Nat.reduceEqDiff, encs_length, List.length_map, decide_true, decide_false, Int.reduceEq, Int.reduceLT, Int.reduceLE, Nat.reduceLT, Int.reduceToNat, Nat.reduceMul, Int.reduceMul, Int.reduceAdd, Int.reduceSub, if_false, reduceCtorEq, iCells_len]
      refine retK_intro rfl (Store.sub_refl _) ⟨?_, rfl⟩
      rw [hF]; simp [V.erase, eraseL, rdOut, renc]
    · rw [if_neg (fun h => ht h.2)] at hF
      rw [decide_eq_false ht]
      simp only [am, amo, amc, Nat.reduceAdd, Nat.reduceEqDiff, encs_length, List.length_map, decide_true, decide_false, Int.reduceEq, Int.reduceLT, Int.reduceLE, Nat.reduceLT, Int.reduceToNat, Nat.reduceMul, Int.reduceMul, Int.reduceAdd, Int.reduceSub, if_false, reduceCtorEq, iCells_len]
      refine retK_intro rfl (Store.sub_refl _) ⟨?_, rfl⟩
      rw [hF]; rfl
theorem big_calls (r : Rep) (σ : Store) : PCalls prog 7 [.agg (renc r)] σ fun v σ' => v = .bool (decide (3000 < r.text.length ∨ 200 < r.list.length)) ∧ σ' = σ := by
  obtain ⟨k, t, l, ln, c, a⟩ := r
  simp only [renc]
  refine fn7.calls ?_
  simp only [slots, ac7, am, amo, amc, ams, Nat.reduceAdd, Nat.reduceEqDiff, decide_true, decide_false, Int.reduceEq, Int.reduceLT, Int.reduceLE, Nat.reduceLT, Int.reduceToNat, Nat.reduceMul, Int.reduceMul, Int.reduceAdd, Int.reduceSub, if_false, reduceCtorEq, iCells_len]
  by_cases h1 : 3000 < t.length
  · simp only [am, amo, amc, Nat.reduceAdd, Nat.reduceEqDiff, encs_length, List.length_map, decide_true, decide_false, Int.reduceEq, Int.reduceLT, Int.reduceLE, Nat.reduceLT, Int.reduceToNat, Nat.reduceMul, Int.reduceMul, Int.reduceAdd, Int.reduceSub, if_false, reduceCtorEq, iCells_len, decide_eq_true (show (3000 : Int) < t.length by omega)]
    refine retK_intro rfl (Store.sub_refl _) ⟨?_, rfl⟩
    simp [V.erase, eraseL, h1]
  · simp only [am, amo, amc, Nat.reduceAdd, Nat.reduceEqDiff, encs_length, List.length_map, decide_true, decide_false, Int.reduceEq, Int.reduceLT, Int.reduceLE, Nat.reduceLT, Int.reduceToNat, Nat.reduceMul, Int.reduceMul, Int.reduceAdd, Int.reduceSub, if_false, reduceCtorEq, iCells_len, decide_eq_false (show ¬ (3000 : Int) < t.length by omega)]
    by_cases h2 : 200 < l.length
    · simp only [am, amo, amc, Nat.reduceAdd, Nat.reduceEqDiff, encs_length, List.length_map, decide_true, decide_false, Int.reduceEq, Int.reduceLT, Int.reduceLE, Nat.reduceLT, Int.reduceToNat, Nat.reduceMul, Int.reduceMul, Int.reduceAdd, Int.reduceSub, if_false, reduceCtorEq, iCells_len, decide_eq_true (show (200 : Int) < l.length by omega)]
      refine retK_intro rfl (Store.sub_refl _) ⟨?_, rfl⟩
      simp [V.erase, eraseL, h1, h2]
    · simp only [am, amo, amc, Nat.reduceAdd, Nat.reduceEqDiff, encs_length, List.length_map, decide_true, decide_false, Int.reduceEq, Int.reduceLT, Int.reduceLE, Nat.reduceLT, Int.reduceToNat, Nat.reduceMul, Int.reduceMul, Int.reduceAdd, Int.reduceSub, if_false, reduceCtorEq, iCells_len, decide_eq_false (show ¬ (200 : Int) < l.length by omega)]
      refine retK_intro rfl (Store.sub_refl _) ⟨?_, rfl⟩
      simp [V.erase, eraseL, h1, h2]
def aliveS : List UInt8 := [101, 114, 114, 111, 114, 32, 108, 105, 110, 101, 32, 51, 32, 110, 97, 109, 101, 32, 49, 50]
theorem alive_read : readP29 aliveS = some ⟨8, [], [], 3, 3, 12⟩ := by decide +kernel
theorem alive_calls {σ : Store} (hg : Glob σ) : PCalls prog 8 [] σ fun v σ' => v = .bool true ∧ σ' = σ := by
  refine fn8.calls ?_
  simp only [slots, ac8, am, amo, amc, ams, Nat.reduceAdd, Nat.reduceEqDiff, decide_true, decide_false, Int.reduceEq, Int.reduceLT, Int.reduceLE, Nat.reduceLT, Int.reduceToNat, Nat.reduceMul, Int.reduceMul, Int.reduceAdd, Int.reduceSub, if_false, reduceCtorEq, iCells_len]
  refine (Read_calls aliveS hg (by decide)).mono ?_
  rintro _ σ ⟨rfl, rfl⟩
  simp only [am, amo, amc, Nat.reduceAdd, Nat.reduceEqDiff, encs_length, List.length_map, decide_true, decide_false, Int.reduceEq, Int.reduceLT, Int.reduceLE, Nat.reduceLT, Int.reduceToNat, Nat.reduceMul, Int.reduceMul, Int.reduceAdd, Int.reduceSub, if_false, reduceCtorEq, iCells_len, alive_read, rdOut, Option.getD_some, Option.isSome_some, renc]
  refine (er_calls (Text_calls ⟨4, [], [1, 4], 0, 0, 0⟩ hg ⟨iok0, iok0, by simp, by simp [Iok], by simp⟩) rfl).mono ?_
  rintro _ σ ⟨rfl, rfl⟩
  rw [show textR29 ⟨4, [], [1, 4], 0, 0, 0⟩ = [99, 111, 114, 101, 32, 49, 32, 52] by decide +kernel]
  simp only [am, amo, amc, Nat.reduceAdd, Nat.reduceEqDiff, encs_length, List.length_map, decide_true, decide_false, Int.reduceEq, Int.reduceLT, Int.reduceLE, Nat.reduceLT, Int.reduceToNat, Nat.reduceMul, Int.reduceMul, Int.reduceAdd, Int.reduceSub, if_false, reduceCtorEq, iCells_len]
  refine (er_calls (Text_calls ⟨2, [120, 61, 35, 108, 111], [], 0, 0, 0⟩ hg ⟨iok0, iok0, by simp, by simp [Iok], by simp⟩) rfl).mono ?_
  rintro _ σ ⟨rfl, rfl⟩
  rw [show textR29 ⟨2, [120, 61, 35, 108, 111], [], 0, 0, 0⟩ = [115, 97, 116, 32, 120, 61, 35, 108, 111] by decide +kernel]
  simp only [am, amo, amc, Nat.reduceAdd, Nat.reduceEqDiff, encs_length, List.length_map, decide_true, decide_false, Int.reduceEq, Int.reduceLT, Int.reduceLE, Nat.reduceLT, Int.reduceToNat, Nat.reduceMul, Int.reduceMul, Int.reduceAdd, Int.reduceSub, if_false, reduceCtorEq, iCells_len]
  refine retK_intro rfl (Store.sub_refl _) ⟨?_, rfl⟩
  simp [V.erase, eraseL]
end Go.Proofs.Tryd

namespace Go.Proofs.Tryd
open Go.Am
set_option maxRecDepth 4000
set_option maxHeartbeats 4000000
def ac3 : AC := .seq (.reg [⟨(some 2), .box 6 (.s 0), none⟩, ⟨(some 4), .mv (.c (.bool false)), none⟩])
 (.seq (.seq (.reg [xl 6 5 2, xc 7 6 [.s 5]])
 (.cond (.s 6) (.seq (.reg [xc 8 7 [], xm 4 7])
 (.ret))
 (.skip)))
 (.seq (.draw [(xl 6 8 2, []), (xc 9 9 [.s 8], []), (xl 6 10 2, [0]), (xc 10 11 [.s 10], []), (⟨(some 12), .binS .eql (.s 9) (.s 11), none⟩, []), (xm 13 12, []), (xg 13 (xl 6 14 2), []), (xg 13 (xc 11 15 [.s 14]), []), (xg 13 (xl 6 16 2), [2]), (xg 13 (xc 12 17 [.s 16]), []), (⟨(some 18), .binB false (.s 15) (.s 17), (some (13, true))⟩, []), (⟨(some 19), .pick (.s 13) (.s 18) (.c (.bool false)), none⟩, []), (xm 20 19, []), (xg 20 (xm 21 1), []), (xg 20 (xc 13 22 [.s 21]), []), (xg 20 (xm 23 1), []), (xg 20 (xc 14 24 [.s 23]), []), (⟨(some 25), .binS .eql (.s 22) (.s 24), (some (20, true))⟩, []), (⟨(some 26), .pick (.s 20) (.s 25) (.c (.bool false)), none⟩, []), (xm 27 26, []), (xg 27 (xc 8 28 []), []), (⟨(some 29), .pick (.s 27) (.s 28) (.c (.bool false)), none⟩, []), (xm 4 29, [])])
 (.ret)))
theorem fn3 : IsFn prog 3 ac3 [.tmp 4] 30 := ⟨f3, ⟨[], []⟩, func3, by kernel_rfl, by kernel_rfl, by kernel_rfl, by kernel_rfl⟩
def ac4 : AC := .seq (.reg [⟨(some 2), .mv (.c (.bool false)), none⟩])
 (.seq (.seq (.reg [xm 7 0, xT 8 7, xB .gtr 9 8 3000])
 (.cond (.s 9) (.seq (.reg [xc 8 10 [], xm 2 10])
 (.ret))
 (.skip)))
 (.seq (.reg [xm 12 0, xc 15 13 [.s 12], xm 11 13, xe 14 11 0, xe 15 11 1, ⟨(some 3), .alloc [(.int .i64 0), (.str []), (.sl .full 1 []), (.int .i64 0), (.int .i64 0), (.int .i64 0)], none⟩, xs 6 3 14, xm 4 15])
 (.seq (.reg [xm 17 0, xc 16 18 [.s 17], xm 16 18, xe 19 16 0, xe 20 16 1, ⟨(some 5), .alloc [(.int .i64 0), (.str []), (.sl .full 1 []), (.int .i64 0), (.int .i64 0), (.int .i64 0)], none⟩, xs 6 5 19, xm 6 20])
 (.seq (.reg [xl 6 21 3, xl 6 22 5, xc 17 23 [.s 21, .s 22], xm 24 23, xg 24 (xm 25 4), xg 24 (xm 26 6), ⟨(some 27), .binB false (.s 25) (.s 26), (some (24, true))⟩, ⟨(some 28), .pick (.s 24) (.s 27) (.c (.bool false)), none⟩, xm 29 28, xg 29 (xc 8 30 []), ⟨(some 31), .pick (.s 29) (.s 30) (.c (.bool false)), none⟩, xm 2 31])
 (.ret)))))
theorem fn4 : IsFn prog 4 ac4 [.tmp 2] 32 := ⟨f4, ⟨[], []⟩, func4, by kernel_rfl, by kernel_rfl, by kernel_rfl, by kernel_rfl⟩
def ac5 : AC := .seq (.reg [⟨(some 2), .box 6 (.s 0), none⟩, ⟨(some 3), .box 6 (.s 1), none⟩, ⟨(some 4), .mv (.c (.bool false)), none⟩])
 (.seq (.seq (.reg [xl 6 7 2, xc 7 8 [.s 7], xm 9 8, xh 9 (xl 6 10 3), xh 9 (xc 7 11 [.s 10]), ⟨(some 12), .pick (.s 9) (.c (.bool true)) (.s 11), none⟩, xm 13 12, xh 13 (xl 6 14 2), xh 13 (xc 11 15 [.s 14]), ⟨(some 16), .not (.s 15), (some (13, false))⟩, ⟨(some 17), .pick (.s 13) (.c (.bool true)) (.s 16), none⟩, xm 18 17, xh 18 (xf 3 19 2), xh 18 (xo 20 19), xh 18 (xB .gtr 21 20 999999999999999999), ⟨(some 22), .pick (.s 18) (.c (.bool true)) (.s 21), none⟩, xm 23 22, xh 23 (xf 5 24 2), xh 23 (xo 25 24), xh 23 (xB .gtr 26 25 999999999999999999), ⟨(some 27), .pick (.s 23) (.c (.bool true)) (.s 26), none⟩])
 (.cond (.s 27) (.seq (.reg [xc 8 28 [], xm 4 28])
 (.ret))
 (.skip)))
 (.seq (.reg [xl 6 30 2, xc 9 31 [.s 30], xc 15 32 [.s 31], xm 29 32, xe 33 29 0, xe 34 29 1, ⟨(some 5), .alloc [(.int .i64 0), (.str []), (.sl .full 1 []), (.int .i64 0), (.int .i64 0), (.int .i64 0)], none⟩, xs 6 5 33, xm 6 34])
 (.seq (.seq (.reg [xm 35 6, ⟨(some 36), .not (.s 35), none⟩, xm 37 36, xh 37 (xl 6 38 5), xh 37 (xl 6 39 2), xh 37 (xc 17 40 [.s 38, .s 39]), ⟨(some 41), .not (.s 40), (some (37, false))⟩, ⟨(some 42), .pick (.s 37) (.c (.bool true)) (.s 41), none⟩])
 (.cond (.s 42) (.seq (.reg [⟨(some 4), .mv (.c (.bool false)), none⟩])
 (.ret))
 (.skip)))
 (.seq (.draw [(xl 6 43 3, []), (xc 11 44 [.s 43], []), (⟨(some 45), .not (.s 44), none⟩, []), (xm 46 45, []), (xh 46 (xl 6 47 2), []), (xh 46 (xc 9 48 [.s 47]), []), (xh 46 (xl 6 49 3), [1]), (xh 46 (xc 9 50 [.s 49]), []), (⟨(some 51), .binS .eql (.s 48) (.s 50), (some (46, false))⟩, []), (xh 46 (xl 6 52 2), [1, 2]), (xh 46 (xl 6 53 3), [1, 2]), (xh 46 (xc 17 54 [.s 52, .s 53]), []), (⟨(some 55), .binB false (.s 51) (.s 54), (some (46, false))⟩, []), (⟨(some 56), .pick (.s 46) (.c (.bool true)) (.s 55), none⟩, []), (xm 57 56, []), (xg 57 (xc 8 58 []), []), (⟨(some 59), .pick (.s 57) (.s 58) (.c (.bool false)), none⟩, []), (xm 4 59, [])])
 (.ret)))))
theorem fn5 : IsFn prog 5 ac5 [.tmp 4] 60 := ⟨f5, ⟨[], []⟩, func5, by kernel_rfl, by kernel_rfl, by kernel_rfl, by kernel_rfl⟩
def ac6 : AC := .seq (.reg [⟨(some 2), .mv (.c (.bool false)), none⟩])
 (.seq (.seq (.reg [xm 5 0, xT 6 5, xB .gtr 7 6 3000])
 (.cond (.s 7) (.seq (.reg [xc 8 8 [], xm 2 8])
 (.ret))
 (.skip)))
 (.seq (.reg [xm 10 0, xc 15 11 [.s 10], xm 9 11, xe 12 9 0, xe 13 9 1, ⟨(some 3), .alloc [(.int .i64 0), (.str []), (.sl .full 1 []), (.int .i64 0), (.int .i64 0), (.int .i64 0)], none⟩, xs 6 3 12, xm 4 13])
 (.seq (.seq (.reg [xm 14 4, ⟨(some 15), .not (.s 14), none⟩])
 (.cond (.s 15) (.seq (.reg [xl 6 16 3, ⟨(some 17), .build [(.int .i64 0), (.str []), (.sl .full 1 []), (.int .i64 0), (.int .i64 0), (.int .i64 0)] [], none⟩, xc 17 18 [.s 16, .s 17], xm 19 18, xg 19 (xc 8 20 []), ⟨(some 21), .pick (.s 19) (.s 20) (.c (.bool false)), none⟩, xm 2 21])
 (.ret))
 (.skip)))
 (.seq (.reg [xl 6 22 3, xc 11 23 [.s 22], xm 24 23, xg 24 (xl 6 25 3), xg 24 (xc 9 26 [.s 25]), xg 24 (xm 27 0), ⟨(some 28), .binS .eql (.s 26) (.s 27), (some (24, true))⟩, ⟨(some 29), .pick (.s 24) (.s 28) (.c (.bool false)), none⟩, xm 30 29, xg 30 (xc 8 31 []), ⟨(some 32), .pick (.s 30) (.s 31) (.c (.bool false)), none⟩, xm 2 32])
 (.ret)))))
theorem fn6 : IsFn prog 6 ac6 [.tmp 2] 33 := ⟨f6, ⟨[], []⟩, func6, by kernel_rfl, by kernel_rfl, by kernel_rfl, by kernel_rfl⟩
theorem readP_ok {s : List UInt8} {r : Rep} (h : readP29 s = some r) (hl : s.length ≤ 5000) : ROk r ∧ r.rightP = true := by
  unfold readP29 at h
  cases hq : rawR s with
  | none => rw [hq] at h; simp at h
  | some q =>
    rw [hq] at h
    simp only at h
    split at h
    · rename_i hr
      obtain rfl := Option.some.inj h
      exact ⟨raw_ok hq hl, hr⟩
    · simp at h
theorem getD_ok {s : List UInt8} (hl : s.length ≤ 5000) : ROk ((readP29 s).getD .zero) := by
  cases h : readP29 s with
  | none => exact ⟨iok0, iok0, by simp [Rep.zero], by simp [Rep.zero], by simp [Rep.zero]⟩
  | some r => exact (readP_ok h hl).1
theorem er2_calls {f : FuncId} {u u' v v' : V} {σ : Store} {R' : V → Store → Prop} (h : PCalls prog f [u', v'] σ R') (e1 : u.erase = u') (e : v.erase = v') : PCalls prog f [u, v] σ R' :=
  h.weak (show LLe [u, v] [u', v'] from ⟨e1 ▸ VLe.erase, e ▸ VLe.erase, trivial⟩) OLe.rfl
theorem reads_calls (s : List UInt8) {σ : Store} (hg : Glob σ) : PCalls prog 4 [.str s] σ fun v σ' => v = .bool true ∧ σ' = σ := by
  refine fn4.calls ?_
  simp only [slots, ac4, am, amo, amc, ams, Nat.reduceAdd, Nat.reduceEqDiff, decide_true, decide_false, Int.reduceEq, Int.reduceLT, Int.reduceLE, Nat.reduceLT, Int.reduceToNat, Nat.reduceMul, Int.reduceMul, Int.reduceAdd, Int.reduceSub, if_false, reduceCtorEq, iCells_len]
  by_cases h : 3000 < s.length
  · simp only [am, amo, amc, Nat.reduceAdd, Nat.reduceEqDiff, encs_length, List.length_map, decide_true, decide_false, Int.reduceEq, Int.reduceLT, Int.reduceLE, Nat.reduceLT, Int.reduceToNat, Nat.reduceMul, Int.reduceMul, Int.reduceAdd, Int.reduceSub, if_false, reduceCtorEq, iCells_len, decide_eq_true (show (3000 : Int) < s.length by omega)]
    refine (alive_calls hg).mono ?_
    rintro v σ ⟨rfl, rfl⟩
    simp only [am, amo, amc, Nat.reduceAdd, Nat.reduceEqDiff, encs_length, List.length_map, decide_true, decide_false, Int.reduceEq, Int.reduceLT, Int.reduceLE, Nat.reduceLT, Int.reduceToNat, Nat.reduceMul, Int.reduceMul, Int.reduceAdd, Int.reduceSub, if_false, reduceCtorEq, iCells_len]
    refine retK_intro rfl (Store.sub_refl _) ⟨?_, rfl⟩
    simp [V.erase, eraseL]
  · simp only [am, amo, amc, Nat.reduceAdd, Nat.reduceEqDiff, encs_length, List.length_map, decide_true, decide_false, Int.reduceEq, Int.reduceLT, Int.reduceLE, Nat.reduceLT, Int.reduceToNat, Nat.reduceMul, Int.reduceMul, Int.reduceAdd, Int.reduceSub, if_false, reduceCtorEq, iCells_len, decide_eq_false (show ¬ (3000 : Int) < s.length by omega)]
    refine (Read_calls s hg (by omega)).mono ?_
    rintro v σ ⟨rfl, rfl⟩
    simp only [am, amo, amc, Nat.reduceAdd, Nat.reduceEqDiff, encs_length, List.length_map, decide_true, decide_false, Int.reduceEq, Int.reduceLT, Int.reduceLE, Nat.reduceLT, Int.reduceToNat, Nat.reduceMul, Int.reduceMul, Int.reduceAdd, Int.reduceSub, if_false, reduceCtorEq, iCells_len, rdOut, renc]
    refine (ReadR_calls s σ (by omega)).mono ?_
    rintro v σ ⟨rfl, rfl⟩
    rw [← read29]
    have hok := getD_ok (s := s) (by omega)
    simp only [am, amo, amc, Nat.reduceAdd, Nat.reduceEqDiff, encs_length, List.length_map, decide_true, decide_false, Int.reduceEq, Int.reduceLT, Int.reduceLE, Nat.reduceLT, Int.reduceToNat, Nat.reduceMul, Int.reduceMul, Int.reduceAdd, Int.reduceSub, if_false, reduceCtorEq, iCells_len, rdOut, renc]
    generalize readP29 s = F at hok ⊢
    refine (same_calls (F.getD .zero) (F.getD .zero) σ hok.len hok.len).mono ?_
    rintro v σ ⟨rfl, rfl⟩
    simp only [am, amo, amc, Nat.reduceAdd, Nat.reduceEqDiff, encs_length, List.length_map, decide_true, decide_false, Int.reduceEq, Int.reduceLT, Int.reduceLE, Nat.reduceLT, Int.reduceToNat, Nat.reduceMul, Int.reduceMul, Int.reduceAdd, Int.reduceSub, if_false, reduceCtorEq, iCells_len, decide_eq_true (show F.getD .zero = F.getD .zero from rfl)]
    refine (alive_calls hg).mono ?_
    rintro v σ ⟨rfl, rfl⟩
    simp only [am, amo, amc, Nat.reduceAdd, Nat.reduceEqDiff, encs_length, List.length_map, decide_true, decide_false, Int.reduceEq, Int.reduceLT, Int.reduceLE, Nat.reduceLT, Int.reduceToNat, Nat.reduceMul, Int.reduceMul, Int.reduceAdd, Int.reduceSub, if_false, reduceCtorEq, iCells_len]
    refine retK_intro rfl (Store.sub_refl _) ⟨?_, rfl⟩
    simp [V.erase, eraseL]
theorem once_calls (s : List UInt8) {σ : Store} (hg : Glob σ) : PCalls prog 6 [.str s] σ fun v σ' => v = .bool true ∧ σ' = σ := by
  refine fn6.calls ?_
  simp only [slots, ac6, am, amo, amc, ams, Nat.reduceAdd, Nat.reduceEqDiff, decide_true, decide_false, Int.reduceEq, Int.reduceLT, Int.reduceLE, Nat.reduceLT, Int.reduceToNat, Nat.reduceMul, Int.reduceMul, Int.reduceAdd, Int.reduceSub, if_false, reduceCtorEq, iCells_len]
  by_cases h : 3000 < s.length
  · simp only [am, amo, amc, Nat.reduceAdd, Nat.reduceEqDiff, encs_length, List.length_map, decide_true, decide_false, Int.reduceEq, Int.reduceLT, Int.reduceLE, Nat.reduceLT, Int.reduceToNat, Nat.reduceMul, Int.reduceMul, Int.reduceAdd, Int.reduceSub, if_false, reduceCtorEq, iCells_len, decide_eq_true (show (3000 : Int) < s.length by omega)]
    refine (alive_calls hg).mono ?_
    rintro v σ ⟨rfl, rfl⟩
    simp only [am, amo, amc, Nat.reduceAdd, Nat.reduceEqDiff, encs_length, List.length_map, decide_true, decide_false, Int.reduceEq, Int.reduceLT, Int.reduceLE, Nat.reduceLT, Int.reduceToNat, Nat.reduceMul, Int.reduceMul, Int.reduceAdd, Int.reduceSub, if_false, reduceCtorEq, iCells_len]
    refine retK_intro rfl (Store.sub_refl _) ⟨?_, rfl⟩
    simp [V.erase, eraseL]
  · simp only [am, amo, amc, Nat.reduceAdd, Nat.reduceEqDiff, encs_length, List.length_map, decide_true, decide_false, Int.reduceEq, Int.reduceLT, Int.reduceLE, Nat.reduceLT, Int.reduceToNat, Nat.reduceMul, Int.reduceMul, Int.reduceAdd, Int.reduceSub, if_false, reduceCtorEq, iCells_len, decide_eq_false (show ¬ (3000 : Int) < s.length by omega)]
    refine (Read_calls s hg (by omega)).mono ?_
    rintro v σ ⟨rfl, rfl⟩
    simp only [am, amo, amc, Nat.reduceAdd, Nat.reduceEqDiff, encs_length, List.length_map, decide_true, decide_false, Int.reduceEq, Int.reduceLT, Int.reduceLE, Nat.reduceLT, Int.reduceToNat, Nat.reduceMul, Int.reduceMul, Int.reduceAdd, Int.reduceSub, if_false, reduceCtorEq, iCells_len, rdOut, renc]
    cases hF : readP29 s with
    | none =>
      simp only [am, amo, amc, Nat.reduceAdd, Nat.reduceEqDiff, encs_length, List.length_map, decide_true, decide_false, Int.reduceEq, Int.reduceLT, Int.reduceLE, Nat.reduceLT, Int.reduceToNat, Nat.reduceMul, Int.reduceMul, Int.reduceAdd, Int.reduceSub, if_false, reduceCtorEq, iCells_len, Option.getD_none, Option.isSome_none]
      refine (er2_calls (same_calls .zero .zero σ (by simp [Rep.zero]) (by simp [Rep.zero])) rfl rfl).mono ?_
      rintro _ σ ⟨rfl, rfl⟩
      simp only [am, amo, amc, Nat.reduceAdd, Nat.reduceEqDiff, encs_length, List.length_map, decide_true, decide_false, Int.reduceEq, Int.reduceLT, Int.reduceLE, Nat.reduceLT, Int.reduceToNat, Nat.reduceMul, Int.reduceMul, Int.reduceAdd, Int.reduceSub, if_false, reduceCtorEq, iCells_len, decide_eq_true (show Rep.zero = Rep.zero from rfl)]
      refine (alive_calls hg).mono ?_
      rintro v σ ⟨rfl, rfl⟩
      simp only [am, amo, amc, Nat.reduceAdd, Nat.reduceEqDiff, encs_length, List.length_map, decide_true, decide_false, Int.reduceEq, Int.reduceLT, Int.reduceLE, Nat.reduceLT, Int.reduceToNat, Nat.reduceMul, Int.reduceMul, Int.reduceAdd, Int.reduceSub, if_false, reduceCtorEq, iCells_len]
      refine retK_intro rfl (Store.sub_refl _) ⟨?_, rfl⟩
      simp [V.erase, eraseL]
    | some r =>
      obtain ⟨hok, hr⟩ := readP_ok hF (by omega)
      obtain ⟨_, ht⟩ := once29 hF
      simp only [am, amo, amc, Nat.reduceAdd, Nat.reduceEqDiff, encs_length, List.length_map, decide_true, decide_false, Int.reduceEq, Int.reduceLT, Int.reduceLE, Nat.reduceLT, Int.reduceToNat, Nat.reduceMul, Int.reduceMul, Int.reduceAdd, Int.reduceSub, if_false, reduceCtorEq, iCells_len, Option.getD_some, Option.isSome_some]
      refine (right_calls r hg hok).mono ?_
      rintro v σ ⟨rfl, rfl⟩
      rw [hr]
      simp only [am, amo, amc, Nat.reduceAdd, Nat.reduceEqDiff, encs_length, List.length_map, decide_true, decide_false, Int.reduceEq, Int.reduceLT, Int.reduceLE, Nat.reduceLT, Int.reduceToNat, Nat.reduceMul, Int.reduceMul, Int.reduceAdd, Int.reduceSub, if_false, reduceCtorEq, iCells_len]
      refine (Text_calls r hg hok).mono ?_
      rintro v σ ⟨rfl, rfl⟩
      rw [ht]
      simp only [am, amo, amc, Nat.reduceAdd, Nat.reduceEqDiff, encs_length, List.length_map, decide_true, decide_false, Int.reduceEq, Int.reduceLT, Int.reduceLE, Nat.reduceLT, Int.reduceToNat, Nat.reduceMul, Int.reduceMul, Int.reduceAdd, Int.reduceSub, if_false, reduceCtorEq, iCells_len, decide_eq_true (show s = s from rfl)]
      refine (alive_calls hg).mono ?_
      rintro v σ ⟨rfl, rfl⟩
      simp only [am, amo, amc, Nat.reduceAdd, Nat.reduceEqDiff, encs_length, List.length_map, decide_true, decide_false, Int.reduceEq, Int.reduceLT, Int.reduceLE, Nat.reduceLT, Int.reduceToNat, Nat.reduceMul, Int.reduceMul, Int.reduceAdd, Int.reduceSub, if_false, reduceCtorEq, iCells_len]
      refine retK_intro rfl (Store.sub_refl _) ⟨?_, rfl⟩
      simp [V.erase, eraseL]
theorem tells_calls (r : Rep) (c : Int) {σ : Store} (hg : Glob σ) (h1 : Iok r.line) (h2 : Iok r.at_) (h3 : ∀ n ∈ r.list, Iok n) : PCalls prog 3 [.agg (renc r), .int .i64 c] σ fun v σ' => v = .bool true ∧ σ' = σ := by
  refine fn3.calls ?_
  simp only [slots, ac3, am, amo, amc, ams, Nat.reduceAdd, Nat.reduceEqDiff, decide_true, decide_false, Int.reduceEq, Int.reduceLT, Int.reduceLE, Nat.reduceLT, Int.reduceToNat, Nat.reduceMul, Int.reduceMul, Int.reduceAdd, Int.reduceSub, if_false, reduceCtorEq, iCells_len]
  simp only [am, amo, amc, Nat.reduceAdd, Nat.reduceEqDiff, encs_length, List.length_map, decide_true, decide_false, Int.reduceEq, Int.reduceLT, Int.reduceLE, Nat.reduceLT, Int.reduceToNat, Nat.reduceMul, Int.reduceMul, Int.reduceAdd, Int.reduceSub, if_false, reduceCtorEq, iCells_len, renc]
  refine (big_calls r σ).mono ?_
  rintro v σ ⟨rfl, rfl⟩
  by_cases hb : 3000 < r.text.length ∨ 200 < r.list.length
  · simp only [am, amo, amc, Nat.reduceAdd, Nat.reduceEqDiff, encs_length, List.length_map, decide_true, decide_false, Int.reduceEq, Int.reduceLT, Int.reduceLE, Nat.reduceLT, Int.reduceToNat, Nat.reduceMul, Int.reduceMul, Int.reduceAdd, Int.reduceSub, if_false, reduceCtorEq, iCells_len, decide_eq_true hb]
    refine (alive_calls hg).mono ?_
    rintro v σ ⟨rfl, rfl⟩
    simp only [am, amo, amc, Nat.reduceAdd, Nat.reduceEqDiff, encs_length, List.length_map, decide_true, decide_false, Int.reduceEq, Int.reduceLT, Int.reduceLE, Nat.reduceLT, Int.reduceToNat, Nat.reduceMul, Int.reduceMul, Int.reduceAdd, Int.reduceSub, if_false, reduceCtorEq, iCells_len]
    refine retK_intro rfl (Store.sub_refl _) ⟨?_, rfl⟩
    simp [V.erase, eraseL]
  · simp only [am, amo, amc, Nat.reduceAdd, Nat.reduceEqDiff, encs_length, List.length_map, decide_true, decide_false, Int.reduceEq, Int.reduceLT, Int.reduceLE, Nat.reduceLT, Int.reduceToNat, Nat.reduceMul, Int.reduceMul, Int.reduceAdd, Int.reduceSub, if_false, reduceCtorEq, iCells_len, decide_eq_false hb]
    have hok : ROk r := ⟨h1, h2, by omega, h3, by omega⟩
    refine CallD.intro (Text_calls r hg hok) ?_
    simp only [am, amo, amc, Nat.reduceAdd, Nat.reduceEqDiff, encs_length, List.length_map, decide_true, decide_false, Int.reduceEq, Int.reduceLT, Int.reduceLE, Nat.reduceLT, Int.reduceToNat, Nat.reduceMul, Int.reduceMul, Int.reduceAdd, Int.reduceSub, if_false, reduceCtorEq, iCells_len]
    refine CallD.intro (TextR_calls r σ hok) ?_
    simp only [am, amo, amc, Nat.reduceAdd, Nat.reduceEqDiff, encs_length, List.length_map, decide_true, decide_false, Int.reduceEq, Int.reduceLT, Int.reduceLE, Nat.reduceLT, Int.reduceToNat, Nat.reduceMul, Int.reduceMul, Int.reduceAdd, Int.reduceSub, if_false, reduceCtorEq, iCells_len, decide_eq_true (show textR29 r = textR29 r from rfl)]
    refine CallD.intro (right_calls r hg hok) ?_
    simp only [am, amo, amc, Nat.reduceAdd, Nat.reduceEqDiff, encs_length, List.length_map, decide_true, decide_false, Int.reduceEq, Int.reduceLT, Int.reduceLE, Nat.reduceLT, Int.reduceToNat, Nat.reduceMul, Int.reduceMul, Int.reduceAdd, Int.reduceSub, if_false, reduceCtorEq, iCells_len]
    refine CallD.intro (rightR_calls r σ hok) ?_
    rw [right29]
    simp only [am, amo, amc, Nat.reduceAdd, Nat.reduceEqDiff, encs_length, List.length_map, decide_true, decide_false, Int.reduceEq, Int.reduceLT, Int.reduceLE, Nat.reduceLT, Int.reduceToNat, Nat.reduceMul, Int.reduceMul, Int.reduceAdd, Int.reduceSub, if_false, reduceCtorEq, iCells_len, decide_eq_true (show r.rightP = r.rightP from rfl)]
    refine CallD.intro (Class_calls c hg.c) ?_
    simp only [am, amo, amc, Nat.reduceAdd, Nat.reduceEqDiff, encs_length, List.length_map, decide_true, decide_false, Int.reduceEq, Int.reduceLT, Int.reduceLE, Nat.reduceLT, Int.reduceToNat, Nat.reduceMul, Int.reduceMul, Int.reduceAdd, Int.reduceSub, if_false, reduceCtorEq, iCells_len]
    refine CallD.intro (ClassR_calls c σ) ?_
    simp only [am, amo, amc, Nat.reduceAdd, Nat.reduceEqDiff, encs_length, List.length_map, decide_true, decide_false, Int.reduceEq, Int.reduceLT, Int.reduceLE, Nat.reduceLT, Int.reduceToNat, Nat.reduceMul, Int.reduceMul, Int.reduceAdd, Int.reduceSub, if_false, reduceCtorEq, iCells_len, decide_eq_true (show tabAt classT c = tabAt classT c from rfl)]
    refine CallD.intro (alive_calls hg) ?_
    simp only [am, amo, amc, Nat.reduceAdd, Nat.reduceEqDiff, encs_length, List.length_map, decide_true, decide_false, Int.reduceEq, Int.reduceLT, Int.reduceLE, Nat.reduceLT, Int.reduceToNat, Nat.reduceMul, Int.reduceMul, Int.reduceAdd, Int.reduceSub, if_false, reduceCtorEq, iCells_len]
    refine retK_intro rfl (Store.sub_refl _) ⟨?_, rfl⟩
    simp [V.erase, eraseL]
theorem back_calls (a b : Rep) {σ : Store} (hg : Glob σ) (h1 : Iok a.line) (h2 : Iok a.at_) (h3 : ∀ n ∈ a.list, Iok n) (g1 : Iok b.line) (g2 : Iok b.at_) (g3 : ∀ n ∈ b.list, Iok n) : PCalls prog 5 [.agg (renc a), .agg (renc b)] σ fun v σ' => v = .bool true ∧ σ' = σ := by
  refine fn5.calls ?_
  simp only [slots, ac5, am, amo, amc, ams, Nat.reduceAdd, Nat.reduceEqDiff, decide_true, decide_false, Int.reduceEq, Int.reduceLT, Int.reduceLE, Nat.reduceLT, Int.reduceToNat, Nat.reduceMul, Int.reduceMul, Int.reduceAdd, Int.reduceSub, if_false, reduceCtorEq, iCells_len]
  simp only [am, amo, amc, Nat.reduceAdd, Nat.reduceEqDiff, encs_length, List.length_map, decide_true, decide_false, Int.reduceEq, Int.reduceLT, Int.reduceLE, Nat.reduceLT, Int.reduceToNat, Nat.reduceMul, Int.reduceMul, Int.reduceAdd, Int.reduceSub, if_false, reduceCtorEq, iCells_len, renc]
  refine (big_calls a σ).mono ?_
  rintro v σ ⟨rfl, rfl⟩
  by_cases ha : 3000 < a.text.length ∨ 200 < a.list.length
  · simp only [am, amo, amc, Nat.reduceAdd, Nat.reduceEqDiff, encs_length, List.length_map, decide_true, decide_false, Int.reduceEq, Int.reduceLT, Int.reduceLE, Nat.reduceLT, Int.reduceToNat, Nat.reduceMul, Int.reduceMul, Int.reduceAdd, Int.reduceSub, if_false, reduceCtorEq, iCells_len, decide_eq_true ha]
    refine (alive_calls hg).mono ?_
    rintro v σ ⟨rfl, rfl⟩
    simp only [am, amo, amc, Nat.reduceAdd, Nat.reduceEqDiff, encs_length, List.length_map, decide_true, decide_false, Int.reduceEq, Int.reduceLT, Int.reduceLE, Nat.reduceLT, Int.reduceToNat, Nat.reduceMul, Int.reduceMul, Int.reduceAdd, Int.reduceSub, if_false, reduceCtorEq, iCells_len]
    refine retK_intro rfl (Store.sub_refl _) ⟨?_, rfl⟩
    simp [V.erase, eraseL]
  simp only [am, amo, amc, Nat.reduceAdd, Nat.reduceEqDiff, encs_length, List.length_map, decide_true, decide_false, Int.reduceEq, Int.reduceLT, Int.reduceLE, Nat.reduceLT, Int.reduceToNat, Nat.reduceMul, Int.reduceMul, Int.reduceAdd, Int.reduceSub, if_false, reduceCtorEq, iCells_len, decide_eq_false ha]
  refine (big_calls b σ).mono ?_
  rintro v σ ⟨rfl, rfl⟩
  by_cases hb : 3000 < b.text.length ∨ 200 < b.list.length
  · simp only [am, amo, amc, Nat.reduceAdd, Nat.reduceEqDiff, encs_length, List.length_map, decide_true, decide_false, Int.reduceEq, Int.reduceLT, Int.reduceLE, Nat.reduceLT, Int.reduceToNat, Nat.reduceMul, Int.reduceMul, Int.reduceAdd, Int.reduceSub, if_false, reduceCtorEq, iCells_len, decide_eq_true hb]
    refine (alive_calls hg).mono ?_
    rintro v σ ⟨rfl, rfl⟩
    simp only [am, amo, amc, Nat.reduceAdd, Nat.reduceEqDiff, encs_length, List.length_map, decide_true, decide_false, Int.reduceEq, Int.reduceLT, Int.reduceLE, Nat.reduceLT, Int.reduceToNat, Nat.reduceMul, Int.reduceMul, Int.reduceAdd, Int.reduceSub, if_false, reduceCtorEq, iCells_len]
    refine retK_intro rfl (Store.sub_refl _) ⟨?_, rfl⟩
    simp [V.erase, eraseL]
  simp only [am, amo, amc, Nat.reduceAdd, Nat.reduceEqDiff, encs_length, List.length_map, decide_true, decide_false, Int.reduceEq, Int.reduceLT, Int.reduceLE, Nat.reduceLT, Int.reduceToNat, Nat.reduceMul, Int.reduceMul, Int.reduceAdd, Int.reduceSub, if_false, reduceCtorEq, iCells_len, decide_eq_false hb]
  have hoa : ROk a := ⟨h1, h2, by omega, h3, by omega⟩
  have hob : ROk b := ⟨g1, g2, by omega, g3, by omega⟩
  refine (right_calls a hg hoa).mono ?_
  rintro v σ ⟨rfl, rfl⟩
  cases hra : a.rightP with
  | false =>
    simp only [am, amo, amc, Nat.reduceAdd, Nat.reduceEqDiff, encs_length, List.length_map, decide_true, decide_false, Int.reduceEq, Int.reduceLT, Int.reduceLE, Nat.reduceLT, Int.reduceToNat, Nat.reduceMul, Int.reduceMul, Int.reduceAdd, Int.reduceSub, if_false, reduceCtorEq, iCells_len]
    refine (alive_calls hg).mono ?_
    rintro v σ ⟨rfl, rfl⟩
    simp only [am, amo, amc, Nat.reduceAdd, Nat.reduceEqDiff, encs_length, List.length_map, decide_true, decide_false, Int.reduceEq, Int.reduceLT, Int.reduceLE, Nat.reduceLT, Int.reduceToNat, Nat.reduceMul, Int.reduceMul, Int.reduceAdd, Int.reduceSub, if_false, reduceCtorEq, iCells_len]
    refine retK_intro rfl (Store.sub_refl _) ⟨?_, rfl⟩
    simp [V.erase, eraseL]
  | true =>
    simp only [am, amo, amc, Nat.reduceAdd, Nat.reduceEqDiff, encs_length, List.length_map, decide_true, decide_false, Int.reduceEq, Int.reduceLT, Int.reduceLE, Nat.reduceLT, Int.reduceToNat, Nat.reduceMul, Int.reduceMul, Int.reduceAdd, Int.reduceSub, if_false, reduceCtorEq, iCells_len]
    by_cases hl : 999999999999999999 < a.line
    · simp only [am, amo, amc, Nat.reduceAdd, Nat.reduceEqDiff, encs_length, List.length_map, decide_true, decide_false, Int.reduceEq, Int.reduceLT, Int.reduceLE, Nat.reduceLT, Int.reduceToNat, Nat.reduceMul, Int.reduceMul, Int.reduceAdd, Int.reduceSub, if_false, reduceCtorEq, iCells_len, decide_eq_true hl]
      refine (alive_calls hg).mono ?_
      rintro v σ ⟨rfl, rfl⟩
      simp only [am, amo, amc, Nat.reduceAdd, Nat.reduceEqDiff, encs_length, List.length_map, decide_true, decide_false, Int.reduceEq, Int.reduceLT, Int.reduceLE, Nat.reduceLT, Int.reduceToNat, Nat.reduceMul, Int.reduceMul, Int.reduceAdd, Int.reduceSub, if_false, reduceCtorEq, iCells_len]
      refine retK_intro rfl (Store.sub_refl _) ⟨?_, rfl⟩
      simp [V.erase, eraseL]
    simp only [am, amo, amc, Nat.reduceAdd, Nat.reduceEqDiff, encs_length, List.length_map, decide_true, decide_false, Int.reduceEq, Int.reduceLT, Int.reduceLE, Nat.reduceLT, Int.reduceToNat, Nat.reduceMul, Int.reduceMul, Int.reduceAdd, Int.reduceSub, if_false, reduceCtorEq, iCells_len, decide_eq_false hl]
    by_cases ht : 999999999999999999 < a.at_
    · simp only [am, amo, amc, Nat.reduceAdd, Nat.reduceEqDiff, encs_length, List.length_map, decide_true, decide_false, Int.reduceEq, Int.reduceLT, Int.reduceLE, Nat.reduceLT, Int.reduceToNat, Nat.reduceMul, Int.reduceMul, Int.reduceAdd, Int.reduceSub, if_false, reduceCtorEq, iCells_len, decide_eq_true ht]
      refine (alive_calls hg).mono ?_
      rintro v σ ⟨rfl, rfl⟩
      simp only [am, amo, amc, Nat.reduceAdd, Nat.reduceEqDiff, encs_length, List.length_map, decide_true, decide_false, Int.reduceEq, Int.reduceLT, Int.reduceLE, Nat.reduceLT, Int.reduceToNat, Nat.reduceMul, Int.reduceMul, Int.reduceAdd, Int.reduceSub, if_false, reduceCtorEq, iCells_len]
      refine retK_intro rfl (Store.sub_refl _) ⟨?_, rfl⟩
      simp [V.erase, eraseL]
    simp only [am, amo, amc, Nat.reduceAdd, Nat.reduceEqDiff, encs_length, List.length_map, decide_true, decide_false, Int.reduceEq, Int.reduceLT, Int.reduceLE, Nat.reduceLT, Int.reduceToNat, Nat.reduceMul, Int.reduceMul, Int.reduceAdd, Int.reduceSub, if_false, reduceCtorEq, iCells_len, decide_eq_false ht]
    have hsm : a.small := ⟨by omega, by omega⟩
    have htl : (textR29 a).length ≤ 5000 := by
      have w := word_len a.kind
      have l := listT_len hoa.nums
      have k1 := numT_len h1; have k2 := numT_len h2; have k3 := cls_len a.cls
      unfold textR29 faultT lineW
      repeat' split
      all_goals simp
      all_goals omega
    refine (Text_calls a hg hoa).mono ?_
    rintro v σ ⟨rfl, rfl⟩
    simp only [am, amo, amc, Nat.reduceAdd, Nat.reduceEqDiff, encs_length, List.length_map, decide_true, decide_false, Int.reduceEq, Int.reduceLT, Int.reduceLE, Nat.reduceLT, Int.reduceToNat, Nat.reduceMul, Int.reduceMul, Int.reduceAdd, Int.reduceSub, if_false, reduceCtorEq, iCells_len]
    refine (Read_calls (textR29 a) hg htl).mono ?_
    rintro v σ ⟨rfl, rfl⟩
    rw [back29 hra hsm]
    simp only [am, amo, amc, Nat.reduceAdd, Nat.reduceEqDiff, encs_length, List.length_map, decide_true, decide_false, Int.reduceEq, Int.reduceLT, Int.reduceLE, Nat.reduceLT, Int.reduceToNat, Nat.reduceMul, Int.reduceMul, Int.reduceAdd, Int.reduceSub, if_false, reduceCtorEq, iCells_len, rdOut, Option.getD_some, Option.isSome_some, renc]
    refine (same_calls a a σ hoa.len hoa.len).mono ?_
    rintro v σ ⟨rfl, rfl⟩
    simp only [am, amo, amc, Nat.reduceAdd, Nat.reduceEqDiff, encs_length, List.length_map, decide_true, decide_false, Int.reduceEq, Int.reduceLT, Int.reduceLE, Nat.reduceLT, Int.reduceToNat, Nat.reduceMul, Int.reduceMul, Int.reduceAdd, Int.reduceSub, if_false, reduceCtorEq, iCells_len, decide_eq_true (show a = a from rfl)]
    refine CallD.intro (right_calls b hg hob) ?_
    simp only [am, amo, amc, Nat.reduceAdd, Nat.reduceEqDiff, encs_length, List.length_map, decide_true, decide_false, Int.reduceEq, Int.reduceLT, Int.reduceLE, Nat.reduceLT, Int.reduceToNat, Nat.reduceMul, Int.reduceMul, Int.reduceAdd, Int.reduceSub, if_false, reduceCtorEq, iCells_len]
    cases hrb : b.rightP with
    | false =>
      simp only [am, amo, amc, Nat.reduceAdd, Nat.reduceEqDiff, encs_length, List.length_map, decide_true, decide_false, Int.reduceEq, Int.reduceLT, Int.reduceLE, Nat.reduceLT, Int.reduceToNat, Nat.reduceMul, Int.reduceMul, Int.reduceAdd, Int.reduceSub, if_false, reduceCtorEq, iCells_len]
      refine CallD.intro (alive_calls hg) ?_
      simp only [am, amo, amc, Nat.reduceAdd, Nat.reduceEqDiff, encs_length, List.length_map, decide_true, decide_false, Int.reduceEq, Int.reduceLT, Int.reduceLE, Nat.reduceLT, Int.reduceToNat, Nat.reduceMul, Int.reduceMul, Int.reduceAdd, Int.reduceSub, if_false, reduceCtorEq, iCells_len]
      refine retK_intro rfl (Store.sub_refl _) ⟨?_, rfl⟩
      simp [V.erase, eraseL]
    | true =>
      have hinj : decide (textR29 a = textR29 b) = decide (a = b) := decide_eq_decide.2 ⟨fun h => text_inj hra hsm hrb (by have := g1.2; omega) (by have := g2.2; omega) h, fun h => by rw [h]⟩
      simp only [am, amo, amc, Nat.reduceAdd, Nat.reduceEqDiff, encs_length, List.length_map, decide_true, decide_false, Int.reduceEq, Int.reduceLT, Int.reduceLE, Nat.reduceLT, Int.reduceToNat, Nat.reduceMul, Int.reduceMul, Int.reduceAdd, Int.reduceSub, if_false, reduceCtorEq, iCells_len]
      refine CallD.intro (Text_calls a hg hoa) ?_
      simp only [am, amo, amc, Nat.reduceAdd, Nat.reduceEqDiff, encs_length, List.length_map, decide_true, decide_false, Int.reduceEq, Int.reduceLT, Int.reduceLE, Nat.reduceLT, Int.reduceToNat, Nat.reduceMul, Int.reduceMul, Int.reduceAdd, Int.reduceSub, if_false, reduceCtorEq, iCells_len]
      refine CallD.intro (Text_calls b hg hob) ?_
      simp only [am, amo, amc, Nat.reduceAdd, Nat.reduceEqDiff, encs_length, List.length_map, decide_true, decide_false, Int.reduceEq, Int.reduceLT, Int.reduceLE, Nat.reduceLT, Int.reduceToNat, Nat.reduceMul, Int.reduceMul, Int.reduceAdd, Int.reduceSub, if_false, reduceCtorEq, iCells_len]
      refine CallD.intro (same_calls a b σ hoa.len hob.len) ?_
      rw [hinj]
      simp only [am, amo, amc, Nat.reduceAdd, Nat.reduceEqDiff, encs_length, List.length_map, decide_true, decide_false, Int.reduceEq, Int.reduceLT, Int.reduceLE, Nat.reduceLT, Int.reduceToNat, Nat.reduceMul, Int.reduceMul, Int.reduceAdd, Int.reduceSub, if_false, reduceCtorEq, iCells_len, decide_eq_true (show decide (a = b) = decide (a = b) from rfl)]
      refine CallD.intro (alive_calls hg) ?_
      simp only [am, amo, amc, Nat.reduceAdd, Nat.reduceEqDiff, encs_length, List.length_map, decide_true, decide_false, Int.reduceEq, Int.reduceLT, Int.reduceLE, Nat.reduceLT, Int.reduceToNat, Nat.reduceMul, Int.reduceMul, Int.reduceAdd, Int.reduceSub, if_false, reduceCtorEq, iCells_len]
      refine retK_intro rfl (Store.sub_refl _) ⟨?_, rfl⟩
      simp [V.erase, eraseL]
end Go.Proofs.Tryd

namespace Go.Am
open Go.ChangeShapes Go.WideShapes Go.ChangeAt Go.RowKit
structure BulkFn {H : Type} (B : DataW H → Nat) (BA : List (DataW H) → Nat) : Prop where
  str : ∀ b, B (.lit (.string b)) = b.length + 1
  int : ∀ k n, B (.lit (.int k n)) = 1
  bool : ∀ b, B (.lit (.bool b)) = 1
  nil : B .nil = 1
  slice : ∀ e s, B (.slice e s) = BA e + BA s + 1
  agg : ∀ p, B (.agg p) = BA p + 1
  no : BA [] = 0
  cons : ∀ d r, BA (d :: r) = B d + BA r
def envOf (W : World) : Env := ⟨W, fun _ => .const, fun _ => none, fun _ => none⟩
def noStore : Store := ⟨fun _ => none, fun _ => none⟩
theorem envOf_ok (W : World) : (envOf W).ok noStore := ⟨fun _ _ h => by simp [noStore] at h, fun _ _ h => by simp [noStore] at h, fun _ _ => rfl, ⟨0, fun _ _ => rfl⟩⟩
section
variable {H : Type} {enc : TypeId × Value → H} {P : Program} {W : World} {sp : Nat → Bool} {B : DataW H → Nat} {BA : List (DataW H) → Nat}
theorem rd_int {t : TypeId} {k : IntKind} {n : Nat} {cs : List Value} {x : DataW H × List MemPlace} (ht : P.underlying t = some (.int k)) (hB : BulkFn B BA) (h : DataW.trod enc P W 0 sp true n t cs = some x) :
    ∃ i : Int, RL (envOf W) [.int k i] cs ∧ (∀ v ∈ cs, v.oneCell' = true) ∧ B x.1 = 1 ∧ (Lit.int k i).wf = true := by
  obtain ⟨i, rfl, rfl, hw⟩ := DataW.trod_int ht h
  exact ⟨i, by simp [RL, R], by simp [Value.oneCell'], hB.int _ _, hw⟩
theorem rd_bool {t : TypeId} {n : Nat} {cs : List Value} {x : DataW H × List MemPlace} (ht : P.underlying t = some .bool) (hB : BulkFn B BA) (h : DataW.trod enc P W 0 sp true n t cs = some x) :
    ∃ i : Bool, RL (envOf W) [.bool i] cs ∧ (∀ v ∈ cs, v.oneCell' = true) ∧ B x.1 = 1 := by
  obtain ⟨i, rfl, rfl⟩ := DataW.trod_bool ht h
  exact ⟨i, by simp [RL, R], by simp [Value.oneCell'], hB.bool _⟩
theorem rd_str {t : TypeId} {n : Nat} {cs : List Value} {x : DataW H × List MemPlace} (ht : P.underlying t = some .string) (hB : BulkFn B BA) (h : DataW.trod enc P W 0 sp true n t cs = some x) :
    ∃ s : List UInt8, RL (envOf W) [.str s] cs ∧ (∀ v ∈ cs, v.oneCell' = true) ∧ s.length + 1 = B x.1 := by
  obtain ⟨s, rfl, rfl, _⟩ := DataW.trod_string ht h
  exact ⟨s.data.toList, by simp [RL, R], by simp [Value.oneCell'], (hB.str _).symm⟩
theorem rd_rows {α : Type} (ea : α → List V) (sz : α → Nat) {e : TypeId} {k n : Nat} (hB : BulkFn B BA) (hk : P.cellsOf e = k) (hlen : ∀ y, (ea y).length = k)
    (hel : ∀ cs x, DataW.trod enc P W 0 sp true n e cs = some x → ∃ y : α, RL (envOf W) (ea y) cs ∧ (∀ v ∈ cs, v.oneCell' = true) ∧ sz y ≤ B x.1) {b o : Nat} :
    ∀ (els : List (DataW H × List MemPlace)) (i : Nat), (∀ j, j < els.length → (W.cells? 0 (Addr.add ⟨b, o, none⟩ ((i + j) * k)) k).bind (DataW.trod enc P W 0 sp true n e) = els[j]?) →
      ∃ l : List α, l.length = els.length ∧ REs (envOf W).nl k (l.map ea) b (o + i * k) ∧ (l.map sz).sum ≤ BA (els.map (·.1))
  | [], i, _ => ⟨[], rfl, by simp [REs], by simp⟩
  | x :: els, i, h => by
    obtain ⟨l, h1, h2, h3⟩ := rd_rows ea sz hB hk hlen hel els (i + 1) fun j hj => by
      have := h (j + 1) (by simp; omega)
      rw [show i + (j + 1) = i + 1 + j by omega] at this
      simpa using this
    have h0 := h 0 (by simp)
    simp only [Nat.add_zero, List.getElem?_cons_zero] at h0
    obtain ⟨cs, hc, hr⟩ := Option.bind_eq_some_iff.1 h0
    obtain ⟨y, k1, k2, k3⟩ := hel cs x hr
    obtain ⟨_, hl, hcell⟩ := World.cells?_some hc
    refine ⟨y :: l, by simp [h1], ?_, ?_⟩
    · simp only [List.map_cons, REs]
      refine ⟨hlen y, RAs_mk k1 k2 (fun j v hv => ?_) (fun _ _ => trivial), by rw [show o + i * k + k = o + (i + 1) * k by rw [Nat.add_mul]; omega]; exact h2⟩
      have hj : j < k := by have := (List.getElem?_eq_some_iff.1 hv).1; omega
      have := hcell j hj
      rw [addr_add, addr_add] at this
      show W.cell? _ = _
      rw [this, hv]
    · simp only [List.map_cons, List.sum_cons, hB.cons]; omega
theorem rd_slice {α : Type} (ea : α → List V) (sz : α → Nat) {t e : TypeId} {k fuel : Nat} (hB : BulkFn B BA) (ht : P.underlying t = some (.slice e)) (hk : P.cellsOf e = k) (hpos : 0 < k) (hlen : ∀ y, (ea y).length = k)
    (hel : ∀ n, n < fuel → ∀ cs x, DataW.trod enc P W 0 sp true n e cs = some x → ∃ y : α, RL (envOf W) (ea y) cs ∧ (∀ v ∈ cs, v.oneCell' = true) ∧ sz y ≤ B x.1)
    {cs : List Value} {x : DataW H × List MemPlace} (h : DataW.trod enc P W 0 sp true fuel t cs = some x) :
    ∃ l : List α, RL (envOf W) [.sl .no k (l.map ea)] cs ∧ (∀ v ∈ cs, v.oneCell' = true) ∧ (l.map sz).sum + 1 ≤ B x.1 := by
  rcases DataW.trod_slice ht h with ⟨rfl, rfl⟩ | ⟨a, len, cap, elems, rest, n, rfl, rfl, rfl, _, hle, _, hl, hels, _, _⟩
  · refine ⟨[], ?_, by simp [Value.oneCell'], by simp [hB.nil]⟩
    simp only [RL, R, List.map_nil, and_true]
    exact ⟨none, 0, rfl, by simp, by simp, trivial⟩
  · have ha : elems = [] ∨ ∃ b o, a = ⟨b, o, none⟩ := by
      cases elems with
      | nil => exact .inl rfl
      | cons y ys =>
        right
        have h0 := hels 0 (by rw [← hl]; simp)
        simp only [List.getElem?_cons_zero] at h0
        obtain ⟨cs', hc, _⟩ := Option.bind_eq_some_iff.1 h0
        obtain ⟨_, hl', hcell⟩ := World.cells?_some hc
        have h1 := hcell 0 (by rw [hk]; exact hpos)
        have h2 : cs'[0]? = some (cs'[0]'(by rw [hl', hk]; exact hpos)) := List.getElem?_eq_getElem _
        rw [h2] at h1
        obtain ⟨b, o, s⟩ := a
        refine ⟨b, o, ?_⟩
        simp only [World.cell?] at h1
        cases s with
        | none => rfl
        | some s =>
          split at h1
          · simp [Addr.add] at h1
          · simp at h1
    rcases ha with rfl | ⟨b, o, rfl⟩
    · refine ⟨[], ?_, by simp [Value.oneCell'], by simp [hB.slice]⟩
      simp only [List.length_nil] at hl
      subst hl
      simp only [RL, R, List.map_nil, and_true]
      exact ⟨some a, cap, rfl, by simp, by simp, trivial⟩
    · obtain ⟨l, h1, h2, h3⟩ := rd_rows (B := B) (BA := BA) (sp := sp) (enc := enc) (P := P) (W := W) (n := n) ea sz hB hk hlen (hel n (Nat.lt_succ_self n)) elems 0 (fun j hj => by
        have := hels j (by omega)
        rw [hk] at this
        rw [Nat.zero_add]; exact this)
      refine ⟨l, ?_, by simp [Value.oneCell'], ?_⟩
      · simp only [RL, R, List.length_map, and_true]
        exact ⟨some ⟨b, o, none⟩, cap, by rw [h1, hl], by omega, .inr ⟨b, o, rfl, by simpa using h2⟩, trivial⟩
      · rw [hB.slice]; omega
end
theorem post_am2 {H : Type} {enc : TypeId × Value → H} {P : Program} {f : Func} {s : ChangeSpec} {W : World} {args : Array Value} {ds : List (DataW H)} {before : List MemPlace} {tb : TypeId}
    (hl : laidOutB P = true) (hm : mapsRowed P = true) (hz : ((List.range P.types.size).all fun t => match P.underlying t with | some (.slice e) => decide (0 < P.cellsOf e) | _ => true) = true)
    (hres : f.resultTypes = #[tb]) (htb : P.underlying tb = some .bool) (hpar : ∀ t ∈ f.params.toList, t < P.types.size) (hvars : s.vars = []) (hfn : (s.fn H ds).results = [.lit (.bool true)] ∧ (s.fn H ds).args = ds ∧ (s.fn H ds).vars = [])
    (hW : DataW.Whole enc P f.params.toList s.vars false W args.toList ds [] before) {W' : World} (hos : W'.os = W.os) (hout : W'.output = W.output) (hfrz : ∀ a, W'.frozen? a = W.frozen? a) (hsame : ∀ b, b < W.heap.size → W'.heap[b]? = W.heap[b]?) :
    s.post enc P f false true false false W args (.bool true) W' := by
  have hW' := hW
  obtain ⟨p, q, hA, hV, rfl, hfz, hnd⟩ := hW
  rw [hvars] at hV
  obtain ⟨_, rfl⟩ := trodVars_none hV
  have hkept : W.keptBut W' (fun _ => False) := by
    refine ⟨hos, hout, fun i hi => ?_⟩
    rw [hsame i hi]
    cases W.heap[i]? with
    | none => rfl
    | some ob => cases ob <;> simp
  simp only [List.append_nil] at hW'
  have hds : s.fn H (ds ++ []) = s.fn H ds := by rw [List.append_nil]
  refine post_of_same (pa := p) (pv := []) hW' (fun b sp' hd => ?_) (fun sp' hs => ?_) (fun sp' hs => ?_) (by simp) (World.keptBut_mono (fun _ h => h.elim) hkept) ?_ (ok_one hres rfl (okWide_bool_mk htb _))
  · rw [hds, hfn.1, hres]
    exact trodAll_cons_mk (shut_bool htb _) trodAll_mk0
  · rw [hds, hfn.2.1]
    have hlt := DataW.TrodAll.lt hA
    have key : ∀ (ts : List TypeId) (vs : List Value) (ds : List (DataW H)) (ps : List MemPlace), (∀ t ∈ ts, t < P.types.size) → DataW.TrodAll enc P W 0 (fun _ => true) true ts vs ds ps → (∀ x ∈ ps, x.block < W.heap.size) → (∀ x ∈ ps, sp' x.block = true) → DataW.TrodAll enc P W' 0 sp' true ts vs ds ps := by
      intro ts
      induction ts with
      | nil => intro vs ds ps _ h _ _; cases vs <;> cases ds <;> first | exact h | exact h.elim
      | cons t ts ih =>
        intro vs ds ps hT h hlt hs
        cases vs with
        | nil => exact h.elim
        | cons v vs =>
          cases ds with
          | nil => exact h.elim
          | cons d ds =>
            obtain ⟨p, q, ⟨n, h1⟩, h2, rfl⟩ := h
            refine ⟨p, q, ⟨n, ?_⟩, ih vs ds q (fun t ht => hT t (by simp [ht])) h2 (fun x hx => hlt x (by simp [hx])) (fun x hx => hs x (by simp [hx])), rfl⟩
            refine DataW.trod_stays (kids_rows hl hm) (fun {t e} ht he => slices_full_of P hz t e ht he) (by simp) (hT t (by simp)) h1 (fun x hx => ?_) (fun x hx => hs x (by simp [hx]))
            have hb := hlt x (by simp [hx])
            cases x with
            | cell b off => exact cell_same (hsame b hb)
            | map b => exact hsame b hb
    exact key _ _ _ _ hpar hA (fun x hx => hlt x hx) (fun x hx => hs x (by simpa using hx))
  · rw [hds, hfn.2.2, hvars]
    rfl
  · exact hfrz
theorem post_am {H : Type} {enc : TypeId × Value → H} {P : Program} {f : Func} {s : ChangeSpec} {W : World} {args : Array Value} {ds : List (DataW H)} {before : List MemPlace} {tb : TypeId}
    (hl : laidOutB P = true) (hm : mapsRowed P = true) (hz : ((List.range P.types.size).all fun t => match P.underlying t with | some (.slice e) => decide (0 < P.cellsOf e) | _ => true) = true)
    (hres : f.resultTypes = #[tb]) (htb : P.underlying tb = some .bool) (hpar : ∀ t ∈ f.params.toList, t < P.types.size) (hvars : s.vars = []) (hfn : (s.fn H ds).results = [.lit (.bool true)] ∧ (s.fn H ds).args = ds ∧ (s.fn H ds).vars = [])
    (hW : DataW.Whole enc P f.params.toList s.vars false W args.toList ds [] before) {E' : Env} (hfr : Fr (envOf W) E') :
    s.post enc P f false true false false W args (.bool true) E'.w :=
  post_am2 hl hm hz hres htb hpar hvars hfn hW hfr.os hfr.output hfr.frz fun b hb => (hfr.same b hb (.inl rfl)).1
section
variable {P : Program} {W : World} {r : Reach} {b : Nat} {t : TypeId} {v : Value} {E : Env}
theorem val_slice {e : TypeId} {x : V} (ht : P.underlying t = some (.slice e)) (hv : Value.okWide P W r b t v) (h : RL E [x] v.cells.toList) : R E x v := by
  obtain ⟨a, len, cap, rfl⟩ := okWide_slice ht hv
  simpa [Value.cells, RL] using h
theorem val_int {k : IntKind} {x : V} (ht : P.underlying t = some (.int k)) (hv : Value.okWide P W r b t v) (h : RL E [x] v.cells.toList) : R E x v := by
  obtain ⟨a, rfl⟩ := okWide_int ht hv
  simpa [Value.cells, RL] using h
theorem val_bool {x : V} (ht : P.underlying t = some .bool) (hv : Value.okWide P W r b t v) (h : RL E [x] v.cells.toList) : R E x v := by
  obtain ⟨a, rfl⟩ := okWide_bool ht hv
  simpa [Value.cells, RL] using h
theorem val_string {x : V} (ht : P.underlying t = some .string) (hv : Value.okWide P W r b t v) (h : RL E [x] v.cells.toList) : R E x v := by
  obtain ⟨a, rfl⟩ := okWide_string ht hv
  simpa [Value.cells, RL] using h
theorem val_struct {fs : Array Field} {xs : List V} (ht : P.underlying t = some (.struct fs)) (hv : Value.okWide P W r b t v) (h : RL E xs v.cells.toList) : R E (.agg xs) v := by
  obtain ⟨cs, rfl, _⟩ := okWide_struct ht hv
  simp only [R]
  exact ⟨cs, rfl, by simpa [Value.cells] using h⟩
end
theorem law_calls {H : Type} {enc : TypeId × Value → H} {P : Program} {n : FuncId} {f : Func} {s : ChangeSpec} {W : World} {args : Array Value} {vs : List V} {ds : List (DataW H)} {before : List MemPlace} {tb : TypeId}
    (hP : PCalls P n vs noStore fun v σ' => v = .bool true ∧ σ' = noStore) (hR : RL (envOf W) vs args.toList)
    (hl : laidOutB P = true) (hm : mapsRowed P = true) (hz : ((List.range P.types.size).all fun t => match P.underlying t with | some (.slice e) => decide (0 < P.cellsOf e) | _ => true) = true)
    (hres : f.resultTypes = #[tb]) (htb : P.underlying tb = some .bool) (hpar : ∀ t ∈ f.params.toList, t < P.types.size) (hvars : s.vars = []) (hfn : (s.fn H ds).results = [.lit (.bool true)] ∧ (s.fn H ds).args = ds ∧ (s.fn H ds).vars = [])
    (hW : DataW.Whole enc P f.params.toList s.vars false W args.toList ds [] before) :
    Calls P n args W fun e W' => ∃ v, e = .returned v ∧ s.post enc P f false true false false W args v W' := by
  refine (hP.2 (envOf W) args (fun _ => rfl) (envOf_ok W) hR).mono ?_
  rintro e w' ⟨v, x, E', σ', rfl, rfl, _, _, hRv, hfr, rfl, _⟩
  simp only [R] at hRv
  subst hRv
  exact ⟨_, rfl, post_am hl hm hz hres htb hpar hvars hfn hW hfr⟩
end Go.Am

namespace Go.Am
open Go.ChangeShapes Go.WideShapes Go.ChangeAt Go.RowKit
def txtVal (s : List UInt8) : Value := .string ⟨s.toArray⟩
def boxStore (g : Nat) (ss : List (List UInt8)) : Store := ⟨fun b => if b = g then some (ss.map V.str) else none, fun _ => none⟩
def envBox (W : World) (g : Nat) : Env := ⟨W, fun b => if b = g then .obox else .const, fun _ => none, fun _ => none⟩
theorem boxStore_box (g : Nat) (ss : List (List UInt8)) : (boxStore g ss).box g = some (ss.map V.str) := by simp [boxStore]
theorem envBox_ok {W : World} {g : Nat} {ss : List (List UInt8)} {e : TypeId} (h : W.heap[g]? = some (.cells (ss.map txtVal).toArray e (0, 0))) : (envBox W g).ok (boxStore g ss) := by
  refine ⟨fun b cs hb => ?_, fun _ _ h => by simp [boxStore] at h, fun b hb => ?_, ⟨0, fun _ _ => rfl⟩⟩
  · simp only [boxStore] at hb
    split at hb
    · rename_i hbg
      subst hbg
      simp only [Option.some.injEq] at hb
      subst hb
      refine ⟨by simp [envBox], _, e, h, by simp, fun j x hx => ?_⟩
      rw [List.getElem?_map] at hx
      obtain ⟨s, h1, rfl⟩ := Option.map_eq_some_iff.1 hx
      exact ⟨txtVal s, by simp [h1], by simp [R, txtVal]⟩
    · simp at hb
  · have hlt : g < W.heap.size := lt_of_heap (w := W) h
    have hb : W.heap.size ≤ b := hb
    simp only [envBox]
    rw [if_neg (by omega)]
theorem law_callsG {H : Type} {enc : TypeId × Value → H} {P : Program} {n : FuncId} {f : Func} {s : ChangeSpec} {W : World} {args : Array Value} {vs : List V} {ds : List (DataW H)} {before : List MemPlace} {tb e : TypeId} {g : Nat} {ss : List (List UInt8)}
    (hP : PCalls P n vs (boxStore g ss) fun v σ' => v = .bool true ∧ σ' = boxStore g ss) (hg : W.heap[g]? = some (.cells (ss.map txtVal).toArray e (0, 0))) (hR : RL (envBox W g) vs args.toList)
    (hl : laidOutB P = true) (hm : mapsRowed P = true) (hz : ((List.range P.types.size).all fun t => match P.underlying t with | some (.slice e) => decide (0 < P.cellsOf e) | _ => true) = true)
    (hres : f.resultTypes = #[tb]) (htb : P.underlying tb = some .bool) (hpar : ∀ t ∈ f.params.toList, t < P.types.size) (hvars : s.vars = []) (hfn : (s.fn H ds).results = [.lit (.bool true)] ∧ (s.fn H ds).args = ds ∧ (s.fn H ds).vars = [])
    (hW : DataW.Whole enc P f.params.toList s.vars false W args.toList ds [] before) :
    Calls P n args W fun e W' => ∃ v, e = .returned v ∧ s.post enc P f false true false false W args v W' := by
  refine (hP.2 (envBox W g) args (fun _ => rfl) (envBox_ok hg) hR).mono ?_
  rintro _ w' ⟨v, x, E', σ', rfl, rfl, _, hok, hRv, hfr, rfl, rfl⟩
  simp only [R] at hRv
  subst hRv
  refine ⟨_, rfl, post_am2 hl hm hz hres htb hpar hvars hfn hW hfr.os hfr.output hfr.frz fun b hb => ?_⟩
  by_cases hbg : b = g
  · subst hbg
    obtain ⟨c1, h1, h2⟩ := hfr.shape b _ e hg
    obtain ⟨_, c2, e2, h3, h4, h5⟩ := hok.box b _ (boxStore_box b ss)
    have h3 : E'.w.heap[b]? = some (.cells c2 e2 (0, 0)) := h3
    rw [h1] at h3
    simp only [Option.some.injEq, Obj.cells.injEq] at h3
    obtain ⟨rfl, rfl, _⟩ := h3
    rw [hg, h1]
    have : c1 = (ss.map txtVal).toArray := by
      apply Array.ext_getElem?
      intro j
      by_cases hj : j < ss.length
      · obtain ⟨v, k1, k2⟩ := h5 j (.str ss[j]) (by simp [hj])
        rw [k1]
        simp only [R] at k2
        rw [k2]
        simp [hj, txtVal]
      · rw [Array.getElem?_eq_none (by rw [h2]; simp; omega), Array.getElem?_eq_none (by simp; omega)]
    rw [this]
  · exact (hfr.same b hb (.inl (by simp [envBox, hbg]))).1
section
variable {H : Type} {enc : TypeId × Value → H} {P : Program} {W : World}
def pairsData (ps : List (List UInt8 × List UInt8)) : DataW H := .agg (ps.map fun p => .agg [.lit (.string p.1), .lit (.string p.2)])
theorem list2 {α : Type} {l : List α} (h : l.length = 2) : ∃ a b, l = [a, b] := by
  match l, h with
  | [a, b], _ => exact ⟨a, b, rfl⟩
theorem txtVal_of {s : ByteArray} {l : List UInt8} (h : s.data.toList = l) : Value.string s = txtVal l := by subst h; simp [txtVal]
theorem chunks {α : Type} {k : Nat} (f : Nat → List α) : ∀ (n : Nat) (cs : List α), cs.length = n * k → (∀ i, i < n → (cs.drop (i * k)).take k = f i) → cs = ((List.range n).map f).flatten
  | 0, cs, hl, _ => by simp at hl; simp [hl]
  | n + 1, cs, hl, h => by
    rw [Nat.succ_mul] at hl
    have h1 := chunks (k := k) f n (cs.take (n * k)) (by rw [List.length_take]; omega) fun i hi => by
      have : i * k + k ≤ n * k := by rw [← Nat.succ_mul]; exact Nat.mul_le_mul_right _ hi
      rw [List.drop_take, List.take_take, Nat.min_eq_left (by omega)]
      exact h i (by omega)
    have h2 := h n (by omega)
    rw [List.take_of_length_le (by rw [List.length_drop]; omega)] at h2
    rw [List.range_succ, List.map_append, List.flatten_append, ← h1]
    simp only [List.map_cons, List.map_nil, List.flatten_cons, List.flatten_nil, List.append_nil]
    rw [← h2, List.take_append_drop]
theorem cells_of_pair {base : Nat} {sp : Nat → Bool} {held : Bool} {fuel : Nat} {e tf : TypeId} {fs : Array Field} {cs : List Value} {x : DataW H × List MemPlace} {a b : List UInt8}
    (he : P.underlying e = some (.struct fs)) (hs : fs.size = 2) (hf0 : (fs[0]?).map (fun f => (f.type, f.offset)) = some (tf, 0)) (hf1 : (fs[1]?).map (fun f => (f.type, f.offset)) = some (tf, 1))
    (htf : P.underlying tf = some .string) (hct : P.cellsOf tf = 1) (hce : P.cellsOf e = 2)
    (h : DataW.trod enc P W base sp held fuel e cs = some x) (hx : x.1 = .agg [.lit (.string a), .lit (.string b)]) : cs = [txtVal a, txtVal b] := by
  obtain ⟨xs, m, rfl, rfl, hl, hxl, hf⟩ := DataW.trod_struct he h
  rw [hce] at hl
  rw [hs] at hxl
  obtain ⟨u, v, rfl⟩ := list2 hl
  obtain ⟨x0, x1, rfl⟩ := list2 hxl
  obtain ⟨f0, g0, g1⟩ := Option.map_eq_some_iff.1 hf0
  obtain ⟨f1, g2, g3⟩ := Option.map_eq_some_iff.1 hf1
  simp only [Prod.mk.injEq] at g1 g3
  have h0 := hf 0 f0 g0
  have h1 := hf 1 f1 g2
  rw [g1.1, g1.2, hct] at h0
  rw [g3.1, g3.2, hct] at h1
  obtain ⟨s0, p0, q0, _⟩ := DataW.trod_string htf h0
  obtain ⟨s1, p1, q1, _⟩ := DataW.trod_string htf h1
  simp only [List.drop_zero, List.drop_succ_cons, List.take_succ_cons, List.take_zero, List.cons.injEq, and_true] at p0 p1
  subst p0 p1 q0 q1
  simp only [List.map_cons, List.map_nil, DataW.agg.injEq, List.cons.injEq, DataW.lit.injEq, Lit.string.injEq, and_true] at hx
  rw [txtVal_of hx.1, txtVal_of hx.2]
theorem cells_of_pairs {base : Nat} {sp : Nat → Bool} {held : Bool} {fuel : Nat} {t e tf : TypeId} {n : Nat} {fs : Array Field} {cs : List Value} {ps : List (List UInt8 × List UInt8)} {p : List MemPlace}
    (ht : P.underlying t = some (.array n e)) (he : P.underlying e = some (.struct fs)) (hs : fs.size = 2) (hf0 : (fs[0]?).map (fun f => (f.type, f.offset)) = some (tf, 0)) (hf1 : (fs[1]?).map (fun f => (f.type, f.offset)) = some (tf, 1))
    (htf : P.underlying tf = some .string) (hctf : P.cellsOf tf = 1) (hce : P.cellsOf e = 2) (hct : P.cellsOf t = n * 2)
    (h : DataW.trod enc P W base sp held fuel t cs = some (pairsData ps, p)) : cs = (ps.flatMap fun p => [p.1, p.2]).map txtVal := by
  obtain ⟨xs, m, rfl, hx, hl, hxl, hi⟩ := DataW.trod_array ht h
  rw [hct] at hl
  have hxs : xs.map (·.1) = ps.map fun p => (.agg [.lit (.string p.1), .lit (.string p.2)] : DataW H) := by
    have := congrArg Prod.fst hx
    simpa [pairsData] using this.symm
  have hpl : ps.length = n := by
    have := congrArg List.length hxs
    simp at this; omega
  have hc := chunks (fun i => match ps[i]? with | some p => [txtVal p.1, txtVal p.2] | none => []) n cs hl (fun i hin => by
    have h1 := hi i hin
    rw [hce] at h1
    have hxi : xs[i]? = some xs[i] := by simp [hxl, hin]
    have hpi : ps[i]? = some ps[i] := by simp [hpl, hin]
    rw [hxi] at h1
    have h2 := congrArg (·[i]?) hxs
    simp only [List.getElem?_map, hxi, hpi, Option.map_some, Option.some.injEq] at h2
    rw [hpi]
    exact cells_of_pair he hs hf0 hf1 htf hctf hce h1 h2)
  rw [hc, ← hpl]
  clear hc hi hxl hl hx hxs h hpl
  have key : ∀ qs : List (List UInt8 × List UInt8), ((List.range qs.length).map fun i => match qs[i]? with | some p => [txtVal p.1, txtVal p.2] | none => []) = qs.map fun p => [txtVal p.1, txtVal p.2] := fun qs => by
    apply List.ext_getElem?
    intro i
    by_cases hi : i < qs.length
    · simp [hi]
    · simp [hi]
  rw [key, List.map_flatMap, List.flatMap_def]
  rfl
end
end Go.Am

namespace Go.Am
open Go.ChangeShapes Go.WideShapes Go.ChangeAt Go.RowKit
def IntCom (W : World) (E : Env) : Prop := ∀ b, (∃ j k n, W.cell? ⟨b, j, none⟩ = some (.int k n)) → ∀ o, (E.role b).com o
def HasInt (l : List V) : Prop := ∃ (j : Nat) (k : IntKind) (n : Int), l[j]? = some (.int k n)
theorem envBox_com {W : World} {g : Nat} {ss : List (List UInt8)} {e : TypeId} (h : W.heap[g]? = some (.cells (ss.map txtVal).toArray e (0, 0))) : IntCom W (envBox W g) := by
  rintro b ⟨j, k, n, hc⟩ o
  have hb : b ≠ g := by
    rintro rfl
    simp only [World.cell?, h] at hc
    by_cases hj : j < ss.length
    · simp [hj, txtVal] at hc
    · simp [hj] at hc
  simp [envBox, hb, Role.com]
section
variable {H : Type} {enc : TypeId × Value → H} {P : Program} {W : World} {sp : Nat → Bool} {B : DataW H → Nat} {BA : List (DataW H) → Nat} {E : Env}
theorem rd_rowsE {α : Type} (ea : α → List V) (sz : α → Nat) {e : TypeId} {k n : Nat} (hB : BulkFn B BA) (hk : P.cellsOf e = k) (hlen : ∀ y, (ea y).length = k)
    (hel : ∀ cs x, DataW.trod enc P W 0 sp true n e cs = some x → ∃ y : α, RL E (ea y) cs ∧ (∀ v ∈ cs, v.oneCell' = true) ∧ sz y ≤ B x.1) (hw : E.w = W) (hnl : E.nl = E) (hcom : IntCom W E) (hint : ∀ y, HasInt (ea y)) {b o : Nat} :
    ∀ (els : List (DataW H × List MemPlace)) (i : Nat), (∀ j, j < els.length → (W.cells? 0 (Addr.add ⟨b, o, none⟩ ((i + j) * k)) k).bind (DataW.trod enc P W 0 sp true n e) = els[j]?) →
      ∃ l : List α, l.length = els.length ∧ REs E.nl k (l.map ea) b (o + i * k) ∧ (l.map sz).sum ≤ BA (els.map (·.1))
  | [], i, _ => ⟨[], rfl, by simp [REs], by simp⟩
  | x :: els, i, h => by
    obtain ⟨l, h1, h2, h3⟩ := rd_rowsE ea sz hB hk hlen hel hw hnl hcom hint els (i + 1) fun j hj => by
      have := h (j + 1) (by simp; omega)
      rw [show i + (j + 1) = i + 1 + j by omega] at this
      simpa using this
    have h0 := h 0 (by simp)
    simp only [Nat.add_zero, List.getElem?_cons_zero] at h0
    obtain ⟨cs, hc, hr⟩ := Option.bind_eq_some_iff.1 h0
    obtain ⟨y, k1, k2, k3⟩ := hel cs x hr
    obtain ⟨_, hl, hcell⟩ := World.cells?_some hc
    refine ⟨y :: l, by simp [h1], ?_, ?_⟩
    · simp only [List.map_cons, REs]
      have hat : ∀ (j : Nat) v, cs[j]? = some v → W.cell? ⟨b, o + i * k + j, none⟩ = some v := fun j v hv => by
        have hj : j < k := by have := (List.getElem?_eq_some_iff.1 hv).1; omega
        have := hcell j hj
        rw [addr_add, addr_add] at this
        rw [this, hv]
      obtain ⟨j0, kk, nn, hj0⟩ := hint y
      obtain ⟨u, hu, hRu⟩ := RL_get k1 j0 _ hj0
      simp only [R] at hRu
      have hcm := hcom b ⟨_, kk, nn, by rw [hat j0 u hu, hRu]⟩
      refine ⟨hlen y, RAs_mk (E := E.nl) (by rw [hnl]; exact k1) k2 (fun j v hv => ?_) (fun j _ => hcm _), by rw [show o + i * k + k = o + (i + 1) * k by rw [Nat.add_mul]; omega]; exact h2⟩
      show E.w.cell? _ = _
      rw [hw]; exact hat j v hv
    · simp only [List.map_cons, List.sum_cons, hB.cons]; omega
theorem rd_sliceE {α : Type} (ea : α → List V) (sz : α → Nat) {t e : TypeId} {k fuel : Nat} (hB : BulkFn B BA) (ht : P.underlying t = some (.slice e)) (hk : P.cellsOf e = k) (hpos : 0 < k) (hlen : ∀ y, (ea y).length = k) (hw : E.w = W) (hnl : E.nl = E) (hcom : IntCom W E) (hint : ∀ y, HasInt (ea y))
    (hel : ∀ n, n < fuel → ∀ cs x, DataW.trod enc P W 0 sp true n e cs = some x → ∃ y : α, RL E (ea y) cs ∧ (∀ v ∈ cs, v.oneCell' = true) ∧ sz y ≤ B x.1)
    {cs : List Value} {x : DataW H × List MemPlace} (h : DataW.trod enc P W 0 sp true fuel t cs = some x) :
    ∃ l : List α, RL E [.sl .no k (l.map ea)] cs ∧ (∀ v ∈ cs, v.oneCell' = true) ∧ (l.map sz).sum + 1 ≤ B x.1 := by
  rcases DataW.trod_slice ht h with ⟨rfl, rfl⟩ | ⟨a, len, cap, elems, rest, n, rfl, rfl, rfl, _, hle, _, hl, hels, _, _⟩
  · refine ⟨[], ?_, by simp [Value.oneCell'], by simp [hB.nil]⟩
    simp only [RL, R, List.map_nil, and_true]
    exact ⟨none, 0, rfl, by simp, by simp, trivial⟩
  · have ha : elems = [] ∨ ∃ b o, a = ⟨b, o, none⟩ := by
      cases elems with
      | nil => exact .inl rfl
      | cons y ys =>
        right
        have h0 := hels 0 (by rw [← hl]; simp)
        simp only [List.getElem?_cons_zero] at h0
        obtain ⟨cs', hc, _⟩ := Option.bind_eq_some_iff.1 h0
        obtain ⟨_, hl', hcell⟩ := World.cells?_some hc
        have h1 := hcell 0 (by rw [hk]; exact hpos)
        have h2 : cs'[0]? = some (cs'[0]'(by rw [hl', hk]; exact hpos)) := List.getElem?_eq_getElem _
        rw [h2] at h1
        obtain ⟨b, o, s⟩ := a
        refine ⟨b, o, ?_⟩
        simp only [World.cell?] at h1
        cases s with
        | none => rfl
        | some s =>
          split at h1
          · simp [Addr.add] at h1
          · simp at h1
    rcases ha with rfl | ⟨b, o, rfl⟩
    · refine ⟨[], ?_, by simp [Value.oneCell'], by simp [hB.slice]⟩
      simp only [List.length_nil] at hl
      subst hl
      simp only [RL, R, List.map_nil, and_true]
      exact ⟨some a, cap, rfl, by simp, by simp, trivial⟩
    · obtain ⟨l, h1, h2, h3⟩ := rd_rowsE (B := B) (BA := BA) (sp := sp) (enc := enc) (P := P) (W := W) (n := n) ea sz hB hk hlen (hel n (Nat.lt_succ_self n)) hw hnl hcom hint elems 0 (fun j hj => by
        have := hels j (by omega)
        rw [hk] at this
        rw [Nat.zero_add]; exact this)
      refine ⟨l, ?_, by simp [Value.oneCell'], ?_⟩
      · simp only [RL, R, List.length_map, and_true]
        exact ⟨some ⟨b, o, none⟩, cap, by rw [h1, hl], by omega, .inr ⟨b, o, rfl, by simpa using h2⟩, trivial⟩
      · rw [hB.slice]; omega
end
end Go.Am

namespace Go.Am
open Go.ChangeShapes Go.WideShapes Go.ChangeAt Go.RowKit
def litV : V → Value
  | .str s => txtVal s
  | .int k n => .int k n
  | _ => .bool false
def isLit : V → Bool
  | .str _ => true
  | .int _ _ => true
  | _ => false
theorem litR {E : Env} {x : V} (h : isLit x = true) (v : Value) : R E x v ↔ v = litV x := by
  cases x <;> simp [isLit] at h <;> simp [R, litV, txtVal]
def mStore (B : Nat → Option (List V)) : Store := ⟨B, fun _ => none⟩
def mEnv (W : World) (B : Nat → Option (List V)) : Env := ⟨W, fun b => if (B b).isSome then .obox else .const, fun _ => none, fun _ => none⟩
def MGlob (W : World) (B : Nat → Option (List V)) : Prop := ∀ b cs, B b = some cs → (∃ e, W.heap[b]? = some (.cells (cs.map litV).toArray e (0, 0))) ∧ ∀ x ∈ cs, isLit x = true
theorem mEnv_ok {W : World} {B : Nat → Option (List V)} (h : MGlob W B) : (mEnv W B).ok (mStore B) := by
  refine ⟨fun b cs hb => ?_, fun _ _ h => by simp [mStore] at h, fun b hb => ?_, ⟨0, fun _ _ => rfl⟩⟩
  · have hb : B b = some cs := hb
    obtain ⟨⟨e, he⟩, hl⟩ := h b cs hb
    refine ⟨by simp [mEnv, hb], _, e, he, by simp, fun j x hx => ?_⟩
    exact ⟨litV x, by simp [hx], (litR (hl x (List.mem_of_getElem? hx)) _).2 rfl⟩
  · have hb : W.heap.size ≤ b := hb
    have hn : B b = none := by
      cases hq : B b with
      | none => rfl
      | some cs =>
        obtain ⟨⟨e, he⟩, _⟩ := h b cs hq
        have hlt : b < W.heap.size := lt_of_heap (w := W) he
        omega
    simp [mEnv, hn]
theorem law_callsM {H : Type} {enc : TypeId × Value → H} {P : Program} {n : FuncId} {f : Func} {s : ChangeSpec} {W : World} {args : Array Value} {vs : List V} {ds : List (DataW H)} {before : List MemPlace} {tb : TypeId} {B : Nat → Option (List V)}
    (hP : PCalls P n vs (mStore B) fun v σ' => v = .bool true ∧ σ' = mStore B) (hg : MGlob W B) (hR : RL (mEnv W B) vs args.toList)
    (hl : laidOutB P = true) (hm : mapsRowed P = true) (hz : ((List.range P.types.size).all fun t => match P.underlying t with | some (.slice e) => decide (0 < P.cellsOf e) | _ => true) = true)
    (hres : f.resultTypes = #[tb]) (htb : P.underlying tb = some .bool) (hpar : ∀ t ∈ f.params.toList, t < P.types.size) (hvars : s.vars = []) (hfn : (s.fn H ds).results = [.lit (.bool true)] ∧ (s.fn H ds).args = ds ∧ (s.fn H ds).vars = [])
    (hW : DataW.Whole enc P f.params.toList s.vars false W args.toList ds [] before) :
    Calls P n args W fun e W' => ∃ v, e = .returned v ∧ s.post enc P f false true false false W args v W' := by
  refine (hP.2 (mEnv W B) args (fun _ => rfl) (mEnv_ok hg) hR).mono ?_
  rintro _ w' ⟨v, x, E', σ', rfl, rfl, _, hok, hRv, hfr, rfl, rfl⟩
  simp only [R] at hRv
  subst hRv
  refine ⟨_, rfl, post_am2 hl hm hz hres htb hpar hvars hfn hW hfr.os hfr.output hfr.frz fun b hb => ?_⟩
  cases hq : B b with
  | some cs =>
    obtain ⟨⟨e, he⟩, hlit⟩ := hg b cs hq
    obtain ⟨c1, h1, h2⟩ := hfr.shape b _ e he
    obtain ⟨_, c2, e2, h3, h4, h5⟩ := hok.box b cs hq
    have h3 : E'.w.heap[b]? = some (.cells c2 e2 (0, 0)) := h3
    rw [h1] at h3
    simp only [Option.some.injEq, Obj.cells.injEq] at h3
    obtain ⟨rfl, rfl, _⟩ := h3
    rw [he, h1]
    have : c1 = (cs.map litV).toArray := by
      apply Array.ext_getElem?
      intro j
      by_cases hj : j < cs.length
      · obtain ⟨v, k1, k2⟩ := h5 j cs[j] (by simp [hj])
        rw [k1]
        rw [litR (hlit _ (List.getElem_mem _))] at k2
        rw [k2]
        simp [hj]
      · rw [Array.getElem?_eq_none (by rw [h2]; simp; omega), Array.getElem?_eq_none (by simp; omega)]
    rw [this]
  | none => exact (hfr.same b hb (.inl (by simp [mEnv, hq]))).1
end Go.Am

namespace Go.Am
open Go.ChangeShapes Go.WideShapes Go.ChangeAt Go.RowKit
def I64Com (W : World) (E : Env) : Prop := ∀ b, (∃ j n, W.cell? ⟨b, j, none⟩ = some (.int .i64 n)) → ∀ o, (E.role b).com o
def HasI64 (l : List V) : Prop := ∃ (j : Nat) (n : Int), l[j]? = some (.int .i64 n)
theorem mEnv_com {W : World} {B : Nat → Option (List V)} (h : MGlob W B) (hn : ∀ b cs, B b = some cs → ∀ x ∈ cs, ∀ n, litV x ≠ .int .i64 n) : I64Com W (mEnv W B) := by
  rintro b ⟨j, n, hc⟩ o
  cases hq : B b with
  | none => simp [mEnv, hq, Role.com]
  | some cs =>
    obtain ⟨⟨e, he⟩, _⟩ := h b cs hq
    simp only [World.cell?, he] at hc
    by_cases hj : j < cs.length
    · have : litV cs[j] = .int .i64 n := by simpa [hj] using hc
      exact absurd this (hn b cs hq _ (List.getElem_mem _) n)
    · simp [hj] at hc
section
variable {H : Type} {enc : TypeId × Value → H} {P : Program} {W : World} {sp : Nat → Bool} {B : DataW H → Nat} {BA : List (DataW H) → Nat} {E : Env}
theorem rd_rows6 {α : Type} (ea : α → List V) (sz : α → Nat) {e : TypeId} {k n : Nat} (hB : BulkFn B BA) (hk : P.cellsOf e = k) (hlen : ∀ y, (ea y).length = k)
    (hel : ∀ cs x, DataW.trod enc P W 0 sp true n e cs = some x → ∃ y : α, RL E (ea y) cs ∧ (∀ v ∈ cs, v.oneCell' = true) ∧ sz y ≤ B x.1) (hw : E.w = W) (hnl : E.nl = E) (hcom : I64Com W E) (hint : ∀ y, HasI64 (ea y)) {b o : Nat} :
    ∀ (els : List (DataW H × List MemPlace)) (i : Nat), (∀ j, j < els.length → (W.cells? 0 (Addr.add ⟨b, o, none⟩ ((i + j) * k)) k).bind (DataW.trod enc P W 0 sp true n e) = els[j]?) →
      ∃ l : List α, l.length = els.length ∧ REs E.nl k (l.map ea) b (o + i * k) ∧ (l.map sz).sum ≤ BA (els.map (·.1))
  | [], i, _ => ⟨[], rfl, by simp [REs], by simp⟩
  | x :: els, i, h => by
    obtain ⟨l, h1, h2, h3⟩ := rd_rows6 ea sz hB hk hlen hel hw hnl hcom hint els (i + 1) fun j hj => by
      have := h (j + 1) (by simp; omega)
      rw [show i + (j + 1) = i + 1 + j by omega] at this
      simpa using this
    have h0 := h 0 (by simp)
    simp only [Nat.add_zero, List.getElem?_cons_zero] at h0
    obtain ⟨cs, hc, hr⟩ := Option.bind_eq_some_iff.1 h0
    obtain ⟨y, k1, k2, k3⟩ := hel cs x hr
    obtain ⟨_, hl, hcell⟩ := World.cells?_some hc
    refine ⟨y :: l, by simp [h1], ?_, ?_⟩
    · simp only [List.map_cons, REs]
      have hat : ∀ (j : Nat) v, cs[j]? = some v → W.cell? ⟨b, o + i * k + j, none⟩ = some v := fun j v hv => by
        have hj : j < k := by have := (List.getElem?_eq_some_iff.1 hv).1; omega
        have := hcell j hj
        rw [addr_add, addr_add] at this
        rw [this, hv]
      obtain ⟨j0, nn, hj0⟩ := hint y
      obtain ⟨u, hu, hRu⟩ := RL_get k1 j0 _ hj0
      simp only [R] at hRu
      have hcm := hcom b ⟨_, nn, by rw [hat j0 u hu, hRu]⟩
      refine ⟨hlen y, RAs_mk (E := E.nl) (by rw [hnl]; exact k1) k2 (fun j v hv => ?_) (fun j _ => hcm _), by rw [show o + i * k + k = o + (i + 1) * k by rw [Nat.add_mul]; omega]; exact h2⟩
      show E.w.cell? _ = _
      rw [hw]; exact hat j v hv
    · simp only [List.map_cons, List.sum_cons, hB.cons]; omega
theorem rd_slice6 {α : Type} (ea : α → List V) (sz : α → Nat) {t e : TypeId} {k fuel : Nat} (hB : BulkFn B BA) (ht : P.underlying t = some (.slice e)) (hk : P.cellsOf e = k) (hpos : 0 < k) (hlen : ∀ y, (ea y).length = k) (hw : E.w = W) (hnl : E.nl = E) (hcom : I64Com W E) (hint : ∀ y, HasI64 (ea y))
    (hel : ∀ n, n < fuel → ∀ cs x, DataW.trod enc P W 0 sp true n e cs = some x → ∃ y : α, RL E (ea y) cs ∧ (∀ v ∈ cs, v.oneCell' = true) ∧ sz y ≤ B x.1)
    {cs : List Value} {x : DataW H × List MemPlace} (h : DataW.trod enc P W 0 sp true fuel t cs = some x) :
    ∃ l : List α, RL E [.sl .no k (l.map ea)] cs ∧ (∀ v ∈ cs, v.oneCell' = true) ∧ (l.map sz).sum + 1 ≤ B x.1 := by
  rcases DataW.trod_slice ht h with ⟨rfl, rfl⟩ | ⟨a, len, cap, elems, rest, n, rfl, rfl, rfl, _, hle, _, hl, hels, _, _⟩
  · refine ⟨[], ?_, by simp [Value.oneCell'], by simp [hB.nil]⟩
    simp only [RL, R, List.map_nil, and_true]
    exact ⟨none, 0, rfl, by simp, by simp, trivial⟩
  · have ha : elems = [] ∨ ∃ b o, a = ⟨b, o, none⟩ := by
      cases elems with
      | nil => exact .inl rfl
      | cons y ys =>
        right
        have h0 := hels 0 (by rw [← hl]; simp)
        simp only [List.getElem?_cons_zero] at h0
        obtain ⟨cs', hc, _⟩ := Option.bind_eq_some_iff.1 h0
        obtain ⟨_, hl', hcell⟩ := World.cells?_some hc
        have h1 := hcell 0 (by rw [hk]; exact hpos)
        have h2 : cs'[0]? = some (cs'[0]'(by rw [hl', hk]; exact hpos)) := List.getElem?_eq_getElem _
        rw [h2] at h1
        obtain ⟨b, o, s⟩ := a
        refine ⟨b, o, ?_⟩
        simp only [World.cell?] at h1
        cases s with
        | none => rfl
        | some s =>
          split at h1
          · simp [Addr.add] at h1
          · simp at h1
    rcases ha with rfl | ⟨b, o, rfl⟩
    · refine ⟨[], ?_, by simp [Value.oneCell'], by simp [hB.slice]⟩
      simp only [List.length_nil] at hl
      subst hl
      simp only [RL, R, List.map_nil, and_true]
      exact ⟨some a, cap, rfl, by simp, by simp, trivial⟩
    · obtain ⟨l, h1, h2, h3⟩ := rd_rows6 (B := B) (BA := BA) (sp := sp) (enc := enc) (P := P) (W := W) (n := n) ea sz hB hk hlen (hel n (Nat.lt_succ_self n)) hw hnl hcom hint elems 0 (fun j hj => by
        have := hels j (by omega)
        rw [hk] at this
        rw [Nat.zero_add]; exact this)
      refine ⟨l, ?_, by simp [Value.oneCell'], ?_⟩
      · simp only [RL, R, List.length_map, and_true]
        exact ⟨some ⟨b, o, none⟩, cap, by rw [h1, hl], by omega, .inr ⟨b, o, rfl, by simpa using h2⟩, trivial⟩
      · rw [hB.slice]; omega
end
end Go.Am

namespace Go.Am
open Go.ChangeShapes Go.WideShapes Go.ChangeAt Go.RowKit
section
variable {H : Type} {enc : TypeId × Value → H} {P : Program} {W : World}
theorem cells_of_texts {base : Nat} {sp : Nat → Bool} {held : Bool} {fuel : Nat} {t e : TypeId} {n : Nat} {cs : List Value} {ss : List (List UInt8)} {p : List MemPlace}
    (ht : P.underlying t = some (.array n e)) (he : P.underlying e = some .string) (hce : P.cellsOf e = 1) (hct : P.cellsOf t = n)
    (h : DataW.trod enc P W base sp held fuel t cs = some (.agg (ss.map fun s => .lit (.string s)), p)) : cs = ss.map txtVal := by
  obtain ⟨xs, m, rfl, hx, hl, hxl, hi⟩ := DataW.trod_array ht h
  rw [hct] at hl
  have hxs : xs.map (·.1) = ss.map fun s => (.lit (.string s) : DataW H) := by
    have := congrArg Prod.fst hx
    simpa using this.symm
  have hpl : ss.length = n := by
    have := congrArg List.length hxs
    simp at this; omega
  have hc := chunks (k := 1) (fun i => match ss[i]? with | some s => [txtVal s] | none => []) n cs (by omega) (fun i hin => by
    have h1 := hi i hin
    rw [hce] at h1
    have hxi : xs[i]? = some xs[i] := by simp [hxl, hin]
    have hpi : ss[i]? = some ss[i] := by simp [hpl, hin]
    rw [hxi] at h1
    have h2 := congrArg (·[i]?) hxs
    simp only [List.getElem?_map, hxi, hpi, Option.map_some, Option.some.injEq] at h2
    rw [hpi]
    obtain ⟨s0, p0, q0, _⟩ := DataW.trod_string he h1
    rw [p0]
    rw [q0] at h2
    simp only [DataW.lit.injEq, Lit.string.injEq] at h2
    rw [txtVal_of h2])
  rw [hc, ← hpl]
  have key : ∀ qs : List (List UInt8), ((List.range qs.length).map fun i => match qs[i]? with | some s => [txtVal s] | none => []) = qs.map fun s => [txtVal s] := fun qs => by
    apply List.ext_getElem?
    intro i
    by_cases hi : i < qs.length
    · simp [hi]
    · simp [hi]
  have fl : ∀ qs : List (List UInt8), (qs.map fun s => [txtVal s]).flatten = qs.map txtVal := fun qs => by
    induction qs with
    | nil => rfl
    | cons a l ih => simp only [List.map_cons, List.flatten_cons, ih]; rfl
  rw [key, fl]
theorem laid_at {name : String} {d : DataW Unit} {rest : List (String × DataW Unit)} {g : Nat} {t : TypeId} (h : laidMet P ((name, d) :: rest) W) (hg : P.globalNamed name = some g) (ht : (P.globals[g]?).map (·.type) = some t) {vs : List Value}
    (hc : ∀ (cs : List Value) (fuel : Nat) (p : List MemPlace), DataW.trod (fun _ => ()) P W 0 (fun _ => true) false fuel t cs = some (d, p) → cs = vs) (hv : vs ≠ []) : ∃ e, W.heap[g]? = some (.cells vs.toArray e (0, 0)) := by
  obtain ⟨ps, ⟨g', t', cs, fuel, p, q, hg', ht', hv', hd, _, hps⟩, _, hb⟩ := h
  obtain rfl : g' = g := Option.some.inj (hg'.symm.trans hg)
  obtain rfl : t' = t := Option.some.inj (ht'.symm.trans ht)
  have hcs := hc _ _ _ hd
  have hcs' : cs = vs.toArray := by rw [← hcs]
  obtain ⟨⟨c, e, hce⟩, _⟩ := hb g' 0 (by
    rw [hps]
    refine List.mem_append_left _ (List.mem_append_left _ ?_)
    rw [hcs']
    cases vs with
    | nil => exact absurd rfl hv
    | cons a l => simp [MemPlace.row])
  refine ⟨e, ?_⟩
  rw [hce]
  simp only [World.var?, hg, Option.bind_some, hce, Option.some.injEq] at hv'
  rw [hv', hcs']
end
end Go.Am

namespace Go.Proofs.Tryd
open Go.Am Go.ChangeShapes Go.WideShapes Go.ChangeAt Go.RowKit
open Go.Proofs.YthapdcoaahmbiaaDoor
theorem bulkFn (H : Type) : BulkFn (H := H) Rows.uptoBulk Rows.uptoBulkAll :=
  ⟨fun _ => by simp only [Rows.uptoBulk], fun _ _ => by simp only [Rows.uptoBulk], fun _ => by simp only [Rows.uptoBulk], by simp only [Rows.uptoBulk], fun _ _ => by simp only [Rows.uptoBulk], fun _ => by simp only [Rows.uptoBulk], by simp only [Rows.uptoBulkAll], fun _ _ => by simp only [Rows.uptoBulkAll]⟩
theorem laid : laidOutB prog = true := by kernel_rfl
theorem rowed : mapsRowed prog = true := by kernel_rfl
theorem fulls : ((List.range prog.types.size).all fun t => match prog.underlying t with | some (.slice e) => decide (0 < prog.cellsOf e) | _ => true) = true := by kernel_rfl
theorem own : ownKnob prog.godebug = none := by kernel_rfl
theorem c9 : prog.cellsOf 9 = 1 := by kernel_rfl
theorem c63 : prog.cellsOf 63 = 1 := by kernel_rfl
theorem c3 : prog.cellsOf 3 = 1 := by kernel_rfl
theorem c22 : prog.cellsOf 22 = 1 := by kernel_rfl
theorem c40 : prog.cellsOf 40 = 9 := by kernel_rfl
theorem c81 : prog.cellsOf 81 = 20 := by kernel_rfl
theorem c24 : prog.cellsOf 24 = 6 := by kernel_rfl
def gB : Nat → Option (List V) := fun b => if b = 0 then some wordCells else if b = 1 then some clsCells else if b = 3 then some powCells else none
theorem gB_glob : Glob (mStore gB) := ⟨rfl, rfl, rfl⟩
theorem words_data : (Rows.laid_clearance_reply_words : DataW Unit) = .agg (wordT.map fun s => .lit (.string s)) := rfl
theorem classes_data : (Rows.laid_clearance_reply_classes : DataW Unit) = .agg (classT.map fun s => .lit (.string s)) := rfl
def pows : List Int := (List.range 20).map fun n => ((10 ^ n : Nat) : Int)
theorem pows_data : (Rows.laid_internal_strconv_uint64pow10 : DataW Unit) = Lib.tabData .u64 pows := rfl
theorem globs_at {W : World} (h : laidMetH prog Rows.replyReadsRow.laid W) : MGlob W gB := by
  have h : laidMet prog Rows.replyReadsRow.laid W := h
  have h3 := laidMet.tail (laidMet.tail h)
  have h1 := laidMet.tail (laidMet.tail h3)
  have h2 := laidMet.tail h1
  obtain ⟨e1, k1⟩ := laid_at (g := 0) (t := 40) (vs := wordT.map txtVal) h1 (by kernel_rfl) (by kernel_rfl) (fun cs fuel p hd => cells_of_texts underlying40 underlying9 c9 c40 hd) (by simp [wordT])
  obtain ⟨e2, k2⟩ := laid_at (g := 1) (t := 40) (vs := classT.map txtVal) h2 (by kernel_rfl) (by kernel_rfl) (fun cs fuel p hd => cells_of_texts underlying40 underlying9 c9 c40 hd) (by simp [classT])
  obtain ⟨e3, k3⟩ := laid_at (g := 3) (t := 81) (vs := pows.map fun z => Value.int .u64 z) h3 (by kernel_rfl) (by kernel_rfl) (fun cs fuel p hd => Lib.cells_of_tab underlying81 underlying63 c63 c81 hd) (by simp [pows])
  intro b cs hb
  simp only [gB] at hb
  split at hb
  · rename_i hq; subst hq
    obtain rfl := Option.some.inj hb
    exact ⟨⟨e1, k1⟩, by decide⟩
  split at hb
  · rename_i hq; subst hq
    obtain rfl := Option.some.inj hb
    exact ⟨⟨e2, k2⟩, by decide⟩
  split at hb
  · rename_i hq; subst hq
    obtain rfl := Option.some.inj hb
    exact ⟨⟨e3, k3⟩, by decide⟩
  · simp at hb
def lay1 : DataW Unit → List Value
  | .lit (.int k n) => [.int k n]
  | .lit (.string s) => [txtVal s]
  | _ => []
def lay2 : DataW Unit → List Value
  | .agg ds => ds.flatMap lay1
  | d => lay1 d
def lay3 : DataW Unit → List Value
  | .agg ds => ds.flatMap lay2
  | d => lay1 d
def layAt (h : Array Obj) (x : Nat × DataW Unit) : Array Obj := h.modify x.1 fun
  | .cells _ t frozen => .cells (lay3 x.2).toArray t frozen
  | o => o
noncomputable def laidWorld (os : Os) : World :=
  { World.holding prog os ⟨#[], #[], []⟩ with heap := [(6, Rows.laid_math_bits_deBruijn32tab), (7, Rows.laid_math_bits_deBruijn64tab), (3, Rows.laid_internal_strconv_uint64pow10), (5, Rows.laid_unicode_utf8_acceptRanges), (0, Rows.laid_clearance_reply_words), (1, Rows.laid_clearance_reply_classes), (4, Rows.laid_unicode_utf8_first)].foldl layAt (World.holding prog os ⟨#[], #[], []⟩).heap }
theorem gB_no64 : ∀ b cs, gB b = some cs → ∀ x ∈ cs, ∀ n, litV x ≠ .int .i64 n := by
  intro b cs hb
  simp only [gB] at hb
  split at hb
  · obtain rfl := Option.some.inj hb
    intro x hx n
    obtain ⟨w, _, rfl⟩ := List.mem_map.1 hx
    simp [litV, txtVal]
  split at hb
  · obtain rfl := Option.some.inj hb
    intro x hx n
    obtain ⟨w, _, rfl⟩ := List.mem_map.1 hx
    simp [litV, txtVal]
  split at hb
  · obtain rfl := Option.some.inj hb
    intro x hx n
    obtain ⟨w, _, rfl⟩ := List.mem_map.1 hx
    simp [litV]
  · simp at hb
section
variable {H : Type} {enc : TypeId × Value → H} {W : World} {sp : Nat → Bool} {E : Env}
theorem RL_oneE {x : V} {v : Value} : RL E [x] [v] ↔ R E x v := by simp [RL]
theorem rd_intE {n : Nat} {cs : List Value} {x : DataW H × List MemPlace} (h : DataW.trod enc prog W 0 sp true n 3 cs = some x) :
    ∃ i : Int, RL E [.int .i64 i] cs ∧ (∀ v ∈ cs, v.oneCell' = true) ∧ Iok i := by
  obtain ⟨i, rfl, rfl, hw⟩ := DataW.trod_int underlying3 h
  refine ⟨i, by simp [RL, R], by simp [Value.oneCell'], ?_⟩
  simp [Lit.wf, IntKind.min, IntKind.max, IntKind.signed, IntKind.bits] at hw
  exact ⟨by omega, by omega⟩
theorem rd_strE {n : Nat} {cs : List Value} {x : DataW H × List MemPlace} (h : DataW.trod enc prog W 0 sp true n 9 cs = some x) :
    ∃ s : List UInt8, RL E [.str s] cs ∧ (∀ v ∈ cs, v.oneCell' = true) := by
  obtain ⟨s, rfl, rfl, _⟩ := DataW.trod_string underlying9 h
  exact ⟨s.data.toList, by simp [RL, R], by simp [Value.oneCell']⟩
theorem ln6 {α : Type} {l : List α} (h : l.length = 6) : ∃ a b c d e f, l = [a, b, c, d, e, f] := by
  match l, h with
  | [a, b, c, d, e, f], _ => exact ⟨a, b, c, d, e, f, rfl⟩
theorem rd_repE (hw : E.w = W) (hnl : E.nl = E) (hcom : I64Com W E) {n : Nat} {cs : List Value} {x : DataW H × List MemPlace} (h : DataW.trod enc prog W 0 sp true n 24 cs = some x) :
    ∃ r : Rep, RL E (renc r) cs ∧ Iok r.line ∧ Iok r.at_ ∧ ∀ n ∈ r.list, Iok n := by
  obtain ⟨xs, m, rfl, rfl, hl, hx, hf⟩ := DataW.trod_struct underlying24 h
  rw [c24] at hl
  obtain ⟨a, b, c, d, e, f, rfl⟩ := ln6 hl
  obtain ⟨x0, x1, x2, x3, x4, x5, rfl⟩ := ln6 hx
  have h0 : DataW.trod enc prog W 0 sp true m 3 ((([a, b, c, d, e, f] : List Value).drop 0).take (prog.cellsOf 3)) = some x0 := hf 0 _ rfl
  have h1 : DataW.trod enc prog W 0 sp true m 9 ((([a, b, c, d, e, f] : List Value).drop 1).take (prog.cellsOf 9)) = some x1 := hf 1 _ rfl
  have h2 : DataW.trod enc prog W 0 sp true m 22 ((([a, b, c, d, e, f] : List Value).drop 2).take (prog.cellsOf 22)) = some x2 := hf 2 _ rfl
  have h3 : DataW.trod enc prog W 0 sp true m 3 ((([a, b, c, d, e, f] : List Value).drop 3).take (prog.cellsOf 3)) = some x3 := hf 3 _ rfl
  have h4 : DataW.trod enc prog W 0 sp true m 3 ((([a, b, c, d, e, f] : List Value).drop 4).take (prog.cellsOf 3)) = some x4 := hf 4 _ rfl
  have h5 : DataW.trod enc prog W 0 sp true m 3 ((([a, b, c, d, e, f] : List Value).drop 5).take (prog.cellsOf 3)) = some x5 := hf 5 _ rfl
  rw [c3] at h0 h3 h4 h5; rw [c9] at h1; rw [c22] at h2
  obtain ⟨k, r0, _, _⟩ := rd_intE (E := E) h0
  obtain ⟨s, r1, _⟩ := rd_strE (E := E) h1
  obtain ⟨l, r2, _, _⟩ := rd_slice6 (α := { i : Int // Iok i }) (fun y => [.int .i64 y.1]) (fun _ => 0) (bulkFn H) underlying22 c3 (by omega) (fun _ => rfl) hw hnl hcom (fun y => ⟨0, y.1, rfl⟩) (fun _ _ cs x h => by
    obtain ⟨i, q1, q2, q3⟩ := rd_intE (E := E) h
    exact ⟨⟨i, q3⟩, q1, q2, Nat.zero_le _⟩) h2
  obtain ⟨ln, r3, _, i3⟩ := rd_intE (E := E) h3
  obtain ⟨cl, r4, _, _⟩ := rd_intE (E := E) h4
  obtain ⟨at_, r5, _, i5⟩ := rd_intE (E := E) h5
  simp only [List.drop_zero, List.drop_succ_cons, List.take_succ_cons, List.take_zero, RL_oneE] at r0 r1 r2 r3 r4 r5
  have hc : iCells (l.map (·.1)) = l.map fun y => [V.int .i64 y.1] := by simp [iCells]
  refine ⟨⟨k, s, l.map (·.1), ln, cl, at_⟩, ?_, i3, i5, ?_⟩
  · simp only [renc, RL, hc]; exact ⟨r0, r1, r2, r3, r4, r5, trivial⟩
  · intro n hn
    obtain ⟨y, _, rfl⟩ := List.mem_map.1 hn
    exact y.2
end
end Go.Proofs.Tryd
