/-
  For every command, where what comes in is of bulk at most 1048576: one that might have been read is read again of its text, if that is not too deep (clearancelaw12.CommandBack); the listed variable is tied to the program's text.
-/
import Derived.Test.YthncngbmelgmaaaDoorProg
import Derived.ProofKit
import Derived.OpenShut
import Derived.JoinedCond
import Derived.ChangeStays
import Derived.ReadAgain
import Derived.Deep.DeepHandedRow
import Derived.Lib.LaidTab
import Derived.Test.YthncngbmelgmaaaDoorCards
import Derived.Test.YthncngbmelgmaaaDoorTie
import Derived.Test.YthncngbmelgmaaaDoorBack6
set_option linter.unusedVariables false
set_option linter.unusedSimpArgs false
set_option linter.defProp false
set_option linter.unusedSectionVars false

namespace Go.Proofs.Tryd
open Go.Am
set_option maxRecDepth 4000
set_option maxHeartbeats 4000000
def ac11 : AC := .seq (.reg [⟨(some 1), .box 17 (.s 0), none⟩, ⟨(some 2), .mv (.c (.bool false)), none⟩])
 (.seq (.seq (.reg [xf 0 3 1, xo 4 3, xB .lss 5 4 0, xm 6 5, xh 6 (xf 0 7 1), xh 6 (xo 8 7), xh 6 (xB .gtr 9 8 15), ⟨(some 10), .pick (.s 6) (.c (.bool true)) (.s 9), none⟩])
 (.cond (.s 10) (.seq (.reg [⟨(some 2), .mv (.c (.bool false)), none⟩])
 (.ret))
 (.skip)))
 (.seq (.reg [xl 17 11 1, xc 30 12 [.s 11], xm 13 12, xg 13 (xl 17 14 1), xg 13 (xc 31 15 [.s 14]), ⟨(some 16), .pick (.s 13) (.s 15) (.c (.bool false)), none⟩, xm 17 16, xg 17 (xl 17 18 1), xg 17 (xc 32 19 [.s 18]), ⟨(some 20), .pick (.s 17) (.s 19) (.c (.bool false)), none⟩, xm 21 20, xg 21 (xl 17 22 1), xg 21 (xc 33 23 [.s 22]), ⟨(some 24), .pick (.s 21) (.s 23) (.c (.bool false)), none⟩, xm 2 24])
 (.ret)))
theorem fn11 : IsFn prog 11 ac11 [.tmp 2] 25 := ⟨f11, ⟨[], []⟩, func11, by kernel_rfl, by kernel_rfl, by kernel_rfl, by kernel_rfl⟩
def ac32 : AC := .seq (.reg [⟨(some 1), .box 17 (.s 0), none⟩, ⟨(some 2), .mv (.c (.bool false)), none⟩])
 (.seq (.seq (.reg [xf 0 5 1, xo 6 5, xc 69 7 [.s 6, .c (.int .i32 112)], xB .eql 8 7 0])
 (.cond (.s 8) (.seq (.reg [xf 5 9 1, xo 10 9, xL 11 10, xB .eql 12 11 0, xm 2 12])
 (.ret))
 (.skip)))
 (.seq (.seq (.reg [xf 5 13 1, xo 14 13, xL 15 14, xi 16 0])
 (.block 0 (.loop (.seq (.reg [xb .lss 17 16 15])
 (.seq (.cond (.s 17) (.skip)
 (.exit 0))
 (.seq (.block 1 (.seq (.reg [xA 4 18 14 16, xl 4 19 18, ⟨(some 4), .alloc [(.str []), (.int .i64 0), (.str []), (.int .i64 0)], none⟩, xs 4 4 19])
 (.seq (.reg [⟨(some 20), .idxP 2 2 (.s 4) (.c (.int .i64 0)), none⟩, xf 0 21 20, xo 22 21, xc 51 23 [.s 22], ⟨(some 24), .not (.s 23), none⟩, xm 25 24, ⟨(some 26), .idxP 2 2 (.s 4) (.c (.int .i64 1)), (some (25, false))⟩, xh 25 (xf 0 27 26), xh 25 (xo 28 27), xh 25 (xc 51 29 [.s 28]), ⟨(some 30), .not (.s 29), (some (25, false))⟩, ⟨(some 31), .pick (.s 25) (.c (.bool true)) (.s 30), none⟩])
 (.cond (.s 31) (.seq (.reg [⟨(some 2), .mv (.c (.bool false)), none⟩])
 (.ret))
 (.skip)))))
 (.reg [xB .add 32 16 1, xm 16 32])))))))
 (.seq (.reg [⟨(some 2), .mv (.c (.bool true)), none⟩])
 (.ret))))
theorem fn32 : IsFn prog 32 ac32 [.tmp 2] 33 := ⟨f32, ⟨[], []⟩, func32, by kernel_rfl, by kernel_rfl, by kernel_rfl, by kernel_rfl⟩
def ac33 : AC := .seq (.reg [⟨(some 1), .box 17 (.s 0), none⟩, ⟨(some 2), .mv (.c (.bool false)), none⟩])
 (.seq (.seq (.reg [xf 0 3 1, xo 4 3, xc 69 5 [.s 4, .c (.int .i32 116)], xB .gtr 6 5 0])
 (.cond (.s 6) (.seq (.reg [xf 7 7 1, xl 5 8 7, xc 71 9 [.s 8], xm 10 9, xg 10 (xf 12 11 1), xg 10 (xl 5 12 11), xg 10 (xc 71 13 [.s 12]), ⟨(some 14), .pick (.s 10) (.s 13) (.c (.bool false)), none⟩, xm 2 14])
 (.ret))
 (.skip)))
 (.seq (.seq (.reg [xf 0 15 1, xo 16 15, xc 69 17 [.s 16, .c (.int .i32 114)], xB .gtr 18 17 0])
 (.cond (.s 18) (.seq (.reg [xf 7 19 1, xl 5 20 19, xc 72 21 [.s 20], xm 22 21, xg 22 (xf 12 23 1), xg 22 (xl 5 24 23), xg 22 (xc 72 25 [.s 24]), ⟨(some 26), .pick (.s 22) (.s 25) (.c (.bool false)), none⟩, xm 2 26])
 (.ret))
 (.skip)))
 (.seq (.reg [xf 7 27 1, xl 5 28 27, ⟨(some 29), .build [(.int .i64 0), (.int .i64 0), (.str []), (.sl .full 2 []), (.sl .full 5 [])] [], none⟩, xc 46 30 [.s 28, .s 29], xm 31 30, xg 31 (xf 12 32 1), xg 31 (xl 5 33 32), ⟨(some 34), .build [(.int .i64 0), (.int .i64 0), (.str []), (.sl .full 2 []), (.sl .full 5 [])] [], (some (31, true))⟩, xg 31 (xc 46 35 [.s 33, .s 34]), ⟨(some 36), .pick (.s 31) (.s 35) (.c (.bool false)), none⟩, xm 2 36])
 (.ret))))
theorem fn33 : IsFn prog 33 ac33 [.tmp 2] 37 := ⟨f33, ⟨[], []⟩, func33, by kernel_rfl, by kernel_rfl, by kernel_rfl, by kernel_rfl⟩
def invPq (c : Cmd) (σ : Store) (i : Nat) : St :=
  ⟨[.any, .ptr (.loc 0) 0] ++ List.replicate 12 .any ++ [.sl .no 4 (c.pairs.map penc), .int .i64 c.pairs.length, .int .i64 (i : Nat)] ++ List.replicate 16 .any, [c.enc], σ⟩
theorem pairsQ_calls (c : Cmd) {σ : Store} (hg : σ.box 0 = some formCells) (hn : c.pairs.length + 1 ≤ big) : PCalls prog 32 [.agg c.enc] σ fun v σ' => v = .bool c.pairsQ ∧ σ' = σ := by
  have h := fun (σ : Store) (hg : σ.box 0 = some formCells) => count_calls c.op 112 hg
  simp only [big] at hn
  refine fn32.calls ?_
  simp only [slots, ac32, am, amo, amc, ams, Nat.reduceAdd, Nat.reduceEqDiff, decide_true, decide_false, Tree.rec_, Nd.rec_, Word.rec_, nd_len, nd_one, Int.reduceEq, Int.reduceLT, Int.reduceLE, Nat.reduceLT, Int.reduceToNat, Nat.reduceMul, encT_length, cfl, cfo, cfv, List.length_map, penc_tk]
  refine (h σ hg).mono ?_
  rintro v σ ⟨rfl, rfl⟩
  simp only [am, amo, amc, Nat.reduceAdd, Nat.reduceEqDiff, encs_length, List.length_map, decide_true, decide_false, Tree.rec_, Nd.rec_, Word.rec_, nd_len, nd_one, Int.reduceEq, Int.reduceLT, Int.reduceLE, Nat.reduceLT, Int.reduceToNat, Nat.reduceMul, encT_length, cfl, cfo, cfv, List.length_map, penc_tk]
  by_cases h0 : cntN c.op 112 = 0
  · simp only [am, amo, amc, Nat.reduceAdd, Nat.reduceEqDiff, encs_length, List.length_map, decide_true, decide_false, Tree.rec_, Nd.rec_, Word.rec_, nd_len, nd_one, Int.reduceEq, Int.reduceLT, Int.reduceLE, Nat.reduceLT, Int.reduceToNat, Nat.reduceMul, encT_length, cfl, cfo, cfv, List.length_map, penc_tk, decide_eq_true (show ((cntN c.op 112 : Nat) : Int) = 0 by omega)]
    have he : decide (((c.pairs.length : Nat) : Int) = 0) = decide (c.pairs.length = 0) := by simp
    refine retK_intro rfl (Store.sub_refl _) ⟨?_, rfl⟩
    simp [V.erase, eraseL, Cmd.pairsQ, h0, he]
  simp only [am, amo, amc, Nat.reduceAdd, Nat.reduceEqDiff, encs_length, List.length_map, decide_true, decide_false, Tree.rec_, Nd.rec_, Word.rec_, nd_len, nd_one, Int.reduceEq, Int.reduceLT, Int.reduceLE, Nat.reduceLT, Int.reduceToNat, Nat.reduceMul, encT_length, cfl, cfo, cfv, List.length_map, penc_tk, decide_eq_false (show ¬ ((cntN c.op 112 : Nat) : Int) = 0 by omega)]
  have hq : c.pairsQ = c.pairs.all pairQ := by unfold Cmd.pairsQ; rw [if_neg h0]
  refine vc_loop (fun p : { i : Nat // i ≤ c.pairs.length ∧ (c.pairs.take i).all pairQ = true } => invPq c σ p.1) (fun p => c.pairs.length - p.1) ?_ ?_
  · refine Upd.enter ⟨0, by simp, by simp⟩ ?_ LLLe.rfl OLe.rfl
    simp [invPq, List.replicate, am]
  rintro ⟨i, hi, ha⟩
  simp only [invPq, List.replicate, am]
  by_cases hlt : i < c.pairs.length
  · simp only [am, amo, amc, Nat.reduceAdd, Nat.reduceEqDiff, encs_length, List.length_map, decide_true, decide_false, Tree.rec_, Nd.rec_, Word.rec_, nd_len, nd_one, Int.reduceEq, Int.reduceLT, Int.reduceLE, Nat.reduceLT, Int.reduceToNat, Nat.reduceMul, encT_length, cfl, cfo, cfv, List.length_map, penc_tk, decide_eq_true (show (i : Int) < c.pairs.length by omega)]
    refine idxL_intro (by omega) (pencs_at (List.getElem?_eq_getElem hlt)) ?_
    simp only [am, amo, amc, Nat.reduceAdd, Nat.reduceEqDiff, encs_length, List.length_map, decide_true, decide_false, Tree.rec_, Nd.rec_, Word.rec_, nd_len, nd_one, Int.reduceEq, Int.reduceLT, Int.reduceLE, Nat.reduceLT, Int.reduceToNat, Nat.reduceMul, encT_length, cfl, cfo, cfv, List.length_map, penc_tk, penc]
    refine idxPL_ptr (by omega) (by omega) ?_
    simp only [am, amo, amc, Nat.reduceAdd, Nat.reduceEqDiff, encs_length, List.length_map, decide_true, decide_false, Tree.rec_, Nd.rec_, Word.rec_, nd_len, nd_one, Int.reduceEq, Int.reduceLT, Int.reduceLE, Nat.reduceLT, Int.reduceToNat, Nat.reduceMul, encT_length, cfl, cfo, cfv, List.length_map, penc_tk]
    refine (right_calls c.pairs[i].1.text σ).mono ?_
    rintro v σ ⟨rfl, rfl⟩
    have hno : pairQ c.pairs[i] = false → c.pairsQ = false := fun hf => by
      rw [hq, List.all_eq_false]
      exact ⟨c.pairs[i], List.getElem_mem hlt, by simp [hf]⟩
    cases hr : nameR c.pairs[i].1.text
    · simp only [am, amo, amc, Nat.reduceAdd, Nat.reduceEqDiff, encs_length, List.length_map, decide_true, decide_false, Tree.rec_, Nd.rec_, Word.rec_, nd_len, nd_one, Int.reduceEq, Int.reduceLT, Int.reduceLE, Nat.reduceLT, Int.reduceToNat, Nat.reduceMul, encT_length, cfl, cfo, cfv, List.length_map, penc_tk]
      refine retK_intro rfl (Store.sub_refl _) ⟨?_, rfl⟩
      simp [V.erase, eraseL, hno (by simp [pairQ, hr])]
    · simp only [am, amo, amc, Nat.reduceAdd, Nat.reduceEqDiff, encs_length, List.length_map, decide_true, decide_false, Tree.rec_, Nd.rec_, Word.rec_, nd_len, nd_one, Int.reduceEq, Int.reduceLT, Int.reduceLE, Nat.reduceLT, Int.reduceToNat, Nat.reduceMul, encT_length, cfl, cfo, cfv, List.length_map, penc_tk]
      refine idxPL_ptr (by omega) (by omega) ?_
      simp only [am, amo, amc, Nat.reduceAdd, Nat.reduceEqDiff, encs_length, List.length_map, decide_true, decide_false, Tree.rec_, Nd.rec_, Word.rec_, nd_len, nd_one, Int.reduceEq, Int.reduceLT, Int.reduceLE, Nat.reduceLT, Int.reduceToNat, Nat.reduceMul, encT_length, cfl, cfo, cfv, List.length_map, penc_tk]
      refine (right_calls c.pairs[i].2.text σ).mono ?_
      rintro v σ ⟨rfl, rfl⟩
      cases hr2 : nameR c.pairs[i].2.text
      · simp only [am, amo, amc, Nat.reduceAdd, Nat.reduceEqDiff, encs_length, List.length_map, decide_true, decide_false, Tree.rec_, Nd.rec_, Word.rec_, nd_len, nd_one, Int.reduceEq, Int.reduceLT, Int.reduceLE, Nat.reduceLT, Int.reduceToNat, Nat.reduceMul, encT_length, cfl, cfo, cfv, List.length_map, penc_tk]
        refine retK_intro rfl (Store.sub_refl _) ⟨?_, rfl⟩
        simp [V.erase, eraseL, hno (by simp [pairQ, hr2])]
      · simp only [am, amo, amc, Nat.reduceAdd, Nat.reduceEqDiff, encs_length, List.length_map, decide_true, decide_false, Tree.rec_, Nd.rec_, Word.rec_, nd_len, nd_one, Int.reduceEq, Int.reduceLT, Int.reduceLE, Nat.reduceLT, Int.reduceToNat, Nat.reduceMul, encT_length, cfl, cfo, cfv, List.length_map, penc_tk]
        rw [wrap_i64 (by omega) (by omega)]
        refine Upd.againD (I := fun p : { i : Nat // i ≤ c.pairs.length ∧ (c.pairs.take i).all pairQ = true } => invPq c σ p.1) (μ := fun p => c.pairs.length - p.1) ⟨i + 1, hlt, ?_⟩ (by simp; omega) (by simp [invPq, am, List.replicate]) (by simp [invPq, am]) OLe.rfl (by simp [invPq, List.replicate, loL, V.lo]) (by simp [invPq, Cmd.enc, Cmd.encP, Nd.enc_eq, loLL, loL, V.lo])
        rw [List.take_succ_eq_append_getElem hlt, List.all_append, ha]
        simp [pairQ, hr, hr2]
  · have : i = c.pairs.length := by omega
    subst this
    rw [List.take_length] at ha
    simp only [am, amo, amc, Nat.reduceAdd, Nat.reduceEqDiff, encs_length, List.length_map, decide_true, decide_false, Tree.rec_, Nd.rec_, Word.rec_, nd_len, nd_one, Int.reduceEq, Int.reduceLT, Int.reduceLE, Nat.reduceLT, Int.reduceToNat, Nat.reduceMul, encT_length, cfl, cfo, cfv, List.length_map, penc_tk, decide_eq_false (show ¬ (c.pairs.length : Int) < c.pairs.length by omega)]
    refine retK_intro rfl (Store.sub_refl _) ⟨?_, rfl⟩
    simp [V.erase, eraseL, hq, ha]
theorem zero_nd_enc : [V.int .i64 0, .int .i64 0, .str [], .sl .full 2 [], .sl .full 5 []].map V.erase = Nd.zero.enc := by rw [Nd.enc_eq]; rfl
theorem same_zero (n : Nd) (σ : Store) (hw : n.wt ≤ big) : PCalls prog 46 [.agg n.enc, .agg [.int .i64 0, .int .i64 0, .str [], .sl .full 2 [], .sl .full 5 []]] σ fun v σ' => v = .bool (n.sameQ .zero) ∧ σ' = σ := by
  refine PCalls.weak (same24_calls _ n .zero σ (Nat.le_refl _) hw) ?_ OLe.rfl
  simp only [LLe, VLe.rfl, and_true, true_and]
  rw [← zero_nd_enc]
  exact VLe.erase (v := .agg [.int .i64 0, .int .i64 0, .str [], .sl .full 2 [], .sl .full 5 []])
theorem termsQ_calls (c : Cmd) {σ : Store} (hg : σ.box 0 = some formCells) (hl : c.left.wt ≤ big) (hr : c.right.wt ≤ big) : PCalls prog 33 [.agg c.enc] σ fun v σ' => v = .bool c.termsQ ∧ σ' = σ := by
  have h := fun (σ : Store) (hg : σ.box 0 = some formCells) => count_calls c.op 116 hg
  have h' := fun (σ : Store) (hg : σ.box 0 = some formCells) => count_calls c.op 114 hg
  refine fn33.calls ?_
  simp only [slots, ac33, am, amo, amc, ams, Nat.reduceAdd, Nat.reduceEqDiff, decide_true, decide_false, Tree.rec_, Nd.rec_, Word.rec_, nd_len, nd_one, Int.reduceEq, Int.reduceLT, Int.reduceLE, Nat.reduceLT, Int.reduceToNat, Nat.reduceMul, encT_length, cfl, cfo, cfv, List.length_map, penc_tk]
  refine (h σ hg).mono ?_
  rintro v σ ⟨rfl, rfl⟩
  simp only [am, amo, amc, Nat.reduceAdd, Nat.reduceEqDiff, encs_length, List.length_map, decide_true, decide_false, Tree.rec_, Nd.rec_, Word.rec_, nd_len, nd_one, Int.reduceEq, Int.reduceLT, Int.reduceLE, Nat.reduceLT, Int.reduceToNat, Nat.reduceMul, encT_length, cfl, cfo, cfv, List.length_map, penc_tk]
  by_cases h0 : 0 < cntN c.op 116
  · simp only [am, amo, amc, Nat.reduceAdd, Nat.reduceEqDiff, encs_length, List.length_map, decide_true, decide_false, Tree.rec_, Nd.rec_, Word.rec_, nd_len, nd_one, Int.reduceEq, Int.reduceLT, Int.reduceLE, Nat.reduceLT, Int.reduceToNat, Nat.reduceMul, encT_length, cfl, cfo, cfv, List.length_map, penc_tk, decide_eq_true (show (0 : Int) < ((cntN c.op 116 : Nat) : Int) by omega)]
    refine (label_is_calls _ c.left σ (Nat.le_refl _) hl).mono ?_
    rintro v σ ⟨rfl, rfl⟩
    cases hq : c.left.labelQ
    · simp only [am, amo, amc, Nat.reduceAdd, Nat.reduceEqDiff, encs_length, List.length_map, decide_true, decide_false, Tree.rec_, Nd.rec_, Word.rec_, nd_len, nd_one, Int.reduceEq, Int.reduceLT, Int.reduceLE, Nat.reduceLT, Int.reduceToNat, Nat.reduceMul, encT_length, cfl, cfo, cfv, List.length_map, penc_tk]
      refine retK_intro rfl (Store.sub_refl _) ⟨?_, rfl⟩
      simp [V.erase, eraseL, Cmd.termsQ, h0, hq]
    · simp only [am, amo, amc, Nat.reduceAdd, Nat.reduceEqDiff, encs_length, List.length_map, decide_true, decide_false, Tree.rec_, Nd.rec_, Word.rec_, nd_len, nd_one, Int.reduceEq, Int.reduceLT, Int.reduceLE, Nat.reduceLT, Int.reduceToNat, Nat.reduceMul, encT_length, cfl, cfo, cfv, List.length_map, penc_tk]
      refine (label_is_calls _ c.right σ (Nat.le_refl _) hr).mono ?_
      rintro v σ ⟨rfl, rfl⟩
      simp only [am, amo, amc, Nat.reduceAdd, Nat.reduceEqDiff, encs_length, List.length_map, decide_true, decide_false, Tree.rec_, Nd.rec_, Word.rec_, nd_len, nd_one, Int.reduceEq, Int.reduceLT, Int.reduceLE, Nat.reduceLT, Int.reduceToNat, Nat.reduceMul, encT_length, cfl, cfo, cfv, List.length_map, penc_tk]
      refine retK_intro rfl (Store.sub_refl _) ⟨?_, rfl⟩
      simp [V.erase, eraseL, Cmd.termsQ, h0, hq]
  simp only [am, amo, amc, Nat.reduceAdd, Nat.reduceEqDiff, encs_length, List.length_map, decide_true, decide_false, Tree.rec_, Nd.rec_, Word.rec_, nd_len, nd_one, Int.reduceEq, Int.reduceLT, Int.reduceLE, Nat.reduceLT, Int.reduceToNat, Nat.reduceMul, encT_length, cfl, cfo, cfv, List.length_map, penc_tk, decide_eq_false (show ¬ (0 : Int) < ((cntN c.op 116 : Nat) : Int) by omega)]
  refine (h' σ hg).mono ?_
  rintro v σ ⟨rfl, rfl⟩
  simp only [am, amo, amc, Nat.reduceAdd, Nat.reduceEqDiff, encs_length, List.length_map, decide_true, decide_false, Tree.rec_, Nd.rec_, Word.rec_, nd_len, nd_one, Int.reduceEq, Int.reduceLT, Int.reduceLE, Nat.reduceLT, Int.reduceToNat, Nat.reduceMul, encT_length, cfl, cfo, cfv, List.length_map, penc_tk]
  by_cases h2 : 0 < cntN c.op 114
  · simp only [am, amo, amc, Nat.reduceAdd, Nat.reduceEqDiff, encs_length, List.length_map, decide_true, decide_false, Tree.rec_, Nd.rec_, Word.rec_, nd_len, nd_one, Int.reduceEq, Int.reduceLT, Int.reduceLE, Nat.reduceLT, Int.reduceToNat, Nat.reduceMul, encT_length, cfl, cfo, cfv, List.length_map, penc_tk, decide_eq_true (show (0 : Int) < ((cntN c.op 114 : Nat) : Int) by omega)]
    refine (row_is_calls c.left σ hl).mono ?_
    rintro v σ ⟨rfl, rfl⟩
    cases hq : c.left.rowQ
    · simp only [am, amo, amc, Nat.reduceAdd, Nat.reduceEqDiff, encs_length, List.length_map, decide_true, decide_false, Tree.rec_, Nd.rec_, Word.rec_, nd_len, nd_one, Int.reduceEq, Int.reduceLT, Int.reduceLE, Nat.reduceLT, Int.reduceToNat, Nat.reduceMul, encT_length, cfl, cfo, cfv, List.length_map, penc_tk]
      refine retK_intro rfl (Store.sub_refl _) ⟨?_, rfl⟩
      simp [V.erase, eraseL, Cmd.termsQ, h0, h2, hq]
    · simp only [am, amo, amc, Nat.reduceAdd, Nat.reduceEqDiff, encs_length, List.length_map, decide_true, decide_false, Tree.rec_, Nd.rec_, Word.rec_, nd_len, nd_one, Int.reduceEq, Int.reduceLT, Int.reduceLE, Nat.reduceLT, Int.reduceToNat, Nat.reduceMul, encT_length, cfl, cfo, cfv, List.length_map, penc_tk]
      refine (row_is_calls c.right σ hr).mono ?_
      rintro v σ ⟨rfl, rfl⟩
      simp only [am, amo, amc, Nat.reduceAdd, Nat.reduceEqDiff, encs_length, List.length_map, decide_true, decide_false, Tree.rec_, Nd.rec_, Word.rec_, nd_len, nd_one, Int.reduceEq, Int.reduceLT, Int.reduceLE, Nat.reduceLT, Int.reduceToNat, Nat.reduceMul, encT_length, cfl, cfo, cfv, List.length_map, penc_tk]
      refine retK_intro rfl (Store.sub_refl _) ⟨?_, rfl⟩
      simp [V.erase, eraseL, Cmd.termsQ, h0, h2, hq]
  simp only [am, amo, amc, Nat.reduceAdd, Nat.reduceEqDiff, encs_length, List.length_map, decide_true, decide_false, Tree.rec_, Nd.rec_, Word.rec_, nd_len, nd_one, Int.reduceEq, Int.reduceLT, Int.reduceLE, Nat.reduceLT, Int.reduceToNat, Nat.reduceMul, encT_length, cfl, cfo, cfv, List.length_map, penc_tk, decide_eq_false (show ¬ (0 : Int) < ((cntN c.op 114 : Nat) : Int) by omega)]
  refine (same_zero c.left σ hl).mono ?_
  rintro v σ ⟨rfl, rfl⟩
  cases hq : c.left.sameQ .zero
  · simp only [am, amo, amc, Nat.reduceAdd, Nat.reduceEqDiff, encs_length, List.length_map, decide_true, decide_false, Tree.rec_, Nd.rec_, Word.rec_, nd_len, nd_one, Int.reduceEq, Int.reduceLT, Int.reduceLE, Nat.reduceLT, Int.reduceToNat, Nat.reduceMul, encT_length, cfl, cfo, cfv, List.length_map, penc_tk]
    refine retK_intro rfl (Store.sub_refl _) ⟨?_, rfl⟩
    simp [V.erase, eraseL, Cmd.termsQ, h0, h2, hq]
  · simp only [am, amo, amc, Nat.reduceAdd, Nat.reduceEqDiff, encs_length, List.length_map, decide_true, decide_false, Tree.rec_, Nd.rec_, Word.rec_, nd_len, nd_one, Int.reduceEq, Int.reduceLT, Int.reduceLE, Nat.reduceLT, Int.reduceToNat, Nat.reduceMul, encT_length, cfl, cfo, cfv, List.length_map, penc_tk]
    refine (same_zero c.right σ hr).mono ?_
    rintro v σ ⟨rfl, rfl⟩
    simp only [am, amo, amc, Nat.reduceAdd, Nat.reduceEqDiff, encs_length, List.length_map, decide_true, decide_false, Tree.rec_, Nd.rec_, Word.rec_, nd_len, nd_one, Int.reduceEq, Int.reduceLT, Int.reduceLE, Nat.reduceLT, Int.reduceToNat, Nat.reduceMul, encT_length, cfl, cfo, cfv, List.length_map, penc_tk]
    refine retK_intro rfl (Store.sub_refl _) ⟨?_, rfl⟩
    simp [V.erase, eraseL, Cmd.termsQ, h0, h2, hq]
theorem cright_calls (c : Cmd) {σ : Store} (hg : σ.box 0 = some formCells) (hn : c.names.length + 1 ≤ big) (hp : c.pairs.length + 1 ≤ big) (hl : c.left.wt ≤ big) (hr : c.right.wt ≤ big) : PCalls prog 11 [.agg c.enc] σ fun v σ' => v = .bool c.rightQ ∧ σ' = σ := by
  have h1 := fun (σ : Store) (hg : σ.box 0 = some formCells) => nameQ_calls c hg
  have h2 := fun (σ : Store) (hg : σ.box 0 = some formCells) => namesQ_calls c hg hn
  have h3 := fun (σ : Store) (hg : σ.box 0 = some formCells) => pairsQ_calls c hg hp
  have h4 := fun (σ : Store) (hg : σ.box 0 = some formCells) => termsQ_calls c hg hl hr
  refine fn11.calls ?_
  simp only [slots, ac11, am, amo, amc, ams, Nat.reduceAdd, Nat.reduceEqDiff, decide_true, decide_false, Tree.rec_, Nd.rec_, Word.rec_, nd_len, nd_one, Int.reduceEq, Int.reduceLT, Int.reduceLE, Nat.reduceLT, Int.reduceToNat, Nat.reduceMul, encT_length, cfl, cfo, cfv, List.length_map, penc_tk]
  by_cases k1 : c.op < 0
  · simp only [am, amo, amc, Nat.reduceAdd, Nat.reduceEqDiff, encs_length, List.length_map, decide_true, decide_false, Tree.rec_, Nd.rec_, Word.rec_, nd_len, nd_one, Int.reduceEq, Int.reduceLT, Int.reduceLE, Nat.reduceLT, Int.reduceToNat, Nat.reduceMul, encT_length, cfl, cfo, cfv, List.length_map, penc_tk, decide_eq_true k1]
    refine retK_intro rfl (Store.sub_refl _) ⟨?_, rfl⟩
    simp [V.erase, eraseL, Cmd.rightQ, show ¬ (0 ≤ c.op ∧ c.op ≤ 15) by omega]
  simp only [am, amo, amc, Nat.reduceAdd, Nat.reduceEqDiff, encs_length, List.length_map, decide_true, decide_false, Tree.rec_, Nd.rec_, Word.rec_, nd_len, nd_one, Int.reduceEq, Int.reduceLT, Int.reduceLE, Nat.reduceLT, Int.reduceToNat, Nat.reduceMul, encT_length, cfl, cfo, cfv, List.length_map, penc_tk, decide_eq_false k1]
  by_cases k2 : 15 < c.op
  · simp only [am, amo, amc, Nat.reduceAdd, Nat.reduceEqDiff, encs_length, List.length_map, decide_true, decide_false, Tree.rec_, Nd.rec_, Word.rec_, nd_len, nd_one, Int.reduceEq, Int.reduceLT, Int.reduceLE, Nat.reduceLT, Int.reduceToNat, Nat.reduceMul, encT_length, cfl, cfo, cfv, List.length_map, penc_tk, decide_eq_true k2]
    refine retK_intro rfl (Store.sub_refl _) ⟨?_, rfl⟩
    simp [V.erase, eraseL, Cmd.rightQ, show ¬ (0 ≤ c.op ∧ c.op ≤ 15) by omega]
  have k3 : 0 ≤ c.op ∧ c.op ≤ 15 := by omega
  simp only [am, amo, amc, Nat.reduceAdd, Nat.reduceEqDiff, encs_length, List.length_map, decide_true, decide_false, Tree.rec_, Nd.rec_, Word.rec_, nd_len, nd_one, Int.reduceEq, Int.reduceLT, Int.reduceLE, Nat.reduceLT, Int.reduceToNat, Nat.reduceMul, encT_length, cfl, cfo, cfv, List.length_map, penc_tk, decide_eq_false k2]
  refine (h1 σ hg).mono ?_
  rintro v σ ⟨rfl, rfl⟩
  cases q1 : c.nameQ
  · simp only [am, amo, amc, Nat.reduceAdd, Nat.reduceEqDiff, encs_length, List.length_map, decide_true, decide_false, Tree.rec_, Nd.rec_, Word.rec_, nd_len, nd_one, Int.reduceEq, Int.reduceLT, Int.reduceLE, Nat.reduceLT, Int.reduceToNat, Nat.reduceMul, encT_length, cfl, cfo, cfv, List.length_map, penc_tk]
    refine retK_intro rfl (Store.sub_refl _) ⟨?_, rfl⟩
    simp [V.erase, eraseL, Cmd.rightQ, q1]
  simp only [am, amo, amc, Nat.reduceAdd, Nat.reduceEqDiff, encs_length, List.length_map, decide_true, decide_false, Tree.rec_, Nd.rec_, Word.rec_, nd_len, nd_one, Int.reduceEq, Int.reduceLT, Int.reduceLE, Nat.reduceLT, Int.reduceToNat, Nat.reduceMul, encT_length, cfl, cfo, cfv, List.length_map, penc_tk]
  refine (h2 σ hg).mono ?_
  rintro v σ ⟨rfl, rfl⟩
  cases q2 : c.namesQ
  · simp only [am, amo, amc, Nat.reduceAdd, Nat.reduceEqDiff, encs_length, List.length_map, decide_true, decide_false, Tree.rec_, Nd.rec_, Word.rec_, nd_len, nd_one, Int.reduceEq, Int.reduceLT, Int.reduceLE, Nat.reduceLT, Int.reduceToNat, Nat.reduceMul, encT_length, cfl, cfo, cfv, List.length_map, penc_tk]
    refine retK_intro rfl (Store.sub_refl _) ⟨?_, rfl⟩
    simp [V.erase, eraseL, Cmd.rightQ, q1, q2]
  simp only [am, amo, amc, Nat.reduceAdd, Nat.reduceEqDiff, encs_length, List.length_map, decide_true, decide_false, Tree.rec_, Nd.rec_, Word.rec_, nd_len, nd_one, Int.reduceEq, Int.reduceLT, Int.reduceLE, Nat.reduceLT, Int.reduceToNat, Nat.reduceMul, encT_length, cfl, cfo, cfv, List.length_map, penc_tk]
  refine (h3 σ hg).mono ?_
  rintro v σ ⟨rfl, rfl⟩
  cases q3 : c.pairsQ
  · simp only [am, amo, amc, Nat.reduceAdd, Nat.reduceEqDiff, encs_length, List.length_map, decide_true, decide_false, Tree.rec_, Nd.rec_, Word.rec_, nd_len, nd_one, Int.reduceEq, Int.reduceLT, Int.reduceLE, Nat.reduceLT, Int.reduceToNat, Nat.reduceMul, encT_length, cfl, cfo, cfv, List.length_map, penc_tk]
    refine retK_intro rfl (Store.sub_refl _) ⟨?_, rfl⟩
    simp [V.erase, eraseL, Cmd.rightQ, q1, q2, q3]
  simp only [am, amo, amc, Nat.reduceAdd, Nat.reduceEqDiff, encs_length, List.length_map, decide_true, decide_false, Tree.rec_, Nd.rec_, Word.rec_, nd_len, nd_one, Int.reduceEq, Int.reduceLT, Int.reduceLE, Nat.reduceLT, Int.reduceToNat, Nat.reduceMul, encT_length, cfl, cfo, cfv, List.length_map, penc_tk]
  refine (h4 σ hg).mono ?_
  rintro v σ ⟨rfl, rfl⟩
  simp only [am, amo, amc, Nat.reduceAdd, Nat.reduceEqDiff, encs_length, List.length_map, decide_true, decide_false, Tree.rec_, Nd.rec_, Word.rec_, nd_len, nd_one, Int.reduceEq, Int.reduceLT, Int.reduceLE, Nat.reduceLT, Int.reduceToNat, Nat.reduceMul, encT_length, cfl, cfo, cfv, List.length_map, penc_tk]
  refine retK_intro rfl (Store.sub_refl _) ⟨?_, rfl⟩
  simp [V.erase, eraseL, Cmd.rightQ, q1, q2, q3, k3]
end Go.Proofs.Tryd

namespace Go.Proofs.Tryd
open Go.Am
set_option maxRecDepth 4000
set_option maxHeartbeats 4000000
def ac44 : AC := .seq (.reg [⟨(some 2), .boxO 1 (.s 0), none⟩, ⟨(some 3), .boxO 1 (.s 1), none⟩, ⟨(some 4), .mv (.c (.bool false)), none⟩])
 (.seq (.reg [xo 5 2, xL 6 5, xo 7 3, xL 8 7, xb .eql 9 6 8, xm 10 9, xg 10 (xo 11 2), xg 10 (xL 12 11), ⟨(some 13), .mkfn (.func 83) [] [(.s 2), (.s 3)], (some (10, true))⟩, xg 10 (xc 82 14 [.c (.int .i64 0), .s 12, .s 13]), xg 10 (xB .lss 15 14 0), ⟨(some 16), .pick (.s 10) (.s 15) (.c (.bool false)), none⟩, xm 4 16])
 (.ret))
theorem fn44 : IsFn prog 44 ac44 [.tmp 4] 17 := ⟨f44, ⟨[2, 3], []⟩, func44, by kernel_rfl, by kernel_rfl, by kernel_rfl, by kernel_rfl⟩
def ac82 : AC := .seq (.reg [xi 6 0])
 (.seq (.seq (.reg [xm 8 0, xm 7 8])
 (.block 0 (.loop (.seq (.seq (.reg [xm 9 7, xm 10 1, xb .lss 11 9 10])
 (.cond (.s 11) (.skip)
 (.exit 0)))
 (.seq (.block 1 (.seq (.reg [xm 14 2, xm 15 7, ⟨(some 16), .callv (.s 14) [(.s 15)], none⟩])
 (.cond (.s 16) (.seq (.reg [xm 17 7, xm 6 17])
 (.ret))
 (.skip))))
 (.reg [xm 12 7, xB .add 13 12 1, xm 7 13]))))))
 (.seq (.reg [xi 6 (-1)])
 (.ret)))
theorem fn82 : IsFn prog 82 ac82 [.tmp 6] 18 := ⟨f82, ⟨[], []⟩, func82, by kernel_rfl, by kernel_rfl, by kernel_rfl, by kernel_rfl⟩
def ac83 : AC := .seq (.reg [⟨(some 4), .mv (.c (.bool false)), none⟩])
 (.seq (.draw [(xo 5 1, []), (xm 6 0, []), (xA 1 7 5 6, []), (xo 8 7, []), (xo 9 2, []), (xm 10 0, []), (xA 1 11 9 10, []), (xo 12 11, []), (⟨(some 13), .binS .neq (.s 8) (.s 12), none⟩, []), (xm 4 13, [])])
 (.ret))
theorem fn83 : IsFn prog 83 ac83 [.tmp 4] 14 := ⟨f83, ⟨[], []⟩, func83, by kernel_rfl, by kernel_rfl, by kernel_rfl, by kernel_rfl⟩
def invPl (n : Nat) (g : FuncId) (cap : List V) (σ : Store) (i : Nat) : St :=
  ⟨[.any, .int .i64 (n : Nat), .fn (.func g) [] cap] ++ List.replicate 4 .any ++ [.int .i64 (i : Nat)] ++ List.replicate 10 .any, [], σ⟩
theorem nplace_calls {n : Nat} {g : FuncId} {cap : List V} {f : Nat → Bool} {σ : Store} (hnol : nolL cap = true) (hn : n ≤ big)
    (h : ∀ i, i < n → PCalls prog g (.int .i64 (i : Nat) :: cap) σ fun v σ' => v = .bool (f i) ∧ σ' = σ) :
    PCalls prog 82 [.int .i64 0, .int .i64 (n : Nat), .fn (.func g) [] cap] σ fun v σ' => v = .int .i64 (firstF f n 0) ∧ σ' = σ := by
  simp only [big] at hn
  generalize hR : firstF f n 0 = R
  refine fn82.calls ?_
  simp only [slots, ac82, am, amo, amc, ams, Nat.reduceAdd, Nat.reduceEqDiff, decide_true, decide_false, Tree.rec_, Nd.rec_, Word.rec_, nd_len, nd_one, Int.reduceEq, Int.reduceLT, Int.reduceLE, Nat.reduceLT, Int.reduceToNat, Nat.reduceMul, encT_length, cfl, cfo, cfv, List.length_map, penc_tk]
  refine vc_loop (fun p : { p : Nat × Nat // firstF f p.1 p.2 = R ∧ p.2 + p.1 = n } => invPl n g cap σ p.1.2) (fun p => p.1.1) ?_ ?_
  · refine Upd.enter ⟨(n, 0), hR, by simp⟩ ?_ LLLe.rfl OLe.rfl
    simp [invPl, List.replicate, am]
  rintro ⟨⟨m, i⟩, hR, hs⟩
  simp only at hR hs
  simp only [invPl, List.replicate, am]
  by_cases hlt : i < n
  · obtain ⟨m, rfl⟩ : ∃ k, m = k + 1 := ⟨m - 1, by omega⟩
    simp only [firstF] at hR
    simp only [am, amo, amc, Nat.reduceAdd, Nat.reduceEqDiff, encs_length, List.length_map, decide_true, decide_false, Tree.rec_, Nd.rec_, Word.rec_, nd_len, nd_one, Int.reduceEq, Int.reduceLT, Int.reduceLE, Nat.reduceLT, Int.reduceToNat, Nat.reduceMul, encT_length, cfl, cfo, cfv, List.length_map, penc_tk, decide_eq_true (show (i : Int) < n by omega)]
    refine ⟨hnol, ?_⟩
    refine (h i hlt).mono ?_
    rintro v σ ⟨rfl, rfl⟩
    cases hf : f i
    · rw [if_neg (by simp [hf])] at hR
      simp only [am, amo, amc, Nat.reduceAdd, Nat.reduceEqDiff, encs_length, List.length_map, decide_true, decide_false, Tree.rec_, Nd.rec_, Word.rec_, nd_len, nd_one, Int.reduceEq, Int.reduceLT, Int.reduceLE, Nat.reduceLT, Int.reduceToNat, Nat.reduceMul, encT_length, cfl, cfo, cfv, List.length_map, penc_tk]
      rw [wrap_i64 (by omega) (by omega)]
      exact Upd.again (I := fun p : { p : Nat × Nat // firstF f p.1 p.2 = R ∧ p.2 + p.1 = n } => invPl n g cap σ p.1.2) (μ := fun p => p.1.1) ⟨(m, i + 1), hR, by simp only; omega⟩ (by simp) (by simp [invPl, am, List.replicate]) LLLe.rfl OLe.rfl
    · rw [if_pos hf] at hR
      simp only [am, amo, amc, Nat.reduceAdd, Nat.reduceEqDiff, encs_length, List.length_map, decide_true, decide_false, Tree.rec_, Nd.rec_, Word.rec_, nd_len, nd_one, Int.reduceEq, Int.reduceLT, Int.reduceLE, Nat.reduceLT, Int.reduceToNat, Nat.reduceMul, encT_length, cfl, cfo, cfv, List.length_map, penc_tk]
      refine retK_intro rfl (Store.sub_refl _) ⟨?_, rfl⟩
      simp [V.erase, eraseL, hR]
  · obtain rfl : m = 0 := by omega
    simp only [firstF] at hR
    simp only [am, amo, amc, Nat.reduceAdd, Nat.reduceEqDiff, encs_length, List.length_map, decide_true, decide_false, Tree.rec_, Nd.rec_, Word.rec_, nd_len, nd_one, Int.reduceEq, Int.reduceLT, Int.reduceLE, Nat.reduceLT, Int.reduceToNat, Nat.reduceMul, encT_length, cfl, cfo, cfv, List.length_map, penc_tk, decide_eq_false (show ¬ (i : Int) < n by omega)]
    refine retK_intro rfl (Store.sub_refl _) ⟨?_, rfl⟩
    simp [V.erase, eraseL, hR]
theorem nsame1_calls {a b : List (List UInt8)} {i r q : Nat} {σ : Store} (hi : i < a.length) (hab : a.length = b.length) (hr : σ.box r = some [.sl .no 1 (encT a)]) (hq : σ.box q = some [.sl .no 1 (encT b)]) :
    PCalls prog 83 [.int .i64 (i : Nat), .ptr (.out r) 0, .ptr (.out q) 0] σ fun v σ' => v = .bool (decide (a.getD i [] ≠ b.getD i [])) ∧ σ' = σ := by
  refine fn83.calls ?_
  simp only [slots, ac83, am, amo, amc, ams, Nat.reduceAdd, Nat.reduceEqDiff, decide_true, decide_false, Tree.rec_, Nd.rec_, Word.rec_, nd_len, nd_one, Int.reduceEq, Int.reduceLT, Int.reduceLE, Nat.reduceLT, Int.reduceToNat, Nat.reduceMul, encT_length, cfl, cfo, cfv, List.length_map, penc_tk]
  simp only [am, amo, amc, Nat.reduceAdd, Nat.reduceEqDiff, encs_length, List.length_map, decide_true, decide_false, Tree.rec_, Nd.rec_, Word.rec_, nd_len, nd_one, Int.reduceEq, Int.reduceLT, Int.reduceLE, Nat.reduceLT, Int.reduceToNat, Nat.reduceMul, encT_length, cfl, cfo, cfv, List.length_map, penc_tk, hr, hq]
  refine idxL_intro (by omega) (encT_at (List.getElem?_eq_getElem hi)) ?_
  simp only [am, amo, amc, Nat.reduceAdd, Nat.reduceEqDiff, encs_length, List.length_map, decide_true, decide_false, Tree.rec_, Nd.rec_, Word.rec_, nd_len, nd_one, Int.reduceEq, Int.reduceLT, Int.reduceLE, Nat.reduceLT, Int.reduceToNat, Nat.reduceMul, encT_length, cfl, cfo, cfv, List.length_map, penc_tk, hr, hq]
  refine idxL_intro (by omega) (encT_at (List.getElem?_eq_getElem (show i < b.length by omega))) ?_
  simp only [am, amo, amc, Nat.reduceAdd, Nat.reduceEqDiff, encs_length, List.length_map, decide_true, decide_false, Tree.rec_, Nd.rec_, Word.rec_, nd_len, nd_one, Int.reduceEq, Int.reduceLT, Int.reduceLE, Nat.reduceLT, Int.reduceToNat, Nat.reduceMul, encT_length, cfl, cfo, cfv, List.length_map, penc_tk]
  have e1 : a.getD i [] = a[i] := by simp [hi]
  have e2 : b.getD i [] = b[i] := by simp [show i < b.length by omega]
  rw [e1, e2]
  refine retK_intro rfl (Store.sub_refl _) ⟨?_, rfl⟩
  simp [V.erase, eraseL]
theorem nsame_calls (a b : List (List UInt8)) (σ : Store) (ha : a.length ≤ big) : PCalls prog 44 [.sl .no 1 (encT a), .sl .no 1 (encT b)] σ fun v σ' => v = .bool (decide (a = b)) ∧ σ' = σ := by
  refine fn44.calls ?_
  simp only [slots, ac44, am, amo, amc, ams, Nat.reduceAdd, Nat.reduceEqDiff, decide_true, decide_false, Tree.rec_, Nd.rec_, Word.rec_, nd_len, nd_one, Int.reduceEq, Int.reduceLT, Int.reduceLE, Nat.reduceLT, Int.reduceToNat, Nat.reduceMul, encT_length, cfl, cfo, cfv, List.length_map, penc_tk]
  refine kO_intro fun r hr => ?_
  simp only [am, amo, amc, Nat.reduceAdd, Nat.reduceEqDiff, encs_length, List.length_map, decide_true, decide_false, Tree.rec_, Nd.rec_, Word.rec_, nd_len, nd_one, Int.reduceEq, Int.reduceLT, Int.reduceLE, Nat.reduceLT, Int.reduceToNat, Nat.reduceMul, encT_length, cfl, cfo, cfv, List.length_map, penc_tk]
  refine kO_intro fun q hq => ?_
  have hrq : r ≠ q := by rintro rfl; rw [Store.set_same] at hq; simp at hq
  have b1 : ((σ.set r [.sl .no 1 (encT a)]).set q [.sl .no 1 (encT b)]).box r = some [.sl .no 1 (encT a)] := by rw [Store.set_other _ _ hrq, Store.set_same]
  have b2 : ((σ.set r [.sl .no 1 (encT a)]).set q [.sl .no 1 (encT b)]).box q = some [.sl .no 1 (encT b)] := Store.set_same _ _ _
  simp only [am, amo, amc, Nat.reduceAdd, Nat.reduceEqDiff, encs_length, List.length_map, decide_true, decide_false, Tree.rec_, Nd.rec_, Word.rec_, nd_len, nd_one, Int.reduceEq, Int.reduceLT, Int.reduceLE, Nat.reduceLT, Int.reduceToNat, Nat.reduceMul, encT_length, cfl, cfo, cfv, List.length_map, penc_tk, b1, b2]
  have hsub : σ.sub ((σ.set r [.sl .no 1 (encT a)]).set q [.sl .no 1 (encT b)]) := by
    have h1 := sub_set (cs := [.sl .no 1 (encT a)]) hr
    have h2 := sub_set (cs := [.sl .no 1 (encT b)]) hq
    exact ⟨fun x cs h => h2.1 x cs (h1.1 x cs h), fun t n h => h2.2 t n (h1.2 t n h)⟩
  by_cases hl : a.length = b.length
  · simp only [am, amo, amc, Nat.reduceAdd, Nat.reduceEqDiff, encs_length, List.length_map, decide_true, decide_false, Tree.rec_, Nd.rec_, Word.rec_, nd_len, nd_one, Int.reduceEq, Int.reduceLT, Int.reduceLE, Nat.reduceLT, Int.reduceToNat, Nat.reduceMul, encT_length, cfl, cfo, cfv, List.length_map, penc_tk, decide_eq_true (show ((a.length : Nat) : Int) = (b.length : Nat) by omega), b1, b2]
    refine (nplace_calls (n := a.length) (f := fun i => decide (a.getD i [] ≠ b.getD i [])) rfl ha fun i hi => nsame1_calls hi hl b1 b2).mono ?_
    rintro v _ ⟨rfl, rfl⟩
    simp only [am, amo, amc, Nat.reduceAdd, Nat.reduceEqDiff, encs_length, List.length_map, decide_true, decide_false, Tree.rec_, Nd.rec_, Word.rec_, nd_len, nd_one, Int.reduceEq, Int.reduceLT, Int.reduceLE, Nat.reduceLT, Int.reduceToNat, Nat.reduceMul, encT_length, cfl, cfo, cfv, List.length_map, penc_tk, firstF_ne hl]
    refine retK_intro rfl hsub ⟨?_, rfl⟩
    simp [V.erase]
  · simp only [am, amo, amc, Nat.reduceAdd, Nat.reduceEqDiff, encs_length, List.length_map, decide_true, decide_false, Tree.rec_, Nd.rec_, Word.rec_, nd_len, nd_one, Int.reduceEq, Int.reduceLT, Int.reduceLE, Nat.reduceLT, Int.reduceToNat, Nat.reduceMul, encT_length, cfl, cfo, cfv, List.length_map, penc_tk, decide_eq_false (show ¬ ((a.length : Nat) : Int) = (b.length : Nat) by omega)]
    refine retK_intro rfl hsub ⟨?_, rfl⟩
    have : ¬ a = b := fun e => hl (by rw [e])
    simp [V.erase, this]
end Go.Proofs.Tryd

namespace Go.Proofs.Tryd
open Go.Am
set_option maxRecDepth 4000
set_option maxHeartbeats 4000000
def ac15 : AC := .seq (.reg [⟨(some 2), .box 17 (.s 0), none⟩, ⟨(some 3), .box 17 (.s 1), none⟩, ⟨(some 4), .mv (.c (.bool false)), none⟩])
 (.seq (.draw [(xf 0 5 2, []), (xo 6 5, []), (xf 0 7 3, []), (xo 8 7, []), (xb .eql 9 6 8, []), (xm 10 9, []), (xg 10 (xf 2 11 2), []), (xg 10 (xf 0 12 11), []), (xg 10 (xo 13 12), []), (xg 10 (xf 2 14 3), []), (xg 10 (xf 0 15 14), []), (xg 10 (xo 16 15), []), (⟨(some 17), .binS .eql (.s 13) (.s 16), (some (10, true))⟩, []), (⟨(some 18), .pick (.s 10) (.s 17) (.c (.bool false)), none⟩, []), (xm 19 18, []), (xg 19 (xf 4 20 2), []), (xg 19 (xo 21 20), []), (xg 19 (xc 35 22 [.s 21]), []), (xg 19 (xf 4 23 3), []), (xg 19 (xo 24 23), [0]), (xg 19 (xc 35 25 [.s 24]), []), (xg 19 (xc 44 26 [.s 22, .s 25]), []), (⟨(some 27), .pick (.s 19) (.s 26) (.c (.bool false)), none⟩, []), (xm 28 27, []), (xg 28 (xf 5 29 2), []), (xg 28 (xo 30 29), []), (xg 28 (xf 5 31 3), []), (xg 28 (xo 32 31), []), (xg 28 (xc 45 33 [.s 30, .s 32]), []), (⟨(some 34), .pick (.s 28) (.s 33) (.c (.bool false)), none⟩, []), (xm 35 34, []), (xg 35 (xf 7 36 2), []), (xg 35 (xl 5 37 36), []), (xg 35 (xf 7 38 3), []), (xg 35 (xl 5 39 38), []), (xg 35 (xc 46 40 [.s 37, .s 39]), []), (⟨(some 41), .pick (.s 35) (.s 40) (.c (.bool false)), none⟩, []), (xm 42 41, []), (xg 42 (xf 12 43 2), []), (xg 42 (xl 5 44 43), []), (xg 42 (xf 12 45 3), []), (xg 42 (xl 5 46 45), []), (xg 42 (xc 46 47 [.s 44, .s 46]), []), (⟨(some 48), .pick (.s 42) (.s 47) (.c (.bool false)), none⟩, []), (xm 4 48, [])])
 (.ret))
theorem fn15 : IsFn prog 15 ac15 [.tmp 4] 49 := ⟨f15, ⟨[], []⟩, func15, by kernel_rfl, by kernel_rfl, by kernel_rfl, by kernel_rfl⟩
def ac45 : AC := .seq (.reg [⟨(some 4), .mv (.c (.bool false)), none⟩])
 (.seq (.seq (.reg [xm 6 0, xL 7 6, xm 8 1, xL 9 8, xb .neq 10 7 9])
 (.cond (.s 10) (.seq (.reg [⟨(some 4), .mv (.c (.bool false)), none⟩])
 (.ret))
 (.skip)))
 (.seq (.seq (.reg [xm 11 0, xL 12 11, xi 13 0])
 (.block 0 (.loop (.seq (.reg [xb .lss 14 13 12])
 (.seq (.cond (.s 14) (.skip)
 (.exit 0))
 (.seq (.block 1 (.seq (.reg [xm 15 13, xm 5 15])
 (.seq (.draw [(xm 16 0, []), (xm 17 5, []), (xA 4 18 16 17, []), (⟨(some 19), .idxP 2 2 (.s 18) (.c (.int .i64 0)), none⟩, []), (xf 0 20 19, []), (xo 21 20, []), (xm 22 1, []), (xm 23 5, []), (xA 4 24 22 23, []), (⟨(some 25), .idxP 2 2 (.s 24) (.c (.int .i64 0)), none⟩, []), (xf 0 26 25, []), (xo 27 26, []), (⟨(some 28), .binS .neq (.s 21) (.s 27), none⟩, []), (xm 29 28, []), (xh 29 (xm 30 0), []), (xh 29 (xm 31 5), []), (xh 29 (xA 4 32 30 31), []), (⟨(some 33), .idxP 2 2 (.s 32) (.c (.int .i64 1)), (some (29, false))⟩, []), (xh 29 (xf 0 34 33), []), (xh 29 (xo 35 34), []), (xh 29 (xm 36 1), []), (xh 29 (xm 37 5), []), (xh 29 (xA 4 38 36 37), []), (⟨(some 39), .idxP 2 2 (.s 38) (.c (.int .i64 1)), (some (29, false))⟩, []), (xh 29 (xf 0 40 39), []), (xh 29 (xo 41 40), []), (⟨(some 42), .binS .neq (.s 35) (.s 41), (some (29, false))⟩, []), (⟨(some 43), .pick (.s 29) (.c (.bool true)) (.s 42), none⟩, [])])
 (.cond (.s 43) (.seq (.reg [⟨(some 4), .mv (.c (.bool false)), none⟩])
 (.ret))
 (.skip)))))
 (.reg [xB .add 44 13 1, xm 13 44])))))))
 (.seq (.reg [⟨(some 4), .mv (.c (.bool true)), none⟩])
 (.ret))))
theorem fn45 : IsFn prog 45 ac45 [.tmp 4] 45 := ⟨f45, ⟨[], []⟩, func45, by kernel_rfl, by kernel_rfl, by kernel_rfl, by kernel_rfl⟩
def invSp (a b : List (Word × Word)) (σ : Store) (i : Nat) : St :=
  ⟨[.sl .no 4 (a.map penc), .sl .no 4 (b.map penc)] ++ List.replicate 10 .any ++ [.int .i64 a.length, .int .i64 (i : Nat)] ++ List.replicate 31 .any, [], σ⟩
theorem samePQ_calls (a b : List (Word × Word)) (σ : Store) (ha : a.length + 1 ≤ big) : PCalls prog 45 [.sl .no 4 (a.map penc), .sl .no 4 (b.map penc)] σ fun v σ' => v = .bool (samePQ a b) ∧ σ' = σ := by
  simp only [big] at ha
  refine fn45.calls ?_
  simp only [slots, ac45, am, amo, amc, ams, Nat.reduceAdd, Nat.reduceEqDiff, decide_true, decide_false, Tree.rec_, Nd.rec_, Word.rec_, nd_len, nd_one, Int.reduceEq, Int.reduceLT, Int.reduceLE, Nat.reduceLT, Int.reduceToNat, Nat.reduceMul, encT_length, cfl, cfo, cfv, List.length_map, penc_tk]
  by_cases hl : a.length = b.length
  case' neg =>
    have : samePQ a b = false := by cases hs : samePQ a b with
      | false => rfl
      | true => exact absurd (samePQ_len hs) hl
    simp only [am, amo, amc, Nat.reduceAdd, Nat.reduceEqDiff, encs_length, List.length_map, decide_true, decide_false, Tree.rec_, Nd.rec_, Word.rec_, nd_len, nd_one, Int.reduceEq, Int.reduceLT, Int.reduceLE, Nat.reduceLT, Int.reduceToNat, Nat.reduceMul, encT_length, cfl, cfo, cfv, List.length_map, penc_tk, decide_eq_false (show ¬ ((a.length : Nat) : Int) = (b.length : Nat) by omega)]
    refine retK_intro rfl (Store.sub_refl _) ⟨?_, rfl⟩
    simp [V.erase, eraseL, this]
  simp only [am, amo, amc, Nat.reduceAdd, Nat.reduceEqDiff, encs_length, List.length_map, decide_true, decide_false, Tree.rec_, Nd.rec_, Word.rec_, nd_len, nd_one, Int.reduceEq, Int.reduceLT, Int.reduceLE, Nat.reduceLT, Int.reduceToNat, Nat.reduceMul, encT_length, cfl, cfo, cfv, List.length_map, penc_tk, decide_eq_true (show ((a.length : Nat) : Int) = (b.length : Nat) by omega)]
  refine vc_loop (fun p : { i : Nat // i ≤ a.length ∧ samePQ (a.take i) (b.take i) = true } => invSp a b σ p.1) (fun p => a.length - p.1) ?_ ?_
  · refine Upd.enter ⟨0, by simp, by simp [samePQ]⟩ ?_ LLLe.rfl OLe.rfl
    simp [invSp, List.replicate, am]
  rintro ⟨i, hi, hs⟩
  simp only [invSp, List.replicate, am]
  by_cases hlt : i < a.length
  · obtain ⟨hat, hno⟩ := samePQ_at hlt (by omega) hl hs
    have hltb : i < b.length := by omega
    simp only [am, amo, amc, Nat.reduceAdd, Nat.reduceEqDiff, encs_length, List.length_map, decide_true, decide_false, Tree.rec_, Nd.rec_, Word.rec_, nd_len, nd_one, Int.reduceEq, Int.reduceLT, Int.reduceLE, Nat.reduceLT, Int.reduceToNat, Nat.reduceMul, encT_length, cfl, cfo, cfv, List.length_map, penc_tk, decide_eq_true (show (i : Int) < a.length by omega)]
    refine idxL_intro (by omega) (pencs_at (List.getElem?_eq_getElem hlt)) ?_
    simp only [am, amo, amc, Nat.reduceAdd, Nat.reduceEqDiff, encs_length, List.length_map, decide_true, decide_false, Tree.rec_, Nd.rec_, Word.rec_, nd_len, nd_one, Int.reduceEq, Int.reduceLT, Int.reduceLE, Nat.reduceLT, Int.reduceToNat, Nat.reduceMul, encT_length, cfl, cfo, cfv, List.length_map, penc_tk]
    refine idxPL_elt (by omega) (by omega) ?_
    simp only [am, amo, amc, Nat.reduceAdd, Nat.reduceEqDiff, encs_length, List.length_map, decide_true, decide_false, Tree.rec_, Nd.rec_, Word.rec_, nd_len, nd_one, Int.reduceEq, Int.reduceLT, Int.reduceLE, Nat.reduceLT, Int.reduceToNat, Nat.reduceMul, encT_length, cfl, cfo, cfv, List.length_map, penc_tk, penc]
    refine idxL_intro (by omega) (pencs_at (List.getElem?_eq_getElem hltb)) ?_
    simp only [am, amo, amc, Nat.reduceAdd, Nat.reduceEqDiff, encs_length, List.length_map, decide_true, decide_false, Tree.rec_, Nd.rec_, Word.rec_, nd_len, nd_one, Int.reduceEq, Int.reduceLT, Int.reduceLE, Nat.reduceLT, Int.reduceToNat, Nat.reduceMul, encT_length, cfl, cfo, cfv, List.length_map, penc_tk]
    refine idxPL_elt (by omega) (by omega) ?_
    simp only [am, amo, amc, Nat.reduceAdd, Nat.reduceEqDiff, encs_length, List.length_map, decide_true, decide_false, Tree.rec_, Nd.rec_, Word.rec_, nd_len, nd_one, Int.reduceEq, Int.reduceLT, Int.reduceLE, Nat.reduceLT, Int.reduceToNat, Nat.reduceMul, encT_length, cfl, cfo, cfv, List.length_map, penc_tk, penc]
    by_cases e1 : a[i].1.text = b[i].1.text
    · simp only [am, amo, amc, Nat.reduceAdd, Nat.reduceEqDiff, encs_length, List.length_map, decide_true, decide_false, Tree.rec_, Nd.rec_, Word.rec_, nd_len, nd_one, Int.reduceEq, Int.reduceLT, Int.reduceLE, Nat.reduceLT, Int.reduceToNat, Nat.reduceMul, encT_length, cfl, cfo, cfv, List.length_map, penc_tk, e1]
      refine idxL_intro (by omega) (pencs_at (List.getElem?_eq_getElem hlt)) ?_
      simp only [am, amo, amc, Nat.reduceAdd, Nat.reduceEqDiff, encs_length, List.length_map, decide_true, decide_false, Tree.rec_, Nd.rec_, Word.rec_, nd_len, nd_one, Int.reduceEq, Int.reduceLT, Int.reduceLE, Nat.reduceLT, Int.reduceToNat, Nat.reduceMul, encT_length, cfl, cfo, cfv, List.length_map, penc_tk]
      refine idxPL_elt (by omega) (by omega) ?_
      simp only [am, amo, amc, Nat.reduceAdd, Nat.reduceEqDiff, encs_length, List.length_map, decide_true, decide_false, Tree.rec_, Nd.rec_, Word.rec_, nd_len, nd_one, Int.reduceEq, Int.reduceLT, Int.reduceLE, Nat.reduceLT, Int.reduceToNat, Nat.reduceMul, encT_length, cfl, cfo, cfv, List.length_map, penc_tk, penc]
      refine idxL_intro (by omega) (pencs_at (List.getElem?_eq_getElem hltb)) ?_
      simp only [am, amo, amc, Nat.reduceAdd, Nat.reduceEqDiff, encs_length, List.length_map, decide_true, decide_false, Tree.rec_, Nd.rec_, Word.rec_, nd_len, nd_one, Int.reduceEq, Int.reduceLT, Int.reduceLE, Nat.reduceLT, Int.reduceToNat, Nat.reduceMul, encT_length, cfl, cfo, cfv, List.length_map, penc_tk]
      refine idxPL_elt (by omega) (by omega) ?_
      simp only [am, amo, amc, Nat.reduceAdd, Nat.reduceEqDiff, encs_length, List.length_map, decide_true, decide_false, Tree.rec_, Nd.rec_, Word.rec_, nd_len, nd_one, Int.reduceEq, Int.reduceLT, Int.reduceLE, Nat.reduceLT, Int.reduceToNat, Nat.reduceMul, encT_length, cfl, cfo, cfv, List.length_map, penc_tk, penc]
      by_cases e2 : a[i].2.text = b[i].2.text
      · simp only [am, amo, amc, Nat.reduceAdd, Nat.reduceEqDiff, encs_length, List.length_map, decide_true, decide_false, Tree.rec_, Nd.rec_, Word.rec_, nd_len, nd_one, Int.reduceEq, Int.reduceLT, Int.reduceLE, Nat.reduceLT, Int.reduceToNat, Nat.reduceMul, encT_length, cfl, cfo, cfv, List.length_map, penc_tk, e2]
        rw [wrap_i64 (by omega) (by omega)]
        exact Upd.again (I := fun p : { i : Nat // i ≤ a.length ∧ samePQ (a.take i) (b.take i) = true } => invSp a b σ p.1) (μ := fun p => a.length - p.1) ⟨i + 1, hlt, by rw [hat]; simp [e1, e2]⟩ (by simp; omega) (by simp [invSp, am, List.replicate]) LLLe.rfl OLe.rfl
      · simp only [am, amo, amc, Nat.reduceAdd, Nat.reduceEqDiff, encs_length, List.length_map, decide_true, decide_false, Tree.rec_, Nd.rec_, Word.rec_, nd_len, nd_one, Int.reduceEq, Int.reduceLT, Int.reduceLE, Nat.reduceLT, Int.reduceToNat, Nat.reduceMul, encT_length, cfl, cfo, cfv, List.length_map, penc_tk, decide_eq_false e2]
        refine retK_intro rfl (Store.sub_refl _) ⟨?_, rfl⟩
        simp [V.erase, eraseL, hno (by simp [e2])]
    · simp only [am, amo, amc, Nat.reduceAdd, Nat.reduceEqDiff, encs_length, List.length_map, decide_true, decide_false, Tree.rec_, Nd.rec_, Word.rec_, nd_len, nd_one, Int.reduceEq, Int.reduceLT, Int.reduceLE, Nat.reduceLT, Int.reduceToNat, Nat.reduceMul, encT_length, cfl, cfo, cfv, List.length_map, penc_tk, decide_eq_false e1]
      refine retK_intro rfl (Store.sub_refl _) ⟨?_, rfl⟩
      simp [V.erase, eraseL, hno (by simp [e1])]
  · have : i = a.length := by omega
    subst this
    rw [List.take_length, hl, List.take_length] at hs
    simp only [am, amo, amc, Nat.reduceAdd, Nat.reduceEqDiff, encs_length, List.length_map, decide_true, decide_false, Tree.rec_, Nd.rec_, Word.rec_, nd_len, nd_one, Int.reduceEq, Int.reduceLT, Int.reduceLE, Nat.reduceLT, Int.reduceToNat, Nat.reduceMul, encT_length, cfl, cfo, cfv, List.length_map, penc_tk, decide_eq_false (show ¬ (a.length : Int) < a.length by omega)]
    refine retK_intro rfl (Store.sub_refl _) ⟨?_, rfl⟩
    simp [V.erase, eraseL, hs]
theorem csame_calls (a b : Cmd) (σ : Store) (h1 : a.names.length + 1 ≤ big) (h2 : b.names.length + 1 ≤ big) (h3 : a.pairs.length + 1 ≤ big) (h4 : a.left.wt ≤ big) (h5 : a.right.wt ≤ big) :
    PCalls prog 15 [.agg a.enc, .agg b.enc] σ fun v σ' => v = .bool (a.sameQ b) ∧ σ' = σ := by
  refine fn15.calls ?_
  simp only [slots, ac15, am, amo, amc, ams, Nat.reduceAdd, Nat.reduceEqDiff, decide_true, decide_false, Tree.rec_, Nd.rec_, Word.rec_, nd_len, nd_one, Int.reduceEq, Int.reduceLT, Int.reduceLE, Nat.reduceLT, Int.reduceToNat, Nat.reduceMul, encT_length, cfl, cfo, cfv, List.length_map, penc_tk]
  unfold Cmd.sameQ
  by_cases k1 : a.op = b.op
  case' neg =>
    simp only [am, amo, amc, Nat.reduceAdd, Nat.reduceEqDiff, encs_length, List.length_map, decide_true, decide_false, Tree.rec_, Nd.rec_, Word.rec_, nd_len, nd_one, Int.reduceEq, Int.reduceLT, Int.reduceLE, Nat.reduceLT, Int.reduceToNat, Nat.reduceMul, encT_length, cfl, cfo, cfv, List.length_map, penc_tk, decide_eq_false k1]
    refine retK_intro rfl (Store.sub_refl _) ⟨?_, rfl⟩
    simp [V.erase, eraseL]
  by_cases k2 : a.name.text = b.name.text
  case' neg =>
    simp only [am, amo, amc, Nat.reduceAdd, Nat.reduceEqDiff, encs_length, List.length_map, decide_true, decide_false, Tree.rec_, Nd.rec_, Word.rec_, nd_len, nd_one, Int.reduceEq, Int.reduceLT, Int.reduceLE, Nat.reduceLT, Int.reduceToNat, Nat.reduceMul, encT_length, cfl, cfo, cfv, List.length_map, penc_tk, k1, decide_eq_false k2]
    refine retK_intro rfl (Store.sub_refl _) ⟨?_, rfl⟩
    simp [V.erase, eraseL]
  simp only [am, amo, amc, Nat.reduceAdd, Nat.reduceEqDiff, encs_length, List.length_map, decide_true, decide_false, Tree.rec_, Nd.rec_, Word.rec_, nd_len, nd_one, Int.reduceEq, Int.reduceLT, Int.reduceLE, Nat.reduceLT, Int.reduceToNat, Nat.reduceMul, encT_length, cfl, cfo, cfv, List.length_map, penc_tk, k1, k2]
  refine CallD.intro (texts_calls a.names σ h1) ?_
  simp only [am, amo, amc, Nat.reduceAdd, Nat.reduceEqDiff, encs_length, List.length_map, decide_true, decide_false, Tree.rec_, Nd.rec_, Word.rec_, nd_len, nd_one, Int.reduceEq, Int.reduceLT, Int.reduceLE, Nat.reduceLT, Int.reduceToNat, Nat.reduceMul, encT_length, cfl, cfo, cfv, List.length_map, penc_tk]
  refine CallD.intro (texts_calls b.names σ h2) ?_
  simp only [am, amo, amc, Nat.reduceAdd, Nat.reduceEqDiff, encs_length, List.length_map, decide_true, decide_false, Tree.rec_, Nd.rec_, Word.rec_, nd_len, nd_one, Int.reduceEq, Int.reduceLT, Int.reduceLE, Nat.reduceLT, Int.reduceToNat, Nat.reduceMul, encT_length, cfl, cfo, cfv, List.length_map, penc_tk]
  refine CallD.intro (nsame_calls (a.names.map Word.text) (b.names.map Word.text) σ (by rw [List.length_map]; omega)) ?_
  rw [← sameW_eq]
  cases q1 : sameW a.names b.names
  · simp only [am, amo, amc, Nat.reduceAdd, Nat.reduceEqDiff, encs_length, List.length_map, decide_true, decide_false, Tree.rec_, Nd.rec_, Word.rec_, nd_len, nd_one, Int.reduceEq, Int.reduceLT, Int.reduceLE, Nat.reduceLT, Int.reduceToNat, Nat.reduceMul, encT_length, cfl, cfo, cfv, List.length_map, penc_tk]
    refine retK_intro rfl (Store.sub_refl _) ⟨?_, rfl⟩
    simp [V.erase, eraseL]
  simp only [am, amo, amc, Nat.reduceAdd, Nat.reduceEqDiff, encs_length, List.length_map, decide_true, decide_false, Tree.rec_, Nd.rec_, Word.rec_, nd_len, nd_one, Int.reduceEq, Int.reduceLT, Int.reduceLE, Nat.reduceLT, Int.reduceToNat, Nat.reduceMul, encT_length, cfl, cfo, cfv, List.length_map, penc_tk]
  refine CallD.intro (samePQ_calls a.pairs b.pairs σ h3) ?_
  cases q2 : samePQ a.pairs b.pairs
  · simp only [am, amo, amc, Nat.reduceAdd, Nat.reduceEqDiff, encs_length, List.length_map, decide_true, decide_false, Tree.rec_, Nd.rec_, Word.rec_, nd_len, nd_one, Int.reduceEq, Int.reduceLT, Int.reduceLE, Nat.reduceLT, Int.reduceToNat, Nat.reduceMul, encT_length, cfl, cfo, cfv, List.length_map, penc_tk]
    refine retK_intro rfl (Store.sub_refl _) ⟨?_, rfl⟩
    simp [V.erase, eraseL]
  simp only [am, amo, amc, Nat.reduceAdd, Nat.reduceEqDiff, encs_length, List.length_map, decide_true, decide_false, Tree.rec_, Nd.rec_, Word.rec_, nd_len, nd_one, Int.reduceEq, Int.reduceLT, Int.reduceLE, Nat.reduceLT, Int.reduceToNat, Nat.reduceMul, encT_length, cfl, cfo, cfv, List.length_map, penc_tk]
  refine CallD.intro (same24_calls _ a.left b.left σ (Nat.le_refl _) h4) ?_
  cases q3 : a.left.sameQ b.left
  · simp only [am, amo, amc, Nat.reduceAdd, Nat.reduceEqDiff, encs_length, List.length_map, decide_true, decide_false, Tree.rec_, Nd.rec_, Word.rec_, nd_len, nd_one, Int.reduceEq, Int.reduceLT, Int.reduceLE, Nat.reduceLT, Int.reduceToNat, Nat.reduceMul, encT_length, cfl, cfo, cfv, List.length_map, penc_tk]
    refine retK_intro rfl (Store.sub_refl _) ⟨?_, rfl⟩
    simp [V.erase, eraseL]
  simp only [am, amo, amc, Nat.reduceAdd, Nat.reduceEqDiff, encs_length, List.length_map, decide_true, decide_false, Tree.rec_, Nd.rec_, Word.rec_, nd_len, nd_one, Int.reduceEq, Int.reduceLT, Int.reduceLE, Nat.reduceLT, Int.reduceToNat, Nat.reduceMul, encT_length, cfl, cfo, cfv, List.length_map, penc_tk]
  refine CallD.intro (same24_calls _ a.right b.right σ (Nat.le_refl _) h5) ?_
  simp only [am, amo, amc, Nat.reduceAdd, Nat.reduceEqDiff, encs_length, List.length_map, decide_true, decide_false, Tree.rec_, Nd.rec_, Word.rec_, nd_len, nd_one, Int.reduceEq, Int.reduceLT, Int.reduceLE, Nat.reduceLT, Int.reduceToNat, Nat.reduceMul, encT_length, cfl, cfo, cfv, List.length_map, penc_tk]
  refine retK_intro rfl (Store.sub_refl _) ⟨?_, rfl⟩
  simp [V.erase, eraseL]
end Go.Proofs.Tryd

namespace Go.Proofs.Tryd
open Go.Am
set_option maxRecDepth 4000
set_option maxHeartbeats 4000000
end Go.Proofs.Tryd

namespace Go.Proofs.Tryd
open Go.Am
set_option maxRecDepth 4000
set_option maxHeartbeats 4000000
end Go.Proofs.Tryd

namespace Go.Proofs.Tryd
open Go.Am
set_option maxRecDepth 4000
set_option maxHeartbeats 4000000
def s1 : List UInt8 := [43, 40, 120, 44, 35, 123, 97, 44, 98, 125, 41]
def s2 : List UInt8 := [43, 40, 41]
def s3 : List UInt8 := [91, 102, 61, 120, 44, 103, 61, 35, 104, 105, 124, 114, 93]
end Go.Proofs.Tryd

namespace Go.Proofs.Tryd
open Go.Am
set_option maxRecDepth 4000
set_option maxHeartbeats 4000000
def ac29 : AC := .seq (.reg [⟨(some 2), .mv (.c (.bool false)), none⟩])
 (.seq (.seq (.reg [xm 5 0, xL 6 5, xi 7 0])
 (.block 0 (.loop (.seq (.reg [xb .lss 8 7 6])
 (.seq (.cond (.s 8) (.skip)
 (.exit 0))
 (.seq (.block 1 (.seq (.reg [xA 5 9 5 7, xl 5 10 9, ⟨(some 4), .alloc [(.int .i64 0), (.int .i64 0), (.str []), (.sl .full 2 []), (.sl .full 5 [])], none⟩, xs 5 4 10])
 (.seq (.reg [xl 5 11 4, xc 68 12 [.s 11], xB .gtr 13 12 300])
 (.cond (.s 13) (.seq (.reg [⟨(some 2), .mv (.c (.bool true)), none⟩])
 (.ret))
 (.skip)))))
 (.reg [xB .add 14 7 1, xm 7 14])))))))
 (.seq (.reg [⟨(some 2), .mv (.c (.bool false)), none⟩])
 (.ret)))
theorem fn29 : IsFn prog 29 ac29 [.tmp 2] 15 := ⟨f29, ⟨[], []⟩, func29, by kernel_rfl, by kernel_rfl, by kernel_rfl, by kernel_rfl⟩
def ac68 : AC := .seq (.reg [⟨(some 1), .box 5 (.s 0), none⟩, xi 2 0])
 (.seq (.reg [xf 3 5 1, xo 6 5, xL 7 6, ⟨(some 8), .binI .add (.c (.int .i64 1)) (.s 7), none⟩, xm 3 8])
 (.seq (.seq (.reg [xi 4 0])
 (.block 0 (.loop (.seq (.seq (.reg [xm 9 4, xf 4 10 1, xo 11 10, xL 12 11, xb .lss 13 9 12])
 (.cond (.s 13) (.skip)
 (.exit 0)))
 (.seq (.block 1 (.reg [xm 16 3, xf 4 17 1, xo 18 17, xm 19 4, xA 5 20 18 19, xl 5 21 20, xc 68 22 [.s 21], xb .add 23 16 22, xm 3 23]))
 (.reg [xm 14 4, xB .add 15 14 1, xm 4 15]))))))
 (.seq (.reg [xm 24 3, xm 2 24])
 (.ret))))
theorem fn68 : IsFn prog 68 ac68 [.tmp 2] 25 := ⟨f68, ⟨[], []⟩, func68, by kernel_rfl, by kernel_rfl, by kernel_rfl, by kernel_rfl⟩
def inv52 (n : Nd) (i : Nat) (σ : Store) : St :=
  ⟨[.any, .ptr (.loc 0) 0, .any, .int .i64 ((1 + n.names.length + cnts (n.kids.take i) : Nat) : Int), .int .i64 (i : Nat)] ++ List.replicate 20 .any, [n.enc], σ⟩
theorem many2_calls : ∀ (k : Nat) (n : Nd) (σ : Store), n.wt ≤ k → n.wt ≤ big → PCalls prog 68 [.agg n.enc] σ fun v σ' => v = .int .i64 n.cnt ∧ σ' = σ := by
  intro k
  induction k with
  | zero => intro n σ h _; cases n; simp only [Nd.wt] at h; omega
  | succ k ihk =>
    intro n σ hk hw
    have hn := wt_names n
    have hc := cnt_wt n
    have hbig : n.wt < 2 ^ 62 := by simp only [big] at hw; omega
    have hce : n.cnt = 1 + n.names.length + cnts n.kids := by cases n; rw [Nd.cnt]; rfl
    refine fn68.calls ?_
    simp only [slots, ac68, am, amo, amc, ams, Nat.reduceAdd, Nat.reduceEqDiff, decide_true, decide_false, Tree.rec_, Nd.rec_, Word.rec_, Got.rec_, Nd.fl]
    refine vc_loop (fun p : { i : Nat // i ≤ n.kids.length } => inv52 n p.1 σ) (fun p => n.kids.length - p.1) ?_ ?_
    · refine Upd.enter ⟨0, by simp⟩ ?_ LLLe.rfl OLe.rfl
      rw [List.length_map, wrap_i64 (by omega) (by omega)]
      simp [inv52, List.replicate, am, cnts]
    rintro ⟨i, hi⟩
    simp only [inv52, List.replicate, am, Nd.fl, List.length_map, Nd.rec_]
    refine vcIf_split ?_ ?_
    · intro hlt
      have hlt : i < n.kids.length := by simpa using hlt
      have h1 := cnts_at hlt
      have h2 := cnts_take n.kids (i + 1)
      have h3 := kid_wt (n := n) (List.getElem_mem hlt)
      simp only [am, amo, amc, Nat.reduceAdd, Nat.reduceEqDiff, encs_length, List.length_map, decide_true, decide_false, Tree.rec_, Nd.rec_, Word.rec_, Got.rec_, Nd.fl]
      refine idxL_intro (by omega) (nencs_at (List.getElem?_eq_getElem hlt)) ?_
      simp only [am, amo, amc, Nat.reduceAdd, Nat.reduceEqDiff, encs_length, List.length_map, decide_true, decide_false, Tree.rec_, Nd.rec_, Word.rec_, Got.rec_, Nd.fl]
      refine (ihk n.kids[i] σ (by omega) (by omega)).mono ?_
      rintro v σ ⟨rfl, rfl⟩
      simp only [am, amo, amc, Nat.reduceAdd, Nat.reduceEqDiff, encs_length, List.length_map, decide_true, decide_false, Tree.rec_, Nd.rec_, Word.rec_, Got.rec_, Nd.fl]
      rw [wrap_i64 (by omega) (by omega), wrap_i64 (x := (i : Int) + 1) (by omega) (by omega)]
      refine Upd.again ⟨i + 1, hlt⟩ (by simp; omega) ?_ LLLe.rfl OLe.rfl
      simp [List.replicate, am, h1]
      omega
    intro hlt
    have hlt : i = n.kids.length := by simp at hlt; omega
    subst hlt
    rw [List.take_length]
    simp only [am, amo, amc, Nat.reduceAdd, Nat.reduceEqDiff, encs_length, List.length_map, decide_true, decide_false, Tree.rec_, Nd.rec_, Word.rec_, Got.rec_, Nd.fl]
    refine retK_intro rfl (Store.sub_refl _) ⟨?_, rfl⟩
    simp [V.erase, hce]
def bigQ (l : List Nd) : Bool := l.any fun n => decide ((300 : Int) < n.cnt)
def inv22 (l : List Nd) (i : Nat) (σ : Store) : St :=
  ⟨[.any, .any, .any, .any, .any, .sl .no 5 (l.map Nd.enc), .int .i64 l.length, .int .i64 (i : Nat)] ++ List.replicate 7 .any, [], σ⟩
theorem big_calls {τ : Tk} (l : List Nd) (σ : Store) (hb : l.length ≤ big) (hw : ∀ n ∈ l, n.wt ≤ big) : PCalls prog 29 [.sl τ 5 (l.map Nd.enc)] σ fun v σ' => v = .bool (bigQ l) ∧ σ' = σ := by
  simp only [big] at hb
  refine fn29.calls ?_
  simp only [slots, ac29, am, amo, amc, ams, Nat.reduceAdd, Nat.reduceEqDiff, decide_true, decide_false, Tree.rec_, Nd.rec_, Word.rec_, Got.rec_, Nd.fl]
  refine vc_loop (fun p : { i : Nat // i ≤ l.length ∧ bigQ (l.take i) = false } => inv22 l p.1 σ) (fun p => l.length - p.1) ?_ ?_
  · refine Upd.enter ⟨0, by simp, by simp [bigQ]⟩ ?_ LLLe.rfl OLe.rfl
    simp [inv22, List.replicate, am]
  rintro ⟨i, hi, ha⟩
  simp only [inv22, List.replicate, am]
  refine vcIf_split ?_ ?_
  · intro hlt
    have hlt : i < l.length := by simpa using hlt
    simp only [am, amo, amc, Nat.reduceAdd, Nat.reduceEqDiff, encs_length, List.length_map, decide_true, decide_false, Tree.rec_, Nd.rec_, Word.rec_, Got.rec_, Nd.fl]
    refine idxL_intro (by omega) (nencs_at (List.getElem?_eq_getElem hlt)) ?_
    simp only [am, amo, amc, Nat.reduceAdd, Nat.reduceEqDiff, encs_length, List.length_map, decide_true, decide_false, Tree.rec_, Nd.rec_, Word.rec_, Got.rec_, Nd.fl, Nd.r_ov]
    refine (many2_calls _ l[i] σ (Nat.le_refl _) (hw _ (List.getElem_mem hlt))).mono ?_
    rintro v σ ⟨rfl, rfl⟩
    simp only [am, amo, amc, Nat.reduceAdd, Nat.reduceEqDiff, encs_length, List.length_map, decide_true, decide_false, Tree.rec_, Nd.rec_, Word.rec_, Got.rec_, Nd.fl]
    refine vcIf_split ?_ ?_
    · intro hg
      simp only [am, amo, amc, Nat.reduceAdd, Nat.reduceEqDiff, encs_length, List.length_map, decide_true, decide_false, Tree.rec_, Nd.rec_, Word.rec_, Got.rec_, Nd.fl]
      refine retK_intro rfl (Store.sub_refl _) ⟨?_, rfl⟩
      rw [show bigQ l = true from List.any_eq_true.2 ⟨l[i], List.getElem_mem hlt, by simpa using hg⟩]; rfl
    · intro hg
      simp only [am, amo, amc, Nat.reduceAdd, Nat.reduceEqDiff, encs_length, List.length_map, decide_true, decide_false, Tree.rec_, Nd.rec_, Word.rec_, Got.rec_, Nd.fl]
      rw [wrap_i64 (by omega) (by omega)]
      refine Upd.againD ⟨i + 1, hlt, ?_⟩ (by simp; omega) (by simp [List.replicate, am]) (by simp [am]) OLe.rfl rfl rfl
      unfold bigQ at ha ⊢
      rw [take_succ_of (List.getElem?_eq_getElem hlt), List.any_append, ha]
      simpa using hg
  intro hlt
  have hlt : i = l.length := by simp at hlt; omega
  subst hlt
  rw [List.take_length] at ha
  simp only [am, amo, amc, Nat.reduceAdd, Nat.reduceEqDiff, encs_length, List.length_map, decide_true, decide_false, Tree.rec_, Nd.rec_, Word.rec_, Got.rec_, Nd.fl]
  refine retK_intro rfl (Store.sub_refl _) ⟨?_, rfl⟩
  simp [V.erase, eraseL, ha]
end Go.Proofs.Tryd

namespace Go.Proofs.Tryd
open Go.Am
set_option maxRecDepth 4000
set_option maxHeartbeats 4000000
def ac4 : AC := .seq (.reg [⟨(some 1), .box 17 (.s 0), none⟩, ⟨(some 2), .mv (.c (.bool false)), none⟩])
 (.seq (.seq (.reg [xl 17 10 1, xc 10 11 [.s 10], xm 12 11, xh 12 (xl 17 13 1), xh 12 (xc 11 14 [.s 13]), ⟨(some 15), .not (.s 14), (some (12, false))⟩, ⟨(some 16), .pick (.s 12) (.c (.bool true)) (.s 15), none⟩])
 (.cond (.s 16) (.seq (.reg [xc 6 17 [], xm 2 17])
 (.ret))
 (.skip)))
 (.seq (.reg [xl 17 18 1, xc 12 19 [.s 18], xm 3 19])
 (.seq (.reg [xm 21 3, xc 13 22 [.s 21], xm 20 22, xe 23 20 0, xe 24 20 1, ⟨(some 5), .alloc [(.int .i64 0), (.int .i64 0)], none⟩, xm 4 23, xs 2 5 24])
 (.seq (.reg [xm 26 4, xc 14 27 [.s 26], xm 25 27, xe 28 25 0, xe 29 25 1, ⟨(some 7), .alloc [(.int .i64 0), (.int .i64 0)], none⟩, xm 6 28, xs 2 7 29])
 (.seq (.reg [xm 31 3, xc 7 32 [.s 31], xm 30 32, xe 33 30 0, xe 34 30 1, ⟨(some 8), .alloc [(.int .i64 0), (.int .i64 0), (.str []), (.int .i64 0), (.sl .full 2 []), (.sl .full 4 []), (.int .i64 0), (.int .i64 0), (.int .i64 0), (.str []), (.sl .full 2 []), (.sl .full 5 []), (.int .i64 0), (.int .i64 0), (.str []), (.sl .full 2 []), (.sl .full 5 [])], none⟩, ⟨(some 9), .alloc [(.int .i64 0), (.int .i64 0)], none⟩, xs 17 8 33, xs 2 9 34])
 (.seq (.seq (.reg [xl 2 35 7, ⟨(some 36), .build [(.int .i64 0), (.int .i64 0)] [], none⟩, ⟨(some 37), .eqA true [1, 1] (.s 35) (.s 36), none⟩])
 (.cond (.s 37) (.seq (.reg [xl 2 38 9, xl 2 39 7, ⟨(some 40), .eqA false [1, 1] (.s 38) (.s 39), none⟩, xm 41 40, xg 41 (xc 6 42 []), ⟨(some 43), .pick (.s 41) (.s 42) (.c (.bool false)), none⟩, xm 2 43])
 (.ret))
 (.skip)))
 (.seq (.reg [xl 2 44 9, ⟨(some 45), .build [(.int .i64 0), (.int .i64 0)] [], none⟩, ⟨(some 46), .eqA false [1, 1] (.s 44) (.s 45), none⟩, xm 47 46, xg 47 (xl 17 48 1), xg 47 (xl 17 49 8), xg 47 (xc 15 50 [.s 48, .s 49]), ⟨(some 51), .pick (.s 47) (.s 50) (.c (.bool false)), none⟩, xm 52 51, xg 52 (xc 6 53 []), ⟨(some 54), .pick (.s 52) (.s 53) (.c (.bool false)), none⟩, xm 2 54])
 (.ret))))))))
theorem fn4 : IsFn prog 4 ac4 [.tmp 2] 55 := ⟨f4, ⟨[], []⟩, func4, by kernel_rfl, by kernel_rfl, by kernel_rfl, by kernel_rfl⟩
def ac10 : AC := .seq (.reg [⟨(some 1), .box 17 (.s 0), none⟩, ⟨(some 2), .mv (.c (.bool false)), none⟩])
 (.seq (.seq (.reg [xf 4 3 1, xo 4 3, xL 5 4, xB .gtr 6 5 100, xm 7 6, xh 7 (xf 5 8 1), xh 7 (xo 9 8), xh 7 (xL 10 9), xh 7 (xB .gtr 11 10 100), ⟨(some 12), .pick (.s 7) (.c (.bool true)) (.s 11), none⟩, xm 13 12, xh 13 (xf 2 14 1), xh 13 (xf 0 15 14), xh 13 (xo 16 15), xh 13 (xT 17 16), xh 13 (xB .gtr 18 17 100), ⟨(some 19), .pick (.s 13) (.c (.bool true)) (.s 18), none⟩])
 (.cond (.s 19) (.seq (.reg [⟨(some 2), .mv (.c (.bool true)), none⟩])
 (.ret))
 (.skip)))
 (.seq (.reg [xf 7 20 1, xl 5 21 20, xf 12 22 1, xl 5 23 22, ⟨(some 24), .bslice 5 [(.s 21), (.s 23)], none⟩, xc 29 25 [.s 24], xm 2 25])
 (.ret)))
theorem fn10 : IsFn prog 10 ac10 [.tmp 2] 26 := ⟨f10, ⟨[], []⟩, func10, by kernel_rfl, by kernel_rfl, by kernel_rfl, by kernel_rfl⟩
def Cmd.bigC (c : Cmd) : Bool := decide (100 < c.names.length) || decide (100 < c.pairs.length) || decide (100 < c.name.text.length) || bigQ [c.left, c.right]
theorem cbig_calls (c : Cmd) (σ : Store) (hl : c.left.wt ≤ big) (hr : c.right.wt ≤ big) : PCalls prog 10 [.agg c.enc] σ fun v σ' => v = .bool (Cmd.bigC c) ∧ σ' = σ := by
  have hb : PCalls prog 29 [.sl .full 5 [c.left.enc, c.right.enc]] σ fun v σ' => v = .bool (bigQ [c.left, c.right]) ∧ σ' = σ := big_calls (τ := .full) [c.left, c.right] σ (by simp [big]) (by intro x hx; rcases List.mem_cons.1 hx with rfl | hx; exact hl; rw [List.mem_singleton.1 hx]; exact hr)
  refine fn10.calls ?_
  simp only [slots, ac10, am, amo, amc, ams, Nat.reduceAdd, Nat.reduceEqDiff, decide_true, decide_false, Tree.rec_, Nd.rec_, Word.rec_, nd_len, nd_one, Int.reduceEq, Int.reduceLT, Int.reduceLE, Nat.reduceLT, cfl, cfo, cfv, List.length_map]
  by_cases k1 : 100 < c.names.length
  · simp only [am, amo, amc, Nat.reduceAdd, Nat.reduceEqDiff, encs_length, List.length_map, decide_true, decide_false, Tree.rec_, Nd.rec_, Word.rec_, nd_len, nd_one, Int.reduceEq, Int.reduceLT, Int.reduceLE, Nat.reduceLT, cfl, cfo, cfv, List.length_map, decide_eq_true (show (100 : Int) < (c.names.length : Nat) by omega)]
    refine retK_intro rfl (Store.sub_refl _) ⟨?_, rfl⟩
    simp [V.erase, eraseL, Cmd.bigC, k1]
  simp only [am, amo, amc, Nat.reduceAdd, Nat.reduceEqDiff, encs_length, List.length_map, decide_true, decide_false, Tree.rec_, Nd.rec_, Word.rec_, nd_len, nd_one, Int.reduceEq, Int.reduceLT, Int.reduceLE, Nat.reduceLT, cfl, cfo, cfv, List.length_map, decide_eq_false (show ¬ (100 : Int) < (c.names.length : Nat) by omega)]
  by_cases k2 : 100 < c.pairs.length
  · simp only [am, amo, amc, Nat.reduceAdd, Nat.reduceEqDiff, encs_length, List.length_map, decide_true, decide_false, Tree.rec_, Nd.rec_, Word.rec_, nd_len, nd_one, Int.reduceEq, Int.reduceLT, Int.reduceLE, Nat.reduceLT, cfl, cfo, cfv, List.length_map, decide_eq_true (show (100 : Int) < (c.pairs.length : Nat) by omega)]
    refine retK_intro rfl (Store.sub_refl _) ⟨?_, rfl⟩
    simp [V.erase, eraseL, Cmd.bigC, k1, k2]
  simp only [am, amo, amc, Nat.reduceAdd, Nat.reduceEqDiff, encs_length, List.length_map, decide_true, decide_false, Tree.rec_, Nd.rec_, Word.rec_, nd_len, nd_one, Int.reduceEq, Int.reduceLT, Int.reduceLE, Nat.reduceLT, cfl, cfo, cfv, List.length_map, decide_eq_false (show ¬ (100 : Int) < (c.pairs.length : Nat) by omega)]
  by_cases k3 : 100 < c.name.text.length
  · simp only [am, amo, amc, Nat.reduceAdd, Nat.reduceEqDiff, encs_length, List.length_map, decide_true, decide_false, Tree.rec_, Nd.rec_, Word.rec_, nd_len, nd_one, Int.reduceEq, Int.reduceLT, Int.reduceLE, Nat.reduceLT, cfl, cfo, cfv, List.length_map, decide_eq_true (show (100 : Int) < (c.name.text.length : Nat) by omega)]
    refine retK_intro rfl (Store.sub_refl _) ⟨?_, rfl⟩
    simp [V.erase, eraseL, Cmd.bigC, k1, k2, k3]
  simp only [am, amo, amc, Nat.reduceAdd, Nat.reduceEqDiff, encs_length, List.length_map, decide_true, decide_false, Tree.rec_, Nd.rec_, Word.rec_, nd_len, nd_one, Int.reduceEq, Int.reduceLT, Int.reduceLE, Nat.reduceLT, cfl, cfo, cfv, List.length_map, decide_eq_false (show ¬ (100 : Int) < (c.name.text.length : Nat) by omega)]
  refine (hb).mono ?_
  rintro v σ ⟨rfl, rfl⟩
  simp only [am, amo, amc, Nat.reduceAdd, Nat.reduceEqDiff, encs_length, List.length_map, decide_true, decide_false, Tree.rec_, Nd.rec_, Word.rec_, nd_len, nd_one, Int.reduceEq, Int.reduceLT, Int.reduceLE, Nat.reduceLT, cfl, cfo, cfv, List.length_map]
  refine retK_intro rfl (Store.sub_refl _) ⟨?_, rfl⟩
  simp [V.erase, eraseL, Cmd.bigC, k1, k2, k3]
theorem textC_len (c : Cmd) : (textC c).length ≤ 4 * (c.wt + 9) := by
  obtain ⟨o1, _, o3, _⟩ := pieces_ok c (formOf c.op).2
  have hjl := joinS_len _ o1
  rw [o3] at hjl
  have hkl := form_len c.op
  have : ((formOf c.op).2.length + 1) * (c.wt + 8 + 1) ≤ 4 * (c.wt + 8 + 1) := Nat.mul_le_mul_right _ (by omega)
  have h : (textC c).length = (joinS [32] (piecesT c (formOf c.op).2).1).length := rfl
  omega
theorem commandBack_calls (c : Cmd) {σ : Store} (hg : σ.box 0 = some formCells) (hw : c.wt ≤ 1048576) : PCalls prog 4 [.agg c.enc] σ fun v σ' => v = .bool true ∧ σ' = σ := by
  have hcw : c.wt = c.name.text.length + wsum c.names + psum c.pairs + c.left.wt + c.right.wt := rfl
  have hn1 := (psum_word c.names).2
  have hp1 := (psum_len c.pairs).2
  have hbig : big = 268435456 := rfl
  have hlen := textC_len c
  refine fn4.calls ?_
  simp only [slots, ac4, am, amo, amc, ams, Nat.reduceAdd, Nat.reduceEqDiff, decide_true, decide_false, Tree.rec_, Nd.rec_, Word.rec_, nd_len, nd_one, Int.reduceEq, Int.reduceLT, Int.reduceLE, Nat.reduceLT, cfl, cfo, cfv, List.length_map]
  refine (cbig_calls c σ (by omega) (by omega)).mono ?_
  rintro v σ ⟨rfl, rfl⟩
  cases q1 : Cmd.bigC c
  case' true =>
    simp only [am, amo, amc, Nat.reduceAdd, Nat.reduceEqDiff, encs_length, List.length_map, decide_true, decide_false, Tree.rec_, Nd.rec_, Word.rec_, nd_len, nd_one, Int.reduceEq, Int.reduceLT, Int.reduceLE, Nat.reduceLT, cfl, cfo, cfv, List.length_map]
    refine (alive12_calls hg).mono ?_
    rintro v σ ⟨rfl, rfl⟩
    simp only [am, amo, amc, Nat.reduceAdd, Nat.reduceEqDiff, encs_length, List.length_map, decide_true, decide_false, Tree.rec_, Nd.rec_, Word.rec_, nd_len, nd_one, Int.reduceEq, Int.reduceLT, Int.reduceLE, Nat.reduceLT, cfl, cfo, cfv, List.length_map]
    refine retK_intro rfl (Store.sub_refl _) ⟨?_, rfl⟩
    simp [V.erase, eraseL]
  simp only [am, amo, amc, Nat.reduceAdd, Nat.reduceEqDiff, encs_length, List.length_map, decide_true, decide_false, Tree.rec_, Nd.rec_, Word.rec_, nd_len, nd_one, Int.reduceEq, Int.reduceLT, Int.reduceLE, Nat.reduceLT, cfl, cfo, cfv, List.length_map]
  refine (cright_calls c hg (by omega) (by omega) (by omega) (by omega)).mono ?_
  rintro v σ ⟨rfl, rfl⟩
  cases q2 : c.rightQ
  case' false =>
    simp only [am, amo, amc, Nat.reduceAdd, Nat.reduceEqDiff, encs_length, List.length_map, decide_true, decide_false, Tree.rec_, Nd.rec_, Word.rec_, nd_len, nd_one, Int.reduceEq, Int.reduceLT, Int.reduceLE, Nat.reduceLT, cfl, cfo, cfv, List.length_map]
    refine (alive12_calls hg).mono ?_
    rintro v σ ⟨rfl, rfl⟩
    simp only [am, amo, amc, Nat.reduceAdd, Nat.reduceEqDiff, encs_length, List.length_map, decide_true, decide_false, Tree.rec_, Nd.rec_, Word.rec_, nd_len, nd_one, Int.reduceEq, Int.reduceLT, Int.reduceLE, Nat.reduceLT, cfl, cfo, cfv, List.length_map]
    refine retK_intro rfl (Store.sub_refl _) ⟨?_, rfl⟩
    simp [V.erase, eraseL]
  simp only [am, amo, amc, Nat.reduceAdd, Nat.reduceEqDiff, encs_length, List.length_map, decide_true, decide_false, Tree.rec_, Nd.rec_, Word.rec_, nd_len, nd_one, Int.reduceEq, Int.reduceLT, Int.reduceLE, Nat.reduceLT, cfl, cfo, cfv, List.length_map]
  refine (ctext_calls c hg (by omega)).mono ?_
  rintro v σ ⟨rfl, rfl⟩
  simp only [am, amo, amc, Nat.reduceAdd, Nat.reduceEqDiff, encs_length, List.length_map, decide_true, decide_false, Tree.rec_, Nd.rec_, Word.rec_, nd_len, nd_one, Int.reduceEq, Int.reduceLT, Int.reduceLE, Nat.reduceLT, cfl, cfo, cfv, List.length_map]
  obtain ⟨l1, l2, l3⟩ := read_back12 q2
  have hm := line_many (textC c)
  have hcb := read_cb (textC c)
  have hll := lexR_len (textC c)
  generalize textC c = s at *
  refine (lex_calls s σ (by omega)).mono ?_
  rintro v σ ⟨rfl, rfl⟩
  simp only [am, amo, amc, Nat.reduceAdd, Nat.reduceEqDiff, encs_length, List.length_map, decide_true, decide_false, Tree.rec_, Nd.rec_, Word.rec_, nd_len, nd_one, Int.reduceEq, Int.reduceLT, Int.reduceLE, Nat.reduceLT, cfl, cfo, cfv, List.length_map, badL]
  refine (tree_calls (lexR s).1 σ (by omega)).mono ?_
  rintro v σ ⟨rfl, rfl⟩
  simp only [am, amo, amc, Nat.reduceAdd, Nat.reduceEqDiff, encs_length, List.length_map, decide_true, decide_false, Tree.rec_, Nd.rec_, Word.rec_, nd_len, nd_one, Int.reduceEq, Int.reduceLT, Int.reduceLE, Nat.reduceLT, cfl, cfo, cfv, List.length_map, fenc]
  refine (cread_calls s hg (by omega) (by rw [treeP_line]; omega)).mono ?_
  rintro v σ ⟨rfl, rfl⟩
  simp only [am, amo, amc, Nat.reduceAdd, Nat.reduceEqDiff, encs_length, List.length_map, decide_true, decide_false, Tree.rec_, Nd.rec_, Word.rec_, nd_len, nd_one, Int.reduceEq, Int.reduceLT, Int.reduceLE, Nat.reduceLT, cfl, cfo, cfv, List.length_map, flt]
  cases ht : (treeR (lexR s).1).2 with
  | some a =>
    rw [l3 a ht]
    simp only [am, amo, amc, Nat.reduceAdd, Nat.reduceEqDiff, encs_length, List.length_map, decide_true, decide_false, Tree.rec_, Nd.rec_, Word.rec_, nd_len, nd_one, Int.reduceEq, Int.reduceLT, Int.reduceLE, Nat.reduceLT, cfl, cfo, cfv, List.length_map, badC, badA]
    refine (alive12_calls hg).mono ?_
    rintro v σ ⟨rfl, rfl⟩
    simp only [am, amo, amc, Nat.reduceAdd, Nat.reduceEqDiff, encs_length, List.length_map, decide_true, decide_false, Tree.rec_, Nd.rec_, Word.rec_, nd_len, nd_one, Int.reduceEq, Int.reduceLT, Int.reduceLE, Nat.reduceLT, cfl, cfo, cfv, List.length_map]
    refine retK_intro rfl (Store.sub_refl _) ⟨?_, rfl⟩
    simp [V.erase, eraseL]
  | none =>
    obtain ⟨d, e1, e2⟩ := l2 ht
    rw [e1] at hcb ⊢
    have hd := (psum_word d.names).2
    have hd2 := hcb.ns
    simp only at hd2
    simp only [am, amo, amc, Nat.reduceAdd, Nat.reduceEqDiff, encs_length, List.length_map, decide_true, decide_false, Tree.rec_, Nd.rec_, Word.rec_, nd_len, nd_one, Int.reduceEq, Int.reduceLT, Int.reduceLE, Nat.reduceLT, cfl, cfo, cfv, List.length_map, badC, badA]
    refine (csame_calls c d σ (by omega) (by omega) (by omega) (by omega) (by omega)).mono ?_
    rintro v σ ⟨rfl, rfl⟩
    simp only [am, amo, amc, Nat.reduceAdd, Nat.reduceEqDiff, encs_length, List.length_map, decide_true, decide_false, Tree.rec_, Nd.rec_, Word.rec_, nd_len, nd_one, Int.reduceEq, Int.reduceLT, Int.reduceLE, Nat.reduceLT, cfl, cfo, cfv, List.length_map, e2]
    refine (alive12_calls hg).mono ?_
    rintro v σ ⟨rfl, rfl⟩
    simp only [am, amo, amc, Nat.reduceAdd, Nat.reduceEqDiff, encs_length, List.length_map, decide_true, decide_false, Tree.rec_, Nd.rec_, Word.rec_, nd_len, nd_one, Int.reduceEq, Int.reduceLT, Int.reduceLE, Nat.reduceLT, cfl, cfo, cfv, List.length_map]
    refine retK_intro rfl (Store.sub_refl _) ⟨?_, rfl⟩
    simp [V.erase, eraseL]
end Go.Proofs.Tryd

namespace Go.Am
open Go.ChangeShapes Go.WideShapes Go.ChangeAt Go.RowKit
structure BulkFn {H : Type} (B : DataW H → Nat) (BA : List (DataW H) → Nat) : Prop where
  str : ∀ b, B (.lit (.string b)) = b.length + 1
  int : ∀ k n, B (.lit (.int k n)) = 1
  bool : ∀ b, B (.lit (.bool b)) = 1
  nil : B .nil = 1
  slice : ∀ e s, B (.slice e s) = BA e + BA s + 1
  agg : ∀ p, B (.agg p) = BA p + 1
  no : BA [] = 0
  cons : ∀ d r, BA (d :: r) = B d + BA r
section
variable {H : Type} {enc : TypeId × Value → H} {P : Program} {W : World} {sp : Nat → Bool} {B : DataW H → Nat} {BA : List (DataW H) → Nat}
end
theorem post_am2 {H : Type} {enc : TypeId × Value → H} {P : Program} {f : Func} {s : ChangeSpec} {W : World} {args : Array Value} {ds : List (DataW H)} {before : List MemPlace} {tb : TypeId}
    (hl : laidOutB P = true) (hm : mapsRowed P = true) (hz : ((List.range P.types.size).all fun t => match P.underlying t with | some (.slice e) => decide (0 < P.cellsOf e) | _ => true) = true)
    (hres : f.resultTypes = #[tb]) (htb : P.underlying tb = some .bool) (hpar : ∀ t ∈ f.params.toList, t < P.types.size) (hvars : s.vars = []) (hfn : (s.fn H ds).results = [.lit (.bool true)] ∧ (s.fn H ds).args = ds ∧ (s.fn H ds).vars = [])
    (hW : DataW.Whole enc P f.params.toList s.vars false W args.toList ds [] before) {W' : World} (hos : W'.os = W.os) (hout : W'.output = W.output) (hfrz : ∀ a, W'.frozen? a = W.frozen? a) (hsame : ∀ b, b < W.heap.size → W'.heap[b]? = W.heap[b]?) :
    s.post enc P f false true false false W args (.bool true) W' := by
  have hW' := hW
  obtain ⟨p, q, hA, hV, rfl, hfz, hnd⟩ := hW
  rw [hvars] at hV
  obtain ⟨_, rfl⟩ := trodVars_none hV
  have hkept : W.keptBut W' (fun _ => False) := by
    refine ⟨hos, hout, fun i hi => ?_⟩
    rw [hsame i hi]
    cases W.heap[i]? with
    | none => rfl
    | some ob => cases ob <;> simp
  simp only [List.append_nil] at hW'
  have hds : s.fn H (ds ++ []) = s.fn H ds := by rw [List.append_nil]
  refine post_of_same (pa := p) (pv := []) hW' (fun b sp' hd => ?_) (fun sp' hs => ?_) (fun sp' hs => ?_) (by simp) (World.keptBut_mono (fun _ h => h.elim) hkept) ?_ (ok_one hres rfl (okWide_bool_mk htb _))
  · rw [hds, hfn.1, hres]
    exact trodAll_cons_mk (shut_bool htb _) trodAll_mk0
  · rw [hds, hfn.2.1]
    have hlt := DataW.TrodAll.lt hA
    have key : ∀ (ts : List TypeId) (vs : List Value) (ds : List (DataW H)) (ps : List MemPlace), (∀ t ∈ ts, t < P.types.size) → DataW.TrodAll enc P W 0 (fun _ => true) true ts vs ds ps → (∀ x ∈ ps, x.block < W.heap.size) → (∀ x ∈ ps, sp' x.block = true) → DataW.TrodAll enc P W' 0 sp' true ts vs ds ps := by
      intro ts
      induction ts with
      | nil => intro vs ds ps _ h _ _; cases vs <;> cases ds <;> first | exact h | exact h.elim
      | cons t ts ih =>
        intro vs ds ps hT h hlt hs
        cases vs with
        | nil => exact h.elim
        | cons v vs =>
          cases ds with
          | nil => exact h.elim
          | cons d ds =>
            obtain ⟨p, q, ⟨n, h1⟩, h2, rfl⟩ := h
            refine ⟨p, q, ⟨n, ?_⟩, ih vs ds q (fun t ht => hT t (by simp [ht])) h2 (fun x hx => hlt x (by simp [hx])) (fun x hx => hs x (by simp [hx])), rfl⟩
            refine DataW.trod_stays (kids_rows hl hm) (fun {t e} ht he => slices_full_of P hz t e ht he) (by simp) (hT t (by simp)) h1 (fun x hx => ?_) (fun x hx => hs x (by simp [hx]))
            have hb := hlt x (by simp [hx])
            cases x with
            | cell b off => exact cell_same (hsame b hb)
            | map b => exact hsame b hb
    exact key _ _ _ _ hpar hA (fun x hx => hlt x hx) (fun x hx => hs x (by simpa using hx))
  · rw [hds, hfn.2.2, hvars]
    rfl
  · exact hfrz
section
variable {P : Program} {W : World} {r : Reach} {b : Nat} {t : TypeId} {v : Value} {E : Env}
theorem val_struct {fs : Array Field} {xs : List V} (ht : P.underlying t = some (.struct fs)) (hv : Value.okWide P W r b t v) (h : RL E xs v.cells.toList) : R E (.agg xs) v := by
  obtain ⟨cs, rfl, _⟩ := okWide_struct ht hv
  simp only [R]
  exact ⟨cs, rfl, by simpa [Value.cells] using h⟩
end
end Go.Am

namespace Go.Am
open Go.ChangeShapes Go.WideShapes Go.ChangeAt Go.RowKit
def txtVal (s : List UInt8) : Value := .string ⟨s.toArray⟩
def boxStore (g : Nat) (ss : List (List UInt8)) : Store := ⟨fun b => if b = g then some (ss.map V.str) else none, fun _ => none⟩
def envBox (W : World) (g : Nat) : Env := ⟨W, fun b => if b = g then .obox else .const, fun _ => none, fun _ => none⟩
theorem boxStore_box (g : Nat) (ss : List (List UInt8)) : (boxStore g ss).box g = some (ss.map V.str) := by simp [boxStore]
theorem envBox_ok {W : World} {g : Nat} {ss : List (List UInt8)} {e : TypeId} (h : W.heap[g]? = some (.cells (ss.map txtVal).toArray e (0, 0))) : (envBox W g).ok (boxStore g ss) := by
  refine ⟨fun b cs hb => ?_, fun _ _ h => by simp [boxStore] at h, fun b hb => ?_, ⟨0, fun _ _ => rfl⟩⟩
  · simp only [boxStore] at hb
    split at hb
    · rename_i hbg
      subst hbg
      simp only [Option.some.injEq] at hb
      subst hb
      refine ⟨by simp [envBox], _, e, h, by simp, fun j x hx => ?_⟩
      rw [List.getElem?_map] at hx
      obtain ⟨s, h1, rfl⟩ := Option.map_eq_some_iff.1 hx
      exact ⟨txtVal s, by simp [h1], by simp [R, txtVal]⟩
    · simp at hb
  · have hlt : g < W.heap.size := lt_of_heap (w := W) h
    have hb : W.heap.size ≤ b := hb
    simp only [envBox]
    rw [if_neg (by omega)]
theorem law_callsG {H : Type} {enc : TypeId × Value → H} {P : Program} {n : FuncId} {f : Func} {s : ChangeSpec} {W : World} {args : Array Value} {vs : List V} {ds : List (DataW H)} {before : List MemPlace} {tb e : TypeId} {g : Nat} {ss : List (List UInt8)}
    (hP : PCalls P n vs (boxStore g ss) fun v σ' => v = .bool true ∧ σ' = boxStore g ss) (hg : W.heap[g]? = some (.cells (ss.map txtVal).toArray e (0, 0))) (hR : RL (envBox W g) vs args.toList)
    (hl : laidOutB P = true) (hm : mapsRowed P = true) (hz : ((List.range P.types.size).all fun t => match P.underlying t with | some (.slice e) => decide (0 < P.cellsOf e) | _ => true) = true)
    (hres : f.resultTypes = #[tb]) (htb : P.underlying tb = some .bool) (hpar : ∀ t ∈ f.params.toList, t < P.types.size) (hvars : s.vars = []) (hfn : (s.fn H ds).results = [.lit (.bool true)] ∧ (s.fn H ds).args = ds ∧ (s.fn H ds).vars = [])
    (hW : DataW.Whole enc P f.params.toList s.vars false W args.toList ds [] before) :
    Calls P n args W fun e W' => ∃ v, e = .returned v ∧ s.post enc P f false true false false W args v W' := by
  refine (hP.2 (envBox W g) args (fun _ => rfl) (envBox_ok hg) hR).mono ?_
  rintro _ w' ⟨v, x, E', σ', rfl, rfl, _, hok, hRv, hfr, rfl, rfl⟩
  simp only [R] at hRv
  subst hRv
  refine ⟨_, rfl, post_am2 hl hm hz hres htb hpar hvars hfn hW hfr.os hfr.output hfr.frz fun b hb => ?_⟩
  by_cases hbg : b = g
  · subst hbg
    obtain ⟨c1, h1, h2⟩ := hfr.shape b _ e hg
    obtain ⟨_, c2, e2, h3, h4, h5⟩ := hok.box b _ (boxStore_box b ss)
    have h3 : E'.w.heap[b]? = some (.cells c2 e2 (0, 0)) := h3
    rw [h1] at h3
    simp only [Option.some.injEq, Obj.cells.injEq] at h3
    obtain ⟨rfl, rfl, _⟩ := h3
    rw [hg, h1]
    have : c1 = (ss.map txtVal).toArray := by
      apply Array.ext_getElem?
      intro j
      by_cases hj : j < ss.length
      · obtain ⟨v, k1, k2⟩ := h5 j (.str ss[j]) (by simp [hj])
        rw [k1]
        simp only [R] at k2
        rw [k2]
        simp [hj, txtVal]
      · rw [Array.getElem?_eq_none (by rw [h2]; simp; omega), Array.getElem?_eq_none (by simp; omega)]
    rw [this]
  · exact (hfr.same b hb (.inl (by simp [envBox, hbg]))).1
section
variable {H : Type} {enc : TypeId × Value → H} {P : Program} {W : World}
def pairsData (ps : List (List UInt8 × List UInt8)) : DataW H := .agg (ps.map fun p => .agg [.lit (.string p.1), .lit (.string p.2)])
theorem list2 {α : Type} {l : List α} (h : l.length = 2) : ∃ a b, l = [a, b] := by
  match l, h with
  | [a, b], _ => exact ⟨a, b, rfl⟩
theorem txtVal_of {s : ByteArray} {l : List UInt8} (h : s.data.toList = l) : Value.string s = txtVal l := by subst h; simp [txtVal]
theorem chunks {α : Type} {k : Nat} (f : Nat → List α) : ∀ (n : Nat) (cs : List α), cs.length = n * k → (∀ i, i < n → (cs.drop (i * k)).take k = f i) → cs = ((List.range n).map f).flatten
  | 0, cs, hl, _ => by simp at hl; simp [hl]
  | n + 1, cs, hl, h => by
    rw [Nat.succ_mul] at hl
    have h1 := chunks (k := k) f n (cs.take (n * k)) (by rw [List.length_take]; omega) fun i hi => by
      have : i * k + k ≤ n * k := by rw [← Nat.succ_mul]; exact Nat.mul_le_mul_right _ hi
      rw [List.drop_take, List.take_take, Nat.min_eq_left (by omega)]
      exact h i (by omega)
    have h2 := h n (by omega)
    rw [List.take_of_length_le (by rw [List.length_drop]; omega)] at h2
    rw [List.range_succ, List.map_append, List.flatten_append, ← h1]
    simp only [List.map_cons, List.map_nil, List.flatten_cons, List.flatten_nil, List.append_nil]
    rw [← h2, List.take_append_drop]
theorem cells_of_pair {base : Nat} {sp : Nat → Bool} {held : Bool} {fuel : Nat} {e tf : TypeId} {fs : Array Field} {cs : List Value} {x : DataW H × List MemPlace} {a b : List UInt8}
    (he : P.underlying e = some (.struct fs)) (hs : fs.size = 2) (hf0 : (fs[0]?).map (fun f => (f.type, f.offset)) = some (tf, 0)) (hf1 : (fs[1]?).map (fun f => (f.type, f.offset)) = some (tf, 1))
    (htf : P.underlying tf = some .string) (hct : P.cellsOf tf = 1) (hce : P.cellsOf e = 2)
    (h : DataW.trod enc P W base sp held fuel e cs = some x) (hx : x.1 = .agg [.lit (.string a), .lit (.string b)]) : cs = [txtVal a, txtVal b] := by
  obtain ⟨xs, m, rfl, rfl, hl, hxl, hf⟩ := DataW.trod_struct he h
  rw [hce] at hl
  rw [hs] at hxl
  obtain ⟨u, v, rfl⟩ := list2 hl
  obtain ⟨x0, x1, rfl⟩ := list2 hxl
  obtain ⟨f0, g0, g1⟩ := Option.map_eq_some_iff.1 hf0
  obtain ⟨f1, g2, g3⟩ := Option.map_eq_some_iff.1 hf1
  simp only [Prod.mk.injEq] at g1 g3
  have h0 := hf 0 f0 g0
  have h1 := hf 1 f1 g2
  rw [g1.1, g1.2, hct] at h0
  rw [g3.1, g3.2, hct] at h1
  obtain ⟨s0, p0, q0, _⟩ := DataW.trod_string htf h0
  obtain ⟨s1, p1, q1, _⟩ := DataW.trod_string htf h1
  simp only [List.drop_zero, List.drop_succ_cons, List.take_succ_cons, List.take_zero, List.cons.injEq, and_true] at p0 p1
  subst p0 p1 q0 q1
  simp only [List.map_cons, List.map_nil, DataW.agg.injEq, List.cons.injEq, DataW.lit.injEq, Lit.string.injEq, and_true] at hx
  rw [txtVal_of hx.1, txtVal_of hx.2]
theorem cells_of_pairs {base : Nat} {sp : Nat → Bool} {held : Bool} {fuel : Nat} {t e tf : TypeId} {n : Nat} {fs : Array Field} {cs : List Value} {ps : List (List UInt8 × List UInt8)} {p : List MemPlace}
    (ht : P.underlying t = some (.array n e)) (he : P.underlying e = some (.struct fs)) (hs : fs.size = 2) (hf0 : (fs[0]?).map (fun f => (f.type, f.offset)) = some (tf, 0)) (hf1 : (fs[1]?).map (fun f => (f.type, f.offset)) = some (tf, 1))
    (htf : P.underlying tf = some .string) (hctf : P.cellsOf tf = 1) (hce : P.cellsOf e = 2) (hct : P.cellsOf t = n * 2)
    (h : DataW.trod enc P W base sp held fuel t cs = some (pairsData ps, p)) : cs = (ps.flatMap fun p => [p.1, p.2]).map txtVal := by
  obtain ⟨xs, m, rfl, hx, hl, hxl, hi⟩ := DataW.trod_array ht h
  rw [hct] at hl
  have hxs : xs.map (·.1) = ps.map fun p => (.agg [.lit (.string p.1), .lit (.string p.2)] : DataW H) := by
    have := congrArg Prod.fst hx
    simpa [pairsData] using this.symm
  have hpl : ps.length = n := by
    have := congrArg List.length hxs
    simp at this; omega
  have hc := chunks (fun i => match ps[i]? with | some p => [txtVal p.1, txtVal p.2] | none => []) n cs hl (fun i hin => by
    have h1 := hi i hin
    rw [hce] at h1
    have hxi : xs[i]? = some xs[i] := by simp [hxl, hin]
    have hpi : ps[i]? = some ps[i] := by simp [hpl, hin]
    rw [hxi] at h1
    have h2 := congrArg (·[i]?) hxs
    simp only [List.getElem?_map, hxi, hpi, Option.map_some, Option.some.injEq] at h2
    rw [hpi]
    exact cells_of_pair he hs hf0 hf1 htf hctf hce h1 h2)
  rw [hc, ← hpl]
  clear hc hi hxl hl hx hxs h hpl
  have key : ∀ qs : List (List UInt8 × List UInt8), ((List.range qs.length).map fun i => match qs[i]? with | some p => [txtVal p.1, txtVal p.2] | none => []) = qs.map fun p => [txtVal p.1, txtVal p.2] := fun qs => by
    apply List.ext_getElem?
    intro i
    by_cases hi : i < qs.length
    · simp [hi]
    · simp [hi]
  rw [key, List.map_flatMap, List.flatMap_def]
  rfl
end
end Go.Am

namespace Go.Proofs.Tryd
open Go.Am Go.ChangeShapes Go.WideShapes Go.ChangeAt Go.RowKit
open Go.Proofs.YthncngbmelgmaaaDoor
theorem bulkFn (H : Type) : BulkFn (H := H) Rows.uptoBulk Rows.uptoBulkAll :=
  ⟨fun _ => by simp only [Rows.uptoBulk], fun _ _ => by simp only [Rows.uptoBulk], fun _ => by simp only [Rows.uptoBulk], by simp only [Rows.uptoBulk], fun _ _ => by simp only [Rows.uptoBulk], fun _ => by simp only [Rows.uptoBulk], by simp only [Rows.uptoBulkAll], fun _ _ => by simp only [Rows.uptoBulkAll]⟩
theorem laid : laidOutB prog = true := by kernel_rfl
theorem rowed : mapsRowed prog = true := by kernel_rfl
theorem fulls : ((List.range prog.types.size).all fun t => match prog.underlying t with | some (.slice e) => decide (0 < prog.cellsOf e) | _ => true) = true := by kernel_rfl
theorem own : ownKnob prog.godebug = none := by kernel_rfl
def formsL : List (List UInt8) := formT.flatMap fun p => [p.1, p.2]
theorem formsL_cells : formsL.map V.str = formCells := by simp [formsL, formCells, formT]
theorem forms_data {H : Type} : (Rows.laid_clearance_command_forms : DataW H) = pairsData formT := rfl
theorem c86 : prog.cellsOf 86 = 16 * 2 := by kernel_rfl
theorem c56 : prog.cellsOf 56 = 2 := by kernel_rfl
theorem c9 : prog.cellsOf 9 = 1 := by kernel_rfl
theorem forms_at {W : World} (h : laidMetH prog Rows.commandReadsRow.laid W) : ∃ e, W.heap[0]? = some (.cells (formsL.map txtVal).toArray e (0, 0)) := by
  have h : laidMet prog Rows.commandReadsRow.laid W := h
  obtain ⟨ps, ⟨g, t, cs, fuel, p, q, hg, ht, hv, hd, _, hps⟩, _, hb⟩ := h
  have e1 : g = 0 := Option.some.inj (hg.symm.trans (by kernel_rfl : prog.globalNamed "clearance/command.forms" = some 0))
  subst e1
  have e2 : t = 86 := Option.some.inj (ht.symm.trans (by kernel_rfl : (prog.globals[0]?).map (·.type) = some 86))
  subst e2
  rw [forms_data] at hd
  have hcs := cells_of_pairs underlying86 underlying56 (by kernel_rfl) (by kernel_rfl) (by kernel_rfl) underlying9 c9 c56 c86 hd
  have hcs' : cs = (formsL.map txtVal).toArray := by rw [show formsL.map txtVal = cs.toList from hcs.symm]
  obtain ⟨⟨c, e, hc⟩, _⟩ := hb 0 0 (by
    rw [hps]
    refine List.mem_append_left _ (List.mem_append_left _ ?_)
    rw [hcs']
    simp [MemPlace.row, formsL, formT])
  refine ⟨e, ?_⟩
  rw [hc]
  simp only [World.var?, hg, Option.bind_some, hc, Option.some.injEq] at hv
  rw [hv, hcs']
noncomputable def laidWorld (os : Os) : World :=
  { World.holding prog os ⟨#[], #[], []⟩ with heap := (World.holding prog os ⟨#[], #[], []⟩).heap.modify 0 fun
      | .cells _ t frozen => .cells (formsL.map txtVal).toArray t frozen
      | o => o }
theorem reads (os : Os) {H : Type} (enc : TypeId × Value → H) : ∃ places, DataW.whole enc prog ((laidWorld os).forCall (fun _ _ => 0) ⟨#[], #[.string ⟨#[]⟩], []⟩).memory f3.params.toList Rows.commandReadsSpec.vars false #[Value.string ⟨#[]⟩].toList 8 = some ([.lit (.string [])], [], places) :=
  ⟨[], by kernel_rfl⟩
end Go.Proofs.Tryd

namespace Go.Am
open Go.ChangeShapes Go.WideShapes Go.ChangeAt Go.RowKit
def IntCom (W : World) (E : Env) : Prop := ∀ b, (∃ j k n, W.cell? ⟨b, j, none⟩ = some (.int k n)) → ∀ o, (E.role b).com o
def HasInt (l : List V) : Prop := ∃ (j : Nat) (k : IntKind) (n : Int), l[j]? = some (.int k n)
theorem envBox_com {W : World} {g : Nat} {ss : List (List UInt8)} {e : TypeId} (h : W.heap[g]? = some (.cells (ss.map txtVal).toArray e (0, 0))) : IntCom W (envBox W g) := by
  rintro b ⟨j, k, n, hc⟩ o
  have hb : b ≠ g := by
    rintro rfl
    simp only [World.cell?, h] at hc
    by_cases hj : j < ss.length
    · simp [hj, txtVal] at hc
    · simp [hj] at hc
  simp [envBox, hb, Role.com]
section
variable {H : Type} {enc : TypeId × Value → H} {P : Program} {W : World} {sp : Nat → Bool} {B : DataW H → Nat} {BA : List (DataW H) → Nat} {E : Env}
theorem rd_rowsE {α : Type} (ea : α → List V) (sz : α → Nat) {e : TypeId} {k n : Nat} (hB : BulkFn B BA) (hk : P.cellsOf e = k) (hlen : ∀ y, (ea y).length = k)
    (hel : ∀ cs x, DataW.trod enc P W 0 sp true n e cs = some x → ∃ y : α, RL E (ea y) cs ∧ (∀ v ∈ cs, v.oneCell' = true) ∧ sz y ≤ B x.1) (hw : E.w = W) (hnl : E.nl = E) (hcom : IntCom W E) (hint : ∀ y, HasInt (ea y)) {b o : Nat} :
    ∀ (els : List (DataW H × List MemPlace)) (i : Nat), (∀ j, j < els.length → (W.cells? 0 (Addr.add ⟨b, o, none⟩ ((i + j) * k)) k).bind (DataW.trod enc P W 0 sp true n e) = els[j]?) →
      ∃ l : List α, l.length = els.length ∧ REs E.nl k (l.map ea) b (o + i * k) ∧ (l.map sz).sum ≤ BA (els.map (·.1))
  | [], i, _ => ⟨[], rfl, by simp [REs], by simp⟩
  | x :: els, i, h => by
    obtain ⟨l, h1, h2, h3⟩ := rd_rowsE ea sz hB hk hlen hel hw hnl hcom hint els (i + 1) fun j hj => by
      have := h (j + 1) (by simp; omega)
      rw [show i + (j + 1) = i + 1 + j by omega] at this
      simpa using this
    have h0 := h 0 (by simp)
    simp only [Nat.add_zero, List.getElem?_cons_zero] at h0
    obtain ⟨cs, hc, hr⟩ := Option.bind_eq_some_iff.1 h0
    obtain ⟨y, k1, k2, k3⟩ := hel cs x hr
    obtain ⟨_, hl, hcell⟩ := World.cells?_some hc
    refine ⟨y :: l, by simp [h1], ?_, ?_⟩
    · simp only [List.map_cons, REs]
      have hat : ∀ (j : Nat) v, cs[j]? = some v → W.cell? ⟨b, o + i * k + j, none⟩ = some v := fun j v hv => by
        have hj : j < k := by have := (List.getElem?_eq_some_iff.1 hv).1; omega
        have := hcell j hj
        rw [addr_add, addr_add] at this
        rw [this, hv]
      obtain ⟨j0, kk, nn, hj0⟩ := hint y
      obtain ⟨u, hu, hRu⟩ := RL_get k1 j0 _ hj0
      simp only [R] at hRu
      have hcm := hcom b ⟨_, kk, nn, by rw [hat j0 u hu, hRu]⟩
      refine ⟨hlen y, RAs_mk (E := E.nl) (by rw [hnl]; exact k1) k2 (fun j v hv => ?_) (fun j _ => hcm _), by rw [show o + i * k + k = o + (i + 1) * k by rw [Nat.add_mul]; omega]; exact h2⟩
      show E.w.cell? _ = _
      rw [hw]; exact hat j v hv
    · simp only [List.map_cons, List.sum_cons, hB.cons]; omega
theorem rd_sliceE {α : Type} (ea : α → List V) (sz : α → Nat) {t e : TypeId} {k fuel : Nat} (hB : BulkFn B BA) (ht : P.underlying t = some (.slice e)) (hk : P.cellsOf e = k) (hpos : 0 < k) (hlen : ∀ y, (ea y).length = k) (hw : E.w = W) (hnl : E.nl = E) (hcom : IntCom W E) (hint : ∀ y, HasInt (ea y))
    (hel : ∀ n, n < fuel → ∀ cs x, DataW.trod enc P W 0 sp true n e cs = some x → ∃ y : α, RL E (ea y) cs ∧ (∀ v ∈ cs, v.oneCell' = true) ∧ sz y ≤ B x.1)
    {cs : List Value} {x : DataW H × List MemPlace} (h : DataW.trod enc P W 0 sp true fuel t cs = some x) :
    ∃ l : List α, RL E [.sl .no k (l.map ea)] cs ∧ (∀ v ∈ cs, v.oneCell' = true) ∧ (l.map sz).sum + 1 ≤ B x.1 := by
  rcases DataW.trod_slice ht h with ⟨rfl, rfl⟩ | ⟨a, len, cap, elems, rest, n, rfl, rfl, rfl, _, hle, _, hl, hels, _, _⟩
  · refine ⟨[], ?_, by simp [Value.oneCell'], by simp [hB.nil]⟩
    simp only [RL, R, List.map_nil, and_true]
    exact ⟨none, 0, rfl, by simp, by simp, trivial⟩
  · have ha : elems = [] ∨ ∃ b o, a = ⟨b, o, none⟩ := by
      cases elems with
      | nil => exact .inl rfl
      | cons y ys =>
        right
        have h0 := hels 0 (by rw [← hl]; simp)
        simp only [List.getElem?_cons_zero] at h0
        obtain ⟨cs', hc, _⟩ := Option.bind_eq_some_iff.1 h0
        obtain ⟨_, hl', hcell⟩ := World.cells?_some hc
        have h1 := hcell 0 (by rw [hk]; exact hpos)
        have h2 : cs'[0]? = some (cs'[0]'(by rw [hl', hk]; exact hpos)) := List.getElem?_eq_getElem _
        rw [h2] at h1
        obtain ⟨b, o, s⟩ := a
        refine ⟨b, o, ?_⟩
        simp only [World.cell?] at h1
        cases s with
        | none => rfl
        | some s =>
          split at h1
          · simp [Addr.add] at h1
          · simp at h1
    rcases ha with rfl | ⟨b, o, rfl⟩
    · refine ⟨[], ?_, by simp [Value.oneCell'], by simp [hB.slice]⟩
      simp only [List.length_nil] at hl
      subst hl
      simp only [RL, R, List.map_nil, and_true]
      exact ⟨some a, cap, rfl, by simp, by simp, trivial⟩
    · obtain ⟨l, h1, h2, h3⟩ := rd_rowsE (B := B) (BA := BA) (sp := sp) (enc := enc) (P := P) (W := W) (n := n) ea sz hB hk hlen (hel n (Nat.lt_succ_self n)) hw hnl hcom hint elems 0 (fun j hj => by
        have := hels j (by omega)
        rw [hk] at this
        rw [Nat.zero_add]; exact this)
      refine ⟨l, ?_, by simp [Value.oneCell'], ?_⟩
      · simp only [RL, R, List.length_map, and_true]
        exact ⟨some ⟨b, o, none⟩, cap, by rw [h1, hl], by omega, .inr ⟨b, o, rfl, by simpa using h2⟩, trivial⟩
      · rw [hB.slice]; omega
end
end Go.Am

namespace Go.Proofs.Tryd
open Go.Am Go.ChangeShapes Go.WideShapes Go.ChangeAt Go.RowKit
open Go.Proofs.YthncngbmelgmaaaDoor
set_option maxRecDepth 100000
theorem c3 : prog.cellsOf 3 = 1 := by kernel_rfl
theorem c24 : prog.cellsOf 24 = 2 := by kernel_rfl
theorem c25 : prog.cellsOf 25 = 1 := by kernel_rfl
theorem c26 : prog.cellsOf 26 = 1 := by kernel_rfl
theorem c27 : prog.cellsOf 27 = 1 := by kernel_rfl
theorem c29 : prog.cellsOf 29 = 5 := by kernel_rfl
theorem c31 : prog.cellsOf 31 = 17 := by kernel_rfl
theorem c63 : prog.cellsOf 63 = 4 := by kernel_rfl
theorem ln2 {α : Type} {l : List α} (h : l.length = 2) : ∃ a b, l = [a, b] := by
  match l, h with
  | [a, b], _ => exact ⟨a, b, rfl⟩
theorem ln4 {α : Type} {l : List α} (h : l.length = 4) : ∃ a b c d, l = [a, b, c, d] := by
  match l, h with
  | [a, b, c, d], _ => exact ⟨a, b, c, d, rfl⟩
theorem ln5 {α : Type} {l : List α} (h : l.length = 5) : ∃ a b c d e, l = [a, b, c, d, e] := by
  match l, h with
  | [a, b, c, d, e], _ => exact ⟨a, b, c, d, e, rfl⟩
theorem ln8 {α : Type} {l : List α} (h : l.length = 8) : ∃ a b c d e f g i, l = [a, b, c, d, e, f, g, i] := by
  match l, h with
  | [a, b, c, d, e, f, g, i], _ => exact ⟨a, b, c, d, e, f, g, i, rfl⟩
theorem ln17 {α : Type} {l : List α} (h : l.length = 17) : ∃ a0 a1 a2 a3 a4 a5 a6 a7 a8 a9 b0 b1 b2 b3 b4 b5 b6, l = [a0, a1, a2, a3, a4, a5, a6, a7, a8, a9, b0, b1, b2, b3, b4, b5, b6] := by
  match l, h with
  | [a0, a1, a2, a3, a4, a5, a6, a7, a8, a9, b0, b1, b2, b3, b4, b5, b6], _ => exact ⟨a0, a1, a2, a3, a4, a5, a6, a7, a8, a9, b0, b1, b2, b3, b4, b5, b6, rfl⟩
section
variable {H : Type} {enc : TypeId × Value → H} {W : World} {sp : Nat → Bool} {E : Env} (hw : E.w = W) (hnl : E.nl = E) (hcom : IntCom W E)
theorem RL_oneE {x : V} {v : Value} : RL E [x] [v] ↔ R E x v := by simp [RL]
theorem rd_intE {n : Nat} {cs : List Value} {x : DataW H × List MemPlace} (h : DataW.trod enc prog W 0 sp true n 3 cs = some x) :
    ∃ i : Int, RL E [.int .i64 i] cs ∧ (∀ v ∈ cs, v.oneCell' = true) ∧ Rows.uptoBulk x.1 = 1 := by
  obtain ⟨i, rfl, rfl, _⟩ := DataW.trod_int underlying3 h
  exact ⟨i, by simp [RL, R], by simp [Value.oneCell'], (bulkFn H).int _ _⟩
theorem rd_strE {n : Nat} {cs : List Value} {x : DataW H × List MemPlace} (h : DataW.trod enc prog W 0 sp true n 9 cs = some x) :
    ∃ s : List UInt8, RL E [.str s] cs ∧ (∀ v ∈ cs, v.oneCell' = true) ∧ s.length + 1 = Rows.uptoBulk x.1 := by
  obtain ⟨s, rfl, rfl, _⟩ := DataW.trod_string underlying9 h
  exact ⟨s.data.toList, by simp [RL, R], by simp [Value.oneCell'], ((bulkFn H).str _).symm⟩
theorem rd_wordE {n : Nat} {cs : List Value} {x : DataW H × List MemPlace} (h : DataW.trod enc prog W 0 sp true n 24 cs = some x) :
    ∃ w : Word, RL E w.enc cs ∧ (∀ v ∈ cs, v.oneCell' = true) ∧ w.text.length + 1 ≤ Rows.uptoBulk x.1 := by
  obtain ⟨xs, m, rfl, rfl, hl, hx, hf⟩ := DataW.trod_struct underlying24 h
  rw [c24] at hl
  obtain ⟨a, b, rfl⟩ := ln2 hl
  obtain ⟨x0, x1, rfl⟩ := ln2 hx
  have h0 : DataW.trod enc prog W 0 sp true m 9 ((([a, b] : List Value).drop 0).take (prog.cellsOf 9)) = some x0 := hf 0 _ rfl
  have h1 : DataW.trod enc prog W 0 sp true m 3 ((([a, b] : List Value).drop 1).take (prog.cellsOf 3)) = some x1 := hf 1 _ rfl
  rw [c9] at h0; rw [c3] at h1
  obtain ⟨s, r0, o0, b0⟩ := rd_strE (E := E) h0
  obtain ⟨j, r1, o1, b1⟩ := rd_intE (E := E) h1
  simp only [List.drop_zero, List.drop_succ_cons, List.take_succ_cons, List.take_zero, RL_oneE] at r0 r1 o0 o1
  refine ⟨⟨s, j⟩, ?_, ?_, ?_⟩
  · simp only [Word.enc, RL]; exact ⟨r0, r1, trivial⟩
  · intro v hv
    simp only [List.mem_cons, List.not_mem_nil, or_false] at hv o0 o1
    rcases hv with rfl | rfl
    · exact o0 _ rfl
    · exact o1 _ rfl
  · simp only [List.map_cons, List.map_nil, Rows.uptoBulk, Rows.uptoBulkAll]; omega
theorem word_int (w : Word) : HasInt w.enc := ⟨1, .i64, w.pos, rfl⟩
theorem pair_int (p : Word × Word) : HasInt (penc p) := ⟨1, .i64, p.1.pos, rfl⟩
theorem node_int (n : Nd) : HasInt n.enc := ⟨0, .i64, n.kind, by rw [Nd.enc_eq]; rfl⟩
include hw hnl hcom in
theorem rd_wordsE {n : Nat} {cs : List Value} {x : DataW H × List MemPlace} (h : DataW.trod enc prog W 0 sp true n 25 cs = some x) :
    ∃ l : List Word, RL E [.sl .no 2 (l.map Word.enc)] cs ∧ (∀ v ∈ cs, v.oneCell' = true) ∧ wsum l + 1 ≤ Rows.uptoBulk x.1 :=
  rd_sliceE (α := Word) Word.enc (fun w => w.text.length + 1) (bulkFn H) underlying25 c24 (by omega) (fun _ => Word.r_len) hw hnl hcom word_int (fun _ _ _ _ h => rd_wordE h) h
include hw hnl hcom in
theorem rd_pairsE {n : Nat} {cs : List Value} {x : DataW H × List MemPlace} (h : DataW.trod enc prog W 0 sp true n 26 cs = some x) :
    ∃ l : List (Word × Word), RL E [.sl .no 4 (l.map penc)] cs ∧ (∀ v ∈ cs, v.oneCell' = true) ∧ psum l + 1 ≤ Rows.uptoBulk x.1 := by
  refine rd_sliceE (α := Word × Word) penc (fun p => p.1.text.length + p.2.text.length + 2) (bulkFn H) underlying26 c63 (by omega) (fun _ => rfl) hw hnl hcom pair_int (fun m _ cs x h => ?_) h
  obtain ⟨xs, m, rfl, rfl, hl, hx, hf⟩ := DataW.trod_array underlying63 h
  rw [c63] at hl
  obtain ⟨a, b, c, d, rfl⟩ := ln4 hl
  obtain ⟨x0, x1, rfl⟩ := ln2 hx
  have h0 : DataW.trod enc prog W 0 sp true m 24 ((([a, b, c, d] : List Value).drop (0 * prog.cellsOf 24)).take (prog.cellsOf 24)) = some x0 := hf 0 (by omega)
  have h1 : DataW.trod enc prog W 0 sp true m 24 ((([a, b, c, d] : List Value).drop (1 * prog.cellsOf 24)).take (prog.cellsOf 24)) = some x1 := hf 1 (by omega)
  rw [c24] at h0 h1
  obtain ⟨w0, r0, o0, b0⟩ := rd_wordE (E := E) h0
  obtain ⟨w1, r1, o1, b1⟩ := rd_wordE (E := E) h1
  simp only [Nat.zero_mul, Nat.one_mul, List.drop_zero, List.drop_succ_cons, List.take_succ_cons, List.take_zero, Word.enc, RL] at r0 r1 o0 o1
  refine ⟨(w0, w1), ?_, ?_, ?_⟩
  · simp only [penc, RL]; exact ⟨r0.1, r0.2.1, r1.1, r1.2.1, trivial⟩
  · intro v hv
    simp only [List.mem_cons, List.not_mem_nil, or_false] at hv o0 o1
    rcases hv with rfl | rfl | rfl | rfl
    · exact o0 _ (.inl rfl)
    · exact o0 _ (.inr rfl)
    · exact o1 _ (.inl rfl)
    · exact o1 _ (.inr rfl)
  · simp only [List.map_cons, List.map_nil, Rows.uptoBulk, Rows.uptoBulkAll]; omega
include hw hnl hcom in
theorem rd_nodeE : ∀ (n : Nat) (cs : List Value) (x : DataW H × List MemPlace), DataW.trod enc prog W 0 sp true n 29 cs = some x →
    ∃ y : Nd, RL E y.enc cs ∧ (∀ v ∈ cs, v.oneCell' = true) ∧ y.wt + 1 ≤ Rows.uptoBulk x.1 := by
  intro n
  induction n using Nat.strongRecOn with
  | ind n ih =>
  intro cs x h
  obtain ⟨xs, m, hnm, rfl, hl, hx, hf⟩ := DataW.trod_struct underlying29 h
  rw [c29] at hl
  obtain ⟨a, b, c, d, e, rfl⟩ := ln5 hl
  obtain ⟨x0, x1, x2, x3, x4, rfl⟩ := ln5 hx
  have h0 : DataW.trod enc prog W 0 sp true m 3 ((([a, b, c, d, e] : List Value).drop 0).take (prog.cellsOf 3)) = some x0 := hf 0 _ rfl
  have h1 : DataW.trod enc prog W 0 sp true m 3 ((([a, b, c, d, e] : List Value).drop 1).take (prog.cellsOf 3)) = some x1 := hf 1 _ rfl
  have h2 : DataW.trod enc prog W 0 sp true m 9 ((([a, b, c, d, e] : List Value).drop 2).take (prog.cellsOf 9)) = some x2 := hf 2 _ rfl
  have h3 : DataW.trod enc prog W 0 sp true m 25 ((([a, b, c, d, e] : List Value).drop 3).take (prog.cellsOf 25)) = some x3 := hf 3 _ rfl
  have h4 : DataW.trod enc prog W 0 sp true m 27 ((([a, b, c, d, e] : List Value).drop 4).take (prog.cellsOf 27)) = some x4 := hf 4 _ rfl
  rw [c3] at h0 h1; rw [c9] at h2; rw [c25] at h3; rw [c27] at h4
  obtain ⟨i, r0, o0, b0⟩ := rd_intE (E := E) h0
  obtain ⟨j, r1, o1, b1⟩ := rd_intE (E := E) h1
  obtain ⟨s, r2, o2, b2⟩ := rd_strE (E := E) h2
  obtain ⟨ws, r3, o3, b3⟩ := rd_wordsE hw hnl hcom h3
  obtain ⟨ks, r4, o4, b4⟩ := rd_sliceE (α := Nd) Nd.enc (fun n => n.wt + 1) (bulkFn H) underlying27 c29 (by omega) (fun t => Nd.r_len) hw hnl hcom node_int (fun p hp cs x h => ih p (by omega) cs x h) h4
  rw [← wts_map] at b4
  simp only [List.drop_zero, List.drop_succ_cons, List.take_succ_cons, List.take_zero, RL_oneE] at r0 r1 r2 r3 r4 o0 o1 o2 o3 o4
  refine ⟨.mk i j s ws ks, ?_, ?_, ?_⟩
  · rw [Nd.enc_eq]; simp only [RL]; exact ⟨r0, r1, r2, r3, r4, trivial⟩
  · intro v hv
    simp only [List.mem_cons, List.not_mem_nil, or_false] at hv o0 o1 o2 o3 o4
    rcases hv with rfl | rfl | rfl | rfl | rfl
    · exact o0 _ rfl
    · exact o1 _ rfl
    · exact o2 _ rfl
    · exact o3 _ rfl
    · exact o4 _ rfl
  · simp only [List.map_cons, List.map_nil, Rows.uptoBulk, Rows.uptoBulkAll, Nd.wt]; omega
include hw hnl hcom in
theorem rd_cmdE {n : Nat} {cs : List Value} {x : DataW H × List MemPlace} (h : DataW.trod enc prog W 0 sp true n 31 cs = some x) :
    ∃ c : Cmd, RL E c.enc cs ∧ c.wt ≤ Rows.uptoBulk x.1 := by
  obtain ⟨xs, m, rfl, rfl, hl, hx, hf⟩ := DataW.trod_struct underlying31 h
  rw [c31] at hl
  obtain ⟨a0, a1, a2, a3, a4, a5, a6, a7, a8, a9, b0, b1, b2, b3, b4, b5, b6, rfl⟩ := ln17 hl
  obtain ⟨x0, x1, x2, x3, x4, x5, x6, x7, rfl⟩ := ln8 hx
  have h0 : DataW.trod enc prog W 0 sp true m 3 ((([a0, a1, a2, a3, a4, a5, a6, a7, a8, a9, b0, b1, b2, b3, b4, b5, b6] : List Value).drop 0).take (prog.cellsOf 3)) = some x0 := hf 0 _ rfl
  have h1 : DataW.trod enc prog W 0 sp true m 3 ((([a0, a1, a2, a3, a4, a5, a6, a7, a8, a9, b0, b1, b2, b3, b4, b5, b6] : List Value).drop 1).take (prog.cellsOf 3)) = some x1 := hf 1 _ rfl
  have h2 : DataW.trod enc prog W 0 sp true m 24 ((([a0, a1, a2, a3, a4, a5, a6, a7, a8, a9, b0, b1, b2, b3, b4, b5, b6] : List Value).drop 2).take (prog.cellsOf 24)) = some x2 := hf 2 _ rfl
  have h3 : DataW.trod enc prog W 0 sp true m 25 ((([a0, a1, a2, a3, a4, a5, a6, a7, a8, a9, b0, b1, b2, b3, b4, b5, b6] : List Value).drop 4).take (prog.cellsOf 25)) = some x3 := hf 3 _ rfl
  have h4 : DataW.trod enc prog W 0 sp true m 26 ((([a0, a1, a2, a3, a4, a5, a6, a7, a8, a9, b0, b1, b2, b3, b4, b5, b6] : List Value).drop 5).take (prog.cellsOf 26)) = some x4 := hf 4 _ rfl
  have h5 : DataW.trod enc prog W 0 sp true m 3 ((([a0, a1, a2, a3, a4, a5, a6, a7, a8, a9, b0, b1, b2, b3, b4, b5, b6] : List Value).drop 6).take (prog.cellsOf 3)) = some x5 := hf 5 _ rfl
  have h6 : DataW.trod enc prog W 0 sp true m 29 ((([a0, a1, a2, a3, a4, a5, a6, a7, a8, a9, b0, b1, b2, b3, b4, b5, b6] : List Value).drop 7).take (prog.cellsOf 29)) = some x6 := hf 6 _ rfl
  have h7 : DataW.trod enc prog W 0 sp true m 29 ((([a0, a1, a2, a3, a4, a5, a6, a7, a8, a9, b0, b1, b2, b3, b4, b5, b6] : List Value).drop 12).take (prog.cellsOf 29)) = some x7 := hf 7 _ rfl
  rw [c3] at h0 h1 h5; rw [c24] at h2; rw [c25] at h3; rw [c26] at h4; rw [c29] at h6 h7
  obtain ⟨op, r0, _, q0⟩ := rd_intE (E := E) h0
  obtain ⟨ps, r1, _, q1⟩ := rd_intE (E := E) h1
  obtain ⟨nm, r2, _, q2⟩ := rd_wordE (E := E) h2
  obtain ⟨ns, r3, _, q3⟩ := rd_wordsE hw hnl hcom h3
  obtain ⟨prs, r4, _, q4⟩ := rd_pairsE hw hnl hcom h4
  obtain ⟨pa, r5, _, q5⟩ := rd_intE (E := E) h5
  obtain ⟨ln, r6, _, q6⟩ := rd_nodeE hw hnl hcom _ _ _ h6
  obtain ⟨rn, r7, _, q7⟩ := rd_nodeE hw hnl hcom _ _ _ h7
  simp only [List.drop_zero, List.drop_succ_cons, List.take_succ_cons, List.take_zero, RL_oneE, Word.enc, Nd.enc_eq, RL, and_true] at r0 r1 r2 r3 r4 r5 r6 r7
  refine ⟨⟨op, ps, nm, ns, prs, pa, ln, rn⟩, ?_, ?_⟩
  · simp only [Cmd.enc, Cmd.encP, RL, and_true]
    exact ⟨r0, r1, r2.1, r2.2, r3, r4, r5, r6.1, r6.2.1, r6.2.2.1, r6.2.2.2.1, r6.2.2.2.2, r7.1, r7.2.1, r7.2.2.1, r7.2.2.2.1, r7.2.2.2.2⟩
  · simp only [List.map_cons, List.map_nil, Rows.uptoBulk, Rows.uptoBulkAll, Cmd.wt]; omega
end
end Go.Proofs.Tryd

namespace Go.Proofs.Tryd
open Go.Am Go.ChangeShapes Go.WideShapes Go.ChangeAt Go.RowKit
open Go.Proofs.YthncngbmelgmaaaDoor
theorem forms_at' {W : World} (h : laidMetH prog Rows.commandBackRow.laid W) : ∃ e, W.heap[0]? = some (.cells (formsL.map txtVal).toArray e (0, 0)) := forms_at h
set_option maxRecDepth 100000 in
theorem commandBack_contract (H : Type) (enc : TypeId × Value → H) (W : World) (base : Nat) (args : Array Value) (ds gs : List (DataW H)) (before : List MemPlace)
    (hval : ∀ (j : Nat) t v, f4.params[j]? = some t → args[j]? = some v → Value.okWide prog W .any base t v)
    (hW : DataW.Whole enc prog f4.params.toList Rows.commandBackSpec.vars false W args.toList ds gs before) (hk : Rows.uptoSmall H (ds ++ gs) = true) (hL : laidMetH prog Rows.commandBackRow.laid W) :
    Calls prog 4 args W fun e W' => ∃ v, e = .returned v ∧ Rows.commandBackSpec.post enc prog f4 false true false false W args v W' := by
  have hW' := hW
  obtain ⟨p, q, hA0, hV, rfl, hfz, hnd⟩ := hW
  have hA : DataW.TrodAll enc prog W 0 (fun _ => true) true f4.params.toList args.toList ds p := hA0
  rw [params4] at hA hval
  obtain ⟨v0, vs0, d0, ds0, p0, q0, hargs, rfl, rfl, ⟨n0, h0⟩, r0⟩ := trodAll_cons hA
  obtain ⟨rfl, rfl, rfl⟩ := trodAll_nil r0
  obtain rfl : args = #[v0] := by cases args; simp_all
  obtain ⟨rfl, rfl⟩ := trodVars_none hV
  obtain ⟨e, he⟩ := forms_at' hL
  obtain ⟨y0, a0, b0⟩ := rd_cmdE (E := envBox W 0) rfl rfl (envBox_com he) h0
  have hb : Rows.uptoBulkAll [d0] ≤ 1048576 := by
    have h := of_decide_eq_true hk
    rw [List.append_nil] at h
    exact h
  simp only [Rows.uptoBulkAll] at hb
  have k0 : y0.wt ≤ 1048576 := by
    simp only at b0
    omega
  simp only [List.append_nil] at hW'
  have hs := val_struct underlying31 (hval 0 31 v0 rfl rfl) a0
  refine law_callsG (commandBack_calls y0 (by rw [boxStore_box, formsL_cells]) k0) he ?_ laid rowed fulls rfl underlying4 (by rw [params4]; decide +kernel) rfl ⟨rfl, rfl, rfl⟩ hW'
  simp only [RL, and_true]
  exact hs
def zeroCmdV : Value := .agg #[.int .i64 0, .int .i64 0, .string ⟨#[]⟩, .int .i64 0, .slice none 0 0, .slice none 0 0, .int .i64 0, .int .i64 0, .int .i64 0, .string ⟨#[]⟩, .slice none 0 0, .slice none 0 0, .int .i64 0, .int .i64 0, .string ⟨#[]⟩, .slice none 0 0, .slice none 0 0]
theorem laid_met4 (os : Os) : laidMet prog Rows.commandBackRow.laid ((laidWorld os).forCall (fun _ _ => 0) ⟨#[], #[zeroCmdV], []⟩).memory :=
  laidMet_of_run' 8 (by kernel_rfl) (by kernel_rfl)
theorem reads4 (os : Os) {H : Type} (enc : TypeId × Value → H) : ∃ places, DataW.whole enc prog ((laidWorld os).forCall (fun _ _ => 0) ⟨#[], #[zeroCmdV], []⟩).memory f4.params.toList Rows.commandBackSpec.vars false #[zeroCmdV].toList 8 = some ([.agg [.lit (.int .i64 0), .lit (.int .i64 0), .agg [.lit (.string []), .lit (.int .i64 0)], .nil, .nil, .lit (.int .i64 0), .agg [.lit (.int .i64 0), .lit (.int .i64 0), .lit (.string []), .nil, .nil], .agg [.lit (.int .i64 0), .lit (.int .i64 0), .lit (.string []), .nil, .nil]]], [], places) :=
  ⟨[], by kernel_rfl⟩
set_option maxRecDepth 100000 in
theorem commandBack_lifted (os : Os) (started : os.Started) (H : Type) (enc : TypeId × Value → H) (F : Stop.Interp) :
    ReturnsInHanded {} checked os 4 .any ((Rows.OpenSpec.upto Rows.commandBackSpec).preRow enc prog f4 Rows.commandBackUptoRow.domain false Rows.commandBackUptoRow.laid) (((Rows.OpenSpec.upto Rows.commandBackSpec).at F).post enc prog f4 false true false false) := by
  obtain ⟨places, hx⟩   := reads4 os enc
  refine returnsInHanded_of_row (C := checked) (s := Rows.OpenSpec.upto Rows.commandBackSpec) own started (by kernel_rfl) func4
    (witness_row_at (enc := enc) (C := checked) false (laidWorld os) #[zeroCmdV] rfl (by kernel_rfl) (by kernel_rfl) (by kernel_rfl)
      (OpenSpec.preRow_of_cond 8 hx (by kernel_rfl) (fun k hk => by cases hk; kernel_rfl) (by kernel_rfl) (laid_met4 os))) ?_
  intro W base args ds gs before hval hW _ hcond _ hL _ _
  exact commandBack_contract H enc W base args ds gs before hval hW (hcond _ rfl) hL
theorem commandBack_proved : Rows.CommandBackUptoSaid :=
  OpenClaim.holds_of_cond 4 f4 rfl rfl rfl rfl rfl rfl rfl ⟨rfl, rfl, rfl, rfl, rfl⟩ rfl rfl rfl rfl rfl (by kernel_rfl) func4 (by kernel_rfl)
    (of_decide_eq_true (by kernel_rfl)) (by unfold Func.isWrapper; first | (rw [if_pos (by decide +kernel)]; kernel_rfl) | (rw [if_neg (by decide +kernel)]; exact ⟨rfl, rfl⟩))
    (fun os started H enc _ F => by rw [OpenClaim.pre_eq_preRow]; exact commandBack_lifted os started H enc F)
theorem commandBack_plain (f : FuncId) (fn : Func) (hf : YthncngbmelgmaaaDoor.Tryd.pinned.checked.prog.funcNamed "clearance/clearancelaw12.CommandBack" = some f) (hfn : YthncngbmelgmaaaDoor.Tryd.pinned.checked.prog.funcs[f]? = some fn) :
    false = YthncngbmelgmaaaDoor.Tryd.pinned.checked.prog.looks [] ∧ ∀ (j : Nat) t, fn.params[j]? = some t → YthncngbmelgmaaaDoor.Tryd.pinned.checked.prog.wantsStandIn t = false := by
  obtain rfl : f = 4 := Option.some.inj ((show prog.funcNamed "clearance/clearancelaw12.CommandBack" = some 4 by kernel_rfl).symm.trans hf) |>.symm
  obtain rfl : fn = f4 := (Option.some.inj (func4.symm.trans hfn)).symm
  refine ⟨by kernel_rfl, fun j t ht => ?_⟩
  rw [params4] at ht
  obtain rfl : t = 31 := by simpa using Array.mem_of_getElem? ht
  exact (show prog.wantsStandIn 31 = false by kernel_rfl)
theorem commandBack_card : Rows.CommandBackUptoCardSaid :=
  Claim7.holds_tied_plain_at .later [] _ _ _ _ commandBack_proved (fun _ h => by cases h) (by kernel_rfl) (fun _ h => by cases h) commandBackUpto_row_tie rfl ⟨rfl, rfl⟩ (by kernel_rfl) rfl commandBack_plain (by kernel_rfl)
end Go.Proofs.Tryd

namespace Go.Proofs.YthncngbmelgmaaaDoor
/-- For every command, where what comes in is of bulk at most 1048576: one that might have been read is read again of its text, if that is not too deep (clearancelaw12.CommandBack); the listed variable is tied to the program's text. -/
theorem commandBack_card_holds : Rows.CommandBackUptoCardSaid := Go.Proofs.Tryd.commandBack_card
end Go.Proofs.YthncngbmelgmaaaDoor
