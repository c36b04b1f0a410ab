/-
  For every scope, lattice number and label, where what comes in is of bulk at most 1048576: both readers make the same code of the label, and the example is alive.
-/
import Derived.Test.YtaddgcjnnpejjaaGreatDoorProg
import Derived.ProofKit
import Derived.OpenShut
import Derived.JoinedCond
import Derived.ChangeStays
import Derived.ReadAgain
import Derived.Deep.DeepHandedRow
import Derived.Lib.LaidTab
import Derived.Stop.LaidErr
import Derived.Test.YtaddgcjnnpejjaaGreatDoorCards
import Derived.Test.YtaddgcjnnpejjaaGreatDoorTie
import Derived.Test.YtaddgcjnnpejjaaGreatDoorCode6
set_option linter.unusedVariables false
set_option linter.unusedSimpArgs false
set_option linter.defProp false
set_option linter.unusedSectionVars false

namespace Go.Proofs.Tryz
open Go.Am
set_option maxRecDepth 4000
set_option maxHeartbeats 4000000
def ac28 : AC := .seq (.reg [⟨(some 2), .box 2 (.s 0), none⟩, ⟨(some 3), .box 5 (.s 1), none⟩, ⟨(some 4), .alloc elmZ, none⟩, ⟨(some 5), .alloc [(.int .i64 0), (.int .i64 0)], none⟩])
 (.seq (.reg [⟨(some 6), .alloc elmZ, none⟩])
 (.seq (.reg [xl 5 10 3, ⟨(some 11), .bslice 5 [(.s 10)], none⟩, xm 7 11])
 (.seq (.seq (.reg [xl 2 12 2, xc 29 13 [.s 12], ⟨(some 14), .not (.s 13), none⟩, xm 15 14, xh 15 (xl 5 16 3), xh 15 (xc 44 17 [.s 16]), ⟨(some 18), .not (.s 17), (some (15, false))⟩, ⟨(some 19), .pick (.s 15) (.c (.bool true)) (.s 18), none⟩])
 (.cond (.s 19) (.seq (.draw [(xl 8 20 6, []), (xf 1 21 3, []), (xo 22 21, [1]), (⟨(some 23), .build [(.int .i64 0), (.int .i64 0)] [(0, 1, (.c (.int .i64 4))), (1, 1, (.s 22))], none⟩, []), (xs 8 4 20, []), (xs 2 5 23, [])])
 (.ret))
 (.skip)))
 (.seq (.seq (.reg [xf 0 24 2, xo 25 24])
 (.cond (.s 25) (.seq (.seq (.reg [xf 0 26 3, xo 27 26, xB .neq 28 27 4, xm 29 28, xh 29 (xf 4 30 3), xh 29 (xo 31 30), xh 29 (xL 32 31), xh 29 (xf 1 33 2), xh 29 (xo 34 33), xh 29 (xL 35 34), xh 29 (xb .neq 36 32 35), ⟨(some 37), .pick (.s 29) (.c (.bool true)) (.s 36), none⟩])
 (.cond (.s 37) (.seq (.draw [(xl 8 38 6, []), (xf 1 39 3, []), (xo 40 39, [1]), (⟨(some 41), .build [(.int .i64 0), (.int .i64 0)] [(0, 1, (.c (.int .i64 4))), (1, 1, (.s 40))], none⟩, []), (xs 8 4 38, []), (xs 2 5 41, [])])
 (.ret))
 (.skip)))
 (.reg [xf 4 42 3, xo 43 42, xm 7 43]))
 (.skip)))
 (.seq (.seq (.reg [xi 8 0])
 (.block 0 (.loop (.seq (.seq (.reg [xm 44 8, xm 45 7, xL 46 45, xb .lss 47 44 46])
 (.cond (.s 47) (.skip)
 (.exit 0)))
 (.seq (.block 1 (.seq (.drawA [9] [(xf 1 50 2, []), (xo 51 50, []), (xm 52 8, []), (xA 67 53 51 52, []), (xl 67 54 53, []), (xm 55 7, []), (xm 56 8, []), (xA 5 57 55 56, []), (xl 5 58 57, []), (xc 45 59 [.s 54, .s 58], []), (⟨none, .mv (.c .any), none⟩, []), (⟨(some 9), .boxS 3 (.s 59), none⟩, [])])
 (.seq (.seq (.reg [xf 1 60 9, xo 61 60])
 (.cond (.s 61) (.seq (.draw [(⟨(some 62), .build elmZ [], none⟩, []), (xf 2 63 9, []), (xo 64 63, [1]), (⟨(some 65), .build [(.int .i64 0), (.int .i64 0)] [(0, 1, (.c (.int .i64 4))), (1, 1, (.s 64))], none⟩, []), (xs 8 4 62, []), (xs 2 5 65, [])])
 (.ret))
 (.skip)))
 (.reg [xm 66 8, xf 0 67 9, xo 68 67, ⟨(some 69), .idxP 8 1 (.s 6) (.s 66), none⟩, xs 1 69 68]))))
 (.reg [xm 48 8, xB .add 49 48 1, xm 8 49]))))))
 (.seq (.reg [xl 8 70 6, ⟨(some 71), .build [(.int .i64 0), (.int .i64 0)] [], none⟩, xs 8 4 70, xs 2 5 71])
 (.ret)))))))
theorem fn28 : IsFn prog 28 ac28 [.cell 4 true 8, .cell 5 true 2] 72 := ⟨f28, ⟨[], []⟩, func28, by kernel_rfl, by kernel_rfl, by kernel_rfl, by kernel_rfl⟩
def ac45 : AC := .seq (.reg [⟨(some 2), .box 67 (.s 0), none⟩, ⟨(some 3), .box 5 (.s 1), none⟩, ⟨(some 4), .alloc [(.int .u64 0), (.bool false), (.int .i64 0)], none⟩])
 (.seq (.reg [xf 1 9 3, xo 10 9, ⟨(some 11), .build [(.int .u64 0), (.bool false), (.int .i64 0)] [(1, 1, (.c (.bool true))), (2, 1, (.s 10))], none⟩, ⟨(some 5), .alloc [(.int .u64 0), (.bool false), (.int .i64 0)], none⟩, xs 3 5 11])
 (.seq (.seq (.reg [xf 0 12 2, xo 13 12, xB .eql 14 13 2])
 (.cond (.s 14) (.seq (.seq (.reg [xf 0 15 3, xo 16 15, xB .neq 17 16 3])
 (.cond (.s 17) (.seq (.reg [xl 3 18 5, xs 3 4 18])
 (.ret))
 (.skip)))
 (.seq (.reg [xf 1 19 2, xo 20 19, xf 3 21 3, xo 22 21, xc 66 23 [.s 20, .s 22], xs 3 4 23])
 (.ret)))
 (.skip)))
 (.seq (.seq (.reg [xf 0 24 2, xo 25 24, xB .eql 26 25 3])
 (.cond (.s 26) (.seq (.seq (.reg [xf 0 27 3, xo 28 27, xB .neq 29 28 5])
 (.cond (.s 29) (.seq (.reg [xl 3 30 5, xs 3 4 30])
 (.ret))
 (.skip)))
 (.seq (.reg [xl 67 31 2, xl 5 32 3, xc 67 33 [.s 31, .s 32], xs 3 4 33])
 (.ret)))
 (.skip)))
 (.seq (.reg [xf 1 34 2, xo 35 34, xf 2 36 3, xo 37 36, xc 48 38 [.s 35, .s 37], xm 6 38])
 (.seq (.seq (.reg [xf 0 39 3, xo 40 39, xB .neq 41 40 2, xm 42 41, xh 42 (xm 43 6), xh 42 (xB .lss 44 43 0), ⟨(some 45), .pick (.s 42) (.c (.bool true)) (.s 44), none⟩])
 (.cond (.s 45) (.seq (.reg [xl 3 46 5, xs 3 4 46])
 (.ret))
 (.skip)))
 (.seq (.seq (.reg [xf 0 47 2, xo 48 47, xB .eql 49 48 4])
 (.cond (.s 49) (.seq (.reg [xf 2 50 2, xl 65 51 50, xm 52 6, xc 56 53 [.s 51, .s 52], ⟨(some 54), .build [(.int .u64 0), (.bool false), (.int .i64 0)] [(0, 1, (.s 53))], none⟩, xs 3 4 54])
 (.ret))
 (.skip)))
 (.seq (.reg [xf 1 56 2, xo 57 56, xL 58 57, xm 59 6, xc 68 60 [.s 58, .s 59], xm 55 60, xe 61 55 0, xe 62 55 1, xm 7 61, xm 8 62])
 (.seq (.reg [xm 63 7, ⟨(some 64), .build [(.int .u64 0), (.bool false), (.int .i64 0)] [(0, 1, (.s 63))], none⟩, xs 3 4 64])
 (.ret)))))))))
theorem fn45 : IsFn prog 45 ac45 [.cell 4 true 3] 65 := ⟨f45, ⟨[], []⟩, func45, by kernel_rfl, by kernel_rfl, by kernel_rfl, by kernel_rfl⟩
def ac66 : AC := .seq (.reg [⟨(some 4), .alloc [(.int .u64 0), (.bool false), (.int .i64 0)], none⟩])
 (.seq (.reg [⟨(some 5), .mv (.c (.sl .full 1 [])), none⟩])
 (.seq (.seq (.reg [xi 6 0])
 (.block 0 (.loop (.seq (.seq (.reg [xm 8 6, xm 9 1, xL 10 9, xb .lss 11 8 10])
 (.cond (.s 11) (.skip)
 (.exit 0)))
 (.seq (.block 1 (.seq (.reg [xm 14 0, xm 15 1, xm 16 6, xA 2 17 15 16, xf 0 18 17, xo 19 18, xc 48 20 [.s 14, .s 19], xm 7 20])
 (.seq (.seq (.reg [xm 21 7, xB .lss 22 21 0])
 (.cond (.s 22) (.seq (.reg [xm 23 1, xm 24 6, xA 2 25 23 24, xf 1 26 25, xo 27 26, ⟨(some 28), .build [(.int .u64 0), (.bool false), (.int .i64 0)] [(1, 1, (.c (.bool true))), (2, 1, (.s 27))], none⟩, xs 3 4 28])
 (.ret))
 (.skip)))
 (.reg [xm 29 5, xm 30 7, ⟨(some 31), .bslice 1 [(.s 30)], none⟩, xa 1 32 29 31, xm 5 32]))))
 (.reg [xm 12 6, xB .add 13 12 1, xm 6 13]))))))
 (.seq (.reg [xm 33 5, xc 17 34 [.s 33], ⟨(some 35), .build [(.int .u64 0), (.bool false), (.int .i64 0)] [(0, 1, (.s 34))], none⟩, xs 3 4 35])
 (.ret))))
theorem fn66 : IsFn prog 66 ac66 [.cell 4 true 3] 36 := ⟨f66, ⟨[], []⟩, func66, by kernel_rfl, by kernel_rfl, by kernel_rfl, by kernel_rfl⟩
def ac67 : AC := .seq (.reg [⟨(some 2), .box 67 (.s 0), none⟩, ⟨(some 3), .box 5 (.s 1), none⟩, ⟨(some 4), .alloc [(.int .u64 0), (.bool false), (.int .i64 0)], none⟩])
 (.seq (.reg [⟨(some 5), .mv (.c (.int .u64 0)), none⟩])
 (.seq (.seq (.reg [xi 6 0])
 (.block 0 (.loop (.seq (.seq (.reg [xm 10 6, xf 4 11 3, xo 12 11, xL 13 12, xb .lss 14 10 13])
 (.cond (.s 14) (.skip)
 (.exit 0)))
 (.seq (.block 1 (.seq (.reg [xf 4 17 3, xo 18 17, xm 19 6, xA 5 20 18 19, xl 5 21 20, ⟨(some 7), .alloc [(.int .i64 0), (.int .i64 0), (.str []), (.sl .full 2 []), (.sl .full 5 [])], none⟩, xs 5 7 21])
 (.seq (.reg [xf 1 22 2, xo 23 22, xf 2 24 7, xo 25 24, xc 48 26 [.s 23, .s 25], xm 8 26])
 (.seq (.seq (.reg [xm 27 8, xB .lss 28 27 0])
 (.cond (.s 28) (.seq (.reg [xf 1 29 7, xo 30 29, ⟨(some 31), .build [(.int .u64 0), (.bool false), (.int .i64 0)] [(1, 1, (.c (.bool true))), (2, 1, (.s 30))], none⟩, xs 3 4 31])
 (.ret))
 (.skip)))
 (.seq (.reg [xf 1 32 2, xo 33 32, xf 3 34 7, xo 35 34, xc 66 36 [.s 33, .s 35], ⟨(some 9), .alloc [(.int .u64 0), (.bool false), (.int .i64 0)], none⟩, xs 3 9 36])
 (.seq (.seq (.reg [xf 1 37 9, xo 38 37])
 (.cond (.s 38) (.seq (.reg [xl 3 39 9, xs 3 4 39])
 (.ret))
 (.skip)))
 (.reg [xm 40 5, xf 2 41 2, xl 65 42 41, xm 43 8, xf 0 44 9, xo 45 44, xc 83 46 [.s 42, .s 43, .s 45], xb .or 47 40 46, xm 5 47])))))))
 (.reg [xm 15 6, xB .add 16 15 1, xm 6 16]))))))
 (.seq (.reg [xm 48 5, ⟨(some 49), .build [(.int .u64 0), (.bool false), (.int .i64 0)] [(0, 1, (.s 48))], none⟩, xs 3 4 49])
 (.ret))))
theorem fn67 : IsFn prog 67 ac67 [.cell 4 true 3] 50 := ⟨f67, ⟨[], []⟩, func67, by kernel_rfl, by kernel_rfl, by kernel_rfl, by kernel_rfl⟩
theorem rplaces_calls (l : List (List UInt8)) (ws : List Word) (σ : Store) (hl : l.length ≤ 100000) (hw : ws.length ≤ 100000) :
    PCalls prog 66 [.sl .no 1 (sCells l), .sl .no 2 (ws.map Word.enc)] σ fun v σ' => v = .agg (gotV (plcF l 0#64 ws)) ∧ σ' = σ := by
  refine fn66.calls ?_
  simp only [slots, ac66, z17_, Nat.reduceAdd, Nat.reduceEqDiff, Int.reduceEq, Int.reduceLT, Int.reduceLE, Nat.reduceLT, Int.reduceToNat, Nat.reduceMul, if_false, reduceCtorEq, List.length_map]
  obtain ⟨F, hF⟩ : ∃ F : Nat → List Int × Tk × Store → St, ∀ i x, F i x = ⟨[.sl .no 1 (sCells l), .sl .no 2 (ws.map Word.enc), .any, .any, .ptr (.loc 0) 0, .sl x.2.1 1 (iCells x.1), .int .i64 (i : Nat)] ++ List.replicate 29 .any, [[.int .u64 ((0#64 : B64).toNat : Nat), .bool false, .int .i64 0]], x.2.2⟩ := ⟨_, fun _ _ => rfl⟩
  obtain ⟨JF, hJF⟩ : ∃ JF : Nat → List Int × Tk × Store → Prop, ∀ i x, JF i x = (plcF l 0#64 ws = plcF l (ofB x.1) (ws.drop i) ∧ Gr σ x.2.2 x.2.1 x.1.length ∧ x.1.length = i) := ⟨_, fun _ _ => rfl⟩
  refine vc_count (ws.length) F JF _ hJF ?_ ?_ ?_
  · refine ent (([], .full, σ)) ?_ ?_ ?_ ?_
    · exact Eq.mpr (hJF _ _) (⟨rfl, Gr.nil, rfl⟩)
    all_goals simp [hF, List.replicate, am, lle_self, iCells]
  · rintro i ⟨L, tk, σ1⟩ hi ⟨hJ, hG, hL⟩
    rw [List.drop_eq_getElem_cons hi] at hJ
    simp only at hJ hG hL
    simp only [hF, List.replicate, z19_, dlt hi, Nat.reduceAdd, Nat.reduceEqDiff, Int.reduceEq, Int.reduceLT, Int.reduceLE, Nat.reduceLT, Int.reduceToNat, Nat.reduceMul, if_false, reduceCtorEq, List.length_map]
    refine idxL_intro (by omega) (wencs_at (List.getElem?_eq_getElem hi)) ?_
    simp only [z18_, Nat.reduceAdd, Nat.reduceEqDiff, List.length_map, Int.reduceEq, Int.reduceLT, Int.reduceLE, Nat.reduceLT, Int.reduceToNat, Nat.reduceMul, if_false, reduceCtorEq, Word.enc]
    refine (rfind_calls l ws[i].text σ1 hl).mono ?_
    rintro v σ1 ⟨rfl, rfl⟩
    simp only [z18_, Nat.reduceAdd, Nat.reduceEqDiff, List.length_map, Int.reduceEq, Int.reduceLT, Int.reduceLE, Nat.reduceLT, Int.reduceToNat, Nat.reduceMul, if_false, reduceCtorEq, optI_neg]
    cases hf : findS l ws[i].text with
    | none =>
      rw [plcF_fail hf] at hJ
      simp only [z18_, Nat.reduceAdd, Nat.reduceEqDiff, List.length_map, Int.reduceEq, Int.reduceLT, Int.reduceLE, Nat.reduceLT, Int.reduceToNat, Nat.reduceMul, if_false, reduceCtorEq, Option.isNone_none]
      refine idxL_intro (by omega) (wencs_at (List.getElem?_eq_getElem hi)) ?_
      simp only [z18_, Nat.reduceAdd, Nat.reduceEqDiff, List.length_map, Int.reduceEq, Int.reduceLT, Int.reduceLE, Nat.reduceLT, Int.reduceToNat, Nat.reduceMul, if_false, reduceCtorEq, Word.enc]
      exact retK_intro rfl hG.sub ⟨by rw [hJ]; rfl, rfl⟩
    | some k =>
      rw [plcF_step hf] at hJ
      simp only [z18_, Nat.reduceAdd, Nat.reduceEqDiff, List.length_map, Int.reduceEq, Int.reduceLT, Int.reduceLE, Nat.reduceLT, Int.reduceToNat, Nat.reduceMul, if_false, reduceCtorEq, Option.isNone_some, optI]
      refine Gr.app (by simpa [iCells] using hG) (by simp [iCells, big]; omega) fun tk' σ' hG' _ _ => ?_
      have e : ofB (L ++ [(k : Int)]) = withB (ofB L) (k : Nat) := by simp only [ofB, List.foldl_append, List.foldl_cons, List.foldl_nil]
      simp only [z18_, Nat.reduceAdd, Nat.reduceEqDiff, List.length_map, Int.reduceEq, Int.reduceLT, Int.reduceLE, Nat.reduceLT, Int.reduceToNat, Nat.reduceMul, if_false, reduceCtorEq, winc hi (by omega)]
      refine nxt ((L ++ [(k : Int)], tk', σ')) hi ?_ ?_ ?_ ?_
      · exact Eq.mpr (hJF _ _) (⟨by rw [e]; exact hJ, by simpa [iCells] using hG', by simp [hL]⟩)
      all_goals simp [hF, List.replicate, am, lle_self, iCells_snoc]
  · rintro ⟨L, tk, σ1⟩ ⟨hJ, hG, hL⟩
    rw [List.drop_length] at hJ
    simp only at hJ hG hL
    simp only [hF, List.replicate, z19_, dnl, Nat.reduceAdd, Nat.reduceEqDiff, Int.reduceEq, Int.reduceLT, Int.reduceLE, Nat.reduceLT, Int.reduceToNat, Nat.reduceMul, if_false, reduceCtorEq, List.length_map]
    refine PCalls.weak (as' := [.sl .no 1 (iCells L)]) ?_ ⟨VLe.no, trivial⟩ OLe.rfl
    refine (ref01_of_calls _ σ1 (by omega)).mono ?_
    rintro v σ1 ⟨rfl, rfl⟩
    simp only [z18_, Nat.reduceAdd, Nat.reduceEqDiff, List.length_map, Int.reduceEq, Int.reduceLT, Int.reduceLE, Nat.reduceLT, Int.reduceToNat, Nat.reduceMul, if_false, reduceCtorEq]
    exact retK_intro rfl hG.sub ⟨by rw [hJ]; rfl, rfl⟩
theorem rrules_calls (f : Fct) (n : Nd) (σ : Store) (hl : f.names.length ≤ 100000) (hk : n.kids.length ≤ 100000) (hw : ∀ k ∈ n.kids, k.names.length ≤ 100000) :
    PCalls prog 67 [.agg f.enc, .agg n.enc] σ fun v σ' => v = .agg (gotV (rulF f 0#64 n.kids)) ∧ σ' = σ := by
  refine fn67.calls ?_
  simp only [slots, ac67, z17_, Nat.reduceAdd, Nat.reduceEqDiff, Int.reduceEq, Int.reduceLT, Int.reduceLE, Nat.reduceLT, Int.reduceToNat, Nat.reduceMul, if_false, reduceCtorEq, List.length_map]
  obtain ⟨F, hF⟩ : ∃ F : Nat → B64 → St, ∀ i x, F i x = ⟨[.any, .any, .ptr (.loc 0) 0, .ptr (.loc 1) 0, .ptr (.loc 2) 0, .int .u64 (x.toNat : Nat), .int .i64 (i : Nat)] ++ List.replicate 43 .any, [f.enc, n.enc, [.int .u64 ((0#64 : B64).toNat : Nat), .bool false, .int .i64 0]], σ⟩ := ⟨_, fun _ _ => rfl⟩
  obtain ⟨JF, hJF⟩ : ∃ JF : Nat → B64 → Prop, ∀ i x, JF i x = (rulF f 0#64 n.kids = rulF f x (n.kids.drop i)) := ⟨_, fun _ _ => rfl⟩
  refine vc_count (n.kids.length) F JF _ hJF ?_ ?_ ?_
  · refine ent (0#64) ?_ ?_ ?_ ?_
    · exact Eq.mpr (hJF _ _) (rfl)
    all_goals simp [hF, List.replicate, am, lle_self]
  · rintro i x hi hJ
    rw [List.drop_eq_getElem_cons hi] at hJ
    simp only [hF, List.replicate, z19_, dlt hi, Nat.reduceAdd, Nat.reduceEqDiff, Int.reduceEq, Int.reduceLT, Int.reduceLE, Nat.reduceLT, Int.reduceToNat, Nat.reduceMul, if_false, reduceCtorEq, List.length_map]
    refine idxL_intro (by omega) (nencs_at (List.getElem?_eq_getElem hi)) ?_
    simp only [z18_, Nat.reduceAdd, Nat.reduceEqDiff, List.length_map, Int.reduceEq, Int.reduceLT, Int.reduceLE, Nat.reduceLT, Int.reduceToNat, Nat.reduceMul, if_false, reduceCtorEq]
    refine (rfind_calls f.names n.kids[i].text σ hl).mono ?_
    rintro v σ ⟨rfl, rfl⟩
    simp only [z18_, Nat.reduceAdd, Nat.reduceEqDiff, List.length_map, Int.reduceEq, Int.reduceLT, Int.reduceLE, Nat.reduceLT, Int.reduceToNat, Nat.reduceMul, if_false, reduceCtorEq, optI_neg]
    cases hf : findS f.names n.kids[i].text with
    | none =>
      simp only [rulF, hf] at hJ
      simp only [z18_, Nat.reduceAdd, Nat.reduceEqDiff, List.length_map, Int.reduceEq, Int.reduceLT, Int.reduceLE, Nat.reduceLT, Int.reduceToNat, Nat.reduceMul, if_false, reduceCtorEq, Option.isNone_none]
      exact retK_intro rfl (Store.sub_refl _) ⟨by rw [hJ]; rfl, rfl⟩
    | some k =>
      simp only [rulF, hf] at hJ
      simp only [z18_, Nat.reduceAdd, Nat.reduceEqDiff, List.length_map, Int.reduceEq, Int.reduceLT, Int.reduceLE, Nat.reduceLT, Int.reduceToNat, Nat.reduceMul, if_false, reduceCtorEq, Option.isNone_some, optI]
      refine (rplaces_calls f.names n.kids[i].names σ hl (hw _ (List.getElem_mem hi))).mono ?_
      rintro v σ ⟨rfl, rfl⟩
      cases hp : (plcF f.names 0#64 n.kids[i].names).2 with
      | some p =>
        simp only [hp] at hJ
        simp only [z18_, Nat.reduceAdd, Nat.reduceEqDiff, List.length_map, Int.reduceEq, Int.reduceLT, Int.reduceLE, Nat.reduceLT, Int.reduceToNat, Nat.reduceMul, if_false, reduceCtorEq, gotV, plcF_bad hp, Option.isSome_some, Option.getD_some]
        exact retK_intro rfl (Store.sub_refl _) ⟨by rw [hJ]; rfl, rfl⟩
      | none =>
        simp only [hp] at hJ
        simp only [z18_, Nat.reduceAdd, Nat.reduceEqDiff, List.length_map, Int.reduceEq, Int.reduceLT, Int.reduceLE, Nat.reduceLT, Int.reduceToNat, Nat.reduceMul, if_false, reduceCtorEq, gotV, hp, Option.isSome_none]
        refine (r5rule_calls f.rel k _ σ).mono ?_
        rintro v σ ⟨rfl, rfl⟩
        simp only [z18_, Nat.reduceAdd, Nat.reduceEqDiff, List.length_map, Int.reduceEq, Int.reduceLT, Int.reduceLE, Nat.reduceLT, Int.reduceToNat, Nat.reduceMul, if_false, reduceCtorEq, winc hi (by omega)]
        refine nxtD ((x ||| ruleG f.rel k (plcF f.names 0#64 n.kids[i].names).1)) hi ?_ ?_ ?_ ?_ ?_ ?_
        · exact Eq.mpr (hJF _ _) (hJ)
        all_goals simp [hF, List.replicate, am, lle_self, loL, loLL, V.lo, Fct.r_lo, Nd.r_lo]
  · rintro x hJ
    rw [List.drop_length] at hJ
    simp only [hF, List.replicate, z19_, dnl, Nat.reduceAdd, Nat.reduceEqDiff, Int.reduceEq, Int.reduceLT, Int.reduceLE, Nat.reduceLT, Int.reduceToNat, Nat.reduceMul, if_false, reduceCtorEq, List.length_map]
    exact retK_intro rfl (Store.sub_refl _) ⟨by rw [hJ]; rfl, rfl⟩
theorem rwrd_calls (f : Fct) (n : Nd) (σ : Store) (hl : f.names.length ≤ 100000) (hk : n.names.length ≤ 100000 ∧ n.kids.length ≤ 100000) (hw : ∀ k ∈ n.kids, k.names.length ≤ 100000) :
    PCalls prog 45 [.agg f.enc, .agg n.enc] σ fun v σ' => v = .agg (gotV (wrdF f n)) ∧ σ' = σ := by
  refine fn45.calls ?_
  simp only [slots, ac45, z17_, Nat.reduceAdd, Nat.reduceEqDiff, Int.reduceEq, Int.reduceLT, Int.reduceLE, Nat.reduceLT, Int.reduceToNat, Nat.reduceMul, if_false, reduceCtorEq, List.length_map]
  have fin : ∀ (g : B64 × Option Int) (t : List V) (l : List (List V)), wrdF f n = g → RetK (fun v σ' => v = V.agg (gotV (wrdF f n)) ∧ σ' = σ) ⟨t, l, σ⟩ (.agg [.int .u64 (g.1.toNat : Nat), .bool g.2.isSome, .int .i64 (g.2.getD 0)]) := fun g t l h => by
    rw [h]; exact retK_intro rfl (Store.sub_refl _) ⟨rfl, rfl⟩
  by_cases h2 : f.kind = 2
  · have ek : kindF f = 3 := by rw [kindF, if_pos h2]
    simp only [z18_, Nat.reduceAdd, Nat.reduceEqDiff, List.length_map, Int.reduceEq, Int.reduceLT, Int.reduceLE, Nat.reduceLT, Int.reduceToNat, Nat.reduceMul, if_false, reduceCtorEq, decide_eq_true h2]
    by_cases hq : n.kind = 3
    · simp only [z18_, Nat.reduceAdd, Nat.reduceEqDiff, List.length_map, Int.reduceEq, Int.reduceLT, Int.reduceLE, Nat.reduceLT, Int.reduceToNat, Nat.reduceMul, if_false, reduceCtorEq, decide_eq_true hq]
      refine (rplaces_calls f.names n.names σ hl hk.1).mono ?_
      rintro v σ ⟨rfl, rfl⟩
      simp only [z18_, Nat.reduceAdd, Nat.reduceEqDiff, List.length_map, Int.reduceEq, Int.reduceLT, Int.reduceLE, Nat.reduceLT, Int.reduceToNat, Nat.reduceMul, if_false, reduceCtorEq, gotV]
      exact fin _ _ _ (by rw [wrdF, ek, if_pos hq, if_pos h2])
    · simp only [z18_, Nat.reduceAdd, Nat.reduceEqDiff, List.length_map, Int.reduceEq, Int.reduceLT, Int.reduceLE, Nat.reduceLT, Int.reduceToNat, Nat.reduceMul, if_false, reduceCtorEq, decide_eq_false hq]
      exact fin (0#64, some n.pos) _ _ (by rw [wrdF, ek, if_neg hq])
  · simp only [z18_, Nat.reduceAdd, Nat.reduceEqDiff, List.length_map, Int.reduceEq, Int.reduceLT, Int.reduceLE, Nat.reduceLT, Int.reduceToNat, Nat.reduceMul, if_false, reduceCtorEq, decide_eq_false h2]
    by_cases h3 : f.kind = 3
    · have ek : kindF f = 5 := by rw [kindF, if_neg h2, if_pos h3]
      simp only [z18_, Nat.reduceAdd, Nat.reduceEqDiff, List.length_map, Int.reduceEq, Int.reduceLT, Int.reduceLE, Nat.reduceLT, Int.reduceToNat, Nat.reduceMul, if_false, reduceCtorEq, decide_eq_true h3]
      by_cases hq : n.kind = 5
      · simp only [z18_, Nat.reduceAdd, Nat.reduceEqDiff, List.length_map, Int.reduceEq, Int.reduceLT, Int.reduceLE, Nat.reduceLT, Int.reduceToNat, Nat.reduceMul, if_false, reduceCtorEq, decide_eq_true hq]
        refine (rrules_calls f n σ hl hk.2 hw).mono ?_
        rintro v σ ⟨rfl, rfl⟩
        simp only [z18_, Nat.reduceAdd, Nat.reduceEqDiff, List.length_map, Int.reduceEq, Int.reduceLT, Int.reduceLE, Nat.reduceLT, Int.reduceToNat, Nat.reduceMul, if_false, reduceCtorEq, gotV]
        exact fin _ _ _ (by rw [wrdF, ek, if_pos hq, if_neg h2, if_pos h3])
      · simp only [z18_, Nat.reduceAdd, Nat.reduceEqDiff, List.length_map, Int.reduceEq, Int.reduceLT, Int.reduceLE, Nat.reduceLT, Int.reduceToNat, Nat.reduceMul, if_false, reduceCtorEq, decide_eq_false hq]
        exact fin (0#64, some n.pos) _ _ (by rw [wrdF, ek, if_neg hq])
    · have ek : kindF f = 2 := by rw [kindF, if_neg h2, if_neg h3]
      simp only [z18_, Nat.reduceAdd, Nat.reduceEqDiff, List.length_map, Int.reduceEq, Int.reduceLT, Int.reduceLE, Nat.reduceLT, Int.reduceToNat, Nat.reduceMul, if_false, reduceCtorEq, decide_eq_false h3]
      refine (rfind_calls f.names n.text σ hl).mono ?_
      rintro v σ ⟨rfl, rfl⟩
      simp only [z18_, Nat.reduceAdd, Nat.reduceEqDiff, List.length_map, Int.reduceEq, Int.reduceLT, Int.reduceLE, Nat.reduceLT, Int.reduceToNat, Nat.reduceMul, if_false, reduceCtorEq]
      by_cases hq : n.kind = 2
      · have ew : wrdF f n = ptF f n := by rw [wrdF, ek, if_pos hq, if_neg h2, if_neg h3]
        simp only [z18_, Nat.reduceAdd, Nat.reduceEqDiff, List.length_map, Int.reduceEq, Int.reduceLT, Int.reduceLE, Nat.reduceLT, Int.reduceToNat, Nat.reduceMul, if_false, reduceCtorEq, decide_eq_true hq, optI_neg]
        cases hf : findS f.names n.text with
        | none =>
          simp only [z18_, Nat.reduceAdd, Nat.reduceEqDiff, List.length_map, Int.reduceEq, Int.reduceLT, Int.reduceLE, Nat.reduceLT, Int.reduceToNat, Nat.reduceMul, if_false, reduceCtorEq, Option.isNone_none]
          exact fin (0#64, some n.pos) _ _ (by rw [ew]; simp only [ptF, hf])
        | some k =>
          simp only [z18_, Nat.reduceAdd, Nat.reduceEqDiff, List.length_map, Int.reduceEq, Int.reduceLT, Int.reduceLE, Nat.reduceLT, Int.reduceToNat, Nat.reduceMul, if_false, reduceCtorEq, Option.isNone_some, optI]
          by_cases h4 : f.kind = 4
          · simp only [z18_, Nat.reduceAdd, Nat.reduceEqDiff, List.length_map, Int.reduceEq, Int.reduceLT, Int.reduceLE, Nat.reduceLT, Int.reduceToNat, Nat.reduceMul, if_false, reduceCtorEq, decide_eq_true h4]
            refine (rword6_calls f.rel k σ).mono ?_
            rintro v σ ⟨rfl, rfl⟩
            simp only [z18_, Nat.reduceAdd, Nat.reduceEqDiff, List.length_map, Int.reduceEq, Int.reduceLT, Int.reduceLE, Nat.reduceLT, Int.reduceToNat, Nat.reduceMul, if_false, reduceCtorEq]
            exact fin (belowH f.rel k, none) _ _ (by rw [ew]; simp only [ptF, hf, if_pos h4])
          · simp only [z18_, Nat.reduceAdd, Nat.reduceEqDiff, List.length_map, Int.reduceEq, Int.reduceLT, Int.reduceLE, Nat.reduceLT, Int.reduceToNat, Nat.reduceMul, if_false, reduceCtorEq, decide_eq_false h4]
            refine (r4word_calls f.names.length k σ).mono ?_
            rintro v σ ⟨rfl, rfl⟩
            simp only [z18_, Nat.reduceAdd, Nat.reduceEqDiff, List.length_map, Int.reduceEq, Int.reduceLT, Int.reduceLE, Nat.reduceLT, Int.reduceToNat, Nat.reduceMul, if_false, reduceCtorEq, wTup2]
            exact fin ((rungW (f.names.length : Nat) (k : Nat)).1, none) _ _ (by rw [ew]; simp only [ptF, hf, if_neg h4])
      · simp only [z18_, Nat.reduceAdd, Nat.reduceEqDiff, List.length_map, Int.reduceEq, Int.reduceLT, Int.reduceLE, Nat.reduceLT, Int.reduceToNat, Nat.reduceMul, if_false, reduceCtorEq, decide_eq_false hq]
        exact fin (0#64, some n.pos) _ _ (by rw [wrdF, ek, if_neg hq])
theorem relem_calls (s : Shp) (n : Nd) (σ : Store) (hok : s.ok) (hn : ∀ k ∈ partsF s n, k.names.length ≤ 100000 ∧ k.kids.length ≤ 100000 ∧ ∀ m ∈ k.kids, m.names.length ≤ 100000) (hwt : n.wt ≤ big) :
    PCalls prog 28 [.agg s.enc, .agg n.enc] σ fun v σ' => v = .tup [.agg (elemF s n).1.enc, .agg (fltV (elemF s n).2)] ∧ σ' = σ := by
  refine fn28.calls ?_
  simp only [slots, ac28, z17_, Nat.reduceAdd, Nat.reduceEqDiff, Int.reduceEq, Int.reduceLT, Int.reduceLE, Nat.reduceLT, Int.reduceToNat, Nat.reduceMul, if_false, reduceCtorEq, List.length_map]
  refine (rshright_calls s σ hok).mono ?_
  rintro v σ ⟨rfl, rfl⟩
  have done : ∀ (e : Elm × Option Int) (t : List V) (l : List (List V)), e = elemF s n → RetK (fun v σ' => v = V.tup [.agg (elemF s n).1.enc, .agg (fltV (elemF s n).2)] ∧ σ' = σ) ⟨t, l, σ⟩ (.tup [.agg e.1.enc, .agg (fltV e.2)]) := fun e t l he => by
    subst he
    exact retK_intro (by simp [V.nol, nolL, Elm.r_nol, fltV]) (Store.sub_refl _) ⟨by simp [V.erase, eraseL, Elm.r_er, fltV], rfl⟩
  cases hr : shpR s with
  | false =>
    simp only [z18_, Nat.reduceAdd, Nat.reduceEqDiff, List.length_map, Int.reduceEq, Int.reduceLT, Int.reduceLE, Nat.reduceLT, Int.reduceToNat, Nat.reduceMul, if_false, reduceCtorEq]
    exact done (.zero, some n.pos) _ _ (elemF_no (by rw [hr]; simp)).symm
  | true =>
    simp only [z18_, Nat.reduceAdd, Nat.reduceEqDiff, List.length_map, Int.reduceEq, Int.reduceLT, Int.reduceLE, Nat.reduceLT, Int.reduceToNat, Nat.reduceMul, if_false, reduceCtorEq]
    refine (const2_calls _ n σ (Nat.le_refl _) hwt).mono ?_
    rintro v σ ⟨rfl, rfl⟩
    cases hc : n.constQ with
    | false =>
      simp only [z18_, Nat.reduceAdd, Nat.reduceEqDiff, List.length_map, Int.reduceEq, Int.reduceLT, Int.reduceLE, Nat.reduceLT, Int.reduceToNat, Nat.reduceMul, if_false, reduceCtorEq]
      exact done (.zero, some n.pos) _ _ (elemF_no (by rw [hc]; simp)).symm
    | true =>
      obtain ⟨hl1, hl8, hlt⟩ := shpR_len hr
      simp only [z18_, Nat.reduceAdd, Nat.reduceEqDiff, List.length_map, Int.reduceEq, Int.reduceLT, Int.reduceLE, Nat.reduceLT, Int.reduceToNat, Nat.reduceMul, if_false, reduceCtorEq]
      have hbad : s.tuple = true → (n.kind ≠ 4 ∨ n.kids.length ≠ s.facs.length) → (.zero, some n.pos) = elemF s n := fun h1 h2 => (elemF_no (by
        have : partsQ s n = false := by
          rcases h2 with h2 | h2 <;> simp [partsQ, h1, h2]
        rw [this]; rfl)).symm
      cases ht : s.tuple
      case' true =>
        simp only [z18_, Nat.reduceAdd, Nat.reduceEqDiff, List.length_map, Int.reduceEq, Int.reduceLT, Int.reduceLE, Nat.reduceLT, Int.reduceToNat, Nat.reduceMul, if_false, reduceCtorEq]
        by_cases h4 : n.kind = 4
        case' neg =>
          simp only [z18_, Nat.reduceAdd, Nat.reduceEqDiff, List.length_map, Int.reduceEq, Int.reduceLT, Int.reduceLE, Nat.reduceLT, Int.reduceToNat, Nat.reduceMul, if_false, reduceCtorEq, decide_eq_false h4]
          exact done (.zero, some n.pos) _ _ (hbad ht (.inl h4))
        by_cases hkl : n.kids.length = s.facs.length
        case' neg =>
          simp only [z18_, Nat.reduceAdd, Nat.reduceEqDiff, List.length_map, Int.reduceEq, Int.reduceLT, Int.reduceLE, Nat.reduceLT, Int.reduceToNat, Nat.reduceMul, if_false, reduceCtorEq, decide_eq_true h4, decide_eq_false (show ¬ (n.kids.length : Int) = s.facs.length by omega)]
          exact done (.zero, some n.pos) _ _ (hbad ht (.inr hkl))
        have hp : partsQ s n = true := by simp [partsQ, ht, h4, hkl]
        simp only [z18_, Nat.reduceAdd, Nat.reduceEqDiff, List.length_map, Int.reduceEq, Int.reduceLT, Int.reduceLE, Nat.reduceLT, Int.reduceToNat, Nat.reduceMul, if_false, reduceCtorEq, decide_eq_true h4, decide_eq_true (show (n.kids.length : Int) = s.facs.length by omega)]
      case' false =>
        have hp : partsQ s n = true := by simp [partsQ, ht]
        simp only [z18_, Nat.reduceAdd, Nat.reduceEqDiff, List.length_map, Int.reduceEq, Int.reduceLT, Int.reduceLE, Nat.reduceLT, Int.reduceToNat, Nat.reduceMul, if_false, reduceCtorEq]
      all_goals
        have hgo := elemF_go hp hr hc
        have hpl := parts_len hp hr
        obtain ⟨F, hF⟩ : ∃ F : Nat → Unit → St, ∀ i x, F i x = ⟨[.any, .any, .ptr (.loc 0) 0, .any, .ptr (.loc 2) 0, .ptr (.loc 3) 0, .ptr (.loc 4) 0, .sl .no 5 ((partsF s n).map Nd.enc), .int .i64 (i : Nat)] ++ List.replicate 63 .any, [s.enc, n.enc, Elm.zero.enc, [.int .i64 0, .int .i64 0], (Elm.of fun j => if j < i then (wrdI s (partsF s n) j).1 else 0#64).enc], σ⟩ := ⟨_, fun _ _ => rfl⟩
        obtain ⟨JF, hJF⟩ : ∃ JF : Nat → Unit → Prop, ∀ i x, JF i x = (∀ k, k < i → (wrdI s (partsF s n) k).2 = none) := ⟨_, fun _ _ => rfl⟩
        refine vc_count (s.facs.length) F JF _ hJF ?_ ?_ ?_
        · refine ent (()) ?_ ?_ ?_ ?_
          · exact Eq.mpr (hJF _ _) (by intro k h; omega)
          all_goals simp [hF, List.replicate, am, lle_self, Elm.zero_of, partsF, ht]
        · rintro i x hi hJ
          have hip : i < (partsF s n).length := by omega
          have h8 : i < 8 := by omega
          have hw : wrdI s (partsF s n) i = wrdF s.facs[i] (partsF s n)[i] := by rw [wrdI, getD_at hi, getD_at hip]
          have hnd := hn _ (List.getElem_mem hip)
          simp only [hF, List.replicate, z19_, dlt hi, Nat.reduceAdd, Nat.reduceEqDiff, Int.reduceEq, Int.reduceLT, Int.reduceLE, Nat.reduceLT, Int.reduceToNat, Nat.reduceMul, if_false, reduceCtorEq, List.length_map, hpl]
          refine idxL_intro (by omega) (facs_at hi) ?_
          simp only [z18_, Nat.reduceAdd, Nat.reduceEqDiff, List.length_map, Int.reduceEq, Int.reduceLT, Int.reduceLE, Nat.reduceLT, Int.reduceToNat, Nat.reduceMul, if_false, reduceCtorEq]
          refine idxL_intro (by omega) (nencs_at (List.getElem?_eq_getElem hip)) ?_
          simp only [z18_, Nat.reduceAdd, Nat.reduceEqDiff, List.length_map, Int.reduceEq, Int.reduceLT, Int.reduceLE, Nat.reduceLT, Int.reduceToNat, Nat.reduceMul, if_false, reduceCtorEq]
          refine CallD.intro (rwrd_calls s.facs[i] (partsF s n)[i] σ (hok.2 _ (List.getElem_mem hi)) ⟨hnd.1, hnd.2.1⟩ hnd.2.2) ?_
          rw [← hw]
          simp only [z18_, Nat.reduceAdd, Nat.reduceEqDiff, List.length_map, Int.reduceEq, Int.reduceLT, Int.reduceLE, Nat.reduceLT, Int.reduceToNat, Nat.reduceMul, if_false, reduceCtorEq, gotV]
          cases hb : (wrdI s (partsF s n) i).2 with
          | some p =>
            simp only [z18_, Nat.reduceAdd, Nat.reduceEqDiff, List.length_map, Int.reduceEq, Int.reduceLT, Int.reduceLE, Nat.reduceLT, Int.reduceToNat, Nat.reduceMul, if_false, reduceCtorEq, Option.isSome_some, Option.getD_some]
            exact done (.zero, some p) _ _ (by rw [hgo]; exact (elmGo_bad hi hJ hb).symm)
          | none =>
            simp only [z18_, Nat.reduceAdd, Nat.reduceEqDiff, List.length_map, Int.reduceEq, Int.reduceLT, Int.reduceLE, Nat.reduceLT, Int.reduceToNat, Nat.reduceMul, if_false, reduceCtorEq, Option.isSome_none]
            refine idxPL_ptr (by omega) (by omega) ?_
            simp only [z18_, Nat.reduceAdd, Nat.reduceEqDiff, List.length_map, Int.reduceEq, Int.reduceLT, Int.reduceLE, Nat.reduceLT, Int.reduceToNat, Nat.reduceMul, if_false, reduceCtorEq, Elm.u_has h8, Elm.u_st h8, elm_fillI, winc hi (by omega)]
            refine nxtD (()) hi ?_ ?_ ?_ ?_ ?_ ?_
            · exact Eq.mpr (hJF _ _) (allS hJ hb)
            all_goals simp [hF, List.replicate, am, lle_self, loL, loLL, V.lo, Shp.r_lo, Nd.r_lo, Elm.r_lo]
        · rintro x hJ
          simp only [hF, List.replicate, z19_, dnl, Nat.reduceAdd, Nat.reduceEqDiff, Int.reduceEq, Int.reduceLT, Int.reduceLE, Nat.reduceLT, Int.reduceToNat, Nat.reduceMul, if_false, reduceCtorEq, List.length_map, hpl]
          exact done (_, none) _ _ (by rw [hgo]; exact (elmGo_ok hJ).symm)
end Go.Proofs.Tryz

namespace Go.Proofs.Tryz
open Go.Am
set_option maxRecDepth 4000
set_option maxHeartbeats 4000000
def ac11 : AC := .seq (.reg [⟨(some 4), .mv (.c (.bool false)), none⟩])
 (.seq (.seq (.reg [xm 6 0, xL 7 6, xm 8 1, xL 9 8, xb .neq 10 7 9])
 (.cond (.s 10) (.seq (.reg [⟨(some 4), .mv (.c (.bool false)), none⟩])
 (.ret))
 (.skip)))
 (.seq (.seq (.reg [xi 5 0])
 (.block 0 (.loop (.seq (.seq (.reg [xm 11 5, xm 12 0, xL 13 12, xb .lss 14 11 13])
 (.cond (.s 14) (.skip)
 (.exit 0)))
 (.seq (.block 1 (.seq (.draw [(xm 17 0, []), (xm 18 5, []), (xA 10 19 17 18, []), (xl 10 20 19, []), (xm 21 1, []), (xm 22 5, []), (xA 10 23 21 22, []), (xl 10 24 23, []), (⟨(some 25), .eqA true [1, 1, 1, 1, 1, 1, 1, 1, 1, 1] (.s 20) (.s 24), none⟩, [])])
 (.cond (.s 25) (.seq (.reg [⟨(some 4), .mv (.c (.bool false)), none⟩])
 (.ret))
 (.skip))))
 (.reg [xm 15 5, xB .add 16 15 1, xm 5 16]))))))
 (.seq (.reg [⟨(some 4), .mv (.c (.bool true)), none⟩])
 (.ret))))
theorem fn11 : IsFn prog 11 ac11 [.tmp 4] 26 := ⟨f11, ⟨[], []⟩, func11, by kernel_rfl, by kernel_rfl, by kernel_rfl, by kernel_rfl⟩
def ac25 : AC := .seq (.reg [⟨(some 3), .box 2 (.s 0), none⟩, ⟨(some 5), .box 5 (.s 2), none⟩, ⟨(some 6), .alloc insZ, none⟩, ⟨(some 7), .mv (.c (.bool false)), none⟩])
 (.seq (.seq (.reg [xf 0 10 5, xo 11 10, xB .eql 12 11 1])
 (.cond (.s 12) (.seq (.reg [xl 2 13 3, xm 14 1, xf 2 15 5, xo 16 15, xc 41 17 [.s 13, .s 14, .s 16], xe 18 17 0, xe 19 17 1, xs 10 6 18, xm 7 19])
 (.ret))
 (.skip)))
 (.seq (.drawA [8, 9] [(xf 0 21 3, []), (xo 22 21, []), (xm 23 1, []), (xA 3 24 22 23, []), (xf 1 25 24, []), (xl 2 26 25, []), (xf 4 27 5, []), (xo 28 27, []), (⟨(some 29), .idxA 5 (.s 28) (.c (.int .i64 0)), none⟩, []), (xl 5 30 29, []), (xc 42 31 [.s 26, .s 30], []), (xm 20 31, []), (xe 32 20 0, []), (xe 33 20 1, []), (⟨none, .mv (.c .any), none⟩, []), (⟨none, .mv (.c .any), none⟩, []), (⟨(some 8), .boxS 8 (.s 32), none⟩, []), (⟨(some 9), .boxS 2 (.s 33), none⟩, [])])
 (.seq (.draw [(xl 8 34 8, []), (⟨(some 35), .build insZ [(0, 1, (.c (.int .i64 2))), (2, 8, (.s 34))], none⟩, []), (xf 0 36 9, []), (xo 37 36, [1]), (xB .eql 38 37 0, []), (xs 10 6 35, []), (xm 7 38, [])])
 (.ret))))
theorem fn25 : IsFn prog 25 ac25 [.cell 6 true 10, .tmp 7] 39 := ⟨f25, ⟨[], []⟩, func25, by kernel_rfl, by kernel_rfl, by kernel_rfl, by kernel_rfl⟩
def ac27 : AC := .seq (.reg [⟨(some 2), .box 2 (.s 0), none⟩, xi 4 0])
 (.seq (.seq (.reg [xi 5 0])
 (.block 0 (.loop (.seq (.seq (.reg [xm 6 5, xf 1 7 2, xo 8 7, xL 9 8, xb .lss 10 6 9])
 (.cond (.s 10) (.skip)
 (.exit 0)))
 (.seq (.block 1 (.seq (.reg [xf 1 13 2, xo 14 13, xm 15 5, xA 3 16 14 15, xf 0 17 16, xo 18 17, xm 19 1, ⟨(some 20), .binS .eql (.s 18) (.s 19), none⟩])
 (.cond (.s 20) (.seq (.reg [xm 21 5, xm 4 21])
 (.ret))
 (.skip))))
 (.reg [xm 11 5, xB .add 12 11 1, xm 5 12]))))))
 (.seq (.reg [xi 4 (-1)])
 (.ret)))
theorem fn27 : IsFn prog 27 ac27 [.tmp 4] 22 := ⟨f27, ⟨[], []⟩, func27, by kernel_rfl, by kernel_rfl, by kernel_rfl, by kernel_rfl⟩
def ac41 : AC := .seq (.reg [⟨(some 3), .box 2 (.s 0), none⟩, ⟨(some 6), .alloc insZ, none⟩, ⟨(some 7), .mv (.c (.bool false)), none⟩])
 (.seq (.reg [xl 2 11 3, xm 12 2, xc 61 13 [.s 11, .s 12], xm 10 13, xe 14 10 0, xe 15 10 1, xm 8 14, xm 9 15])
 (.seq (.seq (.reg [xm 16 9, xB .lss 17 16 0, xm 18 17, xh 18 (xf 1 19 3), xh 18 (xo 20 19), xh 18 (xm 21 9), xh 18 (xA 3 22 20 21), xh 18 (xf 1 23 22), xh 18 (xo 24 23), xh 18 (xB .neq 25 24 1), ⟨(some 26), .pick (.s 18) (.c (.bool true)) (.s 25), none⟩, xm 27 26, xh 27 (xf 1 28 3), xh 27 (xo 29 28), xh 27 (xm 30 9), xh 27 (xA 3 31 29 30), xh 27 (xf 2 32 31), xh 27 (xo 33 32), xh 27 (xm 34 1), xh 27 (xb .neq 35 33 34), ⟨(some 36), .pick (.s 27) (.c (.bool true)) (.s 35), none⟩])
 (.cond (.s 36) (.seq (.reg [⟨(some 37), .build insZ [], none⟩, xs 10 6 37, ⟨(some 7), .mv (.c (.bool false)), none⟩])
 (.ret))
 (.skip)))
 (.seq (.reg [xm 38 9, ⟨(some 39), .build insZ [(0, 1, (.c (.int .i64 1))), (1, 1, (.s 38))], none⟩, xs 10 6 39, ⟨(some 7), .mv (.c (.bool true)), none⟩])
 (.ret))))
theorem fn41 : IsFn prog 41 ac41 [.cell 6 true 10, .tmp 7] 40 := ⟨f41, ⟨[], []⟩, func41, by kernel_rfl, by kernel_rfl, by kernel_rfl, by kernel_rfl⟩
def ac61 : AC := .seq (.reg [⟨(some 2), .box 2 (.s 0), none⟩, xi 4 0, xi 5 0])
 (.seq (.reg [xi 6 (-1), xi 7 (-1)])
 (.seq (.seq (.reg [xf 0 10 2, xo 11 10, xL 12 11, xi 13 0])
 (.block 0 (.loop (.seq (.reg [xb .lss 14 13 12])
 (.seq (.cond (.s 14) (.skip)
 (.exit 0))
 (.seq (.block 1 (.seq (.reg [xm 15 13, xm 8 15])
 (.seq (.reg [xm 16 6, xB .lss 17 16 0, xm 18 17, xg 18 (xf 0 19 2), xg 18 (xo 20 19), xg 18 (xm 21 8), xg 18 (xA 3 22 20 21), xg 18 (xf 0 23 22), xg 18 (xo 24 23), xg 18 (xm 25 1), ⟨(some 26), .binS .eql (.s 24) (.s 25), (some (18, true))⟩, ⟨(some 27), .pick (.s 18) (.s 26) (.c (.bool false)), none⟩])
 (.cond (.s 27) (.reg [xm 28 8, xm 6 28])
 (.skip)))))
 (.reg [xB .add 29 13 1, xm 13 29])))))))
 (.seq (.seq (.reg [xf 1 30 2, xo 31 30, xL 32 31, xi 33 0])
 (.block 2 (.loop (.seq (.reg [xb .lss 34 33 32])
 (.seq (.cond (.s 34) (.skip)
 (.exit 2))
 (.seq (.block 3 (.seq (.reg [xm 35 33, xm 9 35])
 (.seq (.reg [xm 36 7, xB .lss 37 36 0, xm 38 37, xg 38 (xf 1 39 2), xg 38 (xo 40 39), xg 38 (xm 41 9), xg 38 (xA 3 42 40 41), xg 38 (xf 0 43 42), xg 38 (xo 44 43), xg 38 (xm 45 1), ⟨(some 46), .binS .eql (.s 44) (.s 45), (some (38, true))⟩, ⟨(some 47), .pick (.s 38) (.s 46) (.c (.bool false)), none⟩])
 (.cond (.s 47) (.reg [xm 48 9, xm 7 48])
 (.skip)))))
 (.reg [xB .add 49 33 1, xm 33 49])))))))
 (.seq (.reg [xm 50 6, xm 51 7, xm 4 50, xm 5 51])
 (.ret)))))
theorem fn61 : IsFn prog 61 ac61 [.tmp 4, .tmp 5] 52 := ⟨f61, ⟨[], []⟩, func61, by kernel_rfl, by kernel_rfl, by kernel_rfl, by kernel_rfl⟩
theorem lats_at {l : List Ltc} {j : Nat} (h : j < l.length) : (l.map Ltc.enc)[((j : Nat) : Int).toNat]? = some l[j].enc := by simp [h]
theorem vars_at {l : List Vrb} {j : Nat} (h : j < l.length) : (l.map Vrb.enc)[((j : Nat) : Int).toNat]? = some l[j].enc := by simp [h]
def z20_ := And.intro @am <| And.intro @amo <| And.intro @amc <| And.intro @ams <| And.intro @decide_true <| And.intro @decide_false <| And.intro @aml <| And.intro @Rl.rec_ <| And.intro @Fct.rec_ <| And.intro @Shp.rec_ <| And.intro @Elm.rec_ <| And.intro @Word.rec_ <| And.intro @Nd.rec_ <| And.intro @Nd.fl <| And.intro @Scp.rec_ <| And.intro @Ins.rec_ <| And.intro @Int.toNat_natCast <| And.intro @Nat.mul_one @Nat.add_zero
def z21_ := And.intro @am <| And.intro @amo <| And.intro @amc <| And.intro @aml <| And.intro @decide_true <| And.intro @decide_false <| And.intro @Rl.rec_ <| And.intro @Fct.rec_ <| And.intro @Shp.rec_ <| And.intro @Elm.rec_ <| And.intro @Word.rec_ <| And.intro @Nd.rec_ <| And.intro @Nd.fl <| And.intro @Scp.rec_ <| And.intro @Ins.rec_ <| And.intro @Int.toNat_natCast <| And.intro @Nat.mul_one @Nat.add_zero
def z22_ := And.intro @am <| And.intro @amo <| And.intro @amc <| And.intro @encs_length <| And.intro @decide_true <| And.intro @decide_false <| And.intro @aml <| And.intro @Rl.rec_ <| And.intro @Fct.rec_ <| And.intro @Shp.rec_ <| And.intro @Elm.rec_ <| And.intro @Word.rec_ <| And.intro @Nd.rec_ <| And.intro @Nd.fl <| And.intro @Scp.rec_ <| And.intro @Ins.rec_ <| And.intro @Int.toNat_natCast <| And.intro @Nat.mul_one @Nat.add_zero
theorem scfind_calls (s : Scp) (t : List UInt8) (σ : Store) (h1 : s.lats.length ≤ 100000) (h2 : s.vars.length ≤ 100000) :
    PCalls prog 61 [.agg s.enc, .str t] σ fun v σ' => v = .tup [.int .i64 (optI (findL s.lats t)), .int .i64 (optI (findV s.vars t))] ∧ σ' = σ := by
  refine fn61.calls ?_
  simp only [slots, ac61, z20_, Nat.reduceAdd, Nat.reduceEqDiff, Int.reduceEq, Int.reduceLT, Int.reduceLE, Nat.reduceLT, Int.reduceToNat, Nat.reduceMul, if_false, reduceCtorEq, List.length_map]
  rw [findL, findV]
  generalize hpL : nameL s.lats t = pL
  generalize hpV : nameV s.vars t = pV
  have eL : ∀ i (hi : i < s.lats.length), pL i = decide (s.lats[i].name = t) := fun i hi => by rw [← hpL]; simp only [nameL, List.getElem?_eq_getElem hi]
  have eV : ∀ i (hi : i < s.vars.length), pV i = decide (s.vars[i].name = t) := fun i hi => by rw [← hpV]; simp only [nameV, List.getElem?_eq_getElem hi]
  obtain ⟨F, hF⟩ : ∃ F : Nat → Unit → St, ∀ i x, F i x = ⟨[.any, .str t, .ptr (.loc 0) 0, .any, .any, .any, .int .i64 (optI ((List.range i).find? pL)), .int .i64 (-1), .any, .any, .any, .sl .no 3 (s.lats.map Ltc.enc), .int .i64 (s.lats.length : Nat), .int .i64 (i : Nat)] ++ List.replicate 38 .any, [s.enc], σ⟩ := ⟨_, fun _ _ => rfl⟩
  obtain ⟨JF, hJF⟩ : ∃ JF : Nat → Unit → Prop, ∀ i x, JF i x = (True) := ⟨_, fun _ _ => rfl⟩
  refine vc_count (s.lats.length) F JF _ hJF ?_ ?_ ?_
  · refine ent (()) ?_ ?_ ?_ ?_
    · exact Eq.mpr (hJF _ _) (trivial)
    all_goals simp [hF, List.replicate, am, lle_self, optI]
  · rintro i x hi -
    simp only [hF, List.replicate, z21_, dlt hi, Nat.reduceAdd, Nat.reduceEqDiff, Int.reduceEq, Int.reduceLT, Int.reduceLE, Nat.reduceLT, Int.reduceToNat, Nat.reduceMul, if_false, reduceCtorEq, List.length_map, optI_neg]
    cases hf : (List.range i).find? pL with
    | some k =>
      simp only [z22_, Nat.reduceAdd, Nat.reduceEqDiff, List.length_map, Int.reduceEq, Int.reduceLT, Int.reduceLE, Nat.reduceLT, Int.reduceToNat, Nat.reduceMul, if_false, reduceCtorEq, Option.isNone_some, winc hi (by omega)]
      refine nxt (()) hi ?_ ?_ ?_ ?_
      · exact Eq.mpr (hJF _ _) (trivial)
      all_goals simp [hF, List.replicate, am, lle_self, List.range_succ, List.find?_append, hf]
    | none =>
      simp only [z22_, Nat.reduceAdd, Nat.reduceEqDiff, List.length_map, Int.reduceEq, Int.reduceLT, Int.reduceLE, Nat.reduceLT, Int.reduceToNat, Nat.reduceMul, if_false, reduceCtorEq, Option.isNone_none]
      refine idxL_intro (by omega) (lats_at hi) ?_
      simp only [z22_, Nat.reduceAdd, Nat.reduceEqDiff, List.length_map, Int.reduceEq, Int.reduceLT, Int.reduceLE, Nat.reduceLT, Int.reduceToNat, Nat.reduceMul, if_false, reduceCtorEq]
      rw [← eL i hi]
      cases hb : pL i with
      | false =>
        simp only [z22_, Nat.reduceAdd, Nat.reduceEqDiff, List.length_map, Int.reduceEq, Int.reduceLT, Int.reduceLE, Nat.reduceLT, Int.reduceToNat, Nat.reduceMul, if_false, reduceCtorEq, winc hi (by omega)]
        refine nxt (()) hi ?_ ?_ ?_ ?_
        · exact Eq.mpr (hJF _ _) (trivial)
        all_goals simp [hF, List.replicate, am, lle_self, List.range_succ, List.find?_append, hf, hb]
      | true =>
        simp only [z22_, Nat.reduceAdd, Nat.reduceEqDiff, List.length_map, Int.reduceEq, Int.reduceLT, Int.reduceLE, Nat.reduceLT, Int.reduceToNat, Nat.reduceMul, if_false, reduceCtorEq, winc hi (by omega)]
        refine nxt (()) hi ?_ ?_ ?_ ?_
        · exact Eq.mpr (hJF _ _) (trivial)
        all_goals simp [hF, List.replicate, am, lle_self, List.range_succ, List.find?_append, hf, hb, optI]
  · rintro x -
    simp only [hF, List.replicate, z21_, dnl, Nat.reduceAdd, Nat.reduceEqDiff, Int.reduceEq, Int.reduceLT, Int.reduceLE, Nat.reduceLT, Int.reduceToNat, Nat.reduceMul, if_false, reduceCtorEq, List.length_map]
    clear hF hJF F JF
    obtain ⟨F, hF⟩ : ∃ F : Nat → Unit → St, ∀ i x, F i x = ⟨[.any, .str t, .ptr (.loc 0) 0, .any, .any, .any, .int .i64 (optI ((List.range s.lats.length).find? pL)), .int .i64 (optI ((List.range i).find? pV)), .any, .any, .any, .any, .any, .any, .any, .any, .any, .any, .any, .any, .any, .any, .any, .any, .any, .any, .any, .any, .any, .any, .any, .sl .no 3 (s.vars.map Vrb.enc), .int .i64 (s.vars.length : Nat), .int .i64 (i : Nat)] ++ List.replicate 18 .any, [s.enc], σ⟩ := ⟨_, fun _ _ => rfl⟩
    obtain ⟨JF, hJF⟩ : ∃ JF : Nat → Unit → Prop, ∀ i x, JF i x = (True) := ⟨_, fun _ _ => rfl⟩
    refine vc_count (s.vars.length) F JF _ hJF ?_ ?_ ?_
    · refine ent (()) ?_ ?_ ?_ ?_
      · exact Eq.mpr (hJF _ _) (trivial)
      all_goals simp [hF, List.replicate, am, lle_self, optI]
    · rintro i x hi -
      simp only [hF, List.replicate, z21_, dlt hi, Nat.reduceAdd, Nat.reduceEqDiff, Int.reduceEq, Int.reduceLT, Int.reduceLE, Nat.reduceLT, Int.reduceToNat, Nat.reduceMul, if_false, reduceCtorEq, List.length_map, optI_neg]
      cases hf : (List.range i).find? pV with
      | some k =>
        simp only [z22_, Nat.reduceAdd, Nat.reduceEqDiff, List.length_map, Int.reduceEq, Int.reduceLT, Int.reduceLE, Nat.reduceLT, Int.reduceToNat, Nat.reduceMul, if_false, reduceCtorEq, Option.isNone_some, winc hi (by omega)]
        refine nxt (()) hi ?_ ?_ ?_ ?_
        · exact Eq.mpr (hJF _ _) (trivial)
        all_goals simp [hF, List.replicate, am, lle_self, List.range_succ, List.find?_append, hf]
      | none =>
        simp only [z22_, Nat.reduceAdd, Nat.reduceEqDiff, List.length_map, Int.reduceEq, Int.reduceLT, Int.reduceLE, Nat.reduceLT, Int.reduceToNat, Nat.reduceMul, if_false, reduceCtorEq, Option.isNone_none]
        refine idxL_intro (by omega) (vars_at hi) ?_
        simp only [z22_, Nat.reduceAdd, Nat.reduceEqDiff, List.length_map, Int.reduceEq, Int.reduceLT, Int.reduceLE, Nat.reduceLT, Int.reduceToNat, Nat.reduceMul, if_false, reduceCtorEq]
        rw [← eV i hi]
        cases hb : pV i with
        | false =>
          simp only [z22_, Nat.reduceAdd, Nat.reduceEqDiff, List.length_map, Int.reduceEq, Int.reduceLT, Int.reduceLE, Nat.reduceLT, Int.reduceToNat, Nat.reduceMul, if_false, reduceCtorEq, winc hi (by omega)]
          refine nxt (()) hi ?_ ?_ ?_ ?_
          · exact Eq.mpr (hJF _ _) (trivial)
          all_goals simp [hF, List.replicate, am, lle_self, List.range_succ, List.find?_append, hf, hb]
        | true =>
          simp only [z22_, Nat.reduceAdd, Nat.reduceEqDiff, List.length_map, Int.reduceEq, Int.reduceLT, Int.reduceLE, Nat.reduceLT, Int.reduceToNat, Nat.reduceMul, if_false, reduceCtorEq, winc hi (by omega)]
          refine nxt (()) hi ?_ ?_ ?_ ?_
          · exact Eq.mpr (hJF _ _) (trivial)
          all_goals simp [hF, List.replicate, am, lle_self, List.range_succ, List.find?_append, hf, hb, optI]
    · rintro x -
      simp only [hF, List.replicate, z21_, dnl, Nat.reduceAdd, Nat.reduceEqDiff, Int.reduceEq, Int.reduceLT, Int.reduceLE, Nat.reduceLT, Int.reduceToNat, Nat.reduceMul, if_false, reduceCtorEq, List.length_map]
      refine retK_intro rfl (Store.sub_refl _) ⟨?_, rfl⟩
      simp [V.erase, eraseL]
theorem findV_at {l : List Vrb} {t : List UInt8} {k : Nat} (h : findV l t = some k) : k < l.length := (find_lt h).1
def insT (o : Option Ins) : V := .tup [.agg (match o with | some i => i | none => Ins.zero).enc, .bool o.isSome]
theorem variable_calls (s : Scp) (lat : Nat) (t : List UInt8) (σ : Store) (h1 : s.lats.length ≤ 100000) (h2 : s.vars.length ≤ 100000) :
    PCalls prog 41 [.agg s.enc, .int .i64 (lat : Nat), .str t] σ fun v σ' => v = insT (varF s lat t) ∧ σ' = σ := by
  refine fn41.calls ?_
  simp only [slots, ac41, z20_, Nat.reduceAdd, Nat.reduceEqDiff, Int.reduceEq, Int.reduceLT, Int.reduceLE, Nat.reduceLT, Int.reduceToNat, Nat.reduceMul, if_false, reduceCtorEq, List.length_map]
  have no : ∀ (u : List V) (l : List (List V)), varF s lat t = none → RetK (fun v σ' => v = insT (varF s lat t) ∧ σ' = σ) ⟨u, l, σ⟩ (.tup [.agg Ins.zero.enc, .bool false]) := fun u l h => by
    rw [h]; exact retK_intro (by simp [V.nol, nolL, Ins.r_nol]) (Store.sub_refl _) ⟨by simp [insT, V.erase, eraseL, Ins.r_er], rfl⟩
  refine (scfind_calls s t σ h1 h2).mono ?_
  rintro v σ ⟨rfl, rfl⟩
  simp only [z22_, Nat.reduceAdd, Nat.reduceEqDiff, List.length_map, Int.reduceEq, Int.reduceLT, Int.reduceLE, Nat.reduceLT, Int.reduceToNat, Nat.reduceMul, if_false, reduceCtorEq, optI_neg]
  cases hf : findV s.vars t with
  | none =>
    simp only [z22_, Nat.reduceAdd, Nat.reduceEqDiff, List.length_map, Int.reduceEq, Int.reduceLT, Int.reduceLE, Nat.reduceLT, Int.reduceToNat, Nat.reduceMul, if_false, reduceCtorEq, Option.isNone_none]
    exact no _ _ (by simp only [varF, hf])
  | some k =>
    have hk := findV_at hf
    have hv : s.vars[k]? = some s.vars[k] := List.getElem?_eq_getElem hk
    simp only [z22_, Nat.reduceAdd, Nat.reduceEqDiff, List.length_map, Int.reduceEq, Int.reduceLT, Int.reduceLE, Nat.reduceLT, Int.reduceToNat, Nat.reduceMul, if_false, reduceCtorEq, Option.isNone_some, optI]
    refine idxL_intro (by omega) (vars_at hk) ?_
    simp only [z22_, Nat.reduceAdd, Nat.reduceEqDiff, List.length_map, Int.reduceEq, Int.reduceLT, Int.reduceLE, Nat.reduceLT, Int.reduceToNat, Nat.reduceMul, if_false, reduceCtorEq]
    by_cases e1 : s.vars[k].kind = 1
    · simp only [z22_, Nat.reduceAdd, Nat.reduceEqDiff, List.length_map, Int.reduceEq, Int.reduceLT, Int.reduceLE, Nat.reduceLT, Int.reduceToNat, Nat.reduceMul, if_false, reduceCtorEq, decide_eq_true e1]
      refine idxL_intro (by omega) (vars_at hk) ?_
      simp only [z22_, Nat.reduceAdd, Nat.reduceEqDiff, List.length_map, Int.reduceEq, Int.reduceLT, Int.reduceLE, Nat.reduceLT, Int.reduceToNat, Nat.reduceMul, if_false, reduceCtorEq]
      by_cases e2 : s.vars[k].lat = (lat : Nat)
      · have e : varF s lat t = some ⟨1, k, .zero⟩ := by simp only [varF, hf, hv]; rw [if_pos ⟨e1, e2⟩]
        simp only [z22_, Nat.reduceAdd, Nat.reduceEqDiff, List.length_map, Int.reduceEq, Int.reduceLT, Int.reduceLE, Nat.reduceLT, Int.reduceToNat, Nat.reduceMul, if_false, reduceCtorEq, decide_eq_true e2]
        exact retK_intro (by simp [V.nol, nolL, Ins.r_nol]) (Store.sub_refl _) ⟨by simp [e, insT, V.erase, eraseL, Ins.r_er, Ins.zero], rfl⟩
      · simp only [z22_, Nat.reduceAdd, Nat.reduceEqDiff, List.length_map, Int.reduceEq, Int.reduceLT, Int.reduceLE, Nat.reduceLT, Int.reduceToNat, Nat.reduceMul, if_false, reduceCtorEq, decide_eq_false e2]
        exact no _ _ (by simp only [varF, hf, hv]; rw [if_neg (fun h => e2 h.2)])
    · simp only [z22_, Nat.reduceAdd, Nat.reduceEqDiff, List.length_map, Int.reduceEq, Int.reduceLT, Int.reduceLE, Nat.reduceLT, Int.reduceToNat, Nat.reduceMul, if_false, reduceCtorEq, decide_eq_false e1]
      exact no _ _ (by simp only [varF, hf, hv]; rw [if_neg (fun h => e1 h.1)])
theorem shapeF_at {s : Scp} {lat : Nat} (h : lat < s.lats.length) : shapeF s lat = s.lats[lat].shape := by simp only [shapeF, List.getElem?_eq_getElem h]
theorem leafF_ok {s : Scp} {lat : Nat} {n : Nd} (h1 : n.kind ≠ 1) {e : Elm} (he : elemF (shapeF s lat) (n.kids.getD 0 nd0) = (e, none)) : leafF s lat n = some ⟨2, 0, e⟩ := by rw [leafF, if_neg h1, he]
theorem leafF_bad {s : Scp} {lat : Nat} {n : Nd} (h1 : n.kind ≠ 1) {e : Elm} {p : Int} (he : elemF (shapeF s lat) (n.kids.getD 0 nd0) = (e, some p)) : leafF s lat n = none := by rw [leafF, if_neg h1, he]
theorem parts_ok {s : Shp} {n : Nd} (hc : n.cnt ≤ 100000) : ∀ k ∈ partsF s n, k.names.length ≤ 100000 ∧ k.kids.length ≤ 100000 ∧ ∀ m ∈ k.kids, m.names.length ≤ 100000 := by
  intro k hk
  have hkc : k.cnt ≤ n.cnt := by
    unfold partsF at hk
    split at hk
    · exact Nat.le_of_lt (cnt_kid hk)
    · rw [List.mem_singleton.1 hk]; exact Nat.le_refl _
  have h1 := cnt_names k
  have h2 := cnt_kids k
  refine ⟨by omega, by omega, fun m hm => ?_⟩
  have := cnt_kid hm
  have := cnt_names m
  omega
theorem parts_Ok {s : Shp} {n : Nd} (hc : n.cnt ≤ 100000) : ∀ k ∈ partsF s n, Nd.ok k := fun k hk => by
  obtain ⟨h1, h2, h3⟩ := parts_ok hc k hk
  exact ⟨by omega, by omega, fun m hm => by have := h3 m hm; omega⟩
theorem leaf_calls14 (s : Scp) (lat : Nat) (n : Nd) {σ : Store} (hg : TZ σ) (hs : s.ok) (hlat : lat < s.lats.length) (hc : n.cnt ≤ 100000) (hw : n.wt ≤ big) (hl : n.labelQ = true) (hk : n.kind = 1 ∨ n.kind = 7) :
    PCalls prog 25 [.agg s.enc, .int .i64 (lat : Nat), .agg n.enc] σ fun v σ' => (∃ i : Ins, v = .tup [.agg i.enc, .bool (leafF s lat n).isSome] ∧ ∀ j, leafF s lat n = some j → i = j) ∧ σ' = σ := by
  refine fn25.calls ?_
  simp only [slots, ac25, z20_, Nat.reduceAdd, Nat.reduceEqDiff, Int.reduceEq, Int.reduceLT, Int.reduceLE, Nat.reduceLT, Int.reduceToNat, Nat.reduceMul, if_false, reduceCtorEq, List.length_map]
  by_cases h1 : n.kind = 1
  · simp only [z22_, Nat.reduceAdd, Nat.reduceEqDiff, List.length_map, Int.reduceEq, Int.reduceLT, Int.reduceLE, Nat.reduceLT, Int.reduceToNat, Nat.reduceMul, if_false, reduceCtorEq, decide_eq_true h1]
    refine (variable_calls s lat n.text σ hs.1 hs.2.1).mono ?_
    rintro v σ ⟨rfl, rfl⟩
    simp only [z22_, Nat.reduceAdd, Nat.reduceEqDiff, List.length_map, Int.reduceEq, Int.reduceLT, Int.reduceLE, Nat.reduceLT, Int.reduceToNat, Nat.reduceMul, if_false, reduceCtorEq, insT]
    refine retK_intro (by simp [V.nol, nolL, Ins.r_nol]) (Store.sub_refl _) ⟨⟨_, by rw [leafF, if_pos h1]; simp [V.erase, eraseL, Ins.r_er]; rfl, fun j hj => ?_⟩, rfl⟩
    rw [leafF, if_pos h1] at hj; rw [hj]
  · have h7 : n.kind = 7 := by simpa [h1] using hk
    have hkl := label_const hl h7
    have hm : n.kids[0] ∈ n.kids := List.getElem_mem _
    have hmc := cnt_kid hm
    have hmw := kid_wt hm
    simp only [z22_, Nat.reduceAdd, Nat.reduceEqDiff, List.length_map, Int.reduceEq, Int.reduceLT, Int.reduceLE, Nat.reduceLT, Int.reduceToNat, Nat.reduceMul, if_false, reduceCtorEq, decide_eq_false h1]
    refine idxL_intro (by omega) (lats_at hlat) ?_
    simp only [z22_, Nat.reduceAdd, Nat.reduceEqDiff, List.length_map, Int.reduceEq, Int.reduceLT, Int.reduceLE, Nat.reduceLT, Int.reduceToNat, Nat.reduceMul, if_false, reduceCtorEq]
    refine idxL_intro (n := 0) (by omega) (nencs_at (j := 0) (List.getElem?_eq_getElem (by omega))) ?_
    simp only [z22_, Nat.reduceAdd, Nat.reduceEqDiff, List.length_map, Int.reduceEq, Int.reduceLT, Int.reduceLE, Nat.reduceLT, Int.reduceToNat, Nat.reduceMul, if_false, reduceCtorEq]
    refine CallD.intro (elem_calls s.lats[lat].shape n.kids[0] hg (hs.2.2 _ (List.getElem_mem hlat)) (parts_Ok (by omega)) (by omega)) ?_
    obtain ⟨e, he⟩ : ∃ e, elemF s.lats[lat].shape n.kids[0] = e := ⟨_, rfl⟩
    rw [he]
    have he' : elemF (shapeF s lat) (n.kids.getD 0 nd0) = e := by rw [shapeF_at hlat, getD_at (by omega)]; exact he
    simp only [z22_, Nat.reduceAdd, Nat.reduceEqDiff, List.length_map, Int.reduceEq, Int.reduceLT, Int.reduceLE, Nat.reduceLT, Int.reduceToNat, Nat.reduceMul, if_false, reduceCtorEq, fltV]
    obtain ⟨e, o⟩ := e
    cases o with
    | none =>
      have hlf := leafF_ok h1 he'
      simp only [z22_, Nat.reduceAdd, Nat.reduceEqDiff, List.length_map, Int.reduceEq, Int.reduceLT, Int.reduceLE, Nat.reduceLT, Int.reduceToNat, Nat.reduceMul, if_false, reduceCtorEq, Option.isSome_none]
      exact retK_intro (by simp [V.nol, nolL, Ins.r_nol]) (Store.sub_refl _) ⟨⟨⟨2, 0, e⟩, by rw [hlf]; simp [V.erase, eraseL, Ins.r_er]; rfl, fun j hj => by rw [hlf] at hj; cases hj; rfl⟩, rfl⟩
    | some p =>
      have hlf := leafF_bad h1 he'
      simp only [z22_, Nat.reduceAdd, Nat.reduceEqDiff, List.length_map, Int.reduceEq, Int.reduceLT, Int.reduceLE, Nat.reduceLT, Int.reduceToNat, Nat.reduceMul, if_false, reduceCtorEq, Option.isSome_some]
      exact retK_intro (by simp [V.nol, nolL, Ins.r_nol]) (Store.sub_refl _) ⟨⟨⟨2, 0, e⟩, by rw [hlf]; simp [V.erase, eraseL, Ins.r_er]; rfl, fun j hj => by rw [hlf] at hj; simp at hj⟩, rfl⟩
theorem var_calls (s : Scp) (t : List UInt8) (σ : Store) (h2 : s.vars.length ≤ 100000) : PCalls prog 27 [.agg s.enc, .str t] σ fun v σ' => v = .int .i64 (optI (findV s.vars t)) ∧ σ' = σ := by
  refine fn27.calls ?_
  simp only [slots, ac27, z20_, Nat.reduceAdd, Nat.reduceEqDiff, Int.reduceEq, Int.reduceLT, Int.reduceLE, Nat.reduceLT, Int.reduceToNat, Nat.reduceMul, if_false, reduceCtorEq, List.length_map]
  have eV : ∀ i (hi : i < s.vars.length), nameV s.vars t i = decide (s.vars[i].name = t) := fun i hi => by simp only [nameV, List.getElem?_eq_getElem hi]
  obtain ⟨F, hF⟩ : ∃ F : Nat → Unit → St, ∀ i x, F i x = ⟨[.any, .str t, .ptr (.loc 0) 0, .any, .any, .int .i64 (i : Nat)] ++ List.replicate 16 .any, [s.enc], σ⟩ := ⟨_, fun _ _ => rfl⟩
  obtain ⟨JF, hJF⟩ : ∃ JF : Nat → Unit → Prop, ∀ i x, JF i x = (∀ k, k < i → nameV s.vars t k = false) := ⟨_, fun _ _ => rfl⟩
  refine vc_count (s.vars.length) F JF _ hJF ?_ ?_ ?_
  · refine ent (()) ?_ ?_ ?_ ?_
    · exact Eq.mpr (hJF _ _) (by intro k h; omega)
    all_goals simp [hF, List.replicate, am, lle_self]
  · rintro i x hi hJ
    simp only [hF, List.replicate, z21_, dlt hi, Nat.reduceAdd, Nat.reduceEqDiff, Int.reduceEq, Int.reduceLT, Int.reduceLE, Nat.reduceLT, Int.reduceToNat, Nat.reduceMul, if_false, reduceCtorEq, List.length_map]
    refine idxL_intro (by omega) (vars_at hi) ?_
    simp only [z22_, Nat.reduceAdd, Nat.reduceEqDiff, List.length_map, Int.reduceEq, Int.reduceLT, Int.reduceLE, Nat.reduceLT, Int.reduceToNat, Nat.reduceMul, if_false, reduceCtorEq]
    by_cases h : s.vars[i].name = t
    · have e : findV s.vars t = some i := find_at hi hJ (by rw [eV i hi]; exact decide_eq_true h)
      simp only [z22_, Nat.reduceAdd, Nat.reduceEqDiff, List.length_map, Int.reduceEq, Int.reduceLT, Int.reduceLE, Nat.reduceLT, Int.reduceToNat, Nat.reduceMul, if_false, reduceCtorEq, decide_eq_true h]
      refine retK_intro rfl (Store.sub_refl _) ⟨?_, rfl⟩
      simp [V.erase, eraseL, e, optI]
    · simp only [z22_, Nat.reduceAdd, Nat.reduceEqDiff, List.length_map, Int.reduceEq, Int.reduceLT, Int.reduceLE, Nat.reduceLT, Int.reduceToNat, Nat.reduceMul, if_false, reduceCtorEq, decide_eq_false h, winc hi (by omega)]
      refine nxt (()) hi ?_ ?_ ?_ ?_
      · exact Eq.mpr (hJF _ _) (allS hJ (by rw [eV i hi]; exact decide_eq_false h))
      all_goals simp [hF, List.replicate, am, lle_self]
  · rintro x hJ
    have e : findV s.vars t = none := find_no hJ
    simp only [hF, List.replicate, z21_, dnl, Nat.reduceAdd, Nat.reduceEqDiff, Int.reduceEq, Int.reduceLT, Int.reduceLE, Nat.reduceLT, Int.reduceToNat, Nat.reduceMul, if_false, reduceCtorEq, List.length_map]
    refine retK_intro rfl (Store.sub_refl _) ⟨?_, rfl⟩
    simp [V.erase, eraseL, e, optI]
theorem codes_at {l : List Ins} {j : Nat} (h : j < l.length) : (l.map Ins.enc)[((j : Nat) : Int).toNat]? = some l[j].enc := by simp [h]
theorem samecode_calls (a b : List Ins) (σ : Store) (ha : a.length ≤ 100000) (hb : b.length ≤ 100000) : PCalls prog 11 [.sl .no 10 (a.map Ins.enc), .sl .no 10 (b.map Ins.enc)] σ fun v σ' => v = .bool (decide (a = b)) ∧ σ' = σ := by
  refine fn11.calls ?_
  simp only [slots, ac11, z20_, Nat.reduceAdd, Nat.reduceEqDiff, Int.reduceEq, Int.reduceLT, Int.reduceLE, Nat.reduceLT, Int.reduceToNat, Nat.reduceMul, if_false, reduceCtorEq, List.length_map]
  by_cases hne : a.length = b.length
  · simp only [z22_, Nat.reduceAdd, Nat.reduceEqDiff, List.length_map, Int.reduceEq, Int.reduceLT, Int.reduceLE, Nat.reduceLT, Int.reduceToNat, Nat.reduceMul, if_false, reduceCtorEq, decide_eq_true (show (a.length : Int) = b.length by omega)]
    obtain ⟨F, hF⟩ : ∃ F : Nat → Unit → St, ∀ i x, F i x = ⟨[.sl .no 10 (a.map Ins.enc), .sl .no 10 (b.map Ins.enc), .any, .any, .any, .int .i64 (i : Nat)] ++ List.replicate 20 .any, [], σ⟩ := ⟨_, fun _ _ => rfl⟩
    obtain ⟨JF, hJF⟩ : ∃ JF : Nat → Unit → Prop, ∀ i x, JF i x = (∀ k, k < i → a[k]? = b[k]?) := ⟨_, fun _ _ => rfl⟩
    refine vc_count (a.length) F JF _ hJF ?_ ?_ ?_
    · refine ent (()) ?_ ?_ ?_ ?_
      · exact Eq.mpr (hJF _ _) (by intro k h; omega)
      all_goals simp [hF, List.replicate, am, lle_self]
    · rintro i x hi hJ
      have hib : i < b.length := by omega
      simp only [hF, List.replicate, z21_, dlt hi, Nat.reduceAdd, Nat.reduceEqDiff, Int.reduceEq, Int.reduceLT, Int.reduceLE, Nat.reduceLT, Int.reduceToNat, Nat.reduceMul, if_false, reduceCtorEq, List.length_map]
      refine idxL_intro (by omega) (codes_at hi) ?_
      simp only [z22_, Nat.reduceAdd, Nat.reduceEqDiff, List.length_map, Int.reduceEq, Int.reduceLT, Int.reduceLE, Nat.reduceLT, Int.reduceToNat, Nat.reduceMul, if_false, reduceCtorEq]
      refine idxL_intro (by omega) (codes_at hib) ?_
      simp only [z22_, Nat.reduceAdd, Nat.reduceEqDiff, List.length_map, Int.reduceEq, Int.reduceLT, Int.reduceLE, Nat.reduceLT, Int.reduceToNat, Nat.reduceMul, if_false, reduceCtorEq]
      by_cases h : a[i] = b[i]
      · simp only [z22_, Nat.reduceAdd, Nat.reduceEqDiff, List.length_map, Int.reduceEq, Int.reduceLT, Int.reduceLE, Nat.reduceLT, Int.reduceToNat, Nat.reduceMul, if_false, reduceCtorEq, decide_eq_true h, winc hi (by omega)]
        refine nxt (()) hi ?_ ?_ ?_ ?_
        · exact Eq.mpr (hJF _ _) (allS hJ (by rw [List.getElem?_eq_getElem hi, List.getElem?_eq_getElem hib, h]))
        all_goals simp [hF, List.replicate, am, lle_self]
      · have e : a ≠ b := fun e => h (by subst e; rfl)
        simp only [z22_, Nat.reduceAdd, Nat.reduceEqDiff, List.length_map, Int.reduceEq, Int.reduceLT, Int.reduceLE, Nat.reduceLT, Int.reduceToNat, Nat.reduceMul, if_false, reduceCtorEq, decide_eq_false h]
        refine retK_intro rfl (Store.sub_refl _) ⟨?_, rfl⟩
        simp [V.erase, eraseL, e]
    · rintro x hJ
      have e : a = b := by
        refine List.ext_getElem hne fun k h1 h2 => ?_
        have := hJ k h1
        rwa [List.getElem?_eq_getElem h1, List.getElem?_eq_getElem h2, Option.some.injEq] at this
      simp only [hF, List.replicate, z21_, dnl, Nat.reduceAdd, Nat.reduceEqDiff, Int.reduceEq, Int.reduceLT, Int.reduceLE, Nat.reduceLT, Int.reduceToNat, Nat.reduceMul, if_false, reduceCtorEq, List.length_map]
      refine retK_intro rfl (Store.sub_refl _) ⟨?_, rfl⟩
      simp [V.erase, eraseL, e]
  · have e : a ≠ b := fun e => hne (by rw [e])
    simp only [z22_, Nat.reduceAdd, Nat.reduceEqDiff, List.length_map, Int.reduceEq, Int.reduceLT, Int.reduceLE, Nat.reduceLT, Int.reduceToNat, Nat.reduceMul, if_false, reduceCtorEq, decide_eq_false (show ¬ (a.length : Int) = b.length by omega)]
    refine retK_intro rfl (Store.sub_refl _) ⟨?_, rfl⟩
    simp [V.erase, eraseL, e]
end Go.Proofs.Tryz

namespace Go.Proofs.Tryz
open Go.Am
set_option maxRecDepth 4000
set_option maxHeartbeats 4000000
def ac10 : AC := .seq (.reg [⟨(some 3), .box 2 (.s 0), none⟩, ⟨(some 5), .box 5 (.s 2), none⟩, ⟨(some 6), .mv (.c (.sl .full 10 [])), none⟩, ⟨(some 7), .mv (.c (.bool false)), none⟩])
 (.seq (.seq (.reg [xm 16 1, xB .lss 17 16 0, xm 18 17, xh 18 (xm 19 1), xh 18 (xf 0 20 3), xh 18 (xo 21 20), xh 18 (xL 22 21), xh 18 (xb .geq 23 19 22), ⟨(some 24), .pick (.s 18) (.c (.bool true)) (.s 23), none⟩, xm 25 24, xh 25 (xl 5 26 5), xh 25 (xc 26 27 [.s 26]), ⟨(some 28), .not (.s 27), (some (25, false))⟩, ⟨(some 29), .pick (.s 25) (.c (.bool true)) (.s 28), none⟩])
 (.cond (.s 29) (.seq (.reg [⟨(some 6), .mv (.c (.sl .full 10 [])), none⟩, ⟨(some 7), .mv (.c (.bool false)), none⟩])
 (.ret))
 (.skip)))
 (.seq (.seq (.reg [xf 0 30 5, xo 31 30, xB .eql 32 31 1])
 (.cond (.s 32) (.seq (.reg [xl 2 33 3, xf 2 34 5, xo 35 34, xc 27 36 [.s 33, .s 35], xm 8 36])
 (.seq (.seq (.reg [xm 37 8, xB .lss 38 37 0, xm 39 38, xh 39 (xf 1 40 3), xh 39 (xo 41 40), xh 39 (xm 42 8), xh 39 (xA 3 43 41 42), xh 39 (xf 1 44 43), xh 39 (xo 45 44), xh 39 (xB .neq 46 45 1), ⟨(some 47), .pick (.s 39) (.c (.bool true)) (.s 46), none⟩, xm 48 47, xh 48 (xf 1 49 3), xh 48 (xo 50 49), xh 48 (xm 51 8), xh 48 (xA 3 52 50 51), xh 48 (xf 2 53 52), xh 48 (xo 54 53), xh 48 (xm 55 1), xh 48 (xb .neq 56 54 55), ⟨(some 57), .pick (.s 48) (.c (.bool true)) (.s 56), none⟩])
 (.cond (.s 57) (.seq (.reg [⟨(some 6), .mv (.c (.sl .full 10 [])), none⟩, ⟨(some 7), .mv (.c (.bool false)), none⟩])
 (.ret))
 (.skip)))
 (.seq (.reg [xm 58 8, ⟨(some 59), .build insZ [(0, 1, (.c (.int .i64 1))), (1, 1, (.s 58))], none⟩, ⟨(some 60), .bslice 10 [(.s 59)], none⟩, xm 6 60, ⟨(some 7), .mv (.c (.bool true)), none⟩])
 (.ret))))
 (.skip)))
 (.seq (.seq (.reg [xf 0 61 5, xo 62 61, xB .eql 63 62 7])
 (.cond (.s 63) (.seq (.drawA [9, 10] [(xf 0 65 3, []), (xo 66 65, []), (xm 67 1, []), (xA 3 68 66 67, []), (xf 1 69 68, []), (xl 2 70 69, []), (xf 4 71 5, []), (xo 72 71, []), (⟨(some 73), .idxA 5 (.s 72) (.c (.int .i64 0)), none⟩, []), (xl 5 74 73, []), (xc 28 75 [.s 70, .s 74], []), (xm 64 75, []), (xe 76 64 0, []), (xe 77 64 1, []), (⟨none, .mv (.c .any), none⟩, []), (⟨none, .mv (.c .any), none⟩, []), (⟨(some 9), .boxS 8 (.s 76), none⟩, []), (⟨(some 10), .boxS 2 (.s 77), none⟩, [])])
 (.seq (.seq (.reg [xf 0 78 10, xo 79 78, xB .neq 80 79 0])
 (.cond (.s 80) (.seq (.reg [⟨(some 6), .mv (.c (.sl .full 10 [])), none⟩, ⟨(some 7), .mv (.c (.bool false)), none⟩])
 (.ret))
 (.skip)))
 (.seq (.reg [xl 8 81 9, ⟨(some 82), .build insZ [(0, 1, (.c (.int .i64 2))), (2, 8, (.s 81))], none⟩, ⟨(some 83), .bslice 10 [(.s 82)], none⟩, xm 6 83, ⟨(some 7), .mv (.c (.bool true)), none⟩])
 (.ret))))
 (.skip)))
 (.seq (.reg [⟨(some 11), .mv (.c (.sl .full 10 [])), none⟩])
 (.seq (.seq (.reg [xi 12 0])
 (.block 0 (.loop (.seq (.seq (.reg [xm 84 12, xf 4 85 5, xo 86 85, xL 87 86, xb .lss 88 84 87])
 (.cond (.s 88) (.skip)
 (.exit 0)))
 (.seq (.block 1 (.seq (.draw [(xl 2 92 3, []), (xm 93 1, []), (xf 4 94 5, []), (xo 95 94, []), (xm 96 12, []), (xA 5 97 95 96, []), (xl 5 98 97, []), (xc 10 99 [.s 92, .s 93, .s 98], []), (xm 91 99, []), (xe 100 91 0, []), (xe 101 91 1, []), (xm 13 100, []), (xm 14 101, [])])
 (.seq (.seq (.reg [xm 102 14, ⟨(some 103), .not (.s 102), none⟩])
 (.cond (.s 103) (.seq (.reg [⟨(some 6), .mv (.c (.sl .full 10 [])), none⟩, ⟨(some 7), .mv (.c (.bool false)), none⟩])
 (.ret))
 (.skip)))
 (.reg [xm 104 11, xm 105 13, xa 10 106 104 105, xm 11 106]))))
 (.reg [xm 89 12, xB .add 90 89 1, xm 12 90]))))))
 (.seq (.reg [xi 15 3])
 (.seq (.seq (.reg [xf 0 107 5, xo 108 107, xB .eql 109 108 9])
 (.cond (.s 109) (.reg [xi 15 4])
 (.skip)))
 (.seq (.reg [xm 110 11, xm 111 15, xf 4 112 5, xo 113 112, xL 114 113, ⟨(some 115), .build insZ [(0, 1, (.s 111)), (1, 1, (.s 114))], none⟩, ⟨(some 116), .bslice 10 [(.s 115)], none⟩, xa 10 117 110 116, xm 6 117, ⟨(some 7), .mv (.c (.bool true)), none⟩])
 (.ret)))))))))
theorem fn10 : IsFn prog 10 ac10 [.tmp 6, .tmp 7] 118 := ⟨f10, ⟨[], []⟩, func10, by kernel_rfl, by kernel_rfl, by kernel_rfl, by kernel_rfl⟩
def codeT (o : Option (List Ins)) : V := .tup [.sl .no 10 ((o.getD []).map Ins.enc), .bool o.isSome]
theorem compR_in {s : Scp} {lat : Nat} {n : Nd} (h1 : lat < s.lats.length) (h2 : n.labelQ = true) : compR s (lat : Nat) n = compF s lat n := by
  rw [compR, if_pos ⟨by omega, by omega, h2⟩]; rfl
theorem rcompile_calls (s : Scp) (lat : Int) (hs : s.ok) : ∀ (k : Nat) (n : Nd) (σ : Store), n.wt ≤ k → n.wt ≤ big → n.cnt ≤ 100000 →
    PCalls prog 10 [.agg s.enc, .int .i64 lat, .agg n.enc] σ fun v σ' => v = codeT (compR s lat n) ∧ σ' = σ := by
  intro k
  induction k with
  | zero => intro n σ h; have := Nd.cnt_pos n; have := cnt_wt n; omega
  | succ k ih =>
    intro n σ hk hw hc
    refine fn10.calls ?_
    simp only [slots, ac10, z20_, Nat.reduceAdd, Nat.reduceEqDiff, Int.reduceEq, Int.reduceLT, Int.reduceLE, Nat.reduceLT, Int.reduceToNat, Nat.reduceMul, if_false, reduceCtorEq, List.length_map]
    have no : ∀ (u : List V) (l : List (List V)) (σ1 : Store), compR s lat n = none → σ.sub σ1 → RetK (fun v σ' => v = codeT (compR s lat n) ∧ σ' = σ) ⟨u, l, σ1⟩ (.tup [.sl .full 10 [], .bool false]) := fun u l σ1 h h' => by
      rw [h]; exact retK_intro rfl h' ⟨rfl, rfl⟩
    by_cases hn : lat < 0
    · simp only [z22_, Nat.reduceAdd, Nat.reduceEqDiff, List.length_map, Int.reduceEq, Int.reduceLT, Int.reduceLE, Nat.reduceLT, Int.reduceToNat, Nat.reduceMul, if_false, reduceCtorEq, decide_eq_true hn]
      exact no _ _ _ (by rw [compR, if_neg (by omega)]) (Store.sub_refl _)
    · obtain ⟨lat, rfl⟩ : ∃ m : Nat, lat = m := ⟨lat.toNat, by omega⟩
      simp only [z22_, Nat.reduceAdd, Nat.reduceEqDiff, List.length_map, Int.reduceEq, Int.reduceLT, Int.reduceLE, Nat.reduceLT, Int.reduceToNat, Nat.reduceMul, if_false, reduceCtorEq, decide_eq_false hn]
      by_cases hlat : s.lats.length ≤ lat
      · simp only [z22_, Nat.reduceAdd, Nat.reduceEqDiff, List.length_map, Int.reduceEq, Int.reduceLT, Int.reduceLE, Nat.reduceLT, Int.reduceToNat, Nat.reduceMul, if_false, reduceCtorEq, decide_eq_true (show (s.lats.length : Int) ≤ (lat : Nat) by omega)]
        exact no _ _ _ (by rw [compR, if_neg (by omega)]) (Store.sub_refl _)
      · have hlt : lat < s.lats.length := by omega
        simp only [z22_, Nat.reduceAdd, Nat.reduceEqDiff, List.length_map, Int.reduceEq, Int.reduceLT, Int.reduceLE, Nat.reduceLT, Int.reduceToNat, Nat.reduceMul, if_false, reduceCtorEq, decide_eq_false (show ¬ (s.lats.length : Int) ≤ (lat : Nat) by omega)]
        refine (label2_calls _ n σ (Nat.le_refl _) hw).mono ?_
        rintro v σ ⟨rfl, rfl⟩
        cases hl : n.labelQ with
        | false =>
          simp only [z22_, Nat.reduceAdd, Nat.reduceEqDiff, List.length_map, Int.reduceEq, Int.reduceLT, Int.reduceLE, Nat.reduceLT, Int.reduceToNat, Nat.reduceMul, if_false, reduceCtorEq]
          exact no _ _ _ (by rw [compR, hl, if_neg (by simp)]) (Store.sub_refl _)
        | true =>
          have hR := compR_in hlt hl
          simp only [z22_, Nat.reduceAdd, Nat.reduceEqDiff, List.length_map, Int.reduceEq, Int.reduceLT, Int.reduceLE, Nat.reduceLT, Int.reduceToNat, Nat.reduceMul, if_false, reduceCtorEq]
          by_cases h1 : n.kind = 1
          · have hC : compF s lat n = (varF s lat n.text).map fun i => [i] := by rw [compF_eq, if_pos (.inl h1), leafF, if_pos h1]
            simp only [z22_, Nat.reduceAdd, Nat.reduceEqDiff, List.length_map, Int.reduceEq, Int.reduceLT, Int.reduceLE, Nat.reduceLT, Int.reduceToNat, Nat.reduceMul, if_false, reduceCtorEq, decide_eq_true h1]
            refine (var_calls s n.text σ hs.2.1).mono ?_
            rintro v σ ⟨rfl, rfl⟩
            simp only [z22_, Nat.reduceAdd, Nat.reduceEqDiff, List.length_map, Int.reduceEq, Int.reduceLT, Int.reduceLE, Nat.reduceLT, Int.reduceToNat, Nat.reduceMul, if_false, reduceCtorEq, optI_neg]
            cases hf : findV s.vars n.text with
            | none =>
              simp only [z22_, Nat.reduceAdd, Nat.reduceEqDiff, List.length_map, Int.reduceEq, Int.reduceLT, Int.reduceLE, Nat.reduceLT, Int.reduceToNat, Nat.reduceMul, if_false, reduceCtorEq, Option.isNone_none]
              exact no _ _ _ (by rw [hR, hC]; simp only [varF, hf]; rfl) (Store.sub_refl _)
            | some j =>
              have hj := findV_at hf
              have hv : s.vars[j]? = some s.vars[j] := List.getElem?_eq_getElem hj
              simp only [z22_, Nat.reduceAdd, Nat.reduceEqDiff, List.length_map, Int.reduceEq, Int.reduceLT, Int.reduceLE, Nat.reduceLT, Int.reduceToNat, Nat.reduceMul, if_false, reduceCtorEq, Option.isNone_some, optI]
              refine idxL_intro (by omega) (vars_at hj) ?_
              simp only [z22_, Nat.reduceAdd, Nat.reduceEqDiff, List.length_map, Int.reduceEq, Int.reduceLT, Int.reduceLE, Nat.reduceLT, Int.reduceToNat, Nat.reduceMul, if_false, reduceCtorEq]
              by_cases e1 : s.vars[j].kind = 1
              · simp only [z22_, Nat.reduceAdd, Nat.reduceEqDiff, List.length_map, Int.reduceEq, Int.reduceLT, Int.reduceLE, Nat.reduceLT, Int.reduceToNat, Nat.reduceMul, if_false, reduceCtorEq, decide_eq_true e1]
                refine idxL_intro (by omega) (vars_at hj) ?_
                simp only [z22_, Nat.reduceAdd, Nat.reduceEqDiff, List.length_map, Int.reduceEq, Int.reduceLT, Int.reduceLE, Nat.reduceLT, Int.reduceToNat, Nat.reduceMul, if_false, reduceCtorEq]
                by_cases e2 : s.vars[j].lat = (lat : Nat)
                · have e : varF s lat n.text = some ⟨1, j, .zero⟩ := by simp only [varF, hf, hv]; rw [if_pos ⟨e1, e2⟩]
                  simp only [z22_, Nat.reduceAdd, Nat.reduceEqDiff, List.length_map, Int.reduceEq, Int.reduceLT, Int.reduceLE, Nat.reduceLT, Int.reduceToNat, Nat.reduceMul, if_false, reduceCtorEq, decide_eq_true e2]
                  exact retK_intro rfl (Store.sub_refl _) ⟨by rw [hR, hC, e]; rfl, rfl⟩
                · simp only [z22_, Nat.reduceAdd, Nat.reduceEqDiff, List.length_map, Int.reduceEq, Int.reduceLT, Int.reduceLE, Nat.reduceLT, Int.reduceToNat, Nat.reduceMul, if_false, reduceCtorEq, decide_eq_false e2]
                  exact no _ _ _ (by rw [hR, hC]; simp only [varF, hf, hv]; rw [if_neg (fun h => e2 h.2)]; rfl) (Store.sub_refl _)
              · simp only [z22_, Nat.reduceAdd, Nat.reduceEqDiff, List.length_map, Int.reduceEq, Int.reduceLT, Int.reduceLE, Nat.reduceLT, Int.reduceToNat, Nat.reduceMul, if_false, reduceCtorEq, decide_eq_false e1]
                exact no _ _ _ (by rw [hR, hC]; simp only [varF, hf, hv]; rw [if_neg (fun h => e1 h.1)]; rfl) (Store.sub_refl _)
          · simp only [z22_, Nat.reduceAdd, Nat.reduceEqDiff, List.length_map, Int.reduceEq, Int.reduceLT, Int.reduceLE, Nat.reduceLT, Int.reduceToNat, Nat.reduceMul, if_false, reduceCtorEq, decide_eq_false h1]
            by_cases h7 : n.kind = 7
            · have hC : compF s lat n = (leafF s lat n).map fun i => [i] := by rw [compF_eq, if_pos (.inr h7)]
              have hkl := label_const hl h7
              have hm : n.kids[0] ∈ n.kids := List.getElem_mem _
              have hmc := cnt_kid hm
              have hmw := kid_wt hm
              simp only [z22_, Nat.reduceAdd, Nat.reduceEqDiff, List.length_map, Int.reduceEq, Int.reduceLT, Int.reduceLE, Nat.reduceLT, Int.reduceToNat, Nat.reduceMul, if_false, reduceCtorEq, decide_eq_true h7]
              refine idxL_intro (by omega) (lats_at hlt) ?_
              simp only [z22_, Nat.reduceAdd, Nat.reduceEqDiff, List.length_map, Int.reduceEq, Int.reduceLT, Int.reduceLE, Nat.reduceLT, Int.reduceToNat, Nat.reduceMul, if_false, reduceCtorEq]
              refine idxL_intro (n := 0) (by omega) (nencs_at (j := 0) (List.getElem?_eq_getElem (by omega))) ?_
              simp only [z22_, Nat.reduceAdd, Nat.reduceEqDiff, List.length_map, Int.reduceEq, Int.reduceLT, Int.reduceLE, Nat.reduceLT, Int.reduceToNat, Nat.reduceMul, if_false, reduceCtorEq]
              refine CallD.intro (relem_calls s.lats[lat].shape n.kids[0] σ (hs.2.2 _ (List.getElem_mem hlt)) (parts_ok (by omega)) (by omega)) ?_
              obtain ⟨e, he⟩ : ∃ e, elemF s.lats[lat].shape n.kids[0] = e := ⟨_, rfl⟩
              rw [he]
              have he' : elemF (shapeF s lat) (n.kids.getD 0 nd0) = e := by rw [shapeF_at hlt, getD_at (by omega)]; exact he
              simp only [z22_, Nat.reduceAdd, Nat.reduceEqDiff, List.length_map, Int.reduceEq, Int.reduceLT, Int.reduceLE, Nat.reduceLT, Int.reduceToNat, Nat.reduceMul, if_false, reduceCtorEq, fltV]
              obtain ⟨e, o⟩ := e
              cases o with
              | none =>
                have hlf := leafF_ok h1 he'
                simp only [z22_, Nat.reduceAdd, Nat.reduceEqDiff, List.length_map, Int.reduceEq, Int.reduceLT, Int.reduceLE, Nat.reduceLT, Int.reduceToNat, Nat.reduceMul, if_false, reduceCtorEq, Option.isSome_none]
                exact retK_intro (by simp [V.nol, nolL]) (Store.sub_refl _) ⟨by rw [hR, hC, hlf]; simp [codeT, V.erase, eraseL, Ins.r_er]; rfl, rfl⟩
              | some p =>
                have hlf := leafF_bad h1 he'
                simp only [z22_, Nat.reduceAdd, Nat.reduceEqDiff, List.length_map, Int.reduceEq, Int.reduceLT, Int.reduceLE, Nat.reduceLT, Int.reduceToNat, Nat.reduceMul, if_false, reduceCtorEq, Option.isSome_some]
                exact no _ _ _ (by rw [hR, hC, hlf]; rfl) (Store.sub_refl _)
            · have hno : ¬ (n.kind = 1 ∨ n.kind = 7) := fun h => h.elim h1 h7
              have hC : compF s lat n = (compL s lat n.kids).map fun l => l ++ [opF n] := by rw [compF_eq, if_neg hno]
              have hkids := label_kids hl hno
              have hkc := cnt_kids n
              simp only [z22_, Nat.reduceAdd, Nat.reduceEqDiff, List.length_map, Int.reduceEq, Int.reduceLT, Int.reduceLE, Nat.reduceLT, Int.reduceToNat, Nat.reduceMul, if_false, reduceCtorEq, decide_eq_false h7]
              obtain ⟨F, hF⟩ : ∃ F : Nat → List Ins × Tk × Store → St, ∀ i x, F i x = ⟨[.any, .int .i64 (lat : Nat), .any, .ptr (.loc 0) 0, .any, .ptr (.loc 1) 0, .any, .any, .any, .any, .any, .sl x.2.1 10 (x.1.map Ins.enc), .int .i64 (i : Nat)] ++ List.replicate 105 .any, [s.enc, n.enc], x.2.2⟩ := ⟨_, fun _ _ => rfl⟩
              obtain ⟨JF, hJF⟩ : ∃ JF : Nat → List Ins × Tk × Store → Prop, ∀ i x, JF i x = (compL s lat (n.kids.take i) = some x.1 ∧ Gr σ x.2.2 x.2.1 x.1.length) := ⟨_, fun _ _ => rfl⟩
              refine vc_count (n.kids.length) F JF _ hJF ?_ ?_ ?_
              · refine ent (([], .full, σ)) ?_ ?_ ?_ ?_
                · exact Eq.mpr (hJF _ _) (⟨rfl, Gr.nil⟩)
                all_goals simp [hF, List.replicate, am, lle_self]
              · rintro i ⟨out, tk, σ1⟩ hi ⟨hJ, hG⟩
                simp only at hJ hG
                have hm : n.kids[i] ∈ n.kids := List.getElem_mem hi
                have hmc := cnt_kid hm
                have hmw := kid_wt hm
                have hol := compL_len _ hJ
                have hoc := cnts_take n.kids i
                have hcp := Nd.cnt_pos n
                simp only [hF, List.replicate, z21_, dlt hi, Nat.reduceAdd, Nat.reduceEqDiff, Int.reduceEq, Int.reduceLT, Int.reduceLE, Nat.reduceLT, Int.reduceToNat, Nat.reduceMul, if_false, reduceCtorEq, List.length_map]
                refine idxL_intro (by omega) (nencs_at (List.getElem?_eq_getElem hi)) ?_
                simp only [z22_, Nat.reduceAdd, Nat.reduceEqDiff, List.length_map, Int.reduceEq, Int.reduceLT, Int.reduceLE, Nat.reduceLT, Int.reduceToNat, Nat.reduceMul, if_false, reduceCtorEq]
                refine CallD.intro (ih n.kids[i] σ1 (by omega) (by omega) (by omega)) ?_
                rw [compR_in hlt (hkids _ hm)]
                cases hcf : compF s lat n.kids[i] with
                | none =>
                  simp only [z22_, Nat.reduceAdd, Nat.reduceEqDiff, List.length_map, Int.reduceEq, Int.reduceLT, Int.reduceLE, Nat.reduceLT, Int.reduceToNat, Nat.reduceMul, if_false, reduceCtorEq, codeT, Option.isSome_none]
                  exact no _ _ _ (by rw [hR, hC, compL_none hm hcf]; rfl) hG.sub
                | some l =>
                  have hll := compF_len _ hcf
                  have hsn := compL_snoc hJ hcf
                  rw [← List.take_succ_eq_append_getElem hi] at hsn
                  simp only [z22_, Nat.reduceAdd, Nat.reduceEqDiff, List.length_map, Int.reduceEq, Int.reduceLT, Int.reduceLE, Nat.reduceLT, Int.reduceToNat, Nat.reduceMul, if_false, reduceCtorEq, codeT, Option.isSome_some, Option.getD_some]
                  refine Gr.app (by simpa using hG) (by simp [big]; omega) fun tk' σ' hG' _ _ => ?_
                  simp only [z22_, Nat.reduceAdd, Nat.reduceEqDiff, List.length_map, Int.reduceEq, Int.reduceLT, Int.reduceLE, Nat.reduceLT, Int.reduceToNat, Nat.reduceMul, if_false, reduceCtorEq, winc hi (by omega)]
                  refine nxt ((out ++ l, tk', σ')) hi ?_ ?_ ?_ ?_
                  · exact Eq.mpr (hJF _ _) (⟨hsn, by simpa using hG'⟩)
                  all_goals simp [hF, List.replicate, am, lle_self, List.map_append]
              · rintro ⟨out, tk, σ1⟩ ⟨hJ, hG⟩
                simp only at hJ hG
                rw [List.take_length] at hJ
                have hol := compL_len _ hJ
                have hcp := Nd.cnt_pos n
                simp only [hF, List.replicate, z21_, dnl, Nat.reduceAdd, Nat.reduceEqDiff, Int.reduceEq, Int.reduceLT, Int.reduceLE, Nat.reduceLT, Int.reduceToNat, Nat.reduceMul, if_false, reduceCtorEq, List.length_map]
                by_cases h9 : n.kind = 9
                · have eo : opF n = ⟨4, n.kids.length, .zero⟩ := by rw [opF, if_pos h9]
                  simp only [z22_, Nat.reduceAdd, Nat.reduceEqDiff, List.length_map, Int.reduceEq, Int.reduceLT, Int.reduceLE, Nat.reduceLT, Int.reduceToNat, Nat.reduceMul, if_false, reduceCtorEq, decide_eq_true h9]
                  refine Gr.app (by simpa using hG) (by simp [big]; omega) fun tk' σ' hG' _ _ => ?_
                  simp only [z22_, Nat.reduceAdd, Nat.reduceEqDiff, List.length_map, Int.reduceEq, Int.reduceLT, Int.reduceLE, Nat.reduceLT, Int.reduceToNat, Nat.reduceMul, if_false, reduceCtorEq]
                  exact retK_intro (by simp [V.nol, nolL]) hG'.sub ⟨by rw [hR, hC, hJ, eo]; simp [codeT, V.erase, eraseL]; rfl, rfl⟩
                · have eo : opF n = ⟨3, n.kids.length, .zero⟩ := by rw [opF, if_neg h9]
                  simp only [z22_, Nat.reduceAdd, Nat.reduceEqDiff, List.length_map, Int.reduceEq, Int.reduceLT, Int.reduceLE, Nat.reduceLT, Int.reduceToNat, Nat.reduceMul, if_false, reduceCtorEq, decide_eq_false h9]
                  refine Gr.app (by simpa using hG) (by simp [big]; omega) fun tk' σ' hG' _ _ => ?_
                  simp only [z22_, Nat.reduceAdd, Nat.reduceEqDiff, List.length_map, Int.reduceEq, Int.reduceLT, Int.reduceLE, Nat.reduceLT, Int.reduceToNat, Nat.reduceMul, if_false, reduceCtorEq]
                  exact retK_intro (by simp [V.nol, nolL]) hG'.sub ⟨by rw [hR, hC, hJ, eo]; simp [codeT, V.erase, eraseL]; rfl, rfl⟩
end Go.Proofs.Tryz

namespace Go.Proofs.Tryz
open Go.Am
set_option maxRecDepth 4000
set_option maxHeartbeats 4000000
def ac9 : AC := .seq (.reg [⟨(some 3), .box 2 (.s 0), none⟩, ⟨(some 5), .box 5 (.s 2), none⟩, ⟨(some 6), .mv (.c (.sl .full 10 [])), none⟩, ⟨(some 7), .mv (.c (.bool false)), none⟩])
 (.scope (.seq (.seq (.reg [xm 15 1, xB .lss 16 15 0, xm 17 16, xh 17 (xm 18 1), xh 17 (xf 0 19 3), xh 17 (xo 20 19), xh 17 (xL 21 20), xh 17 (xb .geq 22 18 21), ⟨(some 23), .pick (.s 17) (.c (.bool true)) (.s 22), none⟩, xm 24 23, xh 24 (xl 5 25 5), xh 24 (xc 24 26 [.s 25]), ⟨(some 27), .not (.s 26), (some (24, false))⟩, ⟨(some 28), .pick (.s 24) (.c (.bool true)) (.s 27), none⟩])
 (.cond (.s 28) (.seq (.reg [⟨(some 6), .mv (.c (.sl .full 10 [])), none⟩, ⟨(some 7), .mv (.c (.bool false)), none⟩])
 (.ret))
 (.skip)))
 (.seq (.reg [⟨(some 8), .mv (.c (.sl .full 10 [])), none⟩])
 (.seq (.reg [xl 5 29 5, ⟨(some 30), .build [(.int .i64 0), (.int .i64 0), (.str []), (.sl .full 2 []), (.sl .full 5 []), (.int .i64 0)] [(0, 5, (.s 29))], none⟩, ⟨(some 31), .own (.new 6) [(.s 30)], none⟩, xm 9 31])
 (.seq (.skip)
 (.seq (.block 0 (.loop (.seq (.seq (.reg [xm 32 9, ⟨(some 33), .own .len [(.s 32)], none⟩, xB .gtr 34 33 0])
 (.cond (.s 34) (.skip)
 (.exit 0)))
 (.block 1 (.seq (.reg [xm 35 9, ⟨(some 36), .own .len [(.s 35)], none⟩, xB .sub 37 36 1, xm 10 37])
 (.seq (.reg [xm 38 9, xm 39 10, ⟨(some 40), .own (.idx 6) [(.s 38), (.s 39)], none⟩, xl 6 41 40, ⟨(some 11), .alloc [(.int .i64 0), (.int .i64 0), (.str []), (.sl .full 2 []), (.sl .full 5 []), (.int .i64 0)], none⟩, xs 6 11 41])
 (.seq (.reg [xi 12 3])
 (.seq (.seq (.reg [xf 0 42 11, xf 0 43 42, xo 44 43])
 (.block 2 (.seq (.seq (.reg [xB .eql 46 44 1, xm 45 46])
 (.cond (.s 45) (.skip)
 (.reg [xB .eql 47 44 7, xm 45 47])))
 (.cond (.s 45) (.seq (.reg [xl 2 49 3, xm 50 1, xf 0 51 11, xl 5 52 51, xc 25 53 [.s 49, .s 50, .s 52], xm 48 53, xe 54 48 0, xe 55 48 1, ⟨(some 13), .alloc insZ, none⟩, xs 10 13 54, xm 14 55])
 (.seq (.seq (.reg [xm 56 14, ⟨(some 57), .not (.s 56), none⟩])
 (.cond (.s 57) (.seq (.reg [⟨(some 6), .mv (.c (.sl .full 10 [])), none⟩, ⟨(some 7), .mv (.c (.bool false)), none⟩])
 (.ret))
 (.skip)))
 (.seq (.reg [xm 58 8, xl 10 59 13, ⟨(some 60), .bslice 10 [(.s 59)], none⟩, xa 10 61 58 60, xm 8 61])
 (.seq (.reg [xm 62 9, xm 63 10, ⟨(some 64), .own (.slc 6 false true false) [(.s 62), (.s 63)], none⟩, xm 9 64])
 (.exit 1)))))
 (.seq (.reg [xB .eql 66 44 9, xm 65 66])
 (.cond (.s 65) (.reg [xi 12 4])
 (.skip)))))))
 (.seq (.seq (.reg [xf 5 67 11, xo 68 67, xf 0 69 11, xf 4 70 69, xo 71 70, xL 72 71, xb .lss 73 68 72])
 (.cond (.s 73) (.seq (.reg [xm 74 9, xm 75 10, ⟨(some 76), .own (.idx 6) [(.s 74), (.s 75)], none⟩, xf 5 77 76, xo 78 77, xB .add 79 78 1, ⟨(some 80), .own (.idx 6) [(.s 74), (.s 75)], none⟩, xf 5 81 80, xs 1 81 79])
 (.seq (.reg [xm 82 9, xf 0 83 11, xf 4 84 83, xo 85 84, xf 5 86 11, xo 87 86, xA 5 88 85 87, xl 5 89 88, ⟨(some 90), .build [(.int .i64 0), (.int .i64 0), (.str []), (.sl .full 2 []), (.sl .full 5 []), (.int .i64 0)] [(0, 5, (.s 89))], none⟩, ⟨(some 91), .bslice 6 [(.s 90)], none⟩, ⟨(some 92), .own (.app 6) [(.s 82), (.s 91)], none⟩, xm 9 92])
 (.exit 1)))
 (.skip)))
 (.seq (.reg [xm 93 8, xm 94 12, xf 0 95 11, xf 4 96 95, xo 97 96, xL 98 97, ⟨(some 99), .build insZ [(0, 1, (.s 94)), (1, 1, (.s 98))], none⟩, ⟨(some 100), .bslice 10 [(.s 99)], none⟩, xa 10 101 93 100, xm 8 101])
 (.reg [xm 102 9, xm 103 10, ⟨(some 104), .own (.slc 6 false true false) [(.s 102), (.s 103)], none⟩, xm 9 104])))))))))))
 (.seq (.reg [xm 105 8, xm 6 105, ⟨(some 7), .mv (.c (.bool true)), none⟩])
 (.ret))))))))
theorem fn9 : IsFn prog 9 ac9 [.tmp 6, .tmp 7] 106 := ⟨f9, ⟨[33, 36, 40, 64, 76, 80, 92, 104, 100031], []⟩, func9, by kernel_rfl, by kernel_rfl, by kernel_rfl, by kernel_rfl⟩
def frE (f : Nd × Nat) : List V := f.1.enc ++ [.int .i64 (f.2 : Nat)]
section
variable {m : Nd} {d k : Nat} {x0 x1 x2 x3 x4 x5 : V}
theorem fr_ex : frE (m, d) = [.int .i64 m.kind, .int .i64 m.pos, .str m.text, .sl .no 2 (m.names.map Word.enc), .sl .no 5 (m.kids.map Nd.enc), .int .i64 (d : Nat)] := by rw [frE, Nd.enc_eq]; rfl
theorem fr_len : (frE (m, d)).length = 6 := by rw [fr_ex]; rfl
theorem fr_one : oneL (frE (m, d)) = true := by rw [fr_ex]; rfl
theorem fr_nol : nolL (frE (m, d)) = true := by rw [fr_ex]; rfl
theorem fr_er : eraseL (frE (m, d)) = frE (m, d) := by rw [fr_ex]; rfl
theorem fr_lo : loL k (frE (m, d)) = true := by rw [fr_ex]; rfl
theorem fr_ov : over [x0, x1, x2, x3, x4, x5] (frE (m, d)) = frE (m, d) := by rw [fr_ex]; rfl
theorem fr_k : ldC false 1 (frE (m, d)) = some (.int .i64 m.kind) := by rw [fr_ex]; rfl
theorem fr_ks : ldC false 1 ((frE (m, d)).drop 4) = some (.sl .no 5 (m.kids.map Nd.enc)) := by rw [fr_ex]; rfl
theorem fr_d : ldC false 1 ((frE (m, d)).drop 5) = some (.int .i64 (d : Nat)) := by rw [fr_ex]; rfl
theorem fr_n : takeN 5 (frE (m, d)) = some m.enc := takeN_app Nd.r_len
theorem fr_bld : over [x0, x1, x2, x3, x4, .int .i64 0] m.enc = frE (m, 0) := by rw [fr_ex, Nd.enc_eq]; rfl
theorem fr_has5 : hasN 5 [x0, x1, x2, x3, x4, x5] = true := rfl
theorem fr_st : setAt (frE (m, d)) 5 [.int .i64 (k : Nat)] = frE (m, k) := by rw [fr_ex, fr_ex]; rfl
def fr_rec := And.intro @fr_len <| And.intro @fr_one <| And.intro @fr_nol <| And.intro @fr_er <| And.intro @fr_lo <| And.intro @fr_ov <| And.intro @fr_k <| And.intro @fr_ks <| And.intro @fr_d <| And.intro @fr_n <| And.intro @fr_bld @fr_has5
end
structure CF (s : Scp) (lat : Nat) (n : Nd) (σ : Store) where
  fs : List (Nd × Nat)
  out : List Ins
  v : V
  tk : Tk
  st : Store
  fin : finF s lat fs out = compF s lat n
  all : ∀ f ∈ fs, f.1.labelQ = true ∧ f.1.wt ≤ n.wt ∧ f.1.cnt ≤ n.cnt
  mes : out.length + mesF fs ≤ 2 * n.cnt + 1
  own : Own st 6 v (fs.reverse.map frE)
  sub : OwnS σ st v
  gr : Gr σ st tk out.length
def invCF (s : Scp) (lat : Nat) (n : Nd) (out : List Ins) (v : V) (tk : Tk) (σ : Store) : St :=
  ⟨[.any, .int .i64 (lat : Nat), .any, .ptr (.loc 0) 0, .any, .ptr (.loc 1) 0, .any, .any, .sl tk 10 (out.map Ins.enc), v] ++ List.replicate 96 .any, [s.enc, n.enc], σ⟩
theorem own_lo {σ : Store} {k n : Nat} {v : V} {rows : List (List V)} (h : Own σ k v rows) : v.lo n = true := by obtain ⟨a, cap, rfl, _⟩ := h; rfl
theorem own_boxes {σ σ' : Store} {k : Nat} {v : V} {rows : List (List V)} (h : Own σ k v rows) (e : σ'.box = σ.box) : Own σ' k v rows := h.frame fun b cs _ hc => by rw [e]; exact hc
theorem gr_tips {σ0 σ σ' : Store} {tk : Tk} {n : Nat} (h : Gr σ0 σ tk n) (hs : σ0.sub σ') (e : σ'.tip = σ.tip) : Gr σ0 σ' tk n := ⟨hs, h.tk.imp id fun ⟨τ, a, b, c⟩ => ⟨τ, a, by rw [e]; exact b, c⟩⟩
theorem mes_len : ∀ (fs : List (Nd × Nat)), fs.length ≤ mesF fs
  | [] => Nat.le_refl _
  | f :: fs => by have := mes_len fs; simp only [mesF, List.length_cons]; omega
def z23_ := And.intro @am <| And.intro @amo <| And.intro @amc @aml
theorem ccompile_calls (s : Scp) (lat : Int) (n : Nd) {σ : Store} (hg : TZ σ) (hs : s.ok) (hw : n.wt ≤ big) (hc : n.cnt ≤ 100000) :
    PCalls prog 9 [.agg s.enc, .int .i64 lat, .agg n.enc] σ fun v σ' => v = codeT (compR s lat n) ∧ σ' = σ := by
  refine fn9.calls ?_
  simp only [slots, ac9, z20_, Nat.reduceAdd, Nat.reduceEqDiff, Int.reduceEq, Int.reduceLT, Int.reduceLE, Nat.reduceLT, Int.reduceToNat, Nat.reduceMul, if_false, reduceCtorEq, List.length_map]
  have no : ∀ (u : List V) (l : List (List V)) (σ1 : Store), compR s lat n = none → σ.sub σ1 → RetK (fun v σ' => v = codeT (compR s lat n) ∧ σ' = σ) ⟨u, l, σ1⟩ (.tup [.sl .full 10 [], .bool false]) := fun u l σ1 h h' => by
    rw [h]; exact retK_intro rfl h' ⟨rfl, rfl⟩
  by_cases hn : lat < 0
  · simp only [z22_, Nat.reduceAdd, Nat.reduceEqDiff, List.length_map, Int.reduceEq, Int.reduceLT, Int.reduceLE, Nat.reduceLT, Int.reduceToNat, Nat.reduceMul, if_false, reduceCtorEq, decide_eq_true hn]
    exact no _ _ _ (by rw [compR, if_neg (by omega)]) (Store.sub_refl _)
  · obtain ⟨lat, rfl⟩ : ∃ m : Nat, lat = m := ⟨lat.toNat, by omega⟩
    simp only [z22_, Nat.reduceAdd, Nat.reduceEqDiff, List.length_map, Int.reduceEq, Int.reduceLT, Int.reduceLE, Nat.reduceLT, Int.reduceToNat, Nat.reduceMul, if_false, reduceCtorEq, decide_eq_false hn]
    by_cases hlat : s.lats.length ≤ lat
    · simp only [z22_, Nat.reduceAdd, Nat.reduceEqDiff, List.length_map, Int.reduceEq, Int.reduceLT, Int.reduceLE, Nat.reduceLT, Int.reduceToNat, Nat.reduceMul, if_false, reduceCtorEq, decide_eq_true (show (s.lats.length : Int) ≤ (lat : Nat) by omega)]
      exact no _ _ _ (by rw [compR, if_neg (by omega)]) (Store.sub_refl _)
    · have hlt : lat < s.lats.length := by omega
      simp only [z22_, Nat.reduceAdd, Nat.reduceEqDiff, List.length_map, Int.reduceEq, Int.reduceLT, Int.reduceLE, Nat.reduceLT, Int.reduceToNat, Nat.reduceMul, if_false, reduceCtorEq, decide_eq_false (show ¬ (s.lats.length : Int) ≤ (lat : Nat) by omega)]
      refine (label_is_calls _ n σ (Nat.le_refl _) hw).mono ?_
      rintro v σ ⟨rfl, rfl⟩
      cases hl : n.labelQ with
      | false =>
        simp only [z22_, Nat.reduceAdd, Nat.reduceEqDiff, List.length_map, Int.reduceEq, Int.reduceLT, Int.reduceLE, Nat.reduceLT, Int.reduceToNat, Nat.reduceMul, if_false, reduceCtorEq]
        exact no _ _ _ (by rw [compR, hl, if_neg (by simp)]) (Store.sub_refl _)
      | true =>
        have hR := compR_in hlt hl
        simp only [z22_, Nat.reduceAdd, Nat.reduceEqDiff, List.length_map, Int.reduceEq, Int.reduceLT, Int.reduceLE, Nat.reduceLT, Int.reduceToNat, Nat.reduceMul, if_false, reduceCtorEq, fr_rec]
        refine Own.mk1 (c := frE (n, 0)) (by simp [keepV, V.cells, fr_len, fr_nol, fr_one, fr_er, V.wd]) fr_len fr_nol fun v σ1 hO hS => ?_
        simp only [z22_, Nat.reduceAdd, Nat.reduceEqDiff, List.length_map, Int.reduceEq, Int.reduceLT, Int.reduceLE, Nat.reduceLT, Int.reduceToNat, Nat.reduceMul, if_false, reduceCtorEq]
        obtain ⟨I, hI⟩ : ∃ I : CF s lat n σ → St, ∀ p, I p = invCF s lat n p.out p.v p.tk p.st := ⟨_, fun _ => rfl⟩
        refine vc_loop I (fun p => mesF p.fs) ?_ ?_
        · refine Upd.enter (I := I) ⟨[(n, 0)], [], v, .full, σ1, by simp only [finF, restF_zero]; cases compF s lat n <;> rfl, by simp [hl], ?_, by simpa using hO, hS, ⟨hS.sub, .inl rfl⟩⟩ ?_ ?_ ?_
          · have := Nd.cnt_pos n
            simp only [mesF, List.drop_zero, List.length_nil]; omega
          all_goals simp [hI, invCF, List.replicate, am, lle_self]
        · rintro ⟨fs, out, v, tk, σ1, hfin, hall, hmes, hO, hS, hG⟩
          simp only [hI, invCF, List.replicate, z23_]
          have hml := mes_len fs
          refine hO.len ?_
          cases fs with
          | nil =>
            have e : compF s lat n = some out := by rw [← hfin]; rfl
            simp only [z22_, Nat.reduceAdd, Nat.reduceEqDiff, List.length_map, Int.reduceEq, Int.reduceLT, Int.reduceLE, Nat.reduceLT, Int.reduceToNat, Nat.reduceMul, if_false, reduceCtorEq, List.reverse_nil, List.map_nil, List.length_nil, show decide ((0 : Int) < ((0 : Nat) : Int)) = false from rfl]
            exact retK_intro rfl hG.sub ⟨by rw [hR, e]; rfl, rfl⟩
          | cons f fs =>
            obtain ⟨m, d⟩ := f
            obtain ⟨hml1, hmw, hmc⟩ := hall (m, d) (by simp)
            simp only at hml1 hmw hmc
            have hrl : (List.map frE ((m, d) :: fs).reverse).length = fs.length + 1 := by simp
            have hat : (List.map frE ((m, d) :: fs).reverse)[fs.length]? = some (frE (m, d)) := by simp
            have htake : (List.map frE ((m, d) :: fs).reverse).take fs.length = List.map frE fs.reverse := by simp
            have hlb : fs.length + 1 ≤ 2 * n.cnt + 1 := by simp only [List.length_cons] at hml; omega
            have hgs : TZ σ1 := hG.sub.1 _ _ hg
            simp only [z22_, Nat.reduceAdd, Nat.reduceEqDiff, List.length_map, Int.reduceEq, Int.reduceLT, Int.reduceLE, Nat.reduceLT, Int.reduceToNat, Nat.reduceMul, if_false, reduceCtorEq, hrl, show decide ((0 : Int) < ((fs.length + 1 : Nat) : Int)) = true from decide_eq_true (by omega)]
            refine hO.len ?_
            simp only [z22_, Nat.reduceAdd, Nat.reduceEqDiff, List.length_map, Int.reduceEq, Int.reduceLT, Int.reduceLE, Nat.reduceLT, Int.reduceToNat, Nat.reduceMul, if_false, reduceCtorEq, hrl]
            rw [wrap_i64 (by omega) (by omega), show ((fs.length + 1 : Nat) : Int) - 1 = (fs.length : Nat) by omega]
            refine hO.idx (by omega) (j := (fs.length : Nat)) (c := frE (m, d)) (by rw [Int.toNat_natCast]; exact hat) fun b cs rest hb hcs hdr => ?_
            rw [Int.toNat_natCast] at hdr ⊢
            have hld : takeN 6 (cs.drop (fs.length * 6)) = some (frE (m, d)) := by rw [hdr]; exact takeN_app fr_len
            simp only [z22_, Nat.reduceAdd, Nat.reduceEqDiff, List.length_map, Int.reduceEq, Int.reduceLT, Int.reduceLE, Nat.reduceLT, Int.reduceToNat, Nat.reduceMul, if_false, reduceCtorEq, hcs, hld, fr_rec]
            by_cases hk : m.kind = 1 ∨ m.kind = 7
            · have hsel : (decide (m.kind = 1) = true) ∨ (decide (m.kind = 1) = false ∧ decide (m.kind = 7) = true) := by
                by_cases h1 : m.kind = 1
                · exact .inl (decide_eq_true h1)
                · exact .inr ⟨decide_eq_false h1, decide_eq_true (by simpa [h1] using hk)⟩
              have hlf := restF_leaf (s := s) (lat := lat) (d := d) (fs := fs) (out := out) hk
              rw [hlf] at hfin
              rcases hsel with e1 | ⟨e1, e2⟩
              case' inl => simp only [z22_, Nat.reduceAdd, Nat.reduceEqDiff, List.length_map, Int.reduceEq, Int.reduceLT, Int.reduceLE, Nat.reduceLT, Int.reduceToNat, Nat.reduceMul, if_false, reduceCtorEq, e1, fr_rec]
              case' inr => simp only [z22_, Nat.reduceAdd, Nat.reduceEqDiff, List.length_map, Int.reduceEq, Int.reduceLT, Int.reduceLE, Nat.reduceLT, Int.reduceToNat, Nat.reduceMul, if_false, reduceCtorEq, e1, e2, fr_rec]
              all_goals
                refine (leaf_calls14 s lat m hgs hs hlt (by omega) (by omega) hml1 hk).mono ?_
                rintro v' σ' ⟨⟨i, rfl, hi⟩, rfl⟩
                simp only [z22_, Nat.reduceAdd, Nat.reduceEqDiff, List.length_map, Int.reduceEq, Int.reduceLT, Int.reduceLE, Nat.reduceLT, Int.reduceToNat, Nat.reduceMul, if_false, reduceCtorEq]
                cases hleaf : leafF s lat m with
                | none =>
                  rw [hleaf] at hfin
                  simp only [z22_, Nat.reduceAdd, Nat.reduceEqDiff, List.length_map, Int.reduceEq, Int.reduceLT, Int.reduceLE, Nat.reduceLT, Int.reduceToNat, Nat.reduceMul, if_false, reduceCtorEq, Option.isSome_none]
                  exact no _ _ _ (by rw [hR, ← hfin]) hG.sub
                | some j =>
                  obtain rfl := hi j hleaf
                  rw [hleaf] at hfin
                  simp only [z22_, Nat.reduceAdd, Nat.reduceEqDiff, List.length_map, Int.reduceEq, Int.reduceLT, Int.reduceLE, Nat.reduceLT, Int.reduceToNat, Nat.reduceMul, if_false, reduceCtorEq, Option.isSome_some]
                  refine Gr.app (by simpa using hG) (by simp only [mesF] at hmes; simp [big]; omega) fun tk' σ2 hG' hB _ => ?_
                  simp only [z22_, Nat.reduceAdd, Nat.reduceEqDiff, List.length_map, Int.reduceEq, Int.reduceLT, Int.reduceLE, Nat.reduceLT, Int.reduceToNat, Nat.reduceMul, if_false, reduceCtorEq]
                  refine (own_boxes hO hB).take (m := fs.length) (by omega) (Int.toNat_natCast _) (by rw [hrl]; omega) fun v2 hO2 hb2 => ?_
                  rw [htake] at hO2
                  simp only [z22_, Nat.reduceAdd, Nat.reduceEqDiff, List.length_map, Int.reduceEq, Int.reduceLT, Int.reduceLE, Nat.reduceLT, Int.reduceToNat, Nat.reduceMul, if_false, reduceCtorEq]
                  refine Upd.againD (I := I) ⟨fs, out ++ [i], v2, tk', σ2, hfin, fun f hf => hall f (List.mem_cons_of_mem _ hf), by simp only [mesF] at hmes; rw [List.length_append, List.length_singleton]; omega, hO2, ⟨hG'.sub, fun b hb => hS.new b (by rw [← hb2]; exact hb)⟩, by simpa using hG'⟩ (by simp only [mesF]; omega) ?_ ?_ ?_ ?_ ?_
                  all_goals simp [hI, invCF, List.replicate, am, lle_self, loL, loLL, V.lo, Scp.r_lo, Nd.r_lo, own_lo hO2]
            · have e1 : decide (m.kind = 1) = false := decide_eq_false fun h => hk (.inl h)
              have e7 : decide (m.kind = 7) = false := decide_eq_false fun h => hk (.inr h)
              simp only [z22_, Nat.reduceAdd, Nat.reduceEqDiff, List.length_map, Int.reduceEq, Int.reduceLT, Int.reduceLE, Nat.reduceLT, Int.reduceToNat, Nat.reduceMul, if_false, reduceCtorEq, e1, e7]
              have hkids := label_kids hml1 hk
              have hkc := cnt_kids m
              by_cases h9 : m.kind = 9
              case' pos =>
                have eo : opF m = ⟨4, m.kids.length, .zero⟩ := by rw [opF, if_pos h9]
                simp only [z22_, Nat.reduceAdd, Nat.reduceEqDiff, List.length_map, Int.reduceEq, Int.reduceLT, Int.reduceLE, Nat.reduceLT, Int.reduceToNat, Nat.reduceMul, if_false, reduceCtorEq, decide_eq_true h9, fr_rec]
              case' neg =>
                have eo : opF m = ⟨3, m.kids.length, .zero⟩ := by rw [opF, if_neg h9]
                simp only [z22_, Nat.reduceAdd, Nat.reduceEqDiff, List.length_map, Int.reduceEq, Int.reduceLT, Int.reduceLE, Nat.reduceLT, Int.reduceToNat, Nat.reduceMul, if_false, reduceCtorEq, decide_eq_false h9, fr_rec]
              all_goals
                by_cases hd : d < m.kids.length
                · have hdr5 : cs.drop (fs.length * 6 + 5) = (frE (m, d)).drop 5 ++ rest := by
                    rw [← List.drop_drop, hdr, List.drop_append_of_le_length (by rw [fr_len]; omega)]
                  have h5 : (frE (m, d)).drop 5 = [.int .i64 (d : Nat)] := by rw [fr_ex]; rfl
                  have hld5 : ldC false 1 (cs.drop (fs.length * 6 + 5)) = some (.int .i64 (d : Nat)) := by rw [hdr5, h5]; rfl
                  have hhas5 : hasN 1 (cs.drop (fs.length * 6 + 5)) = true := by rw [hdr5, h5]; rfl
                  obtain ⟨hO2, hF2⟩ := hO.put (off := 5) (x := [.int .i64 ((d + 1 : Nat) : Int)]) hat hb hcs (by simp)
                  have hset : (List.map frE ((m, d) :: fs).reverse).set fs.length (setAt (frE (m, d)) 5 [.int .i64 ((d + 1 : Nat) : Int)]) = List.map frE ((m, d + 1) :: fs).reverse := by
                    rw [fr_st]; simp
                  rw [hset] at hO2
                  have hmm : m.kids[d] ∈ m.kids := List.getElem_mem hd
                  have hkw := kid_wt hmm
                  have hkc2 := cnt_kid hmm
                  simp only [z22_, Nat.reduceAdd, Nat.reduceEqDiff, List.length_map, Int.reduceEq, Int.reduceLT, Int.reduceLE, Nat.reduceLT, Int.reduceToNat, Nat.reduceMul, if_false, reduceCtorEq, dlt hd]
                  refine hO.idx (by omega) (j := (fs.length : Nat)) (c := frE (m, d)) (by rw [Int.toNat_natCast]; exact hat) fun b2 cs2 rest2 hb2 hcs2 _ => ?_
                  obtain rfl : b = b2 := by rw [hb] at hb2; exact Option.some.inj hb2
                  rw [Int.toNat_natCast]
                  simp only [z22_, Nat.reduceAdd, Nat.reduceEqDiff, List.length_map, Int.reduceEq, Int.reduceLT, Int.reduceLE, Nat.reduceLT, Int.reduceToNat, Nat.reduceMul, if_false, reduceCtorEq, hcs, hld5, winc hd (by omega)]
                  refine hO.idx (by omega) (j := (fs.length : Nat)) (c := frE (m, d)) (by rw [Int.toNat_natCast]; exact hat) fun b2 cs2 rest2 hb2 hcs2 _ => ?_
                  obtain rfl : b = b2 := by rw [hb] at hb2; exact Option.some.inj hb2
                  rw [Int.toNat_natCast]
                  simp only [z22_, Nat.reduceAdd, Nat.reduceEqDiff, List.length_map, Int.reduceEq, Int.reduceLT, Int.reduceLE, Nat.reduceLT, Int.reduceToNat, Nat.reduceMul, if_false, reduceCtorEq, hcs, hhas5, fr_rec]
                  refine idxL_intro (by omega) (nencs_at (List.getElem?_eq_getElem hd)) ?_
                  simp only [z22_, Nat.reduceAdd, Nat.reduceEqDiff, List.length_map, Int.reduceEq, Int.reduceLT, Int.reduceLE, Nat.reduceLT, Int.reduceToNat, Nat.reduceMul, if_false, reduceCtorEq, fr_rec]
                  refine hO2.app (m := [frE (m.kids[d], 0)]) (by simp [fr_len]) (by simp [fr_nol]) (by simp [big]; omega) fun v3 σ3 hO3 hF3 => ?_
                  have hS3 := (hS.step hF2).step hF3
                  have hG3 := gr_tips hG hS3.sub (hF3.tip.trans hF2.tip)
                  simp only [z22_, Nat.reduceAdd, Nat.reduceEqDiff, List.length_map, Int.reduceEq, Int.reduceLT, Int.reduceLE, Nat.reduceLT, Int.reduceToNat, Nat.reduceMul, if_false, reduceCtorEq]
                  refine Upd.againD (I := I) ⟨(m.kids[d], 0) :: (m, d + 1) :: fs, out, v3, tk, σ3, by rw [← restF_kid hk hd]; exact hfin, ?_, ?_, by simpa using hO3, hS3, hG3⟩ (mes_kid hd) ?_ ?_ ?_ ?_ ?_
                  · intro f hf
                    rcases List.mem_cons.1 hf with rfl | hf
                    · exact ⟨hkids _ hmm, by simp only; omega, by simp only; omega⟩
                    · rcases List.mem_cons.1 hf with rfl | hf
                      · exact ⟨hml1, hmw, hmc⟩
                      · exact hall f (List.mem_cons_of_mem _ hf)
                  · have := mes_kid (fs := fs) hd; omega
                  all_goals simp [hI, invCF, List.replicate, am, lle_self, loL, loLL, V.lo, Scp.r_lo, Nd.r_lo, fr_lo, own_lo hO3]
                · simp only [z22_, Nat.reduceAdd, Nat.reduceEqDiff, List.length_map, Int.reduceEq, Int.reduceLT, Int.reduceLE, Nat.reduceLT, Int.reduceToNat, Nat.reduceMul, if_false, reduceCtorEq, decide_eq_false (show ¬ (d : Int) < (m.kids.length : Nat) by omega), fr_rec]
                  refine Gr.app (by simpa using hG) (by simp only [mesF] at hmes; simp [big]; omega) fun tk' σ2 hG' hB _ => ?_
                  simp only [z22_, Nat.reduceAdd, Nat.reduceEqDiff, List.length_map, Int.reduceEq, Int.reduceLT, Int.reduceLE, Nat.reduceLT, Int.reduceToNat, Nat.reduceMul, if_false, reduceCtorEq]
                  refine (own_boxes hO hB).take (m := fs.length) (by omega) (Int.toNat_natCast _) (by rw [hrl]; omega) fun v2 hO2 hb2 => ?_
                  rw [htake] at hO2
                  simp only [z22_, Nat.reduceAdd, Nat.reduceEqDiff, List.length_map, Int.reduceEq, Int.reduceLT, Int.reduceLE, Nat.reduceLT, Int.reduceToNat, Nat.reduceMul, if_false, reduceCtorEq]
                  refine Upd.againD (I := I) ⟨fs, out ++ [opF m], v2, tk', σ2, by rw [← restF_end hk (Nat.le_of_not_lt hd)]; exact hfin, fun f hf => hall f (List.mem_cons_of_mem _ hf), by simp only [mesF] at hmes; rw [List.length_append, List.length_singleton]; omega, hO2, ⟨hG'.sub, fun b hb => hS.new b (by rw [← hb2]; exact hb)⟩, by simpa using hG'⟩ (by simp only [mesF]; omega) ?_ ?_ ?_ ?_ ?_
                  all_goals simp [hI, invCF, List.replicate, am, lle_self, loL, loLL, V.lo, Scp.r_lo, Nd.r_lo, fr_lo, eo, Ins.zero, own_lo hO2]
end Go.Proofs.Tryz

namespace Go.Proofs.Tryz
open Go.Am
set_option maxRecDepth 4000
set_option maxHeartbeats 4000000
def ac14 : AC := .seq (.reg [⟨(some 3), .box 2 (.s 0), none⟩, ⟨(some 6), .alloc elmZ, none⟩, ⟨(some 7), .mv (.c (.bool false)), none⟩])
 (.seq (.seq (.reg [xm 12 1, xc 15 13 [.s 12], ⟨(some 14), .not (.s 13), none⟩])
 (.cond (.s 14) (.seq (.reg [⟨(some 15), .build elmZ [], none⟩, xs 8 6 15, ⟨(some 7), .mv (.c (.bool false)), none⟩])
 (.ret))
 (.skip)))
 (.seq (.reg [⟨(some 8), .mv (.c (.sl .full 8 [])), none⟩])
 (.seq (.seq (.reg [xm 16 1, xL 17 16, xi 18 0])
 (.block 0 (.loop (.seq (.reg [xb .lss 19 18 17])
 (.seq (.cond (.s 19) (.skip)
 (.exit 0))
 (.seq (.block 1 (.seq (.reg [xA 10 20 16 18, xl 10 21 20, ⟨(some 10), .alloc insZ, none⟩, xs 10 10 21])
 (.seq (.reg [xf 0 22 10, xo 23 22])
 (.block 2 (.seq (.reg [xB .eql 43 23 1, xm 42 43])
 (.cond (.s 42) (.seq (.seq (.reg [xf 1 44 10, xo 45 44, xB .lss 46 45 0, xm 47 46, xh 47 (xf 1 48 10), xh 47 (xo 49 48), xh 47 (xm 50 2), xh 47 (xL 51 50), xh 47 (xb .geq 52 49 51), ⟨(some 53), .pick (.s 47) (.c (.bool true)) (.s 52), none⟩])
 (.cond (.s 53) (.seq (.reg [⟨(some 54), .build elmZ [], none⟩, xs 8 6 54, ⟨(some 7), .mv (.c (.bool false)), none⟩])
 (.ret))
 (.skip)))
 (.reg [xm 55 8, xm 56 2, xf 1 57 10, xo 58 57, xA 8 59 56 58, xl 8 60 59, ⟨(some 61), .bslice 8 [(.s 60)], none⟩, xa 8 62 55 61, xm 8 62]))
 (.seq (.reg [xB .eql 64 23 2, xm 63 64])
 (.cond (.s 63) (.reg [xm 65 8, xf 2 66 10, xl 8 67 66, ⟨(some 68), .bslice 8 [(.s 67)], none⟩, xa 8 69 65 68, xm 8 69])
 (.seq (.reg [xm 24 8, xL 25 24, xf 1 26 10, xo 27 26, xb .sub 28 25 27, xm 11 28])
 (.draw [(xm 29 8, []), (xm 30 11, []), (xm 31 11, []), (⟨(some 32), .slc 8 (.s 29) none (some (.s 30)) (some (.s 31)), none⟩, []), (xl 2 33 3, []), (xf 0 34 10, []), (xo 35 34, []), (xm 36 8, []), (xm 37 11, []), (⟨(some 38), .slc 8 (.s 36) (some (.s 37)) none none, none⟩, []), (xc 33 39 [.s 33, .s 35, .s 38], []), (⟨(some 40), .bslice 8 [(.s 39)], none⟩, []), (xa 8 41 32 40, []), (xm 8 41, [])]))))))))))
 (.reg [xB .add 70 18 1, xm 18 70])))))))
 (.seq (.reg [xm 71 8, ⟨(some 72), .idxA 8 (.s 71) (.c (.int .i64 0)), none⟩, xl 8 73 72, xs 8 6 73, ⟨(some 7), .mv (.c (.bool true)), none⟩])
 (.ret)))))
theorem fn14 : IsFn prog 14 ac14 [.cell 6 true 8, .tmp 7] 74 := ⟨f14, ⟨[], []⟩, func14, by kernel_rfl, by kernel_rfl, by kernel_rfl, by kernel_rfl⟩
def ac15 : AC := .seq (.reg [⟨(some 2), .mv (.c (.bool false)), none⟩])
 (.seq (.reg [xi 3 0])
 (.seq (.seq (.reg [xm 6 0, xL 7 6, xi 8 0])
 (.block 0 (.loop (.seq (.reg [xb .lss 9 8 7])
 (.seq (.cond (.s 9) (.skip)
 (.exit 0))
 (.seq (.block 1 (.seq (.reg [xA 10 10 6 8, xl 10 11 10, ⟨(some 5), .alloc insZ, none⟩, xs 10 5 11])
 (.seq (.reg [xf 0 12 5, xo 13 12])
 (.block 2 (.seq (.seq (.reg [xB .eql 15 13 1, xm 14 15])
 (.cond (.s 14) (.skip)
 (.reg [xB .eql 16 13 2, xm 14 16])))
 (.cond (.s 14) (.reg [xm 17 3, xB .add 18 17 1, xm 3 18])
 (.seq (.seq (.reg [xB .eql 20 13 3, xm 19 20])
 (.cond (.s 19) (.skip)
 (.reg [xB .eql 21 13 4, xm 19 21])))
 (.cond (.s 19) (.seq (.seq (.reg [xf 1 22 5, xo 23 22, xB .lss 24 23 1, xm 25 24, xh 25 (xf 1 26 5), xh 25 (xo 27 26), xh 25 (xm 28 3), xh 25 (xb .gtr 29 27 28), ⟨(some 30), .pick (.s 25) (.c (.bool true)) (.s 29), none⟩])
 (.cond (.s 30) (.seq (.reg [⟨(some 2), .mv (.c (.bool false)), none⟩])
 (.ret))
 (.skip)))
 (.reg [xm 31 3, xf 1 32 5, xo 33 32, xB .sub 34 33 1, xb .sub 35 31 34, xm 3 35]))
 (.seq (.reg [⟨(some 2), .mv (.c (.bool false)), none⟩])
 (.ret))))))))))
 (.reg [xB .add 36 8 1, xm 8 36])))))))
 (.seq (.reg [xm 37 3, xB .eql 38 37 1, xm 2 38])
 (.ret))))
theorem fn15 : IsFn prog 15 ac15 [.tmp 2] 39 := ⟨f15, ⟨[], []⟩, func15, by kernel_rfl, by kernel_rfl, by kernel_rfl, by kernel_rfl⟩
def ac33 : AC := .seq (.reg [⟨(some 3), .box 2 (.s 0), none⟩, ⟨(some 6), .alloc elmZ, none⟩])
 (.seq (.reg [xm 9 2, xm 10 2, xL 11 10, xB .sub 12 11 1, xA 8 13 9 12, xl 8 14 13, ⟨(some 7), .alloc elmZ, none⟩, xs 8 7 14])
 (.seq (.seq (.reg [xm 15 2, xL 16 15, xB .sub 17 16 2, xm 8 17])
 (.block 0 (.loop (.seq (.seq (.reg [xm 18 8, xB .geq 19 18 0])
 (.cond (.s 19) (.skip)
 (.exit 0)))
 (.seq (.block 1 (.seq (.seq (.reg [xm 22 1, xB .eql 23 22 3])
 (.cond (.s 23) (.seq (.draw [(xl 2 24 3, []), (xm 25 2, []), (xm 26 8, []), (xA 8 27 25 26, []), (xl 8 28 27, []), (xl 8 29 7, []), (xc 53 30 [.s 24, .s 28, .s 29], []), (xs 8 7 30, [])])
 (.exit 1))
 (.skip)))
 (.draw [(xm 31 2, []), (xm 32 8, []), (xA 8 33 31 32, []), (xl 8 34 33, []), (xl 8 35 7, []), (xc 54 36 [.s 34, .s 35], []), (xs 8 7 36, [])])))
 (.reg [xm 20 8, xB .sub 21 20 1, xm 8 21]))))))
 (.seq (.reg [xl 8 37 7, xs 8 6 37])
 (.ret))))
theorem fn33 : IsFn prog 33 ac33 [.cell 6 true 8] 38 := ⟨f33, ⟨[], []⟩, func33, by kernel_rfl, by kernel_rfl, by kernel_rfl, by kernel_rfl⟩
def z24_ := And.intro @am <| And.intro @amo <| And.intro @amc <| And.intro @ams <| And.intro @decide_true <| And.intro @decide_false <| And.intro @aml <| And.intro @w_zero <| And.intro @w_one <| And.intro @Rl.rec_ <| And.intro @Fct.rec_ <| And.intro @Shp.rec_ <| And.intro @Elm.rec_ <| And.intro @Word.rec_ <| And.intro @Nd.rec_ <| And.intro @Nd.fl <| And.intro @Scp.rec_ <| And.intro @Ins.rec_ <| And.intro @Int.toNat_natCast <| And.intro @Nat.mul_one @Nat.add_zero
def z25_ := And.intro @am <| And.intro @amo <| And.intro @amc <| And.intro @aml <| And.intro @decide_true <| And.intro @decide_false <| And.intro @w_zero <| And.intro @w_one <| And.intro @Rl.rec_ <| And.intro @Fct.rec_ <| And.intro @Shp.rec_ <| And.intro @Elm.rec_ <| And.intro @Word.rec_ <| And.intro @Nd.rec_ <| And.intro @Nd.fl <| And.intro @Scp.rec_ <| And.intro @Ins.rec_ <| And.intro @Int.toNat_natCast <| And.intro @Nat.mul_one @Nat.add_zero
def z26_ := And.intro @am <| And.intro @amo <| And.intro @amc <| And.intro @encs_length <| And.intro @decide_true <| And.intro @decide_false <| And.intro @aml <| And.intro @w_zero <| And.intro @w_one <| And.intro @Rl.rec_ <| And.intro @Fct.rec_ <| And.intro @Shp.rec_ <| And.intro @Elm.rec_ <| And.intro @Word.rec_ <| And.intro @Nd.rec_ <| And.intro @Nd.fl <| And.intro @Scp.rec_ <| And.intro @Ins.rec_ <| And.intro @Int.toNat_natCast <| And.intro @Nat.mul_one @Nat.add_zero
theorem cright_calls (l : List Ins) (σ : Store) (hl : l.length ≤ 100000) : PCalls prog 15 [.sl .no 10 (l.map Ins.enc)] σ fun v σ' => v = .bool (rightC l) ∧ σ' = σ := by
  refine fn15.calls ?_
  simp only [slots, ac15, z24_, Nat.reduceAdd, Nat.reduceEqDiff, Int.reduceEq, Int.reduceLT, Int.reduceLE, Nat.reduceLT, Int.reduceToNat, Nat.reduceMul, if_false, reduceCtorEq, List.length_map]
  obtain ⟨F, hF⟩ : ∃ F : Nat → Nat → St, ∀ i d, F i d = ⟨[.any, .any, .bool false, .int .i64 (d : Nat), .any, .any, .sl .no 10 (l.map Ins.enc), .int .i64 (l.length : Nat), .int .i64 (i : Nat)] ++ List.replicate 30 .any, [], σ⟩ := ⟨_, fun _ _ => rfl⟩
  obtain ⟨JF, hJF⟩ : ∃ JF : Nat → Nat → Prop, ∀ i d, JF i d = (deepF l 0 = deepF (l.drop i) d ∧ d ≤ i) := ⟨_, fun _ _ => rfl⟩
  refine vc_count (l.length) F JF _ hJF ?_ ?_ ?_
  · refine ent (0) ?_ ?_ ?_ ?_
    · exact Eq.mpr (hJF _ _) (⟨rfl, Nat.le_refl _⟩)
    all_goals simp [hF, List.replicate, am, lle_self]
  · rintro i d hi ⟨hJ, hd⟩
    rw [List.drop_eq_getElem_cons hi, deepF] at hJ
    have no : deepF l 0 = none → rightC l = false := fun h => by rw [rightC, h]; rfl
    simp only [hF, List.replicate, z25_, dlt hi, Nat.reduceAdd, Nat.reduceEqDiff, Int.reduceEq, Int.reduceLT, Int.reduceLE, Nat.reduceLT, Int.reduceToNat, Nat.reduceMul, if_false, reduceCtorEq, List.length_map]
    refine idxL_intro (by omega) (codes_at hi) ?_
    simp only [z26_, Nat.reduceAdd, Nat.reduceEqDiff, List.length_map, Int.reduceEq, Int.reduceLT, Int.reduceLE, Nat.reduceLT, Int.reduceToNat, Nat.reduceMul, if_false, reduceCtorEq]
    by_cases h1 : l[i].op = 1 ∨ l[i].op = 2
    · rw [if_pos h1] at hJ
      have hsel : (decide (l[i].op = 1) = true) ∨ (decide (l[i].op = 1) = false ∧ decide (l[i].op = 2) = true) := by
        by_cases h : l[i].op = 1
        · exact .inl (decide_eq_true h)
        · exact .inr ⟨decide_eq_false h, decide_eq_true (by simpa [h] using h1)⟩
      rcases hsel with e1 | ⟨e1, e2⟩
      case' inl => simp only [z26_, Nat.reduceAdd, Nat.reduceEqDiff, List.length_map, Int.reduceEq, Int.reduceLT, Int.reduceLE, Nat.reduceLT, Int.reduceToNat, Nat.reduceMul, if_false, reduceCtorEq, e1, winc hi (by omega), winc (n := d + 1) (Nat.lt_succ_self d) (by omega)]
      case' inr => simp only [z26_, Nat.reduceAdd, Nat.reduceEqDiff, List.length_map, Int.reduceEq, Int.reduceLT, Int.reduceLE, Nat.reduceLT, Int.reduceToNat, Nat.reduceMul, if_false, reduceCtorEq, e1, e2, winc hi (by omega), winc (n := d + 1) (Nat.lt_succ_self d) (by omega)]
      all_goals
        refine nxtD (d + 1) hi ?_ ?_ ?_ ?_ ?_ ?_
        · exact Eq.mpr (hJF _ _) (⟨hJ, by omega⟩)
        all_goals simp [hF, List.replicate, am, lle_self, loL, loLL, V.lo, Ins.r_lo]
    · rw [if_neg h1] at hJ
      have e1 : decide (l[i].op = 1) = false := decide_eq_false fun h => h1 (.inl h)
      have e2 : decide (l[i].op = 2) = false := decide_eq_false fun h => h1 (.inr h)
      by_cases h3 : l[i].op = 3 ∨ l[i].op = 4
      · rw [if_pos h3] at hJ
        have hsel : (decide (l[i].op = 3) = true) ∨ (decide (l[i].op = 3) = false ∧ decide (l[i].op = 4) = true) := by
          by_cases h : l[i].op = 3
          · exact .inl (decide_eq_true h)
          · exact .inr ⟨decide_eq_false h, decide_eq_true (by simpa [h] using h3)⟩
        rcases hsel with e3 | ⟨e3, e4⟩
        case' inl => simp only [z26_, Nat.reduceAdd, Nat.reduceEqDiff, List.length_map, Int.reduceEq, Int.reduceLT, Int.reduceLE, Nat.reduceLT, Int.reduceToNat, Nat.reduceMul, if_false, reduceCtorEq, e1, e2, e3]
        case' inr => simp only [z26_, Nat.reduceAdd, Nat.reduceEqDiff, List.length_map, Int.reduceEq, Int.reduceLT, Int.reduceLE, Nat.reduceLT, Int.reduceToNat, Nat.reduceMul, if_false, reduceCtorEq, e1, e2, e3, e4]
        all_goals
          by_cases hb : l[i].n < 1
          · rw [if_pos (.inl hb)] at hJ
            simp only [z26_, Nat.reduceAdd, Nat.reduceEqDiff, List.length_map, Int.reduceEq, Int.reduceLT, Int.reduceLE, Nat.reduceLT, Int.reduceToNat, Nat.reduceMul, if_false, reduceCtorEq, decide_eq_true hb]
            refine retK_intro rfl (Store.sub_refl _) ⟨?_, rfl⟩
            simp [V.erase, eraseL, no hJ]
          · simp only [z26_, Nat.reduceAdd, Nat.reduceEqDiff, List.length_map, Int.reduceEq, Int.reduceLT, Int.reduceLE, Nat.reduceLT, Int.reduceToNat, Nat.reduceMul, if_false, reduceCtorEq, decide_eq_false hb]
            by_cases hb2 : ((d : Nat) : Int) < l[i].n
            · rw [if_pos (.inr hb2)] at hJ
              simp only [z26_, Nat.reduceAdd, Nat.reduceEqDiff, List.length_map, Int.reduceEq, Int.reduceLT, Int.reduceLE, Nat.reduceLT, Int.reduceToNat, Nat.reduceMul, if_false, reduceCtorEq, decide_eq_true hb2]
              refine retK_intro rfl (Store.sub_refl _) ⟨?_, rfl⟩
              simp [V.erase, eraseL, no hJ]
            · rw [if_neg (by omega)] at hJ
              simp only [z26_, Nat.reduceAdd, Nat.reduceEqDiff, List.length_map, Int.reduceEq, Int.reduceLT, Int.reduceLE, Nat.reduceLT, Int.reduceToNat, Nat.reduceMul, if_false, reduceCtorEq, decide_eq_false hb2]
              rw [wrap_i64 (x := l[i].n - 1) (by omega) (by omega), wrap_i64 (x := ((d : Nat) : Int) - (l[i].n - 1)) (by omega) (by omega), show ((d : Nat) : Int) - (l[i].n - 1) = ((d - (l[i].n.toNat - 1) : Nat) : Int) by omega]
              simp only [z26_, Nat.reduceAdd, Nat.reduceEqDiff, List.length_map, Int.reduceEq, Int.reduceLT, Int.reduceLE, Nat.reduceLT, Int.reduceToNat, Nat.reduceMul, if_false, reduceCtorEq, winc hi (by omega)]
              refine nxtD (d - (l[i].n.toNat - 1)) hi ?_ ?_ ?_ ?_ ?_ ?_
              · exact Eq.mpr (hJF _ _) (⟨hJ, by omega⟩)
              all_goals simp [hF, List.replicate, am, lle_self, loL, loLL, V.lo, Ins.r_lo]
      · rw [if_neg h3] at hJ
        have e3 : decide (l[i].op = 3) = false := decide_eq_false fun h => h3 (.inl h)
        have e4 : decide (l[i].op = 4) = false := decide_eq_false fun h => h3 (.inr h)
        simp only [z26_, Nat.reduceAdd, Nat.reduceEqDiff, List.length_map, Int.reduceEq, Int.reduceLT, Int.reduceLE, Nat.reduceLT, Int.reduceToNat, Nat.reduceMul, if_false, reduceCtorEq, e1, e2, e3, e4]
        refine retK_intro rfl (Store.sub_refl _) ⟨?_, rfl⟩
        simp [V.erase, eraseL, no hJ]
  · rintro d ⟨hJ, hd⟩
    rw [List.drop_length, deepF] at hJ
    simp only [hF, List.replicate, z25_, dnl, Nat.reduceAdd, Nat.reduceEqDiff, Int.reduceEq, Int.reduceLT, Int.reduceLE, Nat.reduceLT, Int.reduceToNat, Nat.reduceMul, if_false, reduceCtorEq, List.length_map]
    refine retK_intro rfl (Store.sub_refl _) ⟨?_, rfl⟩
    simp [V.erase, eraseL, rightC, hJ]
    omega
theorem slcL_fullq {k : Nat} {τ : Tk} {m : List (List V)} {j j' : IntKind} {b : Nat} {H : V → Prop} (h2 : b ≤ m.length) (h : H (.sl .full k (m.take b))) : slcL k (.sl τ k m) none (some (.int j b)) (some (.int j' b)) H := ⟨τ, m, 0, b, rfl, Nat.zero_le _, h2, rfl, ⟨j, rfl⟩, ⟨j', rfl⟩, h⟩
theorem elms_at {l : List Elm} {j : Nat} (h : j < l.length) : (l.map Elm.enc)[((j : Nat) : Int).toNat]? = some l[j].enc := by simp [h]
theorem fold_calls (s : Shp) (op : Int) (l : List Elm) {σ : Store} (hg : TZ σ) (hok : s.ok) (h0 : 1 ≤ l.length) (hl : l.length ≤ 100000) :
    PCalls prog 33 [.agg s.enc, .int .i64 op, .sl .no 8 (l.map Elm.enc)] σ fun v σ' => v = .agg (foldE s op l).enc ∧ σ' = σ := by
  refine fn33.calls ?_
  simp only [slots, ac33, z24_, Nat.reduceAdd, Nat.reduceEqDiff, Int.reduceEq, Int.reduceLT, Int.reduceLE, Nat.reduceLT, Int.reduceToNat, Nat.reduceMul, if_false, reduceCtorEq, List.length_map]
  rw [wrap_i64 (by omega) (by omega), show ((l.length : Nat) : Int) - 1 = ((l.length - 1 : Nat) : Int) by omega]
  refine idxL_intro (by omega) (elms_at (by omega)) ?_
  simp only [z26_, Nat.reduceAdd, Nat.reduceEqDiff, List.length_map, Int.reduceEq, Int.reduceLT, Int.reduceLE, Nat.reduceLT, Int.reduceToNat, Nat.reduceMul, if_false, reduceCtorEq]
  rw [wrap_i64 (by omega) (by omega)]
  obtain ⟨F, hF⟩ : ∃ F : Nat → Unit → St, ∀ k x, F k x = ⟨[.any, .int .i64 op, .sl .no 8 (l.map Elm.enc), .ptr (.loc 0) 0, .any, .any, .ptr (.loc 1) 0, .ptr (.loc 2) 0, .int .i64 (((l.length : Nat) : Int) - 2 - (k : Nat))] ++ List.replicate 29 .any, [s.enc, Elm.zero.enc, (foldE s op (l.drop (l.length - 1 - k))).enc], σ⟩ := ⟨_, fun _ _ => rfl⟩
  obtain ⟨JF, hJF⟩ : ∃ JF : Nat → Unit → Prop, ∀ k x, JF k x = (True) := ⟨_, fun _ _ => rfl⟩
  refine vc_count (l.length - 1) F JF _ hJF ?_ ?_ ?_
  · have e : l.drop (l.length - 1) = [l[l.length - 1]] := by rw [List.drop_eq_getElem_cons (by omega), List.drop_of_length_le (by omega)]
    refine ent (()) ?_ ?_ ?_ ?_
    · exact Eq.mpr (hJF _ _) (trivial)
    all_goals simp [hF, List.replicate, am, lle_self, e, foldE]
  · rintro k x hi -
    have hk : l.length - 2 - k < l.length := by omega
    have hf := foldE_drop' (s := s) (op := op) (l := l) (i := l.length - 2 - k) (j := l.length - 1 - k) (by omega) (by omega) hk
    have hj : ((l.length : Nat) : Int) - 2 - (k : Nat) = ((l.length - 2 - k : Nat) : Int) := by omega
    have hj2 : ((l.length : Nat) : Int) - 2 - ((k + 1 : Nat) : Int) = ((l.length - 2 - k : Nat) : Int) - 1 := by omega
    have hj4 : ((l.length : Nat) : Int) - 2 - (((k : Nat) : Int) + 1) = ((l.length - 2 - k : Nat) : Int) - 1 := by omega
    have hj3 : l.length - 1 - (k + 1) = l.length - 2 - k := by omega
    simp only [hF, List.replicate, z25_, dlt hi, Nat.reduceAdd, Nat.reduceEqDiff, Int.reduceEq, Int.reduceLT, Int.reduceLE, Nat.reduceLT, Int.reduceToNat, Nat.reduceMul, if_false, reduceCtorEq, List.length_map, hj, show decide ((0 : Int) ≤ ((l.length - 2 - k : Nat) : Int)) = true from decide_eq_true (by omega)]
    by_cases h3 : op = 3
    · rw [stepE, if_pos h3] at hf
      simp only [z26_, Nat.reduceAdd, Nat.reduceEqDiff, List.length_map, Int.reduceEq, Int.reduceLT, Int.reduceLE, Nat.reduceLT, Int.reduceToNat, Nat.reduceMul, if_false, reduceCtorEq, decide_eq_true h3]
      refine idxL_intro (by omega) (elms_at hk) ?_
      simp only [z26_, Nat.reduceAdd, Nat.reduceEqDiff, List.length_map, Int.reduceEq, Int.reduceLT, Int.reduceLE, Nat.reduceLT, Int.reduceToNat, Nat.reduceMul, if_false, reduceCtorEq]
      refine CallD.intro (join_calls7 s l[l.length - 2 - k] (foldE s op (l.drop (l.length - 1 - k))) hg hok) ?_
      simp only [z26_, Nat.reduceAdd, Nat.reduceEqDiff, List.length_map, Int.reduceEq, Int.reduceLT, Int.reduceLE, Nat.reduceLT, Int.reduceToNat, Nat.reduceMul, if_false, reduceCtorEq, ← hf]
      rw [wrap_i64 (by omega) (by omega)]
      refine nxt (()) hi ?_ ?_ ?_ ?_
      · exact Eq.mpr (hJF _ _) (trivial)
      all_goals simp [hF, List.replicate, am, lle_self, hj2, hj3, hj4]
    · rw [stepE, if_neg h3] at hf
      simp only [z26_, Nat.reduceAdd, Nat.reduceEqDiff, List.length_map, Int.reduceEq, Int.reduceLT, Int.reduceLE, Nat.reduceLT, Int.reduceToNat, Nat.reduceMul, if_false, reduceCtorEq, decide_eq_false h3]
      refine idxL_intro (by omega) (elms_at hk) ?_
      simp only [z26_, Nat.reduceAdd, Nat.reduceEqDiff, List.length_map, Int.reduceEq, Int.reduceLT, Int.reduceLE, Nat.reduceLT, Int.reduceToNat, Nat.reduceMul, if_false, reduceCtorEq]
      refine CallD.intro (meet_calls7 l[l.length - 2 - k] (foldE s op (l.drop (l.length - 1 - k))) σ) ?_
      simp only [z26_, Nat.reduceAdd, Nat.reduceEqDiff, List.length_map, Int.reduceEq, Int.reduceLT, Int.reduceLE, Nat.reduceLT, Int.reduceToNat, Nat.reduceMul, if_false, reduceCtorEq, ← hf]
      rw [wrap_i64 (by omega) (by omega)]
      refine nxt (()) hi ?_ ?_ ?_ ?_
      · exact Eq.mpr (hJF _ _) (trivial)
      all_goals simp [hF, List.replicate, am, lle_self, hj2, hj3, hj4]
  · rintro x -
    simp only [hF, List.replicate, z25_, dnl, Nat.reduceAdd, Nat.reduceEqDiff, Int.reduceEq, Int.reduceLT, Int.reduceLE, Nat.reduceLT, Int.reduceToNat, Nat.reduceMul, if_false, reduceCtorEq, List.length_map, decide_eq_false (show ¬ (0 : Int) ≤ ((l.length : Nat) : Int) - 2 - ((l.length - 1 : Nat) : Int) by omega), Nat.sub_self, List.drop_zero]
    exact retK_intro (v := .agg (foldE s op l).enc) Elm.r_nol (Store.sub_refl _) ⟨by simp only [V.erase, Elm.r_er], rfl⟩
theorem eval_calls (s : Shp) (l : List Ins) (v : List Elm) {σ : Store} (hg : TZ σ) (hok : s.ok) (hl : l.length ≤ 50000) (hv : v.length ≤ 100000) (hlast : ∀ i (hi : i < l.length), l[i].op = 3 ∨ l[i].op = 4 → i + 1 = l.length) :
    PCalls prog 14 [.agg s.enc, .sl .no 10 (l.map Ins.enc), .sl .no 8 (v.map Elm.enc)] σ fun r σ' => r = evalT (evalF s l v) ∧ σ' = σ := by
  refine fn14.calls ?_
  simp only [slots, ac14, z24_, Nat.reduceAdd, Nat.reduceEqDiff, Int.reduceEq, Int.reduceLT, Int.reduceLE, Nat.reduceLT, Int.reduceToNat, Nat.reduceMul, if_false, reduceCtorEq, List.length_map]
  have done : ∀ (e : Elm) (b : Bool) (t : List V) (lo : List (List V)) (σ1 : Store), evalT (evalF s l v) = .tup [.agg e.enc, .bool b] → σ.sub σ1 → RetK (fun r σ' => r = evalT (evalF s l v) ∧ σ' = σ) ⟨t, lo, σ1⟩ (.tup [.agg e.enc, .bool b]) := fun e b t lo σ1 he hs => by
    rw [he]; exact retK_intro (by simp [V.nol, nolL, Elm.r_nol]) hs ⟨by simp [V.erase, eraseL, Elm.r_er], rfl⟩
  refine (cright_calls l σ (by omega)).mono ?_
  rintro v σ ⟨rfl, rfl⟩
  cases hr : rightC l with
  | false =>
    simp only [z26_, Nat.reduceAdd, Nat.reduceEqDiff, List.length_map, Int.reduceEq, Int.reduceLT, Int.reduceLE, Nat.reduceLT, Int.reduceToNat, Nat.reduceMul, if_false, reduceCtorEq]
    exact done .zero false _ _ _ (by rw [evalF, hr]; rfl) (Store.sub_refl _)
  | true =>
    have hd0 : deepF l 0 = some 1 := by simpa [rightC] using hr
    simp only [z26_, Nat.reduceAdd, Nat.reduceEqDiff, List.length_map, Int.reduceEq, Int.reduceLT, Int.reduceLE, Nat.reduceLT, Int.reduceToNat, Nat.reduceMul, if_false, reduceCtorEq]
    obtain ⟨F, hF⟩ : ∃ F : Nat → List Elm × Tk × Store → St, ∀ i x, F i x = ⟨[.any, .any, .sl .no 8 (v.map Elm.enc), .ptr (.loc 0) 0, .any, .any, .ptr (.loc 1) 0, .any, .sl x.2.1 8 (x.1.map Elm.enc), .any, .any, .any, .any, .any, .any, .any, .sl .no 10 (l.map Ins.enc), .int .i64 (l.length : Nat), .int .i64 (i : Nat)] ++ List.replicate 55 .any, [s.enc, Elm.zero.enc], x.2.2⟩ := ⟨_, fun _ _ => rfl⟩
    obtain ⟨JF, hJF⟩ : ∃ JF : Nat → List Elm × Tk × Store → Prop, ∀ i x, JF i x = (runF s v l [] = runF s v (l.drop i) x.1 ∧ deepF (l.drop i) x.1.length = some 1 ∧ x.1.length ≤ i ∧ σ.sub x.2.2 ∧ (i < l.length → Gr σ x.2.2 x.2.1 x.1.length)) := ⟨_, fun _ _ => rfl⟩
    refine vc_count (l.length) F JF _ hJF ?_ ?_ ?_
    · refine ent (([], .full, σ)) ?_ ?_ ?_ ?_
      · exact Eq.mpr (hJF _ _) (⟨rfl, hd0, Nat.le_refl _, Store.sub_refl _, fun _ => Gr.nil⟩)
      all_goals simp [hF, List.replicate, am, lle_self]
    · rintro i ⟨st, tk, σ1⟩ hi ⟨hJ, hD, hL, _, hG⟩
      have hG := hG hi
      simp only at hJ hD hL hG
      rw [List.drop_eq_getElem_cons hi] at hJ hD
      have hgs : TZ σ1 := hG.sub.1 _ _ hg
      simp only [hF, List.replicate, z25_, dlt hi, Nat.reduceAdd, Nat.reduceEqDiff, Int.reduceEq, Int.reduceLT, Int.reduceLE, Nat.reduceLT, Int.reduceToNat, Nat.reduceMul, if_false, reduceCtorEq, List.length_map]
      refine idxL_intro (by omega) (codes_at hi) ?_
      simp only [z26_, Nat.reduceAdd, Nat.reduceEqDiff, List.length_map, Int.reduceEq, Int.reduceLT, Int.reduceLE, Nat.reduceLT, Int.reduceToNat, Nat.reduceMul, if_false, reduceCtorEq]
      rcases deep_in (by rw [hD]; simp) with ⟨h12, hd2⟩ | ⟨h34, h12, hn1, hn2, hd2⟩
      · rw [hd2] at hD
        rw [runF] at hJ
        by_cases h1 : l[i].op = 1
        · rw [if_pos h1] at hJ
          simp only [z26_, Nat.reduceAdd, Nat.reduceEqDiff, List.length_map, Int.reduceEq, Int.reduceLT, Int.reduceLE, Nat.reduceLT, Int.reduceToNat, Nat.reduceMul, if_false, reduceCtorEq, decide_eq_true h1]
          by_cases hb : l[i].n < 0
          · rw [if_neg (by omega)] at hJ
            simp only [z26_, Nat.reduceAdd, Nat.reduceEqDiff, List.length_map, Int.reduceEq, Int.reduceLT, Int.reduceLE, Nat.reduceLT, Int.reduceToNat, Nat.reduceMul, if_false, reduceCtorEq, decide_eq_true hb]
            exact done .zero false _ _ _ (by rw [evalF, hr, hJ]; rfl) hG.sub
          · obtain ⟨m, hm⟩ : ∃ m : Nat, l[i].n = m := ⟨l[i].n.toNat, by omega⟩
            simp only [z26_, Nat.reduceAdd, Nat.reduceEqDiff, List.length_map, Int.reduceEq, Int.reduceLT, Int.reduceLE, Nat.reduceLT, Int.reduceToNat, Nat.reduceMul, if_false, reduceCtorEq, hm, decide_eq_false (show ¬ ((m : Nat) : Int) < 0 by omega)]
            by_cases hb2 : v.length ≤ m
            · rw [if_neg (by omega)] at hJ
              simp only [z26_, Nat.reduceAdd, Nat.reduceEqDiff, List.length_map, Int.reduceEq, Int.reduceLT, Int.reduceLE, Nat.reduceLT, Int.reduceToNat, Nat.reduceMul, if_false, reduceCtorEq, decide_eq_true (show ((v.length : Nat) : Int) ≤ (m : Nat) by omega)]
              exact done .zero false _ _ _ (by rw [evalF, hr, hJ]; rfl) hG.sub
            · rw [if_pos (by omega), hm, Int.toNat_natCast, getD_at (by omega)] at hJ
              simp only [z26_, Nat.reduceAdd, Nat.reduceEqDiff, List.length_map, Int.reduceEq, Int.reduceLT, Int.reduceLE, Nat.reduceLT, Int.reduceToNat, Nat.reduceMul, if_false, reduceCtorEq, decide_eq_false (show ¬ ((v.length : Nat) : Int) ≤ (m : Nat) by omega), hm]
              refine idxL_intro (by omega) (elms_at (by omega)) ?_
              simp only [z26_, Nat.reduceAdd, Nat.reduceEqDiff, List.length_map, Int.reduceEq, Int.reduceLT, Int.reduceLE, Nat.reduceLT, Int.reduceToNat, Nat.reduceMul, if_false, reduceCtorEq]
              refine Gr.app (by simpa using hG) (by simp [big]; omega) fun tk' σ' hG' _ _ => ?_
              simp only [z26_, Nat.reduceAdd, Nat.reduceEqDiff, List.length_map, Int.reduceEq, Int.reduceLT, Int.reduceLE, Nat.reduceLT, Int.reduceToNat, Nat.reduceMul, if_false, reduceCtorEq, winc hi (by omega)]
              refine nxtD ((st ++ [v[m]], tk', σ')) hi ?_ ?_ ?_ ?_ ?_ ?_
              · exact Eq.mpr (hJF _ _) (⟨hJ, by simpa using hD, by simp; omega, hG'.sub, fun _ => by simpa using hG'⟩)
              all_goals simp [hF, List.replicate, am, lle_self, loL, loLL, V.lo, Ins.r_lo, Shp.r_lo, Elm.r_lo]
        · have h2 : l[i].op = 2 := by simpa [h1] using h12
          rw [if_neg h1, if_pos h2] at hJ
          simp only [z26_, Nat.reduceAdd, Nat.reduceEqDiff, List.length_map, Int.reduceEq, Int.reduceLT, Int.reduceLE, Nat.reduceLT, Int.reduceToNat, Nat.reduceMul, if_false, reduceCtorEq, decide_eq_false h1, decide_eq_true h2]
          refine Gr.app (by simpa using hG) (by simp [big]; omega) fun tk' σ' hG' _ _ => ?_
          simp only [z26_, Nat.reduceAdd, Nat.reduceEqDiff, List.length_map, Int.reduceEq, Int.reduceLT, Int.reduceLE, Nat.reduceLT, Int.reduceToNat, Nat.reduceMul, if_false, reduceCtorEq, winc hi (by omega)]
          refine nxtD ((st ++ [l[i].c], tk', σ')) hi ?_ ?_ ?_ ?_ ?_ ?_
          · exact Eq.mpr (hJF _ _) (⟨hJ, by simpa using hD, by simp; omega, hG'.sub, fun _ => by simpa using hG'⟩)
          all_goals simp [hF, List.replicate, am, lle_self, loL, loLL, V.lo, Ins.r_lo, Shp.r_lo, Elm.r_lo]
      · rw [hd2] at hD
        have e1 : ¬ l[i].op = 1 := fun h => h12 (.inl h)
        have e2 : ¬ l[i].op = 2 := fun h => h12 (.inr h)
        obtain ⟨m, hm⟩ : ∃ m : Nat, l[i].n = m := ⟨l[i].n.toNat, by omega⟩
        rw [runF, if_neg e1, if_neg e2, hm, Int.toNat_natCast] at hJ
        rw [hm, Int.toNat_natCast] at hD
        have hkl : st.length - m ≤ st.length := Nat.sub_le _ _
        simp only [z26_, Nat.reduceAdd, Nat.reduceEqDiff, List.length_map, Int.reduceEq, Int.reduceLT, Int.reduceLE, Nat.reduceLT, Int.reduceToNat, Nat.reduceMul, if_false, reduceCtorEq, decide_eq_false e1, decide_eq_false e2, hm]
        rw [wrap_i64 (by omega) (by omega), show ((st.length : Nat) : Int) - ((m : Nat) : Int) = ((st.length - m : Nat) : Int) by omega]
        refine slcL_fullq (b := st.length - m) (by simp) ?_
        simp only [z26_, Nat.reduceAdd, Nat.reduceEqDiff, List.length_map, Int.reduceEq, Int.reduceLT, Int.reduceLE, Nat.reduceLT, Int.reduceToNat, Nat.reduceMul, if_false, reduceCtorEq]
        refine slcL_from (a := st.length - m) (by simp) ?_
        rw [← List.map_drop, ← List.map_take]
        simp only [z26_, Nat.reduceAdd, Nat.reduceEqDiff, List.length_map, Int.reduceEq, Int.reduceLT, Int.reduceLE, Nat.reduceLT, Int.reduceToNat, Nat.reduceMul, if_false, reduceCtorEq]
        refine CallD.intro (fold_calls s l[i].op (st.drop (st.length - m)) hgs hok (by rw [List.length_drop]; omega) (by rw [List.length_drop]; omega)) ?_
        simp only [z26_, Nat.reduceAdd, Nat.reduceEqDiff, List.length_map, Int.reduceEq, Int.reduceLT, Int.reduceLE, Nat.reduceLT, Int.reduceToNat, Nat.reduceMul, if_false, reduceCtorEq]
        have hil := hlast i hi h34
        refine appD_full (by simp [big]; omega) ?_
        simp only [z26_, Nat.reduceAdd, Nat.reduceEqDiff, List.length_map, Int.reduceEq, Int.reduceLT, Int.reduceLE, Nat.reduceLT, Int.reduceToNat, Nat.reduceMul, if_false, reduceCtorEq, winc hi (by omega)]
        refine nxtD ((st.take (st.length - m) ++ [foldE s l[i].op (st.drop (st.length - m))], .no, σ1)) hi ?_ ?_ ?_ ?_ ?_ ?_
        · exact Eq.mpr (hJF _ _) (⟨hJ, by rw [List.length_append, List.length_take, Nat.min_eq_left hkl, List.length_singleton, show st.length - m + 1 = st.length - (m - 1) by omega]; exact hD, by simp; omega, hG.sub, fun h => by omega⟩)
        all_goals simp [hF, List.replicate, am, lle_self, loL, loLL, V.lo, Ins.r_lo, Shp.r_lo, Elm.r_lo]
    · rintro ⟨st, tk, σ1⟩ ⟨hJ, hD, hL, hS, _⟩
      simp only at hJ hD hL hS
      rw [List.drop_length] at hJ hD
      rw [deepF, Option.some.injEq] at hD
      rw [runF] at hJ
      simp only [hF, List.replicate, z25_, dnl, Nat.reduceAdd, Nat.reduceEqDiff, Int.reduceEq, Int.reduceLT, Int.reduceLE, Nat.reduceLT, Int.reduceToNat, Nat.reduceMul, if_false, reduceCtorEq, List.length_map]
      refine idxL_intro (n := 0) (by omega) (elms_at (j := 0) (by omega)) ?_
      simp only [z26_, Nat.reduceAdd, Nat.reduceEqDiff, List.length_map, Int.reduceEq, Int.reduceLT, Int.reduceLE, Nat.reduceLT, Int.reduceToNat, Nat.reduceMul, if_false, reduceCtorEq]
      exact done _ true _ _ _ (by rw [evalF, hr, hJ, ← getD_at (d := Elm.zero) (by omega)]; rfl) hS
end Go.Proofs.Tryz

namespace Go.Proofs.Tryz
open Go.Am
set_option maxRecDepth 4000
set_option maxHeartbeats 4000000
def ac6 : AC := .seq (.reg [⟨(some 1), .box 2 (.s 0), none⟩, ⟨(some 2), .mv (.c (.bool false)), none⟩])
 (.seq (.seq (.reg [xf 0 7 1, xo 8 7, xL 9 8, xB .gtr 10 9 20, xm 11 10, xh 11 (xf 1 12 1), xh 11 (xo 13 12), xh 11 (xL 14 13), xh 11 (xB .gtr 15 14 80), ⟨(some 16), .pick (.s 11) (.c (.bool true)) (.s 15), none⟩])
 (.cond (.s 16) (.seq (.reg [⟨(some 2), .mv (.c (.bool true)), none⟩])
 (.ret))
 (.skip)))
 (.seq (.seq (.reg [xf 0 17 1, xo 18 17, xL 19 18, xi 20 0])
 (.block 0 (.loop (.seq (.reg [xb .lss 21 20 19])
 (.seq (.cond (.s 21) (.skip)
 (.exit 0))
 (.seq (.block 1 (.seq (.reg [xA 3 22 18 20, xl 3 23 22, ⟨(some 4), .alloc [(.str []), (.bool false), (.sl .full 67 [])], none⟩, xs 3 4 23])
 (.seq (.reg [xf 1 24 4, xl 2 25 24, xc 22 26 [.s 25], xm 27 26, xh 27 (xf 0 28 4), xh 27 (xo 29 28), xh 27 (xT 30 29), xh 27 (xB .gtr 31 30 40), ⟨(some 32), .pick (.s 27) (.c (.bool true)) (.s 31), none⟩])
 (.cond (.s 32) (.seq (.reg [⟨(some 2), .mv (.c (.bool true)), none⟩])
 (.ret))
 (.skip)))))
 (.reg [xB .add 33 20 1, xm 20 33])))))))
 (.seq (.seq (.reg [xf 1 34 1, xo 35 34, xL 36 35, xi 37 0])
 (.block 2 (.loop (.seq (.reg [xb .lss 38 37 36])
 (.seq (.cond (.s 38) (.skip)
 (.exit 2))
 (.seq (.block 3 (.seq (.reg [xA 3 39 35 37, xl 3 40 39, ⟨(some 6), .alloc [(.str []), (.int .i64 0), (.int .i64 0)], none⟩, xs 3 6 40])
 (.seq (.reg [xf 0 41 6, xo 42 41, xT 43 42, xB .gtr 44 43 40])
 (.cond (.s 44) (.seq (.reg [⟨(some 2), .mv (.c (.bool true)), none⟩])
 (.ret))
 (.skip)))))
 (.reg [xB .add 45 37 1, xm 37 45])))))))
 (.seq (.reg [⟨(some 2), .mv (.c (.bool false)), none⟩])
 (.ret)))))
theorem fn6 : IsFn prog 6 ac6 [.tmp 2] 46 := ⟨f6, ⟨[], []⟩, func6, by kernel_rfl, by kernel_rfl, by kernel_rfl, by kernel_rfl⟩
def ac22 : AC := .seq (.reg [⟨(some 1), .box 2 (.s 0), none⟩, ⟨(some 2), .mv (.c (.bool false)), none⟩])
 (.seq (.seq (.reg [xf 1 6 1, xo 7 6, xL 8 7, xB .gtr 9 8 12])
 (.cond (.s 9) (.seq (.reg [⟨(some 2), .mv (.c (.bool true)), none⟩])
 (.ret))
 (.skip)))
 (.seq (.seq (.reg [xi 3 0])
 (.block 0 (.loop (.seq (.seq (.reg [xm 10 3, xf 1 11 1, xo 12 11, xL 13 12, xb .lss 14 10 13])
 (.cond (.s 14) (.skip)
 (.exit 0)))
 (.seq (.block 1 (.seq (.reg [xf 1 17 1, xo 18 17, xm 19 3, xA 67 20 18 19, xl 67 21 20, ⟨(some 4), .alloc facZ, none⟩, xs 67 4 21])
 (.seq (.seq (.reg [xf 1 22 4, xo 23 22, xL 24 23, xB .gtr 25 24 70])
 (.cond (.s 25) (.seq (.reg [⟨(some 2), .mv (.c (.bool true)), none⟩])
 (.ret))
 (.skip)))
 (.seq (.reg [xi 5 0])
 (.block 2 (.loop (.seq (.seq (.reg [xm 26 5, xf 1 27 4, xo 28 27, xL 29 28, xb .lss 30 26 29])
 (.cond (.s 30) (.skip)
 (.exit 2)))
 (.seq (.block 3 (.seq (.reg [xf 1 33 4, xo 34 33, xm 35 5, xA 1 36 34 35, xo 37 36, xT 38 37, xB .gtr 39 38 40])
 (.cond (.s 39) (.seq (.reg [⟨(some 2), .mv (.c (.bool true)), none⟩])
 (.ret))
 (.skip))))
 (.reg [xm 31 5, xB .add 32 31 1, xm 5 32])))))))))
 (.reg [xm 15 3, xB .add 16 15 1, xm 3 16]))))))
 (.seq (.reg [⟨(some 2), .mv (.c (.bool false)), none⟩])
 (.ret))))
theorem fn22 : IsFn prog 22 ac22 [.tmp 2] 40 := ⟨f22, ⟨[], []⟩, func22, by kernel_rfl, by kernel_rfl, by kernel_rfl, by kernel_rfl⟩
def facBig (f : Fct) : Bool := decide (70 < f.names.length) || f.names.any fun t => decide (40 < t.length)
theorem big7_eq (s : Shp) : big7 s = (decide (12 < s.facs.length) || s.facs.any facBig) := rfl
theorem any_at {α : Type} {l : List α} {p : α → Bool} {i : Nat} (hi : i < l.length) (h : p l[i] = true) : l.any p = true := List.any_eq_true.2 ⟨_, List.getElem_mem hi, h⟩
theorem any_no {α : Type} {l : List α} {p : α → Bool} (h : ∀ k ∈ l, p k = false) : l.any p = false := by
  rw [List.any_eq_false]; exact fun k hk => by rw [h k hk]; simp
def z27_ := And.intro @am <| And.intro @amo <| And.intro @amc <| And.intro @ams <| And.intro @decide_true <| And.intro @decide_false <| And.intro @aml <| And.intro @Rl.rec_ <| And.intro @Fct.rec_ <| And.intro @Shp.rec_ <| And.intro @Elm.rec_ <| And.intro @Scp.rec_ <| And.intro @Int.toNat_natCast <| And.intro @Nat.mul_one <| And.intro @Nat.add_zero @sCells_len
def z28_ := And.intro @am <| And.intro @amo <| And.intro @amc <| And.intro @encs_length <| And.intro @decide_true <| And.intro @decide_false <| And.intro @aml <| And.intro @Rl.rec_ <| And.intro @Fct.rec_ <| And.intro @Shp.rec_ <| And.intro @Elm.rec_ <| And.intro @Scp.rec_ <| And.intro @Int.toNat_natCast <| And.intro @Nat.mul_one <| And.intro @Nat.add_zero @sCells_len
def z29_ := And.intro @am <| And.intro @amo <| And.intro @amc <| And.intro @aml <| And.intro @decide_true <| And.intro @decide_false <| And.intro @Rl.rec_ <| And.intro @Fct.rec_ <| And.intro @Shp.rec_ <| And.intro @Elm.rec_ <| And.intro @Scp.rec_ <| And.intro @Int.toNat_natCast <| And.intro @Nat.mul_one <| And.intro @Nat.add_zero @sCells_len
theorem big7_calls (s : Shp) (σ : Store) : PCalls prog 22 [.agg s.enc] σ fun v σ' => v = .bool (big7 s) ∧ σ' = σ := by
  refine fn22.calls ?_
  simp only [slots, ac22, z27_, Nat.reduceAdd, Nat.reduceEqDiff, Int.reduceEq, Int.reduceLT, Int.reduceLE, Nat.reduceLT, Int.reduceToNat, Nat.reduceMul, if_false, reduceCtorEq, List.length_map]
  rw [big7_eq]
  by_cases h1 : 12 < s.facs.length
  · simp only [z28_, Nat.reduceAdd, Nat.reduceEqDiff, List.length_map, Int.reduceEq, Int.reduceLT, Int.reduceLE, Nat.reduceLT, Int.reduceToNat, Nat.reduceMul, if_false, reduceCtorEq, decide_eq_true (show (12 : Int) < s.facs.length by omega)]
    refine retK_intro rfl (Store.sub_refl _) ⟨?_, rfl⟩
    simp [V.erase, eraseL, h1]
  · simp only [z28_, Nat.reduceAdd, Nat.reduceEqDiff, List.length_map, Int.reduceEq, Int.reduceLT, Int.reduceLE, Nat.reduceLT, Int.reduceToNat, Nat.reduceMul, if_false, reduceCtorEq, decide_eq_false (show ¬ (12 : Int) < s.facs.length by omega)]
    rw [decide_eq_false h1, Bool.false_or]
    obtain ⟨F, hF⟩ : ∃ F : Nat → Unit → St, ∀ i x, F i x = ⟨[.any, .ptr (.loc 0) 0, .any, .int .i64 (i : Nat)] ++ List.replicate 36 .any, [s.enc], σ⟩ := ⟨_, fun _ _ => rfl⟩
    obtain ⟨JF, hJF⟩ : ∃ JF : Nat → Unit → Prop, ∀ i x, JF i x = (∀ f ∈ s.facs.take i, facBig f = false) := ⟨_, fun _ _ => rfl⟩
    refine vc_count (s.facs.length) F JF _ hJF ?_ ?_ ?_
    · refine ent (()) ?_ ?_ ?_ ?_
      · exact Eq.mpr (hJF _ _) (by simp)
      all_goals simp [hF, List.replicate, am, lle_self]
    · rintro i x hi hJ
      simp only [hF, List.replicate, z29_, dlt hi, Nat.reduceAdd, Nat.reduceEqDiff, Int.reduceEq, Int.reduceLT, Int.reduceLE, Nat.reduceLT, Int.reduceToNat, Nat.reduceMul, if_false, reduceCtorEq, List.length_map]
      refine idxL_intro (by omega) (facs_at hi) ?_
      simp only [z28_, Nat.reduceAdd, Nat.reduceEqDiff, List.length_map, Int.reduceEq, Int.reduceLT, Int.reduceLE, Nat.reduceLT, Int.reduceToNat, Nat.reduceMul, if_false, reduceCtorEq]
      by_cases h2 : 70 < s.facs[i].names.length
      · simp only [z28_, Nat.reduceAdd, Nat.reduceEqDiff, List.length_map, Int.reduceEq, Int.reduceLT, Int.reduceLE, Nat.reduceLT, Int.reduceToNat, Nat.reduceMul, if_false, reduceCtorEq, decide_eq_true (show (70 : Int) < s.facs[i].names.length by omega)]
        refine retK_intro rfl (Store.sub_refl _) ⟨?_, rfl⟩
        simp [V.erase, eraseL, any_at hi (show facBig s.facs[i] = true by rw [facBig, decide_eq_true h2]; rfl)]
      · simp only [z28_, Nat.reduceAdd, Nat.reduceEqDiff, List.length_map, Int.reduceEq, Int.reduceLT, Int.reduceLE, Nat.reduceLT, Int.reduceToNat, Nat.reduceMul, if_false, reduceCtorEq, decide_eq_false (show ¬ (70 : Int) < s.facs[i].names.length by omega)]
        obtain ⟨F2, hF2⟩ : ∃ F2 : Nat → Unit → St, ∀ j y, F2 j y = ⟨[.any, .ptr (.loc 0) 0, .any, .int .i64 (i : Nat), .ptr (.loc 1) 0, .int .i64 (j : Nat)] ++ List.replicate 34 .any, [s.enc, s.facs[i].enc], σ⟩ := ⟨_, fun _ _ => rfl⟩
        obtain ⟨JF2, hJF2⟩ : ∃ JF2 : Nat → Unit → Prop, ∀ j y, JF2 j y = (∀ t ∈ s.facs[i].names.take j, decide (40 < t.length) = false) := ⟨_, fun _ _ => rfl⟩
        refine vc_count (s.facs[i].names.length) F2 JF2 _ hJF2 ?_ ?_ ?_
        · refine ent (()) ?_ ?_ ?_ ?_
          · exact Eq.mpr (hJF2 _ _) (by simp)
          all_goals simp [hF2, List.replicate, am, lle_self]
        · rintro j y hj hJ2
          simp only [hF2, List.replicate, z29_, dlt hj, Nat.reduceAdd, Nat.reduceEqDiff, Int.reduceEq, Int.reduceLT, Int.reduceLE, Nat.reduceLT, Int.reduceToNat, Nat.reduceMul, if_false, reduceCtorEq, List.length_map]
          refine idxL_intro (by omega) (sCells_at hj) ?_
          simp only [z28_, Nat.reduceAdd, Nat.reduceEqDiff, List.length_map, Int.reduceEq, Int.reduceLT, Int.reduceLE, Nat.reduceLT, Int.reduceToNat, Nat.reduceMul, if_false, reduceCtorEq, getD_at hj]
          by_cases h3 : 40 < s.facs[i].names[j].length
          · simp only [z28_, Nat.reduceAdd, Nat.reduceEqDiff, List.length_map, Int.reduceEq, Int.reduceLT, Int.reduceLE, Nat.reduceLT, Int.reduceToNat, Nat.reduceMul, if_false, reduceCtorEq, decide_eq_true (show (40 : Int) < s.facs[i].names[j].length by omega)]
            refine retK_intro rfl (Store.sub_refl _) ⟨?_, rfl⟩
            simp [V.erase, eraseL, any_at hi (show facBig s.facs[i] = true by rw [facBig, any_at hj (decide_eq_true h3)]; simp)]
          · simp only [z28_, Nat.reduceAdd, Nat.reduceEqDiff, List.length_map, Int.reduceEq, Int.reduceLT, Int.reduceLE, Nat.reduceLT, Int.reduceToNat, Nat.reduceMul, if_false, reduceCtorEq, decide_eq_false (show ¬ (40 : Int) < s.facs[i].names[j].length by omega), winc hj (by omega)]
            refine nxt (()) hj ?_ ?_ ?_ ?_
            · exact Eq.mpr (hJF2 _ _) (take_all hJ2 hj (decide_eq_false h3))
            all_goals simp [hF2, List.replicate, am, lle_self]
        · rintro y hJ2
          rw [List.take_length] at hJ2
          simp only [hF2, List.replicate, z29_, dnl, Nat.reduceAdd, Nat.reduceEqDiff, Int.reduceEq, Int.reduceLT, Int.reduceLE, Nat.reduceLT, Int.reduceToNat, Nat.reduceMul, if_false, reduceCtorEq, List.length_map]
          simp only [z28_, Nat.reduceAdd, Nat.reduceEqDiff, List.length_map, Int.reduceEq, Int.reduceLT, Int.reduceLE, Nat.reduceLT, Int.reduceToNat, Nat.reduceMul, if_false, reduceCtorEq, winc hi (by omega)]
          refine nxtD (()) hi ?_ ?_ ?_ ?_ ?_ ?_
          · exact Eq.mpr (hJF _ _) (take_all hJ hi (show facBig s.facs[i] = false by rw [facBig, decide_eq_false h2, any_no hJ2]; rfl))
          all_goals simp [hF, List.replicate, am, lle_self, loL, loLL, V.lo, Shp.r_lo]
    · rintro x hJ
      rw [List.take_length] at hJ
      simp only [hF, List.replicate, z29_, dnl, Nat.reduceAdd, Nat.reduceEqDiff, Int.reduceEq, Int.reduceLT, Int.reduceLE, Nat.reduceLT, Int.reduceToNat, Nat.reduceMul, if_false, reduceCtorEq, List.length_map]
      refine retK_intro rfl (Store.sub_refl _) ⟨?_, rfl⟩
      simp [V.erase, eraseL, any_no hJ]
section
variable {l : Ltc} {v : Vrb} {a b c : V} {m : Nat}
theorem Ltc.q_tk : takeN 3 l.enc = some l.enc := rfl
theorem Ltc.q_ov : over [a, b, c] l.enc = l.enc := rfl
theorem Ltc.q_has : hasN 3 l.enc = true := rfl
theorem Ltc.q_lo : loL m l.enc = true := rfl
theorem Ltc.q_nol : nolL l.enc = true := rfl
theorem Ltc.q_ld : ldC true 3 l.enc = some (.agg l.enc) := rfl
theorem Ltc.q_len : l.enc.length = 3 := rfl
theorem Ltc.q_one : oneL l.enc = true := rfl
theorem Vrb.q_len : v.enc.length = 3 := rfl
theorem Vrb.q_one : oneL v.enc = true := rfl
theorem Vrb.q_tk : takeN 3 v.enc = some v.enc := rfl
theorem Vrb.q_ov : over [a, b, c] v.enc = v.enc := rfl
theorem Vrb.q_has : hasN 3 v.enc = true := rfl
theorem Vrb.q_lo : loL m v.enc = true := rfl
theorem Vrb.q_nol : nolL v.enc = true := rfl
theorem Vrb.q_ld : ldC true 3 v.enc = some (.agg v.enc) := rfl
end
def ltcBig (l : Ltc) : Bool := big7 l.shape || decide (40 < l.name.length)
def vrbBig (v : Vrb) : Bool := decide (40 < v.name.length)
theorem big13_eq (s : Scp) : big13 s = (decide (20 < s.lats.length) || decide (80 < s.vars.length) || s.lats.any ltcBig || s.vars.any vrbBig) := rfl
theorem big13_calls (s : Scp) (σ : Store) : PCalls prog 6 [.agg s.enc] σ fun v σ' => v = .bool (big13 s) ∧ σ' = σ := by
  refine fn6.calls ?_
  simp only [slots, ac6, z27_, Nat.reduceAdd, Nat.reduceEqDiff, Int.reduceEq, Int.reduceLT, Int.reduceLE, Nat.reduceLT, Int.reduceToNat, Nat.reduceMul, if_false, reduceCtorEq, List.length_map, Ltc.q_len, Ltc.q_one, Vrb.q_len, Vrb.q_one, Ltc.q_tk, Ltc.q_ov, Ltc.q_has, Ltc.q_lo, Ltc.q_nol, Ltc.q_ld, Vrb.q_tk, Vrb.q_ov, Vrb.q_has, Vrb.q_lo, Vrb.q_nol, Vrb.q_ld]
  rw [big13_eq]
  by_cases h1 : 20 < s.lats.length
  · simp only [z28_, Nat.reduceAdd, Nat.reduceEqDiff, List.length_map, Int.reduceEq, Int.reduceLT, Int.reduceLE, Nat.reduceLT, Int.reduceToNat, Nat.reduceMul, if_false, reduceCtorEq, Ltc.q_len, Ltc.q_one, Vrb.q_len, Vrb.q_one, Ltc.q_tk, Ltc.q_ov, Ltc.q_has, Ltc.q_lo, Ltc.q_nol, Ltc.q_ld, Vrb.q_tk, Vrb.q_ov, Vrb.q_has, Vrb.q_lo, Vrb.q_nol, Vrb.q_ld, decide_eq_true (show (20 : Int) < s.lats.length by omega)]
    refine retK_intro rfl (Store.sub_refl _) ⟨?_, rfl⟩
    simp [V.erase, eraseL, h1]
  · simp only [z28_, Nat.reduceAdd, Nat.reduceEqDiff, List.length_map, Int.reduceEq, Int.reduceLT, Int.reduceLE, Nat.reduceLT, Int.reduceToNat, Nat.reduceMul, if_false, reduceCtorEq, Ltc.q_len, Ltc.q_one, Vrb.q_len, Vrb.q_one, Ltc.q_tk, Ltc.q_ov, Ltc.q_has, Ltc.q_lo, Ltc.q_nol, Ltc.q_ld, Vrb.q_tk, Vrb.q_ov, Vrb.q_has, Vrb.q_lo, Vrb.q_nol, Vrb.q_ld, decide_eq_false (show ¬ (20 : Int) < s.lats.length by omega)]
    by_cases h2 : 80 < s.vars.length
    · simp only [z28_, Nat.reduceAdd, Nat.reduceEqDiff, List.length_map, Int.reduceEq, Int.reduceLT, Int.reduceLE, Nat.reduceLT, Int.reduceToNat, Nat.reduceMul, if_false, reduceCtorEq, Ltc.q_len, Ltc.q_one, Vrb.q_len, Vrb.q_one, Ltc.q_tk, Ltc.q_ov, Ltc.q_has, Ltc.q_lo, Ltc.q_nol, Ltc.q_ld, Vrb.q_tk, Vrb.q_ov, Vrb.q_has, Vrb.q_lo, Vrb.q_nol, Vrb.q_ld, decide_eq_true (show (80 : Int) < s.vars.length by omega)]
      refine retK_intro rfl (Store.sub_refl _) ⟨?_, rfl⟩
      simp [V.erase, eraseL, h2]
    · simp only [z28_, Nat.reduceAdd, Nat.reduceEqDiff, List.length_map, Int.reduceEq, Int.reduceLT, Int.reduceLE, Nat.reduceLT, Int.reduceToNat, Nat.reduceMul, if_false, reduceCtorEq, Ltc.q_len, Ltc.q_one, Vrb.q_len, Vrb.q_one, Ltc.q_tk, Ltc.q_ov, Ltc.q_has, Ltc.q_lo, Ltc.q_nol, Ltc.q_ld, Vrb.q_tk, Vrb.q_ov, Vrb.q_has, Vrb.q_lo, Vrb.q_nol, Vrb.q_ld, decide_eq_false (show ¬ (80 : Int) < s.vars.length by omega)]
      rw [decide_eq_false h1, decide_eq_false h2, Bool.or_self, Bool.false_or]
      obtain ⟨F, hF⟩ : ∃ F : Nat → Unit → St, ∀ i x, F i x = ⟨[.any, .ptr (.loc 0) 0, .any, .any, .any, .any, .any, .any, .any, .any, .any, .any, .any, .any, .any, .any, .any, .any, .sl .no 3 (s.lats.map Ltc.enc), .int .i64 (s.lats.length : Nat), .int .i64 (i : Nat)] ++ List.replicate 25 .any, [s.enc], σ⟩ := ⟨_, fun _ _ => rfl⟩
      obtain ⟨JF, hJF⟩ : ∃ JF : Nat → Unit → Prop, ∀ i x, JF i x = (∀ f ∈ s.lats.take i, ltcBig f = false) := ⟨_, fun _ _ => rfl⟩
      refine vc_count (s.lats.length) F JF _ hJF ?_ ?_ ?_
      · refine ent (()) ?_ ?_ ?_ ?_
        · exact Eq.mpr (hJF _ _) (by simp)
        all_goals simp [hF, List.replicate, am, lle_self]
      · rintro i x hi hJ
        simp only [hF, List.replicate, z29_, dlt hi, Nat.reduceAdd, Nat.reduceEqDiff, Int.reduceEq, Int.reduceLT, Int.reduceLE, Nat.reduceLT, Int.reduceToNat, Nat.reduceMul, if_false, reduceCtorEq, List.length_map, Ltc.q_len, Ltc.q_one, Vrb.q_len, Vrb.q_one, Ltc.q_tk, Ltc.q_ov, Ltc.q_has, Ltc.q_lo, Ltc.q_nol, Ltc.q_ld, Vrb.q_tk, Vrb.q_ov, Vrb.q_has, Vrb.q_lo, Vrb.q_nol, Vrb.q_ld]
        refine idxL_intro (by omega) (lats_at hi) ?_
        simp only [z28_, Nat.reduceAdd, Nat.reduceEqDiff, List.length_map, Int.reduceEq, Int.reduceLT, Int.reduceLE, Nat.reduceLT, Int.reduceToNat, Nat.reduceMul, if_false, reduceCtorEq, Ltc.q_len, Ltc.q_one, Vrb.q_len, Vrb.q_one, Ltc.q_tk, Ltc.q_ov, Ltc.q_has, Ltc.q_lo, Ltc.q_nol, Ltc.q_ld, Vrb.q_tk, Vrb.q_ov, Vrb.q_has, Vrb.q_lo, Vrb.q_nol, Vrb.q_ld]
        refine (big7_calls s.lats[i].shape σ).mono ?_
        rintro v σ ⟨rfl, rfl⟩
        cases h3 : big7 s.lats[i].shape with
        | true =>
          simp only [z28_, Nat.reduceAdd, Nat.reduceEqDiff, List.length_map, Int.reduceEq, Int.reduceLT, Int.reduceLE, Nat.reduceLT, Int.reduceToNat, Nat.reduceMul, if_false, reduceCtorEq, Ltc.q_len, Ltc.q_one, Vrb.q_len, Vrb.q_one, Ltc.q_tk, Ltc.q_ov, Ltc.q_has, Ltc.q_lo, Ltc.q_nol, Ltc.q_ld, Vrb.q_tk, Vrb.q_ov, Vrb.q_has, Vrb.q_lo, Vrb.q_nol, Vrb.q_ld]
          refine retK_intro rfl (Store.sub_refl _) ⟨?_, rfl⟩
          simp [V.erase, eraseL, any_at hi (show ltcBig s.lats[i] = true by rw [ltcBig, h3]; rfl)]
        | false =>
          simp only [z28_, Nat.reduceAdd, Nat.reduceEqDiff, List.length_map, Int.reduceEq, Int.reduceLT, Int.reduceLE, Nat.reduceLT, Int.reduceToNat, Nat.reduceMul, if_false, reduceCtorEq, Ltc.q_len, Ltc.q_one, Vrb.q_len, Vrb.q_one, Ltc.q_tk, Ltc.q_ov, Ltc.q_has, Ltc.q_lo, Ltc.q_nol, Ltc.q_ld, Vrb.q_tk, Vrb.q_ov, Vrb.q_has, Vrb.q_lo, Vrb.q_nol, Vrb.q_ld]
          by_cases h4 : 40 < s.lats[i].name.length
          · simp only [z28_, Nat.reduceAdd, Nat.reduceEqDiff, List.length_map, Int.reduceEq, Int.reduceLT, Int.reduceLE, Nat.reduceLT, Int.reduceToNat, Nat.reduceMul, if_false, reduceCtorEq, Ltc.q_len, Ltc.q_one, Vrb.q_len, Vrb.q_one, Ltc.q_tk, Ltc.q_ov, Ltc.q_has, Ltc.q_lo, Ltc.q_nol, Ltc.q_ld, Vrb.q_tk, Vrb.q_ov, Vrb.q_has, Vrb.q_lo, Vrb.q_nol, Vrb.q_ld, decide_eq_true (show (40 : Int) < s.lats[i].name.length by omega)]
            refine retK_intro rfl (Store.sub_refl _) ⟨?_, rfl⟩
            simp [V.erase, eraseL, any_at hi (show ltcBig s.lats[i] = true by rw [ltcBig, decide_eq_true h4, Bool.or_true])]
          · simp only [z28_, Nat.reduceAdd, Nat.reduceEqDiff, List.length_map, Int.reduceEq, Int.reduceLT, Int.reduceLE, Nat.reduceLT, Int.reduceToNat, Nat.reduceMul, if_false, reduceCtorEq, Ltc.q_len, Ltc.q_one, Vrb.q_len, Vrb.q_one, Ltc.q_tk, Ltc.q_ov, Ltc.q_has, Ltc.q_lo, Ltc.q_nol, Ltc.q_ld, Vrb.q_tk, Vrb.q_ov, Vrb.q_has, Vrb.q_lo, Vrb.q_nol, Vrb.q_ld, decide_eq_false (show ¬ (40 : Int) < s.lats[i].name.length by omega), winc hi (by omega)]
            refine nxtD (()) hi ?_ ?_ ?_ ?_ ?_ ?_
            · exact Eq.mpr (hJF _ _) (take_all hJ hi (show ltcBig s.lats[i] = false by rw [ltcBig, decide_eq_false h4, h3]; rfl))
            all_goals simp [hF, List.replicate, am, lle_self, loL, loLL, V.lo, Scp.r_lo]
      · rintro x hJ
        rw [List.take_length] at hJ
        simp only [hF, List.replicate, z29_, dnl, Nat.reduceAdd, Nat.reduceEqDiff, Int.reduceEq, Int.reduceLT, Int.reduceLE, Nat.reduceLT, Int.reduceToNat, Nat.reduceMul, if_false, reduceCtorEq, List.length_map, Ltc.q_len, Ltc.q_one, Vrb.q_len, Vrb.q_one, Ltc.q_tk, Ltc.q_ov, Ltc.q_has, Ltc.q_lo, Ltc.q_nol, Ltc.q_ld, Vrb.q_tk, Vrb.q_ov, Vrb.q_has, Vrb.q_lo, Vrb.q_nol, Vrb.q_ld]
        obtain ⟨F2, hF2⟩ : ∃ F2 : Nat → Unit → St, ∀ j y, F2 j y = ⟨[.any, .ptr (.loc 0) 0, .any, .any, .any, .any, .any, .any, .any, .any, .any, .any, .any, .any, .any, .any, .any, .any, .any, .any, .any, .any, .any, .any, .any, .any, .any, .any, .any, .any, .any, .any, .any, .any, .any, .sl .no 3 (s.vars.map Vrb.enc), .int .i64 (s.vars.length : Nat), .int .i64 (j : Nat)] ++ List.replicate 8 .any, [s.enc], σ⟩ := ⟨_, fun _ _ => rfl⟩
        obtain ⟨JF2, hJF2⟩ : ∃ JF2 : Nat → Unit → Prop, ∀ j y, JF2 j y = (∀ f ∈ s.vars.take j, vrbBig f = false) := ⟨_, fun _ _ => rfl⟩
        refine vc_count (s.vars.length) F2 JF2 _ hJF2 ?_ ?_ ?_
        · refine ent (()) ?_ ?_ ?_ ?_
          · exact Eq.mpr (hJF2 _ _) (by simp)
          all_goals simp [hF2, List.replicate, am, lle_self]
        · rintro j y hj hJ2
          simp only [hF2, List.replicate, z29_, dlt hj, Nat.reduceAdd, Nat.reduceEqDiff, Int.reduceEq, Int.reduceLT, Int.reduceLE, Nat.reduceLT, Int.reduceToNat, Nat.reduceMul, if_false, reduceCtorEq, List.length_map, Ltc.q_len, Ltc.q_one, Vrb.q_len, Vrb.q_one, Ltc.q_tk, Ltc.q_ov, Ltc.q_has, Ltc.q_lo, Ltc.q_nol, Ltc.q_ld, Vrb.q_tk, Vrb.q_ov, Vrb.q_has, Vrb.q_lo, Vrb.q_nol, Vrb.q_ld]
          refine idxL_intro (by omega) (vars_at hj) ?_
          simp only [z28_, Nat.reduceAdd, Nat.reduceEqDiff, List.length_map, Int.reduceEq, Int.reduceLT, Int.reduceLE, Nat.reduceLT, Int.reduceToNat, Nat.reduceMul, if_false, reduceCtorEq, Ltc.q_len, Ltc.q_one, Vrb.q_len, Vrb.q_one, Ltc.q_tk, Ltc.q_ov, Ltc.q_has, Ltc.q_lo, Ltc.q_nol, Ltc.q_ld, Vrb.q_tk, Vrb.q_ov, Vrb.q_has, Vrb.q_lo, Vrb.q_nol, Vrb.q_ld]
          by_cases h4 : 40 < s.vars[j].name.length
          · simp only [z28_, Nat.reduceAdd, Nat.reduceEqDiff, List.length_map, Int.reduceEq, Int.reduceLT, Int.reduceLE, Nat.reduceLT, Int.reduceToNat, Nat.reduceMul, if_false, reduceCtorEq, Ltc.q_len, Ltc.q_one, Vrb.q_len, Vrb.q_one, Ltc.q_tk, Ltc.q_ov, Ltc.q_has, Ltc.q_lo, Ltc.q_nol, Ltc.q_ld, Vrb.q_tk, Vrb.q_ov, Vrb.q_has, Vrb.q_lo, Vrb.q_nol, Vrb.q_ld, decide_eq_true (show (40 : Int) < s.vars[j].name.length by omega)]
            refine retK_intro rfl (Store.sub_refl _) ⟨?_, rfl⟩
            simp [V.erase, eraseL, any_at hj (show vrbBig s.vars[j] = true from decide_eq_true h4)]
          · simp only [z28_, Nat.reduceAdd, Nat.reduceEqDiff, List.length_map, Int.reduceEq, Int.reduceLT, Int.reduceLE, Nat.reduceLT, Int.reduceToNat, Nat.reduceMul, if_false, reduceCtorEq, Ltc.q_len, Ltc.q_one, Vrb.q_len, Vrb.q_one, Ltc.q_tk, Ltc.q_ov, Ltc.q_has, Ltc.q_lo, Ltc.q_nol, Ltc.q_ld, Vrb.q_tk, Vrb.q_ov, Vrb.q_has, Vrb.q_lo, Vrb.q_nol, Vrb.q_ld, decide_eq_false (show ¬ (40 : Int) < s.vars[j].name.length by omega), winc hj (by omega)]
            refine nxtD (()) hj ?_ ?_ ?_ ?_ ?_ ?_
            · exact Eq.mpr (hJF2 _ _) (take_all hJ2 hj (show vrbBig s.vars[j] = false from decide_eq_false h4))
            all_goals simp [hF2, List.replicate, am, lle_self, loL, loLL, V.lo, Scp.r_lo]
        · rintro y hJ2
          rw [List.take_length] at hJ2
          simp only [hF2, List.replicate, z29_, dnl, Nat.reduceAdd, Nat.reduceEqDiff, Int.reduceEq, Int.reduceLT, Int.reduceLE, Nat.reduceLT, Int.reduceToNat, Nat.reduceMul, if_false, reduceCtorEq, List.length_map, Ltc.q_len, Ltc.q_one, Vrb.q_len, Vrb.q_one, Ltc.q_tk, Ltc.q_ov, Ltc.q_has, Ltc.q_lo, Ltc.q_nol, Ltc.q_ld, Vrb.q_tk, Vrb.q_ov, Vrb.q_has, Vrb.q_lo, Vrb.q_nol, Vrb.q_ld]
          refine retK_intro rfl (Store.sub_refl _) ⟨?_, rfl⟩
          simp [V.erase, eraseL, any_no hJ, any_no hJ2]
end Go.Proofs.Tryz

namespace Go.Proofs.Tryz
open Go.Am
set_option maxRecDepth 4000
set_option maxHeartbeats 4000000
def ac3 : AC := .seq (.reg [⟨(some 3), .box 2 (.s 0), none⟩, ⟨(some 5), .box 5 (.s 2), none⟩, ⟨(some 6), .mv (.c (.bool false)), none⟩])
 (.seq (.seq (.reg [xl 2 11 3, xc 6 12 [.s 11], xm 13 12, xh 13 (xl 5 14 5), ⟨(some 15), .bslice 5 [(.s 14)], (some (13, false))⟩, xh 13 (xc 7 16 [.s 15]), ⟨(some 17), .pick (.s 13) (.c (.bool true)) (.s 16), none⟩])
 (.cond (.s 17) (.seq (.reg [xc 8 18 [], xm 6 18])
 (.ret))
 (.skip)))
 (.seq (.reg [xl 2 20 3, xm 21 1, xl 5 22 5, xc 9 23 [.s 20, .s 21, .s 22], xm 19 23, xe 24 19 0, xe 25 19 1, xm 7 24, xm 8 25])
 (.seq (.reg [xl 2 27 3, xm 28 1, xl 5 29 5, xc 10 30 [.s 27, .s 28, .s 29], xm 26 30, xe 31 26 0, xe 32 26 1, xm 9 31, xm 10 32])
 (.seq (.reg [xm 33 7, xm 34 9, xc 11 35 [.s 33, .s 34], xm 36 35, xg 36 (xm 37 8), xg 36 (xm 38 10), ⟨(some 39), .binB false (.s 37) (.s 38), (some (36, true))⟩, ⟨(some 40), .pick (.s 36) (.s 39) (.c (.bool false)), none⟩, xm 41 40, xg 41 (xc 8 42 []), ⟨(some 43), .pick (.s 41) (.s 42) (.c (.bool false)), none⟩, xm 6 43])
 (.ret)))))
theorem fn3 : IsFn prog 3 ac3 [.tmp 6] 44 := ⟨f3, ⟨[], []⟩, func3, by kernel_rfl, by kernel_rfl, by kernel_rfl, by kernel_rfl⟩
def ac8 : AC := .seq (.reg [⟨(some 0), .mv (.c (.bool false)), none⟩])
 (.seq (.reg [⟨(some 7), .bslice 1 [(.c (.str [108, 111])), (.c (.str [104, 105]))], none⟩, ⟨(some 8), .build facZ [(0, 1, (.c (.int .i64 1))), (1, 1, (.s 7))], none⟩, ⟨(some 9), .bslice 67 [(.s 8)], none⟩, ⟨(some 10), .build [(.bool false), (.sl .full 67 [])] [(1, 1, (.s 9))], none⟩, ⟨(some 11), .build [(.str []), (.bool false), (.sl .full 67 [])] [(0, 1, (.c (.str [107]))), (1, 2, (.s 10))], none⟩, ⟨(some 12), .bslice 3 [(.s 11)], none⟩, ⟨(some 13), .build [(.str []), (.int .i64 0), (.int .i64 0)] [(0, 1, (.c (.str [120]))), (1, 1, (.c (.int .i64 1)))], none⟩, ⟨(some 14), .bslice 3 [(.s 13)], none⟩, ⟨(some 15), .build [(.sl .full 3 []), (.sl .full 3 [])] [(0, 1, (.s 12)), (1, 1, (.s 14))], none⟩, ⟨(some 1), .alloc [(.sl .full 3 []), (.sl .full 3 [])], none⟩, xs 2 1 15])
 (.seq (.reg [⟨(some 16), .build [(.int .i64 0), (.int .i64 0), (.str []), (.sl .full 2 []), (.sl .full 5 [])] [(0, 1, (.c (.int .i64 1))), (2, 1, (.c (.str [120])))], none⟩, ⟨(some 17), .build [(.int .i64 0), (.int .i64 0), (.str []), (.sl .full 2 []), (.sl .full 5 [])] [(0, 1, (.c (.int .i64 2))), (2, 1, (.c (.str [104, 105])))], none⟩, ⟨(some 18), .bslice 5 [(.s 17)], none⟩, ⟨(some 19), .build [(.int .i64 0), (.int .i64 0), (.str []), (.sl .full 2 []), (.sl .full 5 [])] [(0, 1, (.c (.int .i64 7))), (4, 1, (.s 18))], none⟩, ⟨(some 20), .bslice 5 [(.s 16), (.s 19)], none⟩, ⟨(some 21), .build [(.int .i64 0), (.int .i64 0), (.str []), (.sl .full 2 []), (.sl .full 5 [])] [(0, 1, (.c (.int .i64 8))), (4, 1, (.s 20))], none⟩, ⟨(some 2), .alloc [(.int .i64 0), (.int .i64 0), (.str []), (.sl .full 2 []), (.sl .full 5 [])], none⟩, xs 5 2 21])
 (.seq (.reg [xl 2 23 1, xl 5 24 2, xc 9 25 [.s 23, .c (.int .i64 0), .s 24], xm 22 25, xe 26 22 0, xe 27 22 1, xm 3 26, xm 4 27])
 (.seq (.reg [xf 0 29 1, xo 30 29, ⟨(some 31), .idxA 3 (.s 30) (.c (.int .i64 0)), none⟩, xf 1 32 31, xl 2 33 32, xm 34 3, ⟨(some 35), .build elmZ [], none⟩, ⟨(some 36), .bslice 8 [(.s 35)], none⟩, xc 14 37 [.s 33, .s 34, .s 36], xm 28 37, xe 38 28 0, xe 39 28 1, ⟨(some 5), .alloc elmZ, none⟩, xs 8 5 38, xm 6 39])
 (.seq (.reg [xm 40 4, xm 41 40, xg 41 (xm 42 3), xg 41 (xL 43 42), xg 41 (xB .eql 44 43 3), ⟨(some 45), .pick (.s 41) (.s 44) (.c (.bool false)), none⟩, xm 46 45, xg 46 (xm 47 3), ⟨(some 48), .idxA 10 (.s 47) (.c (.int .i64 2)), (some (46, true))⟩, xg 46 (xl 10 49 48), ⟨(some 50), .build insZ [(0, 1, (.c (.int .i64 3))), (1, 1, (.c (.int .i64 2)))], (some (46, true))⟩, ⟨(some 51), .eqA false [1, 1, 1, 1, 1, 1, 1, 1, 1, 1] (.s 49) (.s 50), (some (46, true))⟩, ⟨(some 52), .pick (.s 46) (.s 51) (.c (.bool false)), none⟩, xm 53 52, xg 53 (xm 54 6), ⟨(some 55), .pick (.s 53) (.s 54) (.c (.bool false)), none⟩, xm 56 55, xg 56 (xl 8 57 5), ⟨(some 58), .build elmZ [(0, 1, (.c (.int .u64 1)))], (some (56, true))⟩, ⟨(some 59), .eqA false [1, 1, 1, 1, 1, 1, 1, 1] (.s 57) (.s 58), (some (56, true))⟩, ⟨(some 60), .pick (.s 56) (.s 59) (.c (.bool false)), none⟩, xm 61 60, xg 61 (xm 62 3), xg 61 (xc 15 63 [.s 62]), ⟨(some 64), .pick (.s 61) (.s 63) (.c (.bool false)), none⟩, xm 0 64])
 (.ret))))))
theorem fn8 : IsFn prog 8 ac8 [.tmp 0] 65 := ⟨f8, ⟨[], []⟩, func8, by kernel_rfl, by kernel_rfl, by kernel_rfl, by kernel_rfl⟩
theorem er3_calls {f : FuncId} {u u' v v' w w' : V} {σ : Store} {R' : V → Store → Prop} (h : PCalls prog f [u', v', w'] σ R') (e1 : u.erase = u') (e2 : v.erase = v') (e3 : w.erase = w') : PCalls prog f [u, v, w] σ R' :=
  h.weak (show LLe [u, v, w] [u', v', w'] from ⟨e1 ▸ VLe.erase, e2 ▸ VLe.erase, e3 ▸ VLe.erase, trivial⟩) OLe.rfl
def z30_ := And.intro @am <| And.intro @amo <| And.intro @amc <| And.intro @ams <| And.intro @decide_true <| And.intro @decide_false <| And.intro @aml <| And.intro @Rl.rec_ <| And.intro @Fct.rec_ <| And.intro @Shp.rec_ <| And.intro @Elm.rec_ <| And.intro @Nd.rec_ <| And.intro @Scp.rec_ <| And.intro @Ins.rec_ <| And.intro @Int.toNat_natCast <| And.intro @Nat.mul_one <| And.intro @Nat.add_zero @sCells_len
def z31_ := And.intro @am <| And.intro @amo <| And.intro @amc <| And.intro @encs_length <| And.intro @decide_true <| And.intro @decide_false <| And.intro @aml <| And.intro @Rl.rec_ <| And.intro @Fct.rec_ <| And.intro @Shp.rec_ <| And.intro @Elm.rec_ <| And.intro @Nd.rec_ <| And.intro @Scp.rec_ <| And.intro @Ins.rec_ <| And.intro @Int.toNat_natCast <| And.intro @Nat.mul_one <| And.intro @Nat.add_zero @sCells_len
theorem alive14_calls {σ : Store} (hg : TZ σ) : PCalls prog 8 [] σ fun v σ' => v = .bool true ∧ σ' = σ := by
  refine fn8.calls ?_
  simp only [slots, ac8, z30_, Nat.reduceAdd, Nat.reduceEqDiff, Int.reduceEq, Int.reduceLT, Int.reduceLE, Nat.reduceLT, Int.reduceToNat, Nat.reduceMul, if_false, reduceCtorEq, fv_, List.length_map]
  have hw : exN.wt ≤ big := Nat.le_trans ex_wt.1 (by decide)
  refine (er3_calls (ccompile_calls exS 0 exN hg ex_ok hw (Nat.le_trans ex_wt.2 (by decide))) ?_ ?_ ?_).mono ?_
  · rfl
  · rfl
  · rfl
  · rintro v σ1 ⟨rfl, rfl⟩
    rw [ex_code]
    rw [show codeT (some exC) = .tup [.sl .no 10 (exC.map Ins.enc), .bool true] from rfl]
    simp only [z31_, Nat.reduceAdd, Nat.reduceEqDiff, List.length_map, Int.reduceEq, Int.reduceLT, Int.reduceLE, Nat.reduceLT, Int.reduceToNat, Nat.reduceMul, if_false, reduceCtorEq, fv_]
    refine idxL_intro (by omega) (rfl) ?_
    simp only [z31_, Nat.reduceAdd, Nat.reduceEqDiff, List.length_map, Int.reduceEq, Int.reduceLT, Int.reduceLE, Nat.reduceLT, Int.reduceToNat, Nat.reduceMul, if_false, reduceCtorEq, fv_]
    refine (er3_calls (eval_calls ⟨false, [exF]⟩ exC [.zero] hg (ex_ok.2.2 _ (List.mem_cons_self ..)) (by decide) (by decide) ex_last) ?_ ?_ ?_).mono ?_
    · rfl
    · rfl
    · rfl
    · rintro v σ ⟨rfl, rfl⟩
      rw [ex_run, show evalT (some exE) = .tup [.agg exE.enc, .bool true] from rfl]
      simp only [z31_, Nat.reduceAdd, Nat.reduceEqDiff, List.length_map, Int.reduceEq, Int.reduceLT, Int.reduceLE, Nat.reduceLT, Int.reduceToNat, Nat.reduceMul, if_false, reduceCtorEq, fv_]
      simp only [z31_, Nat.reduceAdd, Nat.reduceEqDiff, List.length_map, Int.reduceEq, Int.reduceLT, Int.reduceLE, Nat.reduceLT, Int.reduceToNat, Nat.reduceMul, if_false, reduceCtorEq, fv_, show decide (((exC.length : Nat) : Int) = 3) = true from rfl]
      refine idxL_intro (by omega) ((codes_at (l := exC) (j := 2) (by decide))) ?_
      simp only [z31_, Nat.reduceAdd, Nat.reduceEqDiff, List.length_map, Int.reduceEq, Int.reduceLT, Int.reduceLE, Nat.reduceLT, Int.reduceToNat, Nat.reduceMul, if_false, reduceCtorEq, fv_]
      have q1 : over Elm.zero.enc [V.int .u64 1] = exE.enc := Elm.u_st (e := .zero) (w := 1#64) (i := 0) (by decide)
      have q2 : hasN 1 Elm.zero.enc = true := Elm.u_has (e := .zero) (i := 0) (by decide)
      simp only [z31_, Nat.reduceAdd, Nat.reduceEqDiff, List.length_map, Int.reduceEq, Int.reduceLT, Int.reduceLE, Nat.reduceLT, Int.reduceToNat, Nat.reduceMul, if_false, reduceCtorEq, fv_, show decide (exC[2] = ⟨3, 2, Ins.zero.c⟩) = true from decide_eq_true rfl, q1, q2, Elm.r_eq, show decide (exE = exE) = true from decide_eq_true rfl]
      refine (cright_calls exC σ (by decide)).mono ?_
      rintro v σ ⟨rfl, rfl⟩
      simp only [z31_, Nat.reduceAdd, Nat.reduceEqDiff, List.length_map, Int.reduceEq, Int.reduceLT, Int.reduceLE, Nat.reduceLT, Int.reduceToNat, Nat.reduceMul, if_false, reduceCtorEq, fv_, ex_right]
      refine retK_intro rfl (Store.sub_refl _) ⟨?_, rfl⟩
      simp [V.erase, eraseL]
theorem compR_len (s : Scp) (lat : Int) (n : Nd) : ((compR s lat n).getD []).length ≤ n.cnt := by
  cases h : compR s lat n with
  | none => simp
  | some l =>
    rw [compR] at h
    split at h
    · exact compF_len n h
    · simp at h
theorem same14_calls (s : Scp) (lat : Int) (n : Nd) {σ : Store} (hg : TZ σ) (hw : n.wt ≤ big) : PCalls prog 3 [.agg s.enc, .int .i64 lat, .agg n.enc] σ fun v σ' => v = .bool true ∧ σ' = σ := by
  refine fn3.calls ?_
  simp only [slots, ac3, z30_, Nat.reduceAdd, Nat.reduceEqDiff, Int.reduceEq, Int.reduceLT, Int.reduceLE, Nat.reduceLT, Int.reduceToNat, Nat.reduceMul, if_false, reduceCtorEq, fv_, List.length_map]
  refine (big13_calls s σ).mono ?_
  rintro v σ ⟨rfl, rfl⟩
  cases hb : big13 s with
  | true =>
    simp only [z31_, Nat.reduceAdd, Nat.reduceEqDiff, List.length_map, Int.reduceEq, Int.reduceLT, Int.reduceLE, Nat.reduceLT, Int.reduceToNat, Nat.reduceMul, if_false, reduceCtorEq, fv_]
    refine (alive14_calls hg).mono ?_
    rintro v σ ⟨rfl, rfl⟩
    simp only [z31_, Nat.reduceAdd, Nat.reduceEqDiff, List.length_map, Int.reduceEq, Int.reduceLT, Int.reduceLE, Nat.reduceLT, Int.reduceToNat, Nat.reduceMul, if_false, reduceCtorEq, fv_]
    refine retK_intro rfl (Store.sub_refl _) ⟨?_, rfl⟩
    simp [V.erase, eraseL]
  | false =>
    simp only [z31_, Nat.reduceAdd, Nat.reduceEqDiff, List.length_map, Int.reduceEq, Int.reduceLT, Int.reduceLE, Nat.reduceLT, Int.reduceToNat, Nat.reduceMul, if_false, reduceCtorEq, fv_]
    refine (big_calls [n] σ (show 1 ≤ big by decide) (by simpa using hw)).mono ?_
    rintro v σ ⟨rfl, rfl⟩
    cases hb2 : bigQ [n] with
    | true =>
      simp only [z31_, Nat.reduceAdd, Nat.reduceEqDiff, List.length_map, Int.reduceEq, Int.reduceLT, Int.reduceLE, Nat.reduceLT, Int.reduceToNat, Nat.reduceMul, if_false, reduceCtorEq, fv_]
      refine (alive14_calls hg).mono ?_
      rintro v σ ⟨rfl, rfl⟩
      simp only [z31_, Nat.reduceAdd, Nat.reduceEqDiff, List.length_map, Int.reduceEq, Int.reduceLT, Int.reduceLE, Nat.reduceLT, Int.reduceToNat, Nat.reduceMul, if_false, reduceCtorEq, fv_]
      refine retK_intro rfl (Store.sub_refl _) ⟨?_, rfl⟩
      simp [V.erase, eraseL]
    | false =>
      have hc : n.cnt ≤ 300 := by simp [bigQ] at hb2; omega
      simp only [z31_, Nat.reduceAdd, Nat.reduceEqDiff, List.length_map, Int.reduceEq, Int.reduceLT, Int.reduceLE, Nat.reduceLT, Int.reduceToNat, Nat.reduceMul, if_false, reduceCtorEq, fv_]
      refine (ccompile_calls s lat n hg (big13_ok hb) hw (by omega)).mono ?_
      rintro v σ ⟨rfl, rfl⟩
      simp only [z31_, Nat.reduceAdd, Nat.reduceEqDiff, List.length_map, Int.reduceEq, Int.reduceLT, Int.reduceLE, Nat.reduceLT, Int.reduceToNat, Nat.reduceMul, if_false, reduceCtorEq, fv_, codeT]
      refine (rcompile_calls s lat (big13_ok hb) n.wt n σ (Nat.le_refl _) hw (by omega)).mono ?_
      rintro v σ ⟨rfl, rfl⟩
      simp only [z31_, Nat.reduceAdd, Nat.reduceEqDiff, List.length_map, Int.reduceEq, Int.reduceLT, Int.reduceLE, Nat.reduceLT, Int.reduceToNat, Nat.reduceMul, if_false, reduceCtorEq, fv_, codeT]
      have hlen := compR_len s lat n
      generalize (compR s lat n).getD [] = a at hlen
      generalize (compR s lat n).isSome = b
      refine (samecode_calls a a σ (by omega) (by omega)).mono ?_
      rintro v σ ⟨rfl, rfl⟩
      simp only [z31_, Nat.reduceAdd, Nat.reduceEqDiff, List.length_map, Int.reduceEq, Int.reduceLT, Int.reduceLE, Nat.reduceLT, Int.reduceToNat, Nat.reduceMul, if_false, reduceCtorEq, fv_, decide_eq_true (show a = a from rfl), beq_self_eq_true]
      refine (alive14_calls hg).mono ?_
      rintro v σ ⟨rfl, rfl⟩
      simp only [z31_, Nat.reduceAdd, Nat.reduceEqDiff, List.length_map, Int.reduceEq, Int.reduceLT, Int.reduceLE, Nat.reduceLT, Int.reduceToNat, Nat.reduceMul, if_false, reduceCtorEq, fv_]
      refine retK_intro rfl (Store.sub_refl _) ⟨?_, rfl⟩
      simp [V.erase, eraseL]
end Go.Proofs.Tryz

namespace Go.Am
open Go.ChangeShapes Go.WideShapes Go.ChangeAt Go.RowKit
structure BulkFn {H : Type} (B : DataW H → Nat) (BA : List (DataW H) → Nat) : Prop where
  str : ∀ b, B (.lit (.string b)) = b.length + 1
  int : ∀ k n, B (.lit (.int k n)) = 1
  bool : ∀ b, B (.lit (.bool b)) = 1
  nil : B .nil = 1
  slice : ∀ e s, B (.slice e s) = BA e + BA s + 1
  agg : ∀ p, B (.agg p) = BA p + 1
  no : BA [] = 0
  cons : ∀ d r, BA (d :: r) = B d + BA r
section
variable {H : Type} {enc : TypeId × Value → H} {P : Program} {W : World} {sp : Nat → Bool} {B : DataW H → Nat} {BA : List (DataW H) → Nat}
end
theorem post_am2 {H : Type} {enc : TypeId × Value → H} {P : Program} {f : Func} {s : ChangeSpec} {W : World} {args : Array Value} {ds : List (DataW H)} {before : List MemPlace} {tb : TypeId}
    (hl : laidOutB P = true) (hm : mapsRowed P = true) (hz : ((List.range P.types.size).all fun t => match P.underlying t with | some (.slice e) => decide (0 < P.cellsOf e) | _ => true) = true)
    (hres : f.resultTypes = #[tb]) (htb : P.underlying tb = some .bool) (hpar : ∀ t ∈ f.params.toList, t < P.types.size) (hvars : s.vars = []) (hfn : (s.fn H ds).results = [.lit (.bool true)] ∧ (s.fn H ds).args = ds ∧ (s.fn H ds).vars = [])
    (hW : DataW.Whole enc P f.params.toList s.vars false W args.toList ds [] before) {W' : World} (hos : W'.os = W.os) (hout : W'.output = W.output) (hfrz : ∀ a, W'.frozen? a = W.frozen? a) (hsame : ∀ b, b < W.heap.size → W'.heap[b]? = W.heap[b]?) :
    s.post enc P f false true false false W args (.bool true) W' := by
  have hW' := hW
  obtain ⟨p, q, hA, hV, rfl, hfz, hnd⟩ := hW
  rw [hvars] at hV
  obtain ⟨_, rfl⟩ := trodVars_none hV
  have hkept : W.keptBut W' (fun _ => False) := by
    refine ⟨hos, hout, fun i hi => ?_⟩
    rw [hsame i hi]
    cases W.heap[i]? with
    | none => rfl
    | some ob => cases ob <;> simp
  simp only [List.append_nil] at hW'
  have hds : s.fn H (ds ++ []) = s.fn H ds := by rw [List.append_nil]
  refine post_of_same (pa := p) (pv := []) hW' (fun b sp' hd => ?_) (fun sp' hs => ?_) (fun sp' hs => ?_) (by simp) (World.keptBut_mono (fun _ h => h.elim) hkept) ?_ (ok_one hres rfl (okWide_bool_mk htb _))
  · rw [hds, hfn.1, hres]
    exact trodAll_cons_mk (shut_bool htb _) trodAll_mk0
  · rw [hds, hfn.2.1]
    have hlt := DataW.TrodAll.lt hA
    have key : ∀ (ts : List TypeId) (vs : List Value) (ds : List (DataW H)) (ps : List MemPlace), (∀ t ∈ ts, t < P.types.size) → DataW.TrodAll enc P W 0 (fun _ => true) true ts vs ds ps → (∀ x ∈ ps, x.block < W.heap.size) → (∀ x ∈ ps, sp' x.block = true) → DataW.TrodAll enc P W' 0 sp' true ts vs ds ps := by
      intro ts
      induction ts with
      | nil => intro vs ds ps _ h _ _; cases vs <;> cases ds <;> first | exact h | exact h.elim
      | cons t ts ih =>
        intro vs ds ps hT h hlt hs
        cases vs with
        | nil => exact h.elim
        | cons v vs =>
          cases ds with
          | nil => exact h.elim
          | cons d ds =>
            obtain ⟨p, q, ⟨n, h1⟩, h2, rfl⟩ := h
            refine ⟨p, q, ⟨n, ?_⟩, ih vs ds q (fun t ht => hT t (by simp [ht])) h2 (fun x hx => hlt x (by simp [hx])) (fun x hx => hs x (by simp [hx])), rfl⟩
            refine DataW.trod_stays (kids_rows hl hm) (fun {t e} ht he => slices_full_of P hz t e ht he) (by simp) (hT t (by simp)) h1 (fun x hx => ?_) (fun x hx => hs x (by simp [hx]))
            have hb := hlt x (by simp [hx])
            cases x with
            | cell b off => exact cell_same (hsame b hb)
            | map b => exact hsame b hb
    exact key _ _ _ _ hpar hA (fun x hx => hlt x hx) (fun x hx => hs x (by simpa using hx))
  · rw [hds, hfn.2.2, hvars]
    rfl
  · exact hfrz
section
variable {P : Program} {W : World} {r : Reach} {b : Nat} {t : TypeId} {v : Value} {E : Env}
theorem val_int {k : IntKind} {x : V} (ht : P.underlying t = some (.int k)) (hv : Value.okWide P W r b t v) (h : RL E [x] v.cells.toList) : R E x v := by
  obtain ⟨a, rfl⟩ := okWide_int ht hv
  simpa [Value.cells, RL] using h
theorem val_struct {fs : Array Field} {xs : List V} (ht : P.underlying t = some (.struct fs)) (hv : Value.okWide P W r b t v) (h : RL E xs v.cells.toList) : R E (.agg xs) v := by
  obtain ⟨cs, rfl, _⟩ := okWide_struct ht hv
  simp only [R]
  exact ⟨cs, rfl, by simpa [Value.cells] using h⟩
end
end Go.Am

namespace Go.Am
open Go.ChangeShapes Go.WideShapes Go.ChangeAt Go.RowKit
def txtVal (s : List UInt8) : Value := .string ⟨s.toArray⟩
section
variable {H : Type} {enc : TypeId × Value → H} {P : Program} {W : World}
end
end Go.Am

namespace Go.Am
open Go.ChangeShapes Go.WideShapes Go.ChangeAt Go.RowKit
section
variable {H : Type} {enc : TypeId × Value → H} {P : Program} {W : World} {sp : Nat → Bool} {B : DataW H → Nat} {BA : List (DataW H) → Nat} {E : Env}
end
end Go.Am

namespace Go.Am
open Go.ChangeShapes Go.WideShapes Go.ChangeAt Go.RowKit
def litV : V → Value
  | .str s => txtVal s
  | .int k n => .int k n
  | _ => .bool false
def isLit : V → Bool
  | .str _ => true
  | .int _ _ => true
  | _ => false
theorem litR {E : Env} {x : V} (h : isLit x = true) (v : Value) : R E x v ↔ v = litV x := by
  cases x <;> simp [isLit] at h <;> simp [R, litV, txtVal]
def mStore (B : Nat → Option (List V)) : Store := ⟨B, fun _ => none⟩
def mEnv (W : World) (B : Nat → Option (List V)) : Env := ⟨W, fun b => if (B b).isSome then .obox else .const, fun _ => none, fun _ => none⟩
def MGlob (W : World) (B : Nat → Option (List V)) : Prop := ∀ b cs, B b = some cs → (∃ e, W.heap[b]? = some (.cells (cs.map litV).toArray e (0, 0))) ∧ ∀ x ∈ cs, isLit x = true
theorem mEnv_ok {W : World} {B : Nat → Option (List V)} (h : MGlob W B) : (mEnv W B).ok (mStore B) := by
  refine ⟨fun b cs hb => ?_, fun _ _ h => by simp [mStore] at h, fun b hb => ?_, ⟨0, fun _ _ => rfl⟩⟩
  · have hb : B b = some cs := hb
    obtain ⟨⟨e, he⟩, hl⟩ := h b cs hb
    refine ⟨by simp [mEnv, hb], _, e, he, by simp, fun j x hx => ?_⟩
    exact ⟨litV x, by simp [hx], (litR (hl x (List.mem_of_getElem? hx)) _).2 rfl⟩
  · have hb : W.heap.size ≤ b := hb
    have hn : B b = none := by
      cases hq : B b with
      | none => rfl
      | some cs =>
        obtain ⟨⟨e, he⟩, _⟩ := h b cs hq
        have hlt : b < W.heap.size := lt_of_heap (w := W) he
        omega
    simp [mEnv, hn]
theorem law_callsM {H : Type} {enc : TypeId × Value → H} {P : Program} {n : FuncId} {f : Func} {s : ChangeSpec} {W : World} {args : Array Value} {vs : List V} {ds : List (DataW H)} {before : List MemPlace} {tb : TypeId} {B : Nat → Option (List V)}
    (hP : PCalls P n vs (mStore B) fun v σ' => v = .bool true ∧ σ' = mStore B) (hg : MGlob W B) (hR : RL (mEnv W B) vs args.toList)
    (hl : laidOutB P = true) (hm : mapsRowed P = true) (hz : ((List.range P.types.size).all fun t => match P.underlying t with | some (.slice e) => decide (0 < P.cellsOf e) | _ => true) = true)
    (hres : f.resultTypes = #[tb]) (htb : P.underlying tb = some .bool) (hpar : ∀ t ∈ f.params.toList, t < P.types.size) (hvars : s.vars = []) (hfn : (s.fn H ds).results = [.lit (.bool true)] ∧ (s.fn H ds).args = ds ∧ (s.fn H ds).vars = [])
    (hW : DataW.Whole enc P f.params.toList s.vars false W args.toList ds [] before) :
    Calls P n args W fun e W' => ∃ v, e = .returned v ∧ s.post enc P f false true false false W args v W' := by
  refine (hP.2 (mEnv W B) args (fun _ => rfl) (mEnv_ok hg) hR).mono ?_
  rintro _ w' ⟨v, x, E', σ', rfl, rfl, _, hok, hRv, hfr, rfl, rfl⟩
  simp only [R] at hRv
  subst hRv
  refine ⟨_, rfl, post_am2 hl hm hz hres htb hpar hvars hfn hW hfr.os hfr.output hfr.frz fun b hb => ?_⟩
  cases hq : B b with
  | some cs =>
    obtain ⟨⟨e, he⟩, hlit⟩ := hg b cs hq
    obtain ⟨c1, h1, h2⟩ := hfr.shape b _ e he
    obtain ⟨_, c2, e2, h3, h4, h5⟩ := hok.box b cs hq
    have h3 : E'.w.heap[b]? = some (.cells c2 e2 (0, 0)) := h3
    rw [h1] at h3
    simp only [Option.some.injEq, Obj.cells.injEq] at h3
    obtain ⟨rfl, rfl, _⟩ := h3
    rw [he, h1]
    have : c1 = (cs.map litV).toArray := by
      apply Array.ext_getElem?
      intro j
      by_cases hj : j < cs.length
      · obtain ⟨v, k1, k2⟩ := h5 j cs[j] (by simp [hj])
        rw [k1]
        rw [litR (hlit _ (List.getElem_mem _))] at k2
        rw [k2]
        simp [hj]
      · rw [Array.getElem?_eq_none (by rw [h2]; simp; omega), Array.getElem?_eq_none (by simp; omega)]
    rw [this]
  | none => exact (hfr.same b hb (.inl (by simp [mEnv, hq]))).1
end Go.Am

namespace Go.Am
open Go.ChangeShapes Go.WideShapes Go.ChangeAt Go.RowKit
section
variable {H : Type} {enc : TypeId × Value → H} {P : Program} {W : World} {sp : Nat → Bool} {B : DataW H → Nat} {BA : List (DataW H) → Nat} {E : Env}
end
end Go.Am

namespace Go.Am
open Go.ChangeShapes Go.WideShapes Go.ChangeAt Go.RowKit
section
variable {H : Type} {enc : TypeId × Value → H} {P : Program} {W : World}
theorem laid_at {name : String} {d : DataW Unit} {rest : List (String × DataW Unit)} {g : Nat} {t : TypeId} (h : laidMet P ((name, d) :: rest) W) (hg : P.globalNamed name = some g) (ht : (P.globals[g]?).map (·.type) = some t) {vs : List Value}
    (hc : ∀ (cs : List Value) (fuel : Nat) (p : List MemPlace), DataW.trod (fun _ => ()) P W 0 (fun _ => true) false fuel t cs = some (d, p) → cs = vs) (hv : vs ≠ []) : ∃ e, W.heap[g]? = some (.cells vs.toArray e (0, 0)) := by
  obtain ⟨ps, ⟨g', t', cs, fuel, p, q, hg', ht', hv', hd, _, hps⟩, _, hb⟩ := h
  obtain rfl : g' = g := Option.some.inj (hg'.symm.trans hg)
  obtain rfl : t' = t := Option.some.inj (ht'.symm.trans ht)
  have hcs := hc _ _ _ hd
  have hcs' : cs = vs.toArray := by rw [← hcs]
  obtain ⟨⟨c, e, hce⟩, _⟩ := hb g' 0 (by
    rw [hps]
    refine List.mem_append_left _ (List.mem_append_left _ ?_)
    rw [hcs']
    cases vs with
    | nil => exact absurd rfl hv
    | cons a l => simp [MemPlace.row])
  refine ⟨e, ?_⟩
  rw [hce]
  simp only [World.var?, hg, Option.bind_some, hce, Option.some.injEq] at hv'
  rw [hv', hcs']
end
end Go.Am

namespace Go.Am
open Go.ChangeShapes Go.WideShapes Go.ChangeAt Go.RowKit
def NUCom (W : World) (E : Env) : Prop := ∀ b, (∃ j v, W.cell? ⟨b, j, none⟩ = some v ∧ ∀ n, v ≠ .int .u8 n) → ∀ o, (E.role b).com o
def notU : V → Bool
  | .int k _ => decide (k ≠ .u8)
  | .str _ => true
  | .bool _ => true
  | _ => false
theorem notU_R {E : Env} {x : V} {v : Value} (h : notU x = true) (hr : R E x v) : ∀ n, v ≠ .int .u8 n := by
  intro n e
  subst e
  cases x <;> simp [notU] at h <;> simp [R] at hr
  exact h hr.1.symm
def HasNU (l : List V) : Prop := ∃ (j : Nat) (x : V), l[j]? = some x ∧ notU x = true
theorem mEnv_comN {W : World} {B : Nat → Option (List V)} (h : MGlob W B) (hn : ∀ b cs, B b = some cs → ∀ x ∈ cs, ∃ n, litV x = .int .u8 n) : NUCom W (mEnv W B) := by
  rintro b ⟨j, v, hc, hv⟩ o
  cases hq : B b with
  | none => simp [mEnv, hq, Role.com]
  | some cs =>
    obtain ⟨⟨e, he⟩, _⟩ := h b cs hq
    simp only [World.cell?, he] at hc
    by_cases hj : j < cs.length
    · have hl : litV cs[j] = v := by simpa [hj] using hc
      obtain ⟨n, hx⟩ := hn b cs hq _ (List.getElem_mem hj)
      exact absurd (hl.symm.trans hx) (hv n)
    · simp [hj] at hc
section
variable {H : Type} {enc : TypeId × Value → H} {P : Program} {W : World} {sp : Nat → Bool} {B : DataW H → Nat} {BA : List (DataW H) → Nat} {E : Env}
theorem rd_rowsN {α : Type} (ea : α → List V) (sz : α → Nat) {e : TypeId} {k n : Nat} (hB : BulkFn B BA) (hk : P.cellsOf e = k) (hlen : ∀ y, (ea y).length = k)
    (hel : ∀ cs x, DataW.trod enc P W 0 sp true n e cs = some x → ∃ y : α, RL E (ea y) cs ∧ (∀ v ∈ cs, v.oneCell' = true) ∧ sz y ≤ B x.1) (hw : E.w = W) (hnl : E.nl = E) (hcom : NUCom W E) (hint : ∀ y, HasNU (ea y)) {b o : Nat} :
    ∀ (els : List (DataW H × List MemPlace)) (i : Nat), (∀ j, j < els.length → (W.cells? 0 (Addr.add ⟨b, o, none⟩ ((i + j) * k)) k).bind (DataW.trod enc P W 0 sp true n e) = els[j]?) →
      ∃ l : List α, l.length = els.length ∧ REs E.nl k (l.map ea) b (o + i * k) ∧ (l.map sz).sum ≤ BA (els.map (·.1))
  | [], i, _ => ⟨[], rfl, by simp [REs], by simp⟩
  | x :: els, i, h => by
    obtain ⟨l, h1, h2, h3⟩ := rd_rowsN ea sz hB hk hlen hel hw hnl hcom hint els (i + 1) fun j hj => by
      have := h (j + 1) (by simp; omega)
      rw [show i + (j + 1) = i + 1 + j by omega] at this
      simpa using this
    have h0 := h 0 (by simp)
    simp only [Nat.add_zero, List.getElem?_cons_zero] at h0
    obtain ⟨cs, hc, hr⟩ := Option.bind_eq_some_iff.1 h0
    obtain ⟨y, k1, k2, k3⟩ := hel cs x hr
    obtain ⟨_, hl, hcell⟩ := World.cells?_some hc
    refine ⟨y :: l, by simp [h1], ?_, ?_⟩
    · simp only [List.map_cons, REs]
      have hat : ∀ (j : Nat) v, cs[j]? = some v → W.cell? ⟨b, o + i * k + j, none⟩ = some v := fun j v hv => by
        have hj : j < k := by have := (List.getElem?_eq_some_iff.1 hv).1; omega
        have := hcell j hj
        rw [addr_add, addr_add] at this
        rw [this, hv]
      obtain ⟨j0, z, hj0, hz⟩ := hint y
      obtain ⟨u, hu, hRu⟩ := RL_get k1 j0 _ hj0
      have hcm := hcom b ⟨_, u, hat j0 u hu, notU_R hz hRu⟩
      refine ⟨hlen y, RAs_mk (E := E.nl) (by rw [hnl]; exact k1) k2 (fun j v hv => ?_) (fun j _ => hcm _), by rw [show o + i * k + k = o + (i + 1) * k by rw [Nat.add_mul]; omega]; exact h2⟩
      show E.w.cell? _ = _
      rw [hw]; exact hat j v hv
    · simp only [List.map_cons, List.sum_cons, hB.cons]; omega
theorem rd_sliceN {α : Type} (ea : α → List V) (sz : α → Nat) {t e : TypeId} {k fuel : Nat} (hB : BulkFn B BA) (ht : P.underlying t = some (.slice e)) (hk : P.cellsOf e = k) (hpos : 0 < k) (hlen : ∀ y, (ea y).length = k) (hw : E.w = W) (hnl : E.nl = E) (hcom : NUCom W E) (hint : ∀ y, HasNU (ea y))
    (hel : ∀ n, n < fuel → ∀ cs x, DataW.trod enc P W 0 sp true n e cs = some x → ∃ y : α, RL E (ea y) cs ∧ (∀ v ∈ cs, v.oneCell' = true) ∧ sz y ≤ B x.1)
    {cs : List Value} {x : DataW H × List MemPlace} (h : DataW.trod enc P W 0 sp true fuel t cs = some x) :
    ∃ l : List α, RL E [.sl .no k (l.map ea)] cs ∧ (∀ v ∈ cs, v.oneCell' = true) ∧ (l.map sz).sum + 1 ≤ B x.1 := by
  rcases DataW.trod_slice ht h with ⟨rfl, rfl⟩ | ⟨a, len, cap, elems, rest, n, rfl, rfl, rfl, _, hle, _, hl, hels, _, _⟩
  · refine ⟨[], ?_, by simp [Value.oneCell'], by simp [hB.nil]⟩
    simp only [RL, R, List.map_nil, and_true]
    exact ⟨none, 0, rfl, by simp, by simp, trivial⟩
  · have ha : elems = [] ∨ ∃ b o, a = ⟨b, o, none⟩ := by
      cases elems with
      | nil => exact .inl rfl
      | cons y ys =>
        right
        have h0 := hels 0 (by rw [← hl]; simp)
        simp only [List.getElem?_cons_zero] at h0
        obtain ⟨cs', hc, _⟩ := Option.bind_eq_some_iff.1 h0
        obtain ⟨_, hl', hcell⟩ := World.cells?_some hc
        have h1 := hcell 0 (by rw [hk]; exact hpos)
        have h2 : cs'[0]? = some (cs'[0]'(by rw [hl', hk]; exact hpos)) := List.getElem?_eq_getElem _
        rw [h2] at h1
        obtain ⟨b, o, s⟩ := a
        refine ⟨b, o, ?_⟩
        simp only [World.cell?] at h1
        cases s with
        | none => rfl
        | some s =>
          split at h1
          · simp [Addr.add] at h1
          · simp at h1
    rcases ha with rfl | ⟨b, o, rfl⟩
    · refine ⟨[], ?_, by simp [Value.oneCell'], by simp [hB.slice]⟩
      simp only [List.length_nil] at hl
      subst hl
      simp only [RL, R, List.map_nil, and_true]
      exact ⟨some a, cap, rfl, by simp, by simp, trivial⟩
    · obtain ⟨l, h1, h2, h3⟩ := rd_rowsN (B := B) (BA := BA) (sp := sp) (enc := enc) (P := P) (W := W) (n := n) ea sz hB hk hlen (hel n (Nat.lt_succ_self n)) hw hnl hcom hint elems 0 (fun j hj => by
        have := hels j (by omega)
        rw [hk] at this
        rw [Nat.zero_add]; exact this)
      refine ⟨l, ?_, by simp [Value.oneCell'], ?_⟩
      · simp only [RL, R, List.length_map, and_true]
        exact ⟨some ⟨b, o, none⟩, cap, by rw [h1, hl], by omega, .inr ⟨b, o, rfl, by simpa using h2⟩, trivial⟩
      · rw [hB.slice]; omega
end
section
variable {H : Type} {enc : TypeId × Value → H} {P : Program} {W : World} {sp : Nat → Bool} {E : Env}
def u64At : Value → B64
  | .int .u64 z => BitVec.ofInt 64 z
  | _ => 0#64
theorem RL_u64s : ∀ (cs : List Value), (∀ v ∈ cs, ∃ z : Int, v = .int .u64 z ∧ 0 ≤ z ∧ z < 18446744073709551616) → RL E (encW (cs.map u64At)) cs
  | [], _ => by simp [encW, RL]
  | v :: cs, h => by
    obtain ⟨z, rfl, h0, h1⟩ := h v (by simp)
    have ih := RL_u64s cs fun v hv => h v (by simp [hv])
    simp only [encW, List.map_cons, RL] at ih ⊢
    refine ⟨?_, ih⟩
    simp only [R, u64At, Value.int.injEq, true_and]
    rw [BitVec.toNat_ofInt]
    omega
theorem rd_u64s {t e : TypeId} {n fuel : Nat} {cs : List Value} {x : DataW H × List MemPlace} (ht : P.underlying t = some (.array n e)) (he : P.underlying e = some (.int .u64)) (hce : P.cellsOf e = 1) (hct : P.cellsOf t = n)
    (h : DataW.trod enc P W 0 sp true fuel t cs = some x) : ∃ l : List B64, l.length = n ∧ RL E (encW l) cs ∧ (∀ v ∈ cs, v.oneCell' = true) := by
  obtain ⟨xs, m, rfl, rfl, hl, hx, hf⟩ := DataW.trod_array ht h
  rw [hct] at hl
  have all : ∀ v ∈ cs, ∃ z : Int, v = .int .u64 z ∧ 0 ≤ z ∧ z < 18446744073709551616 := by
    intro v hv
    obtain ⟨i, hi, rfl⟩ := List.mem_iff_getElem.1 hv
    have h1 := hf i (by omega)
    rw [hce, Nat.mul_one, List.getElem?_eq_getElem (show i < xs.length by omega), List.drop_eq_getElem_cons hi, List.take_succ_cons, List.take_zero] at h1
    obtain ⟨z, e1, _, hw⟩ := DataW.trod_int he h1
    simp [Lit.wf, IntKind.min, IntKind.max, IntKind.signed, IntKind.bits] at hw
    exact ⟨z, by simpa using e1, by omega, by omega⟩
  refine ⟨cs.map u64At, by simp [hl], RL_u64s cs all, fun v hv => ?_⟩
  obtain ⟨z, rfl, _⟩ := all v hv
  rfl
theorem RL_app : ∀ {l m : List V} {cs ds : List Value}, RL E l cs → RL E m ds → RL E (l ++ m) (cs ++ ds)
  | [], _, [], _, _, h => h
  | [], _, _ :: _, _, h, _ => by simp [RL] at h
  | _ :: _, _, [], _, h, _ => by simp [RL] at h
  | x :: l, m, c :: cs, ds, h, h2 => by
    simp only [RL, List.cons_append] at h ⊢
    exact ⟨h.1, RL_app h.2 h2⟩
end
end Go.Am

namespace Go.Proofs.Tryz
open Go.Am Go.ChangeShapes Go.WideShapes Go.ChangeAt Go.RowKit
open Go.Proofs.YtaddgcjnnpejjaaGreatDoor
theorem bulkFn (H : Type) : BulkFn (H := H) Rows.uptoBulk Rows.uptoBulkAll :=
  ⟨fun _ => by simp only [Rows.uptoBulk], fun _ _ => by simp only [Rows.uptoBulk], fun _ => by simp only [Rows.uptoBulk], by simp only [Rows.uptoBulk], fun _ _ => by simp only [Rows.uptoBulk], fun _ => by simp only [Rows.uptoBulk], by simp only [Rows.uptoBulkAll], fun _ _ => by simp only [Rows.uptoBulkAll]⟩
theorem laid : laidOutB prog = true := by kernel_rfl
theorem rowed : mapsRowed prog = true := by kernel_rfl
theorem fulls : ((List.range prog.types.size).all fun t => match prog.underlying t with | some (.slice e) => decide (0 < prog.cellsOf e) | _ => true) = true := by kernel_rfl
theorem own : ownKnob prog.godebug = none := by kernel_rfl
theorem c9 : prog.cellsOf 9 = 1 := by kernel_rfl
theorem c3 : prog.cellsOf 3 = 1 := by kernel_rfl
theorem c4 : prog.cellsOf 4 = 1 := by kernel_rfl
theorem c46 : prog.cellsOf 46 = 1 := by kernel_rfl
theorem c5 : prog.cellsOf 5 = 1 := by kernel_rfl
theorem c146 : prog.cellsOf 146 = 64 := by kernel_rfl
theorem c66 : prog.cellsOf 66 = 64 := by kernel_rfl
theorem c125 : prog.cellsOf 125 = 2 := by kernel_rfl
theorem c26 : prog.cellsOf 26 = 1 := by kernel_rfl
theorem c27 : prog.cellsOf 27 = 1 := by kernel_rfl
theorem c29 : prog.cellsOf 29 = 5 := by kernel_rfl
theorem c65 : prog.cellsOf 65 = 1 := by kernel_rfl
theorem c68 : prog.cellsOf 68 = 65 := by kernel_rfl
theorem c70 : prog.cellsOf 70 = 67 := by kernel_rfl
theorem c41 : prog.cellsOf 41 = 1 := by kernel_rfl
theorem c43 : prog.cellsOf 43 = 2 := by kernel_rfl
theorem c45 : prog.cellsOf 45 = 3 := by kernel_rfl
theorem c63 : prog.cellsOf 63 = 3 := by kernel_rfl
theorem c22 : prog.cellsOf 22 = 1 := by kernel_rfl
theorem c23 : prog.cellsOf 23 = 1 := by kernel_rfl
theorem c25 : prog.cellsOf 25 = 2 := by kernel_rfl
def gB : Nat → Option (List V) := fun b => if b = 0 then some tzCells else none
theorem gB_glob : TZ (mStore gB) := rfl
theorem globs_at {W : World} (h : laidMetH prog Rows.codeCompilesRow.laid W) : MGlob W gB := by
  have h : laidMet prog Rows.codeCompilesRow.laid W := h
  obtain ⟨e3, k3⟩ := laid_at (g := 0) (t := 146) (vs := tzTab.map fun z => Value.int .u8 z) h (by kernel_rfl) (by kernel_rfl) (fun cs fuel p hd => Lib.cells_of_tab underlying146 underlying5 c5 c146 hd) (by simp [tzTab])
  intro b cs hb
  simp only [gB] at hb
  split at hb
  · rename_i hq; subst hq
    obtain rfl := Option.some.inj hb
    exact ⟨⟨e3, k3⟩, by decide⟩
  · simp at hb
theorem gB_u8 : ∀ b cs, gB b = some cs → ∀ x ∈ cs, ∃ n, litV x = .int .u8 n := by
  intro b cs hb
  simp only [gB] at hb
  split at hb
  · obtain rfl := Option.some.inj hb
    intro x hx
    obtain ⟨w, _, rfl⟩ := List.mem_map.1 hx
    exact ⟨w, rfl⟩
  · simp at hb
def lay1 : DataW Unit → List Value
  | .lit (.int k n) => [.int k n]
  | _ => []
def lay2 : DataW Unit → List Value
  | .agg ds => ds.flatMap lay1
  | d => lay1 d
def layAt (h : Array Obj) (x : Nat × DataW Unit) : Array Obj := h.modify x.1 fun
  | .cells _ t frozen => .cells (lay2 x.2).toArray t frozen
  | o => o
noncomputable def laidWorld (os : Os) : World :=
  { World.holding prog os ⟨#[], #[], []⟩ with heap := [(0, Rows.laid_math_bits_deBruijn64tab)].foldl layAt (World.holding prog os ⟨#[], #[], []⟩).heap }
set_option maxRecDepth 100000
theorem ln2 {α : Type} {l : List α} (h : l.length = 2) : ∃ a b, l = [a, b] := by
  match l, h with
  | [a, b], _ => exact ⟨a, b, rfl⟩
theorem ln5 {α : Type} {l : List α} (h : l.length = 5) : ∃ a b c d e, l = [a, b, c, d, e] := by
  match l, h with
  | [a, b, c, d, e], _ => exact ⟨a, b, c, d, e, rfl⟩
theorem ln3 {α : Type} {l : List α} (h : l.length = 3) : ∃ a b c, l = [a, b, c] := by
  match l, h with
  | [a, b, c], _ => exact ⟨a, b, c, rfl⟩
theorem word_nu (w : Word) : HasNU w.enc := ⟨0, .str w.text, rfl, rfl⟩
theorem node_nu (n : Nd) : HasNU n.enc := ⟨0, .int .i64 n.kind, by rw [Nd.enc_eq]; rfl, rfl⟩
section
variable {H : Type} {enc : TypeId × Value → H} {W : World} {sp : Nat → Bool} {E : Env} (hw : E.w = W) (hnl : E.nl = E) (hcom : NUCom W E)
theorem RL_oneE {x : V} {v : Value} : RL E [x] [v] ↔ R E x v := by simp [RL]
theorem rd_intE {n : Nat} {cs : List Value} {x : DataW H × List MemPlace} (h : DataW.trod enc prog W 0 sp true n 3 cs = some x) :
    ∃ i : Int, RL E [.int .i64 i] cs ∧ (∀ v ∈ cs, v.oneCell' = true) ∧ Rows.uptoBulk x.1 = 1 := by
  obtain ⟨i, rfl, rfl, _⟩ := DataW.trod_int underlying3 h
  exact ⟨i, by simp [RL, R], by simp [Value.oneCell'], (bulkFn H).int _ _⟩
theorem rd_strE {n : Nat} {cs : List Value} {x : DataW H × List MemPlace} (h : DataW.trod enc prog W 0 sp true n 9 cs = some x) :
    ∃ s : List UInt8, RL E [.str s] cs ∧ (∀ v ∈ cs, v.oneCell' = true) ∧ s.length + 1 = Rows.uptoBulk x.1 := by
  obtain ⟨s, rfl, rfl, _⟩ := DataW.trod_string underlying9 h
  exact ⟨s.data.toList, by simp [RL, R], by simp [Value.oneCell'], ((bulkFn H).str _).symm⟩
theorem rd_wordE {n : Nat} {cs : List Value} {x : DataW H × List MemPlace} (h : DataW.trod enc prog W 0 sp true n 125 cs = some x) :
    ∃ w : Word, RL E w.enc cs ∧ (∀ v ∈ cs, v.oneCell' = true) ∧ w.text.length + 1 ≤ Rows.uptoBulk x.1 := by
  obtain ⟨xs, m, rfl, rfl, hl, hx, hf⟩ := DataW.trod_struct underlying125 h
  rw [c125] at hl
  obtain ⟨a, b, rfl⟩ := ln2 hl
  obtain ⟨x0, x1, rfl⟩ := ln2 hx
  have h0 : DataW.trod enc prog W 0 sp true m 9 ((([a, b] : List Value).drop 0).take (prog.cellsOf 9)) = some x0 := hf 0 _ rfl
  have h1 : DataW.trod enc prog W 0 sp true m 3 ((([a, b] : List Value).drop 1).take (prog.cellsOf 3)) = some x1 := hf 1 _ rfl
  rw [c9] at h0; rw [c3] at h1
  obtain ⟨s, r0, o0, b0⟩ := rd_strE (E := E) h0
  obtain ⟨j, r1, o1, b1⟩ := rd_intE (E := E) h1
  simp only [List.drop_zero, List.drop_succ_cons, List.take_succ_cons, List.take_zero, RL_oneE] at r0 r1 o0 o1
  refine ⟨⟨s, j⟩, ?_, ?_, ?_⟩
  · simp only [Word.enc, RL]; exact ⟨r0, r1, trivial⟩
  · intro v hv
    simp only [List.mem_cons, List.not_mem_nil, or_false] at hv o0 o1
    rcases hv with rfl | rfl
    · exact o0 _ rfl
    · exact o1 _ rfl
  · simp only [List.map_cons, List.map_nil, Rows.uptoBulk, Rows.uptoBulkAll]; omega
theorem rd_boolE {n : Nat} {cs : List Value} {x : DataW H × List MemPlace} (h : DataW.trod enc prog W 0 sp true n 4 cs = some x) :
    ∃ i : Bool, RL E [.bool i] cs ∧ (∀ v ∈ cs, v.oneCell' = true) := by
  obtain ⟨i, rfl, rfl⟩ := DataW.trod_bool underlying4 h
  exact ⟨i, by simp [RL, R], by simp [Value.oneCell']⟩
include hw hnl hcom in
theorem rd_wordsE {n : Nat} {cs : List Value} {x : DataW H × List MemPlace} (h : DataW.trod enc prog W 0 sp true n 26 cs = some x) :
    ∃ l : List Word, RL E [.sl .no 2 (l.map Word.enc)] cs ∧ (∀ v ∈ cs, v.oneCell' = true) ∧ wsum l + 1 ≤ Rows.uptoBulk x.1 :=
  rd_sliceN (α := Word) Word.enc (fun w => w.text.length + 1) (bulkFn H) underlying26 c125 (by omega) (fun _ => Word.r_len) hw hnl hcom word_nu (fun _ _ _ _ h => rd_wordE h) h
include hw hnl hcom in
theorem rd_nodeE : ∀ (n : Nat) (cs : List Value) (x : DataW H × List MemPlace), DataW.trod enc prog W 0 sp true n 29 cs = some x →
    ∃ y : Nd, RL E y.enc cs ∧ (∀ v ∈ cs, v.oneCell' = true) ∧ y.wt + 1 ≤ Rows.uptoBulk x.1 := by
  intro n
  induction n using Nat.strongRecOn with
  | ind n ih =>
  intro cs x h
  obtain ⟨xs, m, hnm, rfl, hl, hx, hf⟩ := DataW.trod_struct underlying29 h
  rw [c29] at hl
  obtain ⟨a, b, c, d, e, rfl⟩ := ln5 hl
  obtain ⟨x0, x1, x2, x3, x4, rfl⟩ := ln5 hx
  have h0 : DataW.trod enc prog W 0 sp true m 3 ((([a, b, c, d, e] : List Value).drop 0).take (prog.cellsOf 3)) = some x0 := hf 0 _ rfl
  have h1 : DataW.trod enc prog W 0 sp true m 3 ((([a, b, c, d, e] : List Value).drop 1).take (prog.cellsOf 3)) = some x1 := hf 1 _ rfl
  have h2 : DataW.trod enc prog W 0 sp true m 9 ((([a, b, c, d, e] : List Value).drop 2).take (prog.cellsOf 9)) = some x2 := hf 2 _ rfl
  have h3 : DataW.trod enc prog W 0 sp true m 26 ((([a, b, c, d, e] : List Value).drop 3).take (prog.cellsOf 26)) = some x3 := hf 3 _ rfl
  have h4 : DataW.trod enc prog W 0 sp true m 27 ((([a, b, c, d, e] : List Value).drop 4).take (prog.cellsOf 27)) = some x4 := hf 4 _ rfl
  rw [c3] at h0 h1; rw [c9] at h2; rw [c26] at h3; rw [c27] at h4
  obtain ⟨i, r0, o0, b0⟩ := rd_intE (E := E) h0
  obtain ⟨j, r1, o1, b1⟩ := rd_intE (E := E) h1
  obtain ⟨s, r2, o2, b2⟩ := rd_strE (E := E) h2
  obtain ⟨ws, r3, o3, b3⟩ := rd_wordsE hw hnl hcom h3
  obtain ⟨ks, r4, o4, b4⟩ := rd_sliceN (α := Nd) Nd.enc (fun n => n.wt + 1) (bulkFn H) underlying27 c29 (by omega) (fun t => Nd.r_len) hw hnl hcom node_nu (fun p hp cs x h => ih p (by omega) cs x h) h4
  rw [← wts_map] at b4
  simp only [List.drop_zero, List.drop_succ_cons, List.take_succ_cons, List.take_zero, RL_oneE] at r0 r1 r2 r3 r4 o0 o1 o2 o3 o4
  refine ⟨.mk i j s ws ks, ?_, ?_, ?_⟩
  · rw [Nd.enc_eq]; simp only [RL]; exact ⟨r0, r1, r2, r3, r4, trivial⟩
  · intro v hv
    simp only [List.mem_cons, List.not_mem_nil, or_false] at hv o0 o1 o2 o3 o4
    rcases hv with rfl | rfl | rfl | rfl | rfl
    · exact o0 _ rfl
    · exact o1 _ rfl
    · exact o2 _ rfl
    · exact o3 _ rfl
    · exact o4 _ rfl
  · simp only [List.map_cons, List.map_nil, Rows.uptoBulk, Rows.uptoBulkAll, Nd.wt]; omega
theorem rd_relE {n : Nat} {cs : List Value} {x : DataW H × List MemPlace} (h : DataW.trod enc prog W 0 sp true n 68 cs = some x) :
    ∃ r : Rl, RL E r.enc cs ∧ (∀ v ∈ cs, v.oneCell' = true) := by
  obtain ⟨xs, m, rfl, rfl, hl, hx, hf⟩ := DataW.trod_struct underlying68 h
  rw [c68] at hl
  obtain ⟨x0, x1, rfl⟩ := ln2 hx
  have h0 : DataW.trod enc prog W 0 sp true m 3 ((cs.drop 0).take (prog.cellsOf 3)) = some x0 := hf 0 _ rfl
  have h1 : DataW.trod enc prog W 0 sp true m 66 ((cs.drop 1).take (prog.cellsOf 66)) = some x1 := hf 1 _ rfl
  obtain ⟨l, q1, r1, o1⟩ := rd_u64s (E := E) underlying66 underlying46 c46 c66 h1
  rw [c3] at h0; rw [c66, List.take_of_length_le (by simp [hl])] at r1 o1
  obtain ⟨k, r0, o0, _⟩ := rd_intE (E := E) h0
  rw [List.drop_zero] at r0 o0
  refine ⟨⟨k, l, q1⟩, ?_, fun v hv => ?_⟩
  · have := RL_app r0 r1
    rwa [List.take_append_drop] at this
  · rw [← List.take_append_drop 1 cs] at hv
    rcases List.mem_append.1 hv with hv | hv
    · exact o0 v hv
    · exact o1 v hv
theorem name_nu (s : List UInt8) : HasNU [V.str s] := ⟨0, .str s, rfl, rfl⟩
theorem fct_nu (f : Fct) : HasNU f.enc := ⟨0, .int .i64 f.kind, rfl, rfl⟩
theorem ltc_nu (l : Ltc) : HasNU l.enc := ⟨0, .str l.name, rfl, rfl⟩
theorem vrb_nu (v : Vrb) : HasNU v.enc := ⟨0, .str v.name, rfl, rfl⟩
include hw hnl hcom in
theorem rd_namesE {n : Nat} {cs : List Value} {x : DataW H × List MemPlace} (h : DataW.trod enc prog W 0 sp true n 65 cs = some x) :
    ∃ l : List (List UInt8), RL E [.sl .no 1 (sCells l)] cs ∧ (∀ v ∈ cs, v.oneCell' = true) := by
  obtain ⟨l, r, o, _⟩ := rd_sliceN (α := List UInt8) (fun s => [V.str s]) (fun _ => 0) (bulkFn H) underlying65 c9 (by omega) (fun _ => rfl) hw hnl hcom name_nu (fun _ _ cs x h => by
    obtain ⟨s, q1, q2, _⟩ := rd_strE (E := E) h
    exact ⟨s, q1, q2, Nat.zero_le _⟩) h
  exact ⟨l, r, o⟩
include hw hnl hcom in
theorem rd_facE {n : Nat} {cs : List Value} {x : DataW H × List MemPlace} (h : DataW.trod enc prog W 0 sp true n 70 cs = some x) :
    ∃ f : Fct, RL E f.enc cs ∧ (∀ v ∈ cs, v.oneCell' = true) := by
  obtain ⟨xs, m, rfl, rfl, hl, hx, hf⟩ := DataW.trod_struct underlying70 h
  rw [c70] at hl
  obtain ⟨x0, x1, x2, rfl⟩ := ln3 hx
  have h0 : DataW.trod enc prog W 0 sp true m 3 ((cs.drop 0).take (prog.cellsOf 3)) = some x0 := hf 0 _ rfl
  have h1 : DataW.trod enc prog W 0 sp true m 65 ((cs.drop 1).take (prog.cellsOf 65)) = some x1 := hf 1 _ rfl
  have h2 : DataW.trod enc prog W 0 sp true m 68 ((cs.drop 2).take (prog.cellsOf 68)) = some x2 := hf 2 _ rfl
  rw [c3] at h0; rw [c65] at h1; rw [c68, List.take_of_length_le (by simp [hl])] at h2
  obtain ⟨k, r0, o0, _⟩ := rd_intE (E := E) h0
  obtain ⟨ns, r1, o1⟩ := rd_namesE hw hnl hcom h1
  obtain ⟨r, r2, o2⟩ := rd_relE (E := E) h2
  obtain ⟨a, cs, rfl⟩ : ∃ a t, cs = a :: t := by cases cs with | nil => simp at hl | cons a t => exact ⟨a, t, rfl⟩
  obtain ⟨b, cs, rfl⟩ : ∃ a t, cs = a :: t := by cases cs with | nil => simp at hl | cons a t => exact ⟨a, t, rfl⟩
  simp only [List.drop_zero, List.drop_succ_cons, List.take_succ_cons, List.take_zero, RL_oneE] at r0 r1 r2 o0 o1 o2
  refine ⟨⟨k, ns, r⟩, ?_, fun v hv => ?_⟩
  · simp only [Fct.enc, RL]; exact ⟨r0, r1, r2⟩
  · simp only [List.mem_cons, List.not_mem_nil, or_false] at hv o0 o1
    rcases hv with rfl | rfl | hv
    · exact o0 _ rfl
    · exact o1 _ rfl
    · exact o2 _ hv
include hw hnl hcom in
theorem rd_facsE {n : Nat} {cs : List Value} {x : DataW H × List MemPlace} (h : DataW.trod enc prog W 0 sp true n 41 cs = some x) :
    ∃ l : List Fct, RL E [.sl .no 67 (l.map Fct.enc)] cs ∧ (∀ v ∈ cs, v.oneCell' = true) := by
  obtain ⟨l, r, o, _⟩ := rd_sliceN (α := Fct) Fct.enc (fun _ => 0) (bulkFn H) underlying41 c70 (by omega) (fun _ => Fct.r_len) hw hnl hcom fct_nu (fun _ _ cs x h => by
    obtain ⟨f, q1, q2⟩ := rd_facE hw hnl hcom h
    exact ⟨f, q1, q2, Nat.zero_le _⟩) h
  exact ⟨l, r, o⟩
include hw hnl hcom in
theorem rd_shpE {n : Nat} {cs : List Value} {x : DataW H × List MemPlace} (h : DataW.trod enc prog W 0 sp true n 43 cs = some x) :
    ∃ s : Shp, RL E s.enc cs ∧ (∀ v ∈ cs, v.oneCell' = true) := by
  obtain ⟨xs, m, rfl, rfl, hl, hx, hf⟩ := DataW.trod_struct underlying43 h
  rw [c43] at hl
  obtain ⟨a, b, rfl⟩ := ln2 hl
  obtain ⟨x0, x1, rfl⟩ := ln2 hx
  have h0 : DataW.trod enc prog W 0 sp true m 4 ((([a, b] : List Value).drop 0).take (prog.cellsOf 4)) = some x0 := hf 0 _ rfl
  have h1 : DataW.trod enc prog W 0 sp true m 41 ((([a, b] : List Value).drop 1).take (prog.cellsOf 41)) = some x1 := hf 1 _ rfl
  rw [c4] at h0; rw [c41] at h1
  obtain ⟨t, r0, o0⟩ := rd_boolE (E := E) h0
  obtain ⟨fs, r1, o1⟩ := rd_facsE hw hnl hcom h1
  simp only [List.drop_zero, List.drop_succ_cons, List.take_succ_cons, List.take_zero, RL_oneE] at r0 r1 o0 o1
  refine ⟨⟨t, fs⟩, ?_, fun v hv => ?_⟩
  · simp only [Shp.enc, RL]; exact ⟨r0, r1, trivial⟩
  · simp only [List.mem_cons, List.not_mem_nil, or_false] at hv o0 o1
    rcases hv with rfl | rfl
    · exact o0 _ rfl
    · exact o1 _ rfl
include hw hnl hcom in
theorem rd_latE {n : Nat} {cs : List Value} {x : DataW H × List MemPlace} (h : DataW.trod enc prog W 0 sp true n 45 cs = some x) :
    ∃ l : Ltc, RL E l.enc cs ∧ (∀ v ∈ cs, v.oneCell' = true) := by
  obtain ⟨xs, m, rfl, rfl, hl, hx, hf⟩ := DataW.trod_struct underlying45 h
  rw [c45] at hl
  obtain ⟨a, b, c, rfl⟩ := ln3 hl
  obtain ⟨x0, x1, rfl⟩ := ln2 hx
  have h0 : DataW.trod enc prog W 0 sp true m 9 ((([a, b, c] : List Value).drop 0).take (prog.cellsOf 9)) = some x0 := hf 0 _ rfl
  have h1 : DataW.trod enc prog W 0 sp true m 43 ((([a, b, c] : List Value).drop 1).take (prog.cellsOf 43)) = some x1 := hf 1 _ rfl
  rw [c9] at h0; rw [c43] at h1
  obtain ⟨t, r0, o0, _⟩ := rd_strE (E := E) h0
  obtain ⟨s, r1, o1⟩ := rd_shpE hw hnl hcom h1
  simp only [List.drop_zero, List.drop_succ_cons, List.take_succ_cons, List.take_zero, RL_oneE] at r0 r1 o0 o1
  refine ⟨⟨t, s⟩, ?_, fun v hv => ?_⟩
  · simp only [Ltc.enc, RL]; exact ⟨r0, r1⟩
  · simp only [List.mem_cons, List.not_mem_nil, or_false] at hv o0 o1
    rcases hv with rfl | rfl | rfl
    · exact o0 _ rfl
    · exact o1 _ (.inl rfl)
    · exact o1 _ (.inr rfl)
theorem rd_varE {n : Nat} {cs : List Value} {x : DataW H × List MemPlace} (h : DataW.trod enc prog W 0 sp true n 63 cs = some x) :
    ∃ l : Vrb, RL E l.enc cs ∧ (∀ v ∈ cs, v.oneCell' = true) := by
  obtain ⟨xs, m, rfl, rfl, hl, hx, hf⟩ := DataW.trod_struct underlying63 h
  rw [c63] at hl
  obtain ⟨a, b, c, rfl⟩ := ln3 hl
  obtain ⟨x0, x1, x2, rfl⟩ := ln3 hx
  have h0 : DataW.trod enc prog W 0 sp true m 9 ((([a, b, c] : List Value).drop 0).take (prog.cellsOf 9)) = some x0 := hf 0 _ rfl
  have h1 : DataW.trod enc prog W 0 sp true m 3 ((([a, b, c] : List Value).drop 1).take (prog.cellsOf 3)) = some x1 := hf 1 _ rfl
  have h2 : DataW.trod enc prog W 0 sp true m 3 ((([a, b, c] : List Value).drop 2).take (prog.cellsOf 3)) = some x2 := hf 2 _ rfl
  rw [c9] at h0; rw [c3] at h1 h2
  obtain ⟨t, r0, o0, _⟩ := rd_strE (E := E) h0
  obtain ⟨i, r1, o1, _⟩ := rd_intE (E := E) h1
  obtain ⟨j, r2, o2, _⟩ := rd_intE (E := E) h2
  simp only [List.drop_zero, List.drop_succ_cons, List.take_succ_cons, List.take_zero, RL_oneE] at r0 r1 r2 o0 o1 o2
  refine ⟨⟨t, i, j⟩, ?_, fun v hv => ?_⟩
  · simp only [Vrb.enc, RL]; exact ⟨r0, r1, r2, trivial⟩
  · simp only [List.mem_cons, List.not_mem_nil, or_false] at hv o0 o1 o2
    rcases hv with rfl | rfl | rfl
    · exact o0 _ rfl
    · exact o1 _ rfl
    · exact o2 _ rfl
include hw hnl hcom in
theorem rd_scpE {n : Nat} {cs : List Value} {x : DataW H × List MemPlace} (h : DataW.trod enc prog W 0 sp true n 25 cs = some x) :
    ∃ s : Scp, RL E s.enc cs := by
  obtain ⟨xs, m, rfl, rfl, hl, hx, hf⟩ := DataW.trod_struct underlying25 h
  rw [c25] at hl
  obtain ⟨a, b, rfl⟩ := ln2 hl
  obtain ⟨x0, x1, rfl⟩ := ln2 hx
  have h0 : DataW.trod enc prog W 0 sp true m 22 ((([a, b] : List Value).drop 0).take (prog.cellsOf 22)) = some x0 := hf 0 _ rfl
  have h1 : DataW.trod enc prog W 0 sp true m 23 ((([a, b] : List Value).drop 1).take (prog.cellsOf 23)) = some x1 := hf 1 _ rfl
  rw [c22] at h0; rw [c23] at h1
  obtain ⟨ls, r0, _⟩ := rd_sliceN (α := Ltc) Ltc.enc (fun _ => 0) (bulkFn H) underlying22 c45 (by omega) (fun _ => rfl) hw hnl hcom ltc_nu (fun _ _ cs x h => by
    obtain ⟨f, q1, q2⟩ := rd_latE hw hnl hcom h
    exact ⟨f, q1, q2, Nat.zero_le _⟩) h0
  obtain ⟨vs, r1, _⟩ := rd_sliceN (α := Vrb) Vrb.enc (fun _ => 0) (bulkFn H) underlying23 c63 (by omega) (fun _ => rfl) hw hnl hcom vrb_nu (fun _ _ cs x h => by
    obtain ⟨f, q1, q2⟩ := rd_varE (E := E) h
    exact ⟨f, q1, q2, Nat.zero_le _⟩) h1
  simp only [List.drop_zero, List.drop_succ_cons, List.take_succ_cons, List.take_zero, RL_oneE] at r0 r1
  exact ⟨⟨ls, vs⟩, by simp only [Scp.enc, RL]; exact ⟨r0, r1, trivial⟩⟩
end
end Go.Proofs.Tryz

namespace Go.Proofs.Tryz
open Go.Am Go.ChangeShapes Go.WideShapes Go.ChangeAt Go.RowKit
open Go.Proofs.YtaddgcjnnpejjaaGreatDoor
set_option maxRecDepth 100000 in
theorem codeCompiles_contract (H : Type) (enc : TypeId × Value → H) (W : World) (base : Nat) (args : Array Value) (ds gs : List (DataW H)) (before : List MemPlace)
    (hval : ∀ (j : Nat) t v, f3.params[j]? = some t → args[j]? = some v → Value.okWide prog W .any base t v)
    (hW : DataW.Whole enc prog f3.params.toList Rows.codeCompilesSpec.vars false W args.toList ds gs before) (hk : Rows.uptoSmall H (ds ++ gs) = true) (hL : laidMetH prog Rows.codeCompilesRow.laid W) :
    Calls prog 3 args W fun e W' => ∃ v, e = .returned v ∧ Rows.codeCompilesSpec.post enc prog f3 false true false false W args v W' := by
  have hW' := hW
  obtain ⟨p, q, hA0, hV, rfl, hfz, hnd⟩ := hW
  have hA : DataW.TrodAll enc prog W 0 (fun _ => true) true f3.params.toList args.toList ds p := hA0
  rw [params3] at hA hval
  obtain ⟨v0, vs0, d0, ds0, p0, q0, hargs, rfl, rfl, ⟨n0, h0⟩, r0⟩ := trodAll_cons hA
  obtain ⟨v1, vs1, d1, ds1, p1, q1, rfl, rfl, rfl, ⟨n1, h1⟩, r1⟩ := trodAll_cons r0
  obtain ⟨v2, vs2, d2, ds2, p2, q2, rfl, rfl, rfl, ⟨n2, h2⟩, r2⟩ := trodAll_cons r1
  obtain ⟨rfl, rfl, rfl⟩ := trodAll_nil r2
  obtain rfl : args = #[v0, v1, v2] := by cases args; simp_all
  obtain ⟨rfl, rfl⟩ := trodVars_none hV
  have hG := globs_at hL
  obtain ⟨y0, a0⟩ := rd_scpE (E := mEnv W gB) rfl rfl (mEnv_comN hG gB_u8) h0
  obtain ⟨y1, a1, _⟩ := rd_intE (E := mEnv W gB) h1
  obtain ⟨y2, a2, _, b2⟩ := rd_nodeE (E := mEnv W gB) rfl rfl (mEnv_comN hG gB_u8) _ _ _ h2
  have hb : Rows.uptoBulkAll [d0, d1, d2] ≤ 1048576 := by
    have h := of_decide_eq_true hk
    rw [List.append_nil] at h
    exact h
  simp only [Rows.uptoBulkAll] at hb
  have k0 : y2.wt ≤ big := by
    simp only at b2
    simp only [big]; omega
  simp only [List.append_nil] at hW'
  have hs := val_struct underlying25 (hval 0 25 v0 rfl rfl) a0
  have hs1 := val_int underlying3 (hval 1 3 v1 rfl rfl) a1
  have hs2 := val_struct underlying29 (hval 2 29 v2 rfl rfl) a2
  refine law_callsM (same14_calls y0 y1 y2 gB_glob k0) hG ?_ laid rowed fulls rfl underlying4 (by rw [params3]; decide +kernel) rfl ⟨rfl, rfl, rfl⟩ hW'
  simp only [RL, and_true]
  exact ⟨hs, hs1, hs2⟩
set_option maxRecDepth 100000 in
theorem codeCompiles_laid_met (os : Os) : laidMet prog Rows.codeCompilesRow.laid ((laidWorld os).forCall (fun _ _ => 0) ⟨#[], #[.agg #[.slice none 0 0, .slice none 0 0], .int .i64 0, .agg #[.int .i64 0, .int .i64 0, .string ⟨#[]⟩, .slice none 0 0, .slice none 0 0]], []⟩).memory :=
  laidMet_of_run' 8 (by kernel_rfl) (by kernel_rfl)
theorem codeCompiles_reads (os : Os) {H : Type} (enc : TypeId × Value → H) : ∃ places, DataW.whole enc prog ((laidWorld os).forCall (fun _ _ => 0) ⟨#[], #[.agg #[.slice none 0 0, .slice none 0 0], .int .i64 0, .agg #[.int .i64 0, .int .i64 0, .string ⟨#[]⟩, .slice none 0 0, .slice none 0 0]], []⟩).memory f3.params.toList Rows.codeCompilesSpec.vars false (#[.agg #[.slice none 0 0, .slice none 0 0], .int .i64 0, .agg #[.int .i64 0, .int .i64 0, .string ⟨#[]⟩, .slice none 0 0, .slice none 0 0]] : Array Value).toList 8 = some ([.agg [.nil, .nil], .lit (.int .i64 0), .agg [.lit (.int .i64 0), .lit (.int .i64 0), .lit (.string []), .nil, .nil]], [], places) :=
  ⟨[], by kernel_rfl⟩
set_option maxRecDepth 100000 in
theorem codeCompiles_lifted (os : Os) (started : os.Started) (H : Type) (enc : TypeId × Value → H) (F : Stop.Interp) :
    ReturnsInHanded {} checked os 3 .any ((Rows.OpenSpec.upto Rows.codeCompilesSpec).preRow enc prog f3 Rows.codeCompilesUptoRow.domain false Rows.codeCompilesUptoRow.laid) (((Rows.OpenSpec.upto Rows.codeCompilesSpec).at F).post enc prog f3 false true false false) := by
  obtain ⟨places, hx⟩ := codeCompiles_reads os enc
  refine returnsInHanded_of_row (C := checked) (s := Rows.OpenSpec.upto Rows.codeCompilesSpec) own started (by kernel_rfl) func3
    (witness_row_at (enc := enc) (C := checked) false (laidWorld os) #[.agg #[.slice none 0 0, .slice none 0 0], .int .i64 0, .agg #[.int .i64 0, .int .i64 0, .string ⟨#[]⟩, .slice none 0 0, .slice none 0 0]] rfl (by kernel_rfl) (by kernel_rfl) (by kernel_rfl)
      (OpenSpec.preRow_of_cond 8 hx (by kernel_rfl) (fun k hk => by cases hk; kernel_rfl) (by kernel_rfl) (codeCompiles_laid_met os))) ?_
  intro W base args ds gs before hval hW _ hcond _ hL _ _
  exact codeCompiles_contract H enc W base args ds gs before hval hW (hcond _ rfl) hL
theorem codeCompiles_proved : Rows.CodeCompilesUptoSaid :=
  OpenClaim.holds_of_cond 3 f3 rfl rfl rfl rfl rfl rfl rfl ⟨rfl, rfl, rfl, rfl, rfl⟩ rfl rfl rfl rfl rfl (by kernel_rfl) func3 (by kernel_rfl)
    (of_decide_eq_true (by kernel_rfl)) (by unfold Func.isWrapper; first | (rw [if_pos (by decide +kernel)]; kernel_rfl) | (rw [if_neg (by decide +kernel)]; exact ⟨rfl, rfl⟩))
    (fun os started H enc _ F => by rw [OpenClaim.pre_eq_preRow]; exact codeCompiles_lifted os started H enc F)
theorem codeCompiles_plain (f : FuncId) (fn : Func) (hf : YtaddgcjnnpejjaaGreatDoor.Tryz.pinned.checked.prog.funcNamed "clearance/clearancelaw14.CodeCompiles" = some f) (hfn : YtaddgcjnnpejjaaGreatDoor.Tryz.pinned.checked.prog.funcs[f]? = some fn) :
    false = YtaddgcjnnpejjaaGreatDoor.Tryz.pinned.checked.prog.looks [] ∧ ∀ (j : Nat) t, fn.params[j]? = some t → YtaddgcjnnpejjaaGreatDoor.Tryz.pinned.checked.prog.wantsStandIn t = false := by
  obtain rfl : f = 3 := Option.some.inj ((show prog.funcNamed "clearance/clearancelaw14.CodeCompiles" = some 3 by kernel_rfl).symm.trans hf) |>.symm
  obtain rfl : fn = f3 := (Option.some.inj (func3.symm.trans hfn)).symm
  refine ⟨by kernel_rfl, fun j t ht => ?_⟩
  rw [params3] at ht
  have h : t = 25 ∨ t = 3 ∨ t = 29 := by simpa using Array.mem_of_getElem? ht
  rcases h with rfl | rfl | rfl
  · exact (show prog.wantsStandIn 25 = false by kernel_rfl)
  · exact (show prog.wantsStandIn 3 = false by kernel_rfl)
  · exact (show prog.wantsStandIn 29 = false by kernel_rfl)
theorem codeCompiles_card : Rows.CodeCompilesUptoCardSaid :=
  Claim7.holds_tied_plain_at .later [] _ _ _ _ codeCompiles_proved (fun _ h => by cases h) (by kernel_rfl) (fun _ h => by cases h) codeCompilesUpto_row_tie rfl ⟨rfl, rfl⟩ (by kernel_rfl) rfl codeCompiles_plain (by kernel_rfl)
end Go.Proofs.Tryz

namespace Go.Proofs.YtaddgcjnnpejjaaGreatDoor
/-- For every scope, lattice number and label, where what comes in is of bulk at most 1048576: both readers make the same code of the label, and the example is alive. -/
theorem codeCompiles_card_holds : Rows.CodeCompilesUptoCardSaid := Go.Proofs.Tryz.codeCompiles_card
end Go.Proofs.YtaddgcjnnpejjaaGreatDoor
