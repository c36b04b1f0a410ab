/-
  Part 6 of the proof of CodeCompilesUptoCardSaid: a logic over the model, the forms of the functions that the law reaches, and what they compute.
-/
import Derived.Test.YtaddgcjnnpejjaaGreatDoorProg
import Derived.Test.YtaddgcjnnpejjaaGreatDoorCode5
set_option linter.unusedVariables false
set_option linter.unusedSimpArgs false
set_option linter.defProp false
set_option linter.unusedSectionVars false

namespace Go.Proofs.Tryz
open Go.Am
set_option maxRecDepth 4000
set_option maxHeartbeats 4000000
def ac55 : AC := .seq (.reg [⟨(some 3), .box 65 (.s 0), none⟩, xi 6 0, ⟨(some 7), .mv (.c (.bool false)), none⟩])
 (.seq (.seq (.reg [xi 8 0])
 (.block 0 (.loop (.seq (.seq (.reg [xm 11 8, xl 65 12 3, xc 69 13 [.s 12], xb .lss 14 11 13])
 (.cond (.s 14) (.skip)
 (.exit 0)))
 (.seq (.block 1 (.seq (.reg [xl 65 17 3, xm 18 1, xm 19 8, xc 74 20 [.s 17, .s 18, .s 19], xm 21 20, xg 21 (xl 65 22 3), xg 21 (xm 23 2), xg 21 (xm 24 8), xg 21 (xc 74 25 [.s 22, .s 23, .s 24]), ⟨(some 26), .pick (.s 21) (.s 25) (.c (.bool false)), none⟩, xm 9 26])
 (.seq (.seq (.reg [xi 10 0])
 (.block 2 (.loop (.seq (.seq (.reg [xm 27 10, xl 65 28 3, xc 69 29 [.s 28], xb .lss 30 27 29])
 (.cond (.s 30) (.skip)
 (.exit 2)))
 (.seq (.block 3 (.seq (.reg [xl 65 33 3, xm 34 1, xm 35 10, xc 74 36 [.s 33, .s 34, .s 35], xm 37 36, xg 37 (xl 65 38 3), xg 37 (xm 39 2), xg 37 (xm 40 10), xg 37 (xc 74 41 [.s 38, .s 39, .s 40]), ⟨(some 42), .pick (.s 37) (.s 41) (.c (.bool false)), none⟩, xm 43 42, xg 43 (xl 65 44 3), xg 43 (xm 45 8), xg 43 (xm 46 10), xg 43 (xc 74 47 [.s 44, .s 45, .s 46]), ⟨(some 48), .not (.s 47), (some (43, true))⟩, ⟨(some 49), .pick (.s 43) (.s 48) (.c (.bool false)), none⟩])
 (.cond (.s 49) (.reg [⟨(some 9), .mv (.c (.bool false)), none⟩])
 (.skip))))
 (.reg [xm 31 10, xB .add 32 31 1, xm 10 32]))))))
 (.seq (.reg [xm 50 9])
 (.cond (.s 50) (.seq (.reg [xm 51 8, xm 6 51, ⟨(some 7), .mv (.c (.bool true)), none⟩])
 (.ret))
 (.skip))))))
 (.reg [xm 15 8, xB .add 16 15 1, xm 8 16]))))))
 (.seq (.reg [xi 6 0, ⟨(some 7), .mv (.c (.bool false)), none⟩])
 (.ret)))
theorem fn55 : IsFn prog 55 ac55 [.tmp 6, .tmp 7] 52 := ⟨f55, ⟨[], []⟩, func55, by kernel_rfl, by kernel_rfl, by kernel_rfl, by kernel_rfl⟩
def ac56 : AC := .seq (.reg [⟨(some 2), .box 65 (.s 0), none⟩, ⟨(some 4), .mv (.c (.int .u64 0)), none⟩])
 (.seq (.reg [⟨(some 5), .mv (.c (.sl .full 1 [])), none⟩])
 (.seq (.seq (.reg [xi 6 0])
 (.block 0 (.loop (.seq (.seq (.reg [xm 7 6, xl 65 8 2, xc 69 9 [.s 8], xb .lss 10 7 9])
 (.cond (.s 10) (.skip)
 (.exit 0)))
 (.seq (.block 1 (.seq (.reg [xl 65 13 2, xm 14 6, xm 15 1, xc 74 16 [.s 13, .s 14, .s 15]])
 (.cond (.s 16) (.reg [xm 17 5, xm 18 6, ⟨(some 19), .bslice 1 [(.s 18)], none⟩, xa 1 20 17 19, xm 5 20])
 (.skip))))
 (.reg [xm 11 6, xB .add 12 11 1, xm 6 12]))))))
 (.seq (.reg [xm 21 5, xc 17 22 [.s 21], xm 4 22])
 (.ret))))
theorem fn56 : IsFn prog 56 ac56 [.tmp 4] 23 := ⟨f56, ⟨[], []⟩, func56, by kernel_rfl, by kernel_rfl, by kernel_rfl, by kernel_rfl⟩
def ac71 : AC := .seq (.reg [⟨(some 1), .box 65 (.s 0), none⟩, ⟨(some 2), .mv (.c (.bool false)), none⟩])
 (.seq (.seq (.reg [xf 0 9 1, xo 10 9, xB .lss 11 10 1, xm 12 11, xh 12 (xf 0 13 1), xh 12 (xo 14 13), xh 12 (xB .gtr 15 14 64), ⟨(some 16), .pick (.s 12) (.c (.bool true)) (.s 15), none⟩, xm 17 16, xh 17 (xl 65 18 1), xh 17 (xc 85 19 [.s 18]), ⟨(some 20), .not (.s 19), (some (17, false))⟩, ⟨(some 21), .pick (.s 17) (.c (.bool true)) (.s 20), none⟩])
 (.cond (.s 21) (.seq (.reg [⟨(some 2), .mv (.c (.bool false)), none⟩])
 (.ret))
 (.skip)))
 (.seq (.seq (.reg [xi 3 0])
 (.block 0 (.loop (.seq (.seq (.reg [xm 22 3, xf 0 23 1, xo 24 23, xb .lss 25 22 24])
 (.cond (.s 25) (.skip)
 (.exit 0)))
 (.seq (.block 1 (.seq (.reg [xi 4 0])
 (.block 2 (.loop (.seq (.seq (.reg [xm 28 4, xm 29 3, xb .lss 30 28 29])
 (.cond (.s 30) (.skip)
 (.exit 2)))
 (.seq (.block 3 (.seq (.reg [xl 65 34 1, xm 35 3, xm 36 4, xc 55 37 [.s 34, .s 35, .s 36], xm 33 37, xe 38 33 0, xe 39 33 1, xm 5 38, xm 6 39])
 (.seq (.reg [xl 65 41 1, xm 42 3, xm 43 4, xc 86 44 [.s 41, .s 42, .s 43], xm 40 44, xe 45 40 0, xe 46 40 1, xm 7 45, xm 8 46])
 (.seq (.reg [xm 47 6, ⟨(some 48), .not (.s 47), none⟩, xm 49 48, xh 49 (xm 50 8), ⟨(some 51), .not (.s 50), (some (49, false))⟩, ⟨(some 52), .pick (.s 49) (.c (.bool true)) (.s 51), none⟩])
 (.cond (.s 52) (.seq (.reg [⟨(some 2), .mv (.c (.bool false)), none⟩])
 (.ret))
 (.skip))))))
 (.reg [xm 31 4, xB .add 32 31 1, xm 4 32])))))))
 (.reg [xm 26 3, xB .add 27 26 1, xm 3 27]))))))
 (.seq (.reg [⟨(some 2), .mv (.c (.bool true)), none⟩])
 (.ret))))
theorem fn71 : IsFn prog 71 ac71 [.tmp 2] 53 := ⟨f71, ⟨[], []⟩, func71, by kernel_rfl, by kernel_rfl, by kernel_rfl, by kernel_rfl⟩
def ac86 : AC := .seq (.reg [⟨(some 3), .box 65 (.s 0), none⟩, xi 6 0, ⟨(some 7), .mv (.c (.bool false)), none⟩])
 (.seq (.seq (.reg [xi 8 0])
 (.block 0 (.loop (.seq (.seq (.reg [xm 11 8, xl 65 12 3, xc 69 13 [.s 12], xb .lss 14 11 13])
 (.cond (.s 14) (.skip)
 (.exit 0)))
 (.seq (.block 1 (.seq (.reg [xl 65 17 3, xm 18 8, xm 19 1, xc 74 20 [.s 17, .s 18, .s 19], xm 21 20, xg 21 (xl 65 22 3), xg 21 (xm 23 8), xg 21 (xm 24 2), xg 21 (xc 74 25 [.s 22, .s 23, .s 24]), ⟨(some 26), .pick (.s 21) (.s 25) (.c (.bool false)), none⟩, xm 9 26])
 (.seq (.seq (.reg [xi 10 0])
 (.block 2 (.loop (.seq (.seq (.reg [xm 27 10, xl 65 28 3, xc 69 29 [.s 28], xb .lss 30 27 29])
 (.cond (.s 30) (.skip)
 (.exit 2)))
 (.seq (.block 3 (.seq (.reg [xl 65 33 3, xm 34 10, xm 35 1, xc 74 36 [.s 33, .s 34, .s 35], xm 37 36, xg 37 (xl 65 38 3), xg 37 (xm 39 10), xg 37 (xm 40 2), xg 37 (xc 74 41 [.s 38, .s 39, .s 40]), ⟨(some 42), .pick (.s 37) (.s 41) (.c (.bool false)), none⟩, xm 43 42, xg 43 (xl 65 44 3), xg 43 (xm 45 10), xg 43 (xm 46 8), xg 43 (xc 74 47 [.s 44, .s 45, .s 46]), ⟨(some 48), .not (.s 47), (some (43, true))⟩, ⟨(some 49), .pick (.s 43) (.s 48) (.c (.bool false)), none⟩])
 (.cond (.s 49) (.reg [⟨(some 9), .mv (.c (.bool false)), none⟩])
 (.skip))))
 (.reg [xm 31 10, xB .add 32 31 1, xm 10 32]))))))
 (.seq (.reg [xm 50 9])
 (.cond (.s 50) (.seq (.reg [xm 51 8, xm 6 51, ⟨(some 7), .mv (.c (.bool true)), none⟩])
 (.ret))
 (.skip))))))
 (.reg [xm 15 8, xB .add 16 15 1, xm 8 16]))))))
 (.seq (.reg [xi 6 0, ⟨(some 7), .mv (.c (.bool false)), none⟩])
 (.ret)))
theorem fn86 : IsFn prog 86 ac86 [.tmp 6, .tmp 7] 52 := ⟨f86, ⟨[], []⟩, func86, by kernel_rfl, by kernel_rfl, by kernel_rfl, by kernel_rfl⟩
theorem rjoin_calls (r : Rl) (i j : Nat) (σ : Store) : PCalls prog 55 [.agg r.enc, .int .i64 (i : Nat), .int .i64 (j : Nat)] σ fun v σ' => v = optT (joinH r i j) ∧ σ' = σ := by
  refine fn55.calls ?_
  simp only [slots, ac55, z3_, Nat.reduceAdd, Nat.reduceEqDiff, Int.reduceEq, Int.reduceLT, Int.reduceLE, Nat.reduceLT, Int.reduceToNat, Nat.reduceMul, if_false, reduceCtorEq]
  rw [joinH_eq]
  generalize hg : (fun u => (hsR r i u && hsR r j u) && (List.range (pts r)).all fun v => !(hsR r i v && hsR r j v && !hsR r u v)) = g
  have hg : ∀ u, ((hsR r i u && hsR r j u) && (List.range (pts r)).all fun v => !(hsR r i v && hsR r j v && !hsR r u v)) = g u := fun u => by rw [← hg]
  have hp := @pts_le r
  obtain ⟨F, hF⟩ : ∃ F : Nat → Unit → St, ∀ u x, F u x = ⟨[.agg r.enc, .int .i64 (i : Nat), .int .i64 (j : Nat), .ptr (.loc 0) 0, .any, .any, .any, .any, .int .i64 (u : Nat)] ++ List.replicate 43 .any, [r.enc], σ⟩ := ⟨_, fun _ _ => rfl⟩
  obtain ⟨JF, hJF⟩ : ∃ JF : Nat → Unit → Prop, ∀ u x, JF u x = (∀ k, k < u → g k = false) := ⟨_, fun _ _ => rfl⟩
  refine vc_count (pts r) F JF _ hJF ?_ ?_ ?_
  · refine ent (()) ?_ ?_ ?_ ?_
    · exact Eq.mpr (hJF _ _) (by intro k h; omega)
    all_goals simp [hF, List.replicate, am, lle_self]
  · rintro u x hi hJ
    simp only [hF, List.replicate, z5_, dlt hi, Nat.reduceAdd, Nat.reduceEqDiff, Int.reduceEq, Int.reduceLT, Int.reduceLE, Nat.reduceLT, Int.reduceToNat, Nat.reduceMul, if_false, reduceCtorEq]
    refine (rpoints_calls r σ).mono ?_
    rintro v σ ⟨rfl, rfl⟩
    simp only [z4_, Nat.reduceAdd, Nat.reduceEqDiff, List.length_map, Int.reduceEq, Int.reduceLT, Int.reduceLE, Nat.reduceLT, Int.reduceToNat, Nat.reduceMul, if_false, reduceCtorEq, dlt hi]
    refine (rhas_calls r i u σ).mono ?_
    rintro v σ ⟨rfl, rfl⟩
    rcases Bool.eq_false_or_eq_true (hsR r i u) with hb | hb
    all_goals simp only [z4_, Nat.reduceAdd, Nat.reduceEqDiff, List.length_map, Int.reduceEq, Int.reduceLT, Int.reduceLE, Nat.reduceLT, Int.reduceToNat, Nat.reduceMul, if_false, reduceCtorEq, hb]
    case' inl =>
      refine (rhas_calls r j u σ).mono ?_
      rintro v σ ⟨rfl, rfl⟩
      simp only [z4_, Nat.reduceAdd, Nat.reduceEqDiff, List.length_map, Int.reduceEq, Int.reduceLT, Int.reduceLE, Nat.reduceLT, Int.reduceToNat, Nat.reduceMul, if_false, reduceCtorEq]
    all_goals
      obtain ⟨F2, hF2⟩ : ∃ F2 : Nat → Unit → St, ∀ v x, F2 v x = ⟨[.agg r.enc, .int .i64 (i : Nat), .int .i64 (j : Nat), .ptr (.loc 0) 0, .any, .any, .any, .any, .int .i64 (u : Nat), .bool ((hsR r i u && hsR r j u) && (List.range v).all fun v => !(hsR r i v && hsR r j v && !hsR r u v)), .int .i64 (v : Nat)] ++ List.replicate 41 .any, [r.enc], σ⟩ := ⟨_, fun _ _ => rfl⟩
      obtain ⟨JF2, hJF2⟩ : ∃ JF2 : Nat → Unit → Prop, ∀ v x, JF2 v x = (True) := ⟨_, fun _ _ => rfl⟩
      refine vc_count (pts r) F2 JF2 _ hJF2 ?_ ?_ ?_
      · refine ent (()) ?_ ?_ ?_ ?_
        · exact Eq.mpr (hJF2 _ _) (trivial)
        all_goals simp [hF2, List.replicate, am, lle_self, hb]
      · rintro v x hj -
        simp only [hF2, List.replicate, z5_, dlt hj, Nat.reduceAdd, Nat.reduceEqDiff, Int.reduceEq, Int.reduceLT, Int.reduceLE, Nat.reduceLT, Int.reduceToNat, Nat.reduceMul, if_false, reduceCtorEq]
        refine (rpoints_calls r σ).mono ?_
        rintro v σ ⟨rfl, rfl⟩
        simp only [z4_, Nat.reduceAdd, Nat.reduceEqDiff, List.length_map, Int.reduceEq, Int.reduceLT, Int.reduceLE, Nat.reduceLT, Int.reduceToNat, Nat.reduceMul, if_false, reduceCtorEq, dlt hj]
        refine (rhas_calls r i v σ).mono ?_
        rintro v σ ⟨rfl, rfl⟩
        cases h1 : hsR r i v with
        | false =>
          simp only [z4_, Nat.reduceAdd, Nat.reduceEqDiff, List.length_map, Int.reduceEq, Int.reduceLT, Int.reduceLE, Nat.reduceLT, Int.reduceToNat, Nat.reduceMul, if_false, reduceCtorEq, winc hj (by omega)]
          refine nxt (()) hj ?_ ?_ ?_ ?_
          · exact Eq.mpr (hJF2 _ _) (trivial)
          all_goals simp [hF2, List.replicate, am, lle_self, List.range_succ, h1]
        | true =>
          simp only [z4_, Nat.reduceAdd, Nat.reduceEqDiff, List.length_map, Int.reduceEq, Int.reduceLT, Int.reduceLE, Nat.reduceLT, Int.reduceToNat, Nat.reduceMul, if_false, reduceCtorEq]
          refine (rhas_calls r j v σ).mono ?_
          rintro v σ ⟨rfl, rfl⟩
          cases h2 : hsR r j v with
          | false =>
            simp only [z4_, Nat.reduceAdd, Nat.reduceEqDiff, List.length_map, Int.reduceEq, Int.reduceLT, Int.reduceLE, Nat.reduceLT, Int.reduceToNat, Nat.reduceMul, if_false, reduceCtorEq, winc hj (by omega)]
            refine nxt (()) hj ?_ ?_ ?_ ?_
            · exact Eq.mpr (hJF2 _ _) (trivial)
            all_goals simp [hF2, List.replicate, am, lle_self, List.range_succ, h2]
          | true =>
            simp only [z4_, Nat.reduceAdd, Nat.reduceEqDiff, List.length_map, Int.reduceEq, Int.reduceLT, Int.reduceLE, Nat.reduceLT, Int.reduceToNat, Nat.reduceMul, if_false, reduceCtorEq]
            refine (rhas_calls r u v σ).mono ?_
            rintro v σ ⟨rfl, rfl⟩
            cases h3 : hsR r u v with
            | false =>
              simp only [z4_, Nat.reduceAdd, Nat.reduceEqDiff, List.length_map, Int.reduceEq, Int.reduceLT, Int.reduceLE, Nat.reduceLT, Int.reduceToNat, Nat.reduceMul, if_false, reduceCtorEq, winc hj (by omega)]
              refine nxt (()) hj ?_ ?_ ?_ ?_
              · exact Eq.mpr (hJF2 _ _) (trivial)
              all_goals simp [hF2, List.replicate, am, lle_self, List.range_succ, h1, h2, h3]
            | true =>
              simp only [z4_, Nat.reduceAdd, Nat.reduceEqDiff, List.length_map, Int.reduceEq, Int.reduceLT, Int.reduceLE, Nat.reduceLT, Int.reduceToNat, Nat.reduceMul, if_false, reduceCtorEq, winc hj (by omega)]
              refine nxt (()) hj ?_ ?_ ?_ ?_
              · exact Eq.mpr (hJF2 _ _) (trivial)
              all_goals simp [hF2, List.replicate, am, lle_self, List.range_succ, h1, h2, h3]
      · rintro x -
        simp only [hF2, List.replicate, z5_, dnl, Nat.reduceAdd, Nat.reduceEqDiff, Int.reduceEq, Int.reduceLT, Int.reduceLE, Nat.reduceLT, Int.reduceToNat, Nat.reduceMul, if_false, reduceCtorEq]
        refine (rpoints_calls r σ).mono ?_
        rintro v σ ⟨rfl, rfl⟩
        simp only [z4_, Nat.reduceAdd, Nat.reduceEqDiff, List.length_map, Int.reduceEq, Int.reduceLT, Int.reduceLE, Nat.reduceLT, Int.reduceToNat, Nat.reduceMul, if_false, reduceCtorEq, dnl, hg]
        cases h : g u with
        | true =>
          have e : (List.range (pts r)).find? g = some u := find_at hi hJ h
          simp only [z4_, Nat.reduceAdd, Nat.reduceEqDiff, List.length_map, Int.reduceEq, Int.reduceLT, Int.reduceLE, Nat.reduceLT, Int.reduceToNat, Nat.reduceMul, if_false, reduceCtorEq]
          refine retK_intro rfl (Store.sub_refl _) ⟨?_, rfl⟩
          simp [V.erase, eraseL, optT, e]
        | false =>
          simp only [z4_, Nat.reduceAdd, Nat.reduceEqDiff, List.length_map, Int.reduceEq, Int.reduceLT, Int.reduceLE, Nat.reduceLT, Int.reduceToNat, Nat.reduceMul, if_false, reduceCtorEq, winc hi (by omega)]
          refine nxt (()) hi ?_ ?_ ?_ ?_
          · exact Eq.mpr (hJF _ _) (allS hJ h)
          all_goals simp [hF, List.replicate, am, lle_self]
  · rintro x hJ
    have e : (List.range (pts r)).find? g = none := find_no hJ
    simp only [hF, List.replicate, z5_, dnl, Nat.reduceAdd, Nat.reduceEqDiff, Int.reduceEq, Int.reduceLT, Int.reduceLE, Nat.reduceLT, Int.reduceToNat, Nat.reduceMul, if_false, reduceCtorEq]
    refine (rpoints_calls r σ).mono ?_
    rintro v σ ⟨rfl, rfl⟩
    simp only [z4_, Nat.reduceAdd, Nat.reduceEqDiff, List.length_map, Int.reduceEq, Int.reduceLT, Int.reduceLE, Nat.reduceLT, Int.reduceToNat, Nat.reduceMul, if_false, reduceCtorEq, dnl]
    refine retK_intro rfl (Store.sub_refl _) ⟨?_, rfl⟩
    simp [V.erase, eraseL, optT, e]
theorem rmeet_calls (r : Rl) (i j : Nat) (σ : Store) : PCalls prog 86 [.agg r.enc, .int .i64 (i : Nat), .int .i64 (j : Nat)] σ fun v σ' => v = optT (meetH r i j) ∧ σ' = σ := by
  refine fn86.calls ?_
  simp only [slots, ac86, z3_, Nat.reduceAdd, Nat.reduceEqDiff, Int.reduceEq, Int.reduceLT, Int.reduceLE, Nat.reduceLT, Int.reduceToNat, Nat.reduceMul, if_false, reduceCtorEq]
  rw [meetH_eq]
  generalize hg : (fun u => (hsR r u i && hsR r u j) && (List.range (pts r)).all fun v => !(hsR r v i && hsR r v j && !hsR r v u)) = g
  have hg : ∀ u, ((hsR r u i && hsR r u j) && (List.range (pts r)).all fun v => !(hsR r v i && hsR r v j && !hsR r v u)) = g u := fun u => by rw [← hg]
  have hp := @pts_le r
  obtain ⟨F, hF⟩ : ∃ F : Nat → Unit → St, ∀ u x, F u x = ⟨[.agg r.enc, .int .i64 (i : Nat), .int .i64 (j : Nat), .ptr (.loc 0) 0, .any, .any, .any, .any, .int .i64 (u : Nat)] ++ List.replicate 43 .any, [r.enc], σ⟩ := ⟨_, fun _ _ => rfl⟩
  obtain ⟨JF, hJF⟩ : ∃ JF : Nat → Unit → Prop, ∀ u x, JF u x = (∀ k, k < u → g k = false) := ⟨_, fun _ _ => rfl⟩
  refine vc_count (pts r) F JF _ hJF ?_ ?_ ?_
  · refine ent (()) ?_ ?_ ?_ ?_
    · exact Eq.mpr (hJF _ _) (by intro k h; omega)
    all_goals simp [hF, List.replicate, am, lle_self]
  · rintro u x hi hJ
    simp only [hF, List.replicate, z5_, dlt hi, Nat.reduceAdd, Nat.reduceEqDiff, Int.reduceEq, Int.reduceLT, Int.reduceLE, Nat.reduceLT, Int.reduceToNat, Nat.reduceMul, if_false, reduceCtorEq]
    refine (rpoints_calls r σ).mono ?_
    rintro v σ ⟨rfl, rfl⟩
    simp only [z4_, Nat.reduceAdd, Nat.reduceEqDiff, List.length_map, Int.reduceEq, Int.reduceLT, Int.reduceLE, Nat.reduceLT, Int.reduceToNat, Nat.reduceMul, if_false, reduceCtorEq, dlt hi]
    refine (rhas_calls r u i σ).mono ?_
    rintro v σ ⟨rfl, rfl⟩
    rcases Bool.eq_false_or_eq_true (hsR r u i) with hb | hb
    all_goals simp only [z4_, Nat.reduceAdd, Nat.reduceEqDiff, List.length_map, Int.reduceEq, Int.reduceLT, Int.reduceLE, Nat.reduceLT, Int.reduceToNat, Nat.reduceMul, if_false, reduceCtorEq, hb]
    case' inl =>
      refine (rhas_calls r u j σ).mono ?_
      rintro v σ ⟨rfl, rfl⟩
      simp only [z4_, Nat.reduceAdd, Nat.reduceEqDiff, List.length_map, Int.reduceEq, Int.reduceLT, Int.reduceLE, Nat.reduceLT, Int.reduceToNat, Nat.reduceMul, if_false, reduceCtorEq]
    all_goals
      obtain ⟨F2, hF2⟩ : ∃ F2 : Nat → Unit → St, ∀ v x, F2 v x = ⟨[.agg r.enc, .int .i64 (i : Nat), .int .i64 (j : Nat), .ptr (.loc 0) 0, .any, .any, .any, .any, .int .i64 (u : Nat), .bool ((hsR r u i && hsR r u j) && (List.range v).all fun v => !(hsR r v i && hsR r v j && !hsR r v u)), .int .i64 (v : Nat)] ++ List.replicate 41 .any, [r.enc], σ⟩ := ⟨_, fun _ _ => rfl⟩
      obtain ⟨JF2, hJF2⟩ : ∃ JF2 : Nat → Unit → Prop, ∀ v x, JF2 v x = (True) := ⟨_, fun _ _ => rfl⟩
      refine vc_count (pts r) F2 JF2 _ hJF2 ?_ ?_ ?_
      · refine ent (()) ?_ ?_ ?_ ?_
        · exact Eq.mpr (hJF2 _ _) (trivial)
        all_goals simp [hF2, List.replicate, am, lle_self, hb]
      · rintro v x hj -
        simp only [hF2, List.replicate, z5_, dlt hj, Nat.reduceAdd, Nat.reduceEqDiff, Int.reduceEq, Int.reduceLT, Int.reduceLE, Nat.reduceLT, Int.reduceToNat, Nat.reduceMul, if_false, reduceCtorEq]
        refine (rpoints_calls r σ).mono ?_
        rintro v σ ⟨rfl, rfl⟩
        simp only [z4_, Nat.reduceAdd, Nat.reduceEqDiff, List.length_map, Int.reduceEq, Int.reduceLT, Int.reduceLE, Nat.reduceLT, Int.reduceToNat, Nat.reduceMul, if_false, reduceCtorEq, dlt hj]
        refine (rhas_calls r v i σ).mono ?_
        rintro v σ ⟨rfl, rfl⟩
        cases h1 : hsR r v i with
        | false =>
          simp only [z4_, Nat.reduceAdd, Nat.reduceEqDiff, List.length_map, Int.reduceEq, Int.reduceLT, Int.reduceLE, Nat.reduceLT, Int.reduceToNat, Nat.reduceMul, if_false, reduceCtorEq, winc hj (by omega)]
          refine nxt (()) hj ?_ ?_ ?_ ?_
          · exact Eq.mpr (hJF2 _ _) (trivial)
          all_goals simp [hF2, List.replicate, am, lle_self, List.range_succ, h1]
        | true =>
          simp only [z4_, Nat.reduceAdd, Nat.reduceEqDiff, List.length_map, Int.reduceEq, Int.reduceLT, Int.reduceLE, Nat.reduceLT, Int.reduceToNat, Nat.reduceMul, if_false, reduceCtorEq]
          refine (rhas_calls r v j σ).mono ?_
          rintro v σ ⟨rfl, rfl⟩
          cases h2 : hsR r v j with
          | false =>
            simp only [z4_, Nat.reduceAdd, Nat.reduceEqDiff, List.length_map, Int.reduceEq, Int.reduceLT, Int.reduceLE, Nat.reduceLT, Int.reduceToNat, Nat.reduceMul, if_false, reduceCtorEq, winc hj (by omega)]
            refine nxt (()) hj ?_ ?_ ?_ ?_
            · exact Eq.mpr (hJF2 _ _) (trivial)
            all_goals simp [hF2, List.replicate, am, lle_self, List.range_succ, h2]
          | true =>
            simp only [z4_, Nat.reduceAdd, Nat.reduceEqDiff, List.length_map, Int.reduceEq, Int.reduceLT, Int.reduceLE, Nat.reduceLT, Int.reduceToNat, Nat.reduceMul, if_false, reduceCtorEq]
            refine (rhas_calls r v u σ).mono ?_
            rintro v σ ⟨rfl, rfl⟩
            cases h3 : hsR r v u with
            | false =>
              simp only [z4_, Nat.reduceAdd, Nat.reduceEqDiff, List.length_map, Int.reduceEq, Int.reduceLT, Int.reduceLE, Nat.reduceLT, Int.reduceToNat, Nat.reduceMul, if_false, reduceCtorEq, winc hj (by omega)]
              refine nxt (()) hj ?_ ?_ ?_ ?_
              · exact Eq.mpr (hJF2 _ _) (trivial)
              all_goals simp [hF2, List.replicate, am, lle_self, List.range_succ, h1, h2, h3]
            | true =>
              simp only [z4_, Nat.reduceAdd, Nat.reduceEqDiff, List.length_map, Int.reduceEq, Int.reduceLT, Int.reduceLE, Nat.reduceLT, Int.reduceToNat, Nat.reduceMul, if_false, reduceCtorEq, winc hj (by omega)]
              refine nxt (()) hj ?_ ?_ ?_ ?_
              · exact Eq.mpr (hJF2 _ _) (trivial)
              all_goals simp [hF2, List.replicate, am, lle_self, List.range_succ, h1, h2, h3]
      · rintro x -
        simp only [hF2, List.replicate, z5_, dnl, Nat.reduceAdd, Nat.reduceEqDiff, Int.reduceEq, Int.reduceLT, Int.reduceLE, Nat.reduceLT, Int.reduceToNat, Nat.reduceMul, if_false, reduceCtorEq]
        refine (rpoints_calls r σ).mono ?_
        rintro v σ ⟨rfl, rfl⟩
        simp only [z4_, Nat.reduceAdd, Nat.reduceEqDiff, List.length_map, Int.reduceEq, Int.reduceLT, Int.reduceLE, Nat.reduceLT, Int.reduceToNat, Nat.reduceMul, if_false, reduceCtorEq, dnl, hg]
        cases h : g u with
        | true =>
          have e : (List.range (pts r)).find? g = some u := find_at hi hJ h
          simp only [z4_, Nat.reduceAdd, Nat.reduceEqDiff, List.length_map, Int.reduceEq, Int.reduceLT, Int.reduceLE, Nat.reduceLT, Int.reduceToNat, Nat.reduceMul, if_false, reduceCtorEq]
          refine retK_intro rfl (Store.sub_refl _) ⟨?_, rfl⟩
          simp [V.erase, eraseL, optT, e]
        | false =>
          simp only [z4_, Nat.reduceAdd, Nat.reduceEqDiff, List.length_map, Int.reduceEq, Int.reduceLT, Int.reduceLE, Nat.reduceLT, Int.reduceToNat, Nat.reduceMul, if_false, reduceCtorEq, winc hi (by omega)]
          refine nxt (()) hi ?_ ?_ ?_ ?_
          · exact Eq.mpr (hJF _ _) (allS hJ h)
          all_goals simp [hF, List.replicate, am, lle_self]
  · rintro x hJ
    have e : (List.range (pts r)).find? g = none := find_no hJ
    simp only [hF, List.replicate, z5_, dnl, Nat.reduceAdd, Nat.reduceEqDiff, Int.reduceEq, Int.reduceLT, Int.reduceLE, Nat.reduceLT, Int.reduceToNat, Nat.reduceMul, if_false, reduceCtorEq]
    refine (rpoints_calls r σ).mono ?_
    rintro v σ ⟨rfl, rfl⟩
    simp only [z4_, Nat.reduceAdd, Nat.reduceEqDiff, List.length_map, Int.reduceEq, Int.reduceLT, Int.reduceLE, Nat.reduceLT, Int.reduceToNat, Nat.reduceMul, if_false, reduceCtorEq, dnl]
    refine retK_intro rfl (Store.sub_refl _) ⟨?_, rfl⟩
    simp [V.erase, eraseL, optT, e]
theorem wordH_of {r : Rl} {i : Nat} : ofB (((List.range (pts r)).filter fun k => hsR r k i).map Int.ofNat) = belowH r i := by
  apply eqB; intro j hj
  rw [Bool.eq_iff_iff, ofB_mem hj, belowH_get]
  simp only [List.mem_filter, List.mem_range]
  exact ⟨fun h => h.2, fun h => ⟨(hsR_lt h).1, h⟩⟩
theorem rword6_calls (r : Rl) (i : Nat) (σ : Store) : PCalls prog 56 [.agg r.enc, .int .i64 (i : Nat)] σ fun v σ' => v = .int .u64 ((belowH r i).toNat : Nat) ∧ σ' = σ := by
  refine fn56.calls ?_
  simp only [slots, ac56, z3_, Nat.reduceAdd, Nat.reduceEqDiff, Int.reduceEq, Int.reduceLT, Int.reduceLE, Nat.reduceLT, Int.reduceToNat, Nat.reduceMul, if_false, reduceCtorEq]
  have hp := @pts_le r
  obtain ⟨F, hF⟩ : ∃ F : Nat → Tk × Store → St, ∀ k x, F k x = ⟨[.agg r.enc, .int .i64 (i : Nat), .ptr (.loc 0) 0, .any, .any, .sl x.1 1 (iCells (((List.range k).filter fun k => hsR r k i).map Int.ofNat)), .int .i64 (k : Nat)] ++ List.replicate 16 .any, [r.enc], x.2⟩ := ⟨_, fun _ _ => rfl⟩
  obtain ⟨JF, hJF⟩ : ∃ JF : Nat → Tk × Store → Prop, ∀ k x, JF k x = (Gr σ x.2 x.1 ((List.range k).filter fun k => hsR r k i).length) := ⟨_, fun _ _ => rfl⟩
  refine vc_count (pts r) F JF _ hJF ?_ ?_ ?_
  · refine ent ((.full, σ)) ?_ ?_ ?_ ?_
    · exact Eq.mpr (hJF _ _) (Gr.nil)
    all_goals simp [hF, List.replicate, am, lle_self, iCells]
  · rintro k ⟨tk, σ1⟩ hi hG
    simp only at hG
    have hlen : ((List.range k).filter fun k => hsR r k i).length ≤ 64 := by have := List.length_filter_le (fun k => hsR r k i) (List.range k); simp at this; omega
    simp only [hF, List.replicate, z5_, dlt hi, Nat.reduceAdd, Nat.reduceEqDiff, Int.reduceEq, Int.reduceLT, Int.reduceLE, Nat.reduceLT, Int.reduceToNat, Nat.reduceMul, if_false, reduceCtorEq]
    refine (rpoints_calls r σ1).mono ?_
    rintro v σ1 ⟨rfl, rfl⟩
    simp only [z4_, Nat.reduceAdd, Nat.reduceEqDiff, List.length_map, Int.reduceEq, Int.reduceLT, Int.reduceLE, Nat.reduceLT, Int.reduceToNat, Nat.reduceMul, if_false, reduceCtorEq, dlt hi]
    refine (rhas_calls r k i σ1).mono ?_
    rintro v σ1 ⟨rfl, rfl⟩
    cases hb : hsR r k i with
    | false =>
      simp only [z4_, Nat.reduceAdd, Nat.reduceEqDiff, List.length_map, Int.reduceEq, Int.reduceLT, Int.reduceLE, Nat.reduceLT, Int.reduceToNat, Nat.reduceMul, if_false, reduceCtorEq, winc hi (by omega)]
      refine nxt ((tk, σ1)) hi ?_ ?_ ?_ ?_
      · exact Eq.mpr (hJF _ _) (by simpa [List.range_succ, hb] using hG)
      all_goals simp [hF, List.replicate, am, lle_self, List.range_succ, hb]
    | true =>
      simp only [z4_, Nat.reduceAdd, Nat.reduceEqDiff, List.length_map, Int.reduceEq, Int.reduceLT, Int.reduceLE, Nat.reduceLT, Int.reduceToNat, Nat.reduceMul, if_false, reduceCtorEq]
      refine Gr.app (by simpa [iCells] using hG) (by simp [iCells, big]; omega) fun tk' σ' hG' _ _ => ?_
      simp only [z4_, Nat.reduceAdd, Nat.reduceEqDiff, List.length_map, Int.reduceEq, Int.reduceLT, Int.reduceLE, Nat.reduceLT, Int.reduceToNat, Nat.reduceMul, if_false, reduceCtorEq, winc hi (by omega)]
      refine nxt ((tk', σ')) hi ?_ ?_ ?_ ?_
      · exact Eq.mpr (hJF _ _) (by simpa [iCells, List.range_succ, hb] using hG')
      all_goals simp [hF, List.replicate, am, lle_self, List.range_succ, hb, iCells_snoc]
  · rintro ⟨tk, σ1⟩ hG
    simp only at hG
    have hlen : ((List.range (pts r)).filter fun k => hsR r k i).length ≤ 64 := by have := List.length_filter_le (fun k => hsR r k i) (List.range (pts r)); simp at this; omega
    simp only [hF, List.replicate, z5_, dnl, Nat.reduceAdd, Nat.reduceEqDiff, Int.reduceEq, Int.reduceLT, Int.reduceLE, Nat.reduceLT, Int.reduceToNat, Nat.reduceMul, if_false, reduceCtorEq]
    refine (rpoints_calls r σ1).mono ?_
    rintro v σ1 ⟨rfl, rfl⟩
    simp only [z4_, Nat.reduceAdd, Nat.reduceEqDiff, List.length_map, Int.reduceEq, Int.reduceLT, Int.reduceLE, Nat.reduceLT, Int.reduceToNat, Nat.reduceMul, if_false, reduceCtorEq, dnl]
    refine PCalls.weak (as' := [.sl .no 1 (iCells (((List.range (pts r)).filter fun k => hsR r k i).map Int.ofNat))]) ?_ ⟨VLe.no, trivial⟩ OLe.rfl
    refine (ref01_of_calls _ σ1 (by rw [List.length_map]; omega)).mono ?_
    rintro v σ1 ⟨rfl, rfl⟩
    simp only [z4_, Nat.reduceAdd, Nat.reduceEqDiff, List.length_map, Int.reduceEq, Int.reduceLT, Int.reduceLE, Nat.reduceLT, Int.reduceToNat, Nat.reduceMul, if_false, reduceCtorEq, wordH_of]
    exact retK_intro rfl hG.sub ⟨rfl, rfl⟩
theorem rlattice_calls (r : Rl) (σ : Store) : PCalls prog 71 [.agg r.enc] σ fun v σ' => v = .bool (latH r) ∧ σ' = σ := by
  refine fn71.calls ?_
  simp only [slots, ac71, z3_, Nat.reduceAdd, Nat.reduceEqDiff, Int.reduceEq, Int.reduceLT, Int.reduceLE, Nat.reduceLT, Int.reduceToNat, Nat.reduceMul, if_false, reduceCtorEq]
  by_cases h1 : r.n < 1
  · simp only [z4_, Nat.reduceAdd, Nat.reduceEqDiff, List.length_map, Int.reduceEq, Int.reduceLT, Int.reduceLE, Nat.reduceLT, Int.reduceToNat, Nat.reduceMul, if_false, reduceCtorEq, decide_eq_true h1]
    refine retK_intro rfl (Store.sub_refl _) ⟨?_, rfl⟩
    simp [V.erase, eraseL, latH]
    omega
  · simp only [z4_, Nat.reduceAdd, Nat.reduceEqDiff, List.length_map, Int.reduceEq, Int.reduceLT, Int.reduceLE, Nat.reduceLT, Int.reduceToNat, Nat.reduceMul, if_false, reduceCtorEq, decide_eq_false h1]
    by_cases h2 : 64 < r.n
    · simp only [z4_, Nat.reduceAdd, Nat.reduceEqDiff, List.length_map, Int.reduceEq, Int.reduceLT, Int.reduceLE, Nat.reduceLT, Int.reduceToNat, Nat.reduceMul, if_false, reduceCtorEq, decide_eq_true h2]
      refine retK_intro rfl (Store.sub_refl _) ⟨?_, rfl⟩
      simp [V.erase, eraseL, latH]
      omega
    · simp only [z4_, Nat.reduceAdd, Nat.reduceEqDiff, List.length_map, Int.reduceEq, Int.reduceLT, Int.reduceLE, Nat.reduceLT, Int.reduceToNat, Nat.reduceMul, if_false, reduceCtorEq, decide_eq_false h2]
      refine (rorder_calls r σ).mono ?_
      rintro v σ ⟨rfl, rfl⟩
      obtain ⟨n, hn⟩ : ∃ n : Nat, r.n = n := ⟨r.n.toNat, by omega⟩
      have hp : pts r = n := by rw [pts, hn]; omega
      cases ho : orderR r with
      | false =>
        simp only [z4_, Nat.reduceAdd, Nat.reduceEqDiff, List.length_map, Int.reduceEq, Int.reduceLT, Int.reduceLE, Nat.reduceLT, Int.reduceToNat, Nat.reduceMul, if_false, reduceCtorEq]
        refine retK_intro rfl (Store.sub_refl _) ⟨?_, rfl⟩
        simp [V.erase, eraseL, latH, ho]
      | true =>
        simp only [z4_, Nat.reduceAdd, Nat.reduceEqDiff, List.length_map, Int.reduceEq, Int.reduceLT, Int.reduceLE, Nat.reduceLT, Int.reduceToNat, Nat.reduceMul, if_false, reduceCtorEq]
        have good : (∀ i, i < n → ∀ j, j < i → ((joinH r i j).isSome && (meetH r i j).isSome) = true) → latH r = true := fun h => by
          simp only [latH, ho, hn, Int.toNat_natCast, List.all_eq_true, List.mem_range, Bool.and_eq_true, decide_eq_true_eq, Bool.and_true]
          exact ⟨by omega, fun i hi j hj => by have := h i hi j hj; simpa using this⟩
        have bad : ∀ i j, i < n → j < i → ((joinH r i j).isSome && (meetH r i j).isSome) = false → latH r = false := fun i j hi hj h => by
          cases hq : latH r with
          | false => rfl
          | true =>
            simp only [latH, hn, Int.toNat_natCast, List.all_eq_true, List.mem_range, Bool.and_eq_true] at hq
            have := hq.2 i hi j hj
            rw [this.1, this.2] at h; simp at h
        obtain ⟨F, hF⟩ : ∃ F : Nat → Unit → St, ∀ i x, F i x = ⟨[.any, .ptr (.loc 0) 0, .any, .int .i64 (i : Nat)] ++ List.replicate 49 .any, [r.enc], σ⟩ := ⟨_, fun _ _ => rfl⟩
        obtain ⟨JF, hJF⟩ : ∃ JF : Nat → Unit → Prop, ∀ i x, JF i x = (∀ a, a < i → ∀ b, b < a → ((joinH r a b).isSome && (meetH r a b).isSome) = true) := ⟨_, fun _ _ => rfl⟩
        refine vc_count (n) F JF _ hJF ?_ ?_ ?_
        · refine ent (()) ?_ ?_ ?_ ?_
          · exact Eq.mpr (hJF _ _) (by intro k h; omega)
          all_goals simp [hF, List.replicate, am, lle_self]
        · rintro i x hi hJ
          simp only [hF, List.replicate, z5_, dlt hi, Nat.reduceAdd, Nat.reduceEqDiff, Int.reduceEq, Int.reduceLT, Int.reduceLE, Nat.reduceLT, Int.reduceToNat, Nat.reduceMul, if_false, reduceCtorEq, hn]
          obtain ⟨F2, hF2⟩ : ∃ F2 : Nat → Unit → St, ∀ j x, F2 j x = ⟨[.any, .ptr (.loc 0) 0, .any, .int .i64 (i : Nat), .int .i64 (j : Nat)] ++ List.replicate 48 .any, [r.enc], σ⟩ := ⟨_, fun _ _ => rfl⟩
          obtain ⟨JF2, hJF2⟩ : ∃ JF2 : Nat → Unit → Prop, ∀ j x, JF2 j x = (∀ b, b < j → ((joinH r i b).isSome && (meetH r i b).isSome) = true) := ⟨_, fun _ _ => rfl⟩
          refine vc_count (i) F2 JF2 _ hJF2 ?_ ?_ ?_
          · refine ent (()) ?_ ?_ ?_ ?_
            · exact Eq.mpr (hJF2 _ _) (by intro k h; omega)
            all_goals simp [hF2, List.replicate, am, lle_self]
          · rintro j x hj hJ2
            simp only [hF2, List.replicate, z5_, dlt hj, Nat.reduceAdd, Nat.reduceEqDiff, Int.reduceEq, Int.reduceLT, Int.reduceLE, Nat.reduceLT, Int.reduceToNat, Nat.reduceMul, if_false, reduceCtorEq]
            refine (rjoin_calls r i j σ).mono ?_
            rintro v σ ⟨rfl, rfl⟩
            simp only [z4_, Nat.reduceAdd, Nat.reduceEqDiff, List.length_map, Int.reduceEq, Int.reduceLT, Int.reduceLE, Nat.reduceLT, Int.reduceToNat, Nat.reduceMul, if_false, reduceCtorEq, optT]
            refine (rmeet_calls r i j σ).mono ?_
            rintro v σ ⟨rfl, rfl⟩
            simp only [z4_, Nat.reduceAdd, Nat.reduceEqDiff, List.length_map, Int.reduceEq, Int.reduceLT, Int.reduceLE, Nat.reduceLT, Int.reduceToNat, Nat.reduceMul, if_false, reduceCtorEq, optT]
            cases ha : (joinH r i j).isSome with
            | false =>
              simp only [z4_, Nat.reduceAdd, Nat.reduceEqDiff, List.length_map, Int.reduceEq, Int.reduceLT, Int.reduceLE, Nat.reduceLT, Int.reduceToNat, Nat.reduceMul, if_false, reduceCtorEq]
              refine retK_intro rfl (Store.sub_refl _) ⟨?_, rfl⟩
              simp [V.erase, eraseL, bad i j hi hj (by rw [ha]; rfl)]
            | true =>
              simp only [z4_, Nat.reduceAdd, Nat.reduceEqDiff, List.length_map, Int.reduceEq, Int.reduceLT, Int.reduceLE, Nat.reduceLT, Int.reduceToNat, Nat.reduceMul, if_false, reduceCtorEq]
              cases hb : (meetH r i j).isSome with
              | false =>
                simp only [z4_, Nat.reduceAdd, Nat.reduceEqDiff, List.length_map, Int.reduceEq, Int.reduceLT, Int.reduceLE, Nat.reduceLT, Int.reduceToNat, Nat.reduceMul, if_false, reduceCtorEq]
                refine retK_intro rfl (Store.sub_refl _) ⟨?_, rfl⟩
                simp [V.erase, eraseL, bad i j hi hj (by rw [ha, hb]; rfl)]
              | true =>
                simp only [z4_, Nat.reduceAdd, Nat.reduceEqDiff, List.length_map, Int.reduceEq, Int.reduceLT, Int.reduceLE, Nat.reduceLT, Int.reduceToNat, Nat.reduceMul, if_false, reduceCtorEq, winc hj (by omega)]
                refine nxt (()) hj ?_ ?_ ?_ ?_
                · exact Eq.mpr (hJF2 _ _) (allS hJ2 (by rw [ha, hb]; rfl))
                all_goals simp [hF2, List.replicate, am, lle_self]
          · rintro x hJ2
            simp only [hF2, List.replicate, z5_, dnl, Nat.reduceAdd, Nat.reduceEqDiff, Int.reduceEq, Int.reduceLT, Int.reduceLE, Nat.reduceLT, Int.reduceToNat, Nat.reduceMul, if_false, reduceCtorEq, winc hi (by omega)]
            refine nxt (()) hi ?_ ?_ ?_ ?_
            · exact Eq.mpr (hJF _ _) (allS hJ hJ2)
            all_goals simp [hF, List.replicate, am, lle_self]
        · rintro x hJ
          simp only [hF, List.replicate, z5_, dnl, Nat.reduceAdd, Nat.reduceEqDiff, Int.reduceEq, Int.reduceLT, Int.reduceLE, Nat.reduceLT, Int.reduceToNat, Nat.reduceMul, if_false, reduceCtorEq, hn]
          refine retK_intro rfl (Store.sub_refl _) ⟨?_, rfl⟩
          simp [V.erase, eraseL, good hJ]
end Go.Proofs.Tryz

namespace Go.Proofs.Tryz
open Go.Am
set_option maxRecDepth 4000
set_option maxHeartbeats 4000000
def ac30 : AC := .seq (.reg [⟨(some 2), .mv (.c (.bool false)), none⟩])
 (.seq (.seq (.reg [xm 4 0, xT 5 4, xB .lss 6 5 1, xm 7 6, xh 7 (xm 8 0), xh 7 (xT 9 8), xh 7 (xB .gtr 10 9 16), ⟨(some 11), .pick (.s 7) (.c (.bool true)) (.s 10), none⟩, xm 12 11, xh 12 (xm 13 0), ⟨(some 14), .idxS (.s 13) (.c (.int .i64 0)), (some (12, false))⟩, xh 12 (xc 47 15 [.s 14]), ⟨(some 16), .not (.s 15), (some (12, false))⟩, ⟨(some 17), .pick (.s 12) (.c (.bool true)) (.s 16), none⟩])
 (.cond (.s 17) (.seq (.reg [⟨(some 2), .mv (.c (.bool false)), none⟩])
 (.ret))
 (.skip)))
 (.seq (.seq (.reg [xi 3 1])
 (.block 0 (.loop (.seq (.seq (.reg [xm 18 3, xm 19 0, xT 20 19, xb .lss 21 18 20])
 (.cond (.s 21) (.skip)
 (.exit 0)))
 (.seq (.block 1 (.seq (.reg [xm 24 0, xm 25 3, xS 26 24 25, xc 47 27 [.s 26], ⟨(some 28), .not (.s 27), none⟩, xm 29 28, xg 29 (xm 30 0), xg 29 (xm 31 3), xg 29 (xS 32 30 31), xg 29 (xu .lss 33 32 48), xg 29 (xm 34 33), xh 34 (xm 35 0), xh 34 (xm 36 3), xh 34 (xS 37 35 36), xh 34 (xu .gtr 38 37 57), ⟨(some 39), .pick (.s 34) (.c (.bool true)) (.s 38), (some (29, true))⟩, ⟨(some 40), .pick (.s 29) (.s 39) (.c (.bool false)), none⟩, xm 41 40, xg 41 (xm 42 0), xg 41 (xm 43 3), xg 41 (xS 44 42 43), xg 41 (xu .neq 45 44 95), ⟨(some 46), .pick (.s 41) (.s 45) (.c (.bool false)), none⟩])
 (.cond (.s 46) (.seq (.reg [⟨(some 2), .mv (.c (.bool false)), none⟩])
 (.ret))
 (.skip))))
 (.reg [xm 22 3, xB .add 23 22 1, xm 3 23]))))))
 (.seq (.reg [⟨(some 2), .mv (.c (.bool true)), none⟩])
 (.ret))))
theorem fn30 : IsFn prog 30 ac30 [.tmp 2] 47 := ⟨f30, ⟨[], []⟩, func30, by kernel_rfl, by kernel_rfl, by kernel_rfl, by kernel_rfl⟩
def ac47 : AC := .seq (.reg [⟨(some 2), .mv (.c (.bool false)), none⟩])
 (.seq (.reg [xm 3 0, xu .geq 4 3 97, xm 5 4, xg 5 (xm 6 0), xg 5 (xu .leq 7 6 122), ⟨(some 8), .pick (.s 5) (.s 7) (.c (.bool false)), none⟩, xm 2 8])
 (.ret))
theorem fn47 : IsFn prog 47 ac47 [.tmp 2] 9 := ⟨f47, ⟨[], []⟩, func47, by kernel_rfl, by kernel_rfl, by kernel_rfl, by kernel_rfl⟩
def ac58 : AC := .seq (.reg [⟨(some 2), .mv (.c (.bool false)), none⟩])
 (.seq (.seq (.reg [xm 4 0, ⟨(some 5), .binS .eql (.s 4) (.c (.str [])), none⟩, xm 6 5, xh 6 (xm 7 0), xh 6 (xT 8 7), xh 6 (xB .gtr 9 8 16), ⟨(some 10), .pick (.s 6) (.c (.bool true)) (.s 9), none⟩, xm 11 10, xh 11 (xm 12 0), ⟨(some 13), .idxS (.s 12) (.c (.int .i64 0)), (some (11, false))⟩, xh 11 (xc 75 14 [.s 13]), ⟨(some 15), .not (.s 14), (some (11, false))⟩, ⟨(some 16), .pick (.s 11) (.c (.bool true)) (.s 15), none⟩])
 (.cond (.s 16) (.seq (.reg [⟨(some 2), .mv (.c (.bool false)), none⟩])
 (.ret))
 (.skip)))
 (.seq (.seq (.reg [xm 17 0, xT 18 17, xi 19 0])
 (.block 0 (.loop (.seq (.reg [xb .lss 20 19 18])
 (.seq (.cond (.s 20) (.skip)
 (.exit 0))
 (.seq (.block 1 (.seq (.reg [xm 21 19, xm 3 21])
 (.seq (.reg [xm 22 0, xm 23 3, xS 24 22 23, xc 76 25 [.s 24], ⟨(some 26), .not (.s 25), none⟩])
 (.cond (.s 26) (.seq (.reg [⟨(some 2), .mv (.c (.bool false)), none⟩])
 (.ret))
 (.skip)))))
 (.reg [xB .add 27 19 1, xm 19 27])))))))
 (.seq (.reg [⟨(some 2), .mv (.c (.bool true)), none⟩])
 (.ret))))
theorem fn58 : IsFn prog 58 ac58 [.tmp 2] 28 := ⟨f58, ⟨[], []⟩, func58, by kernel_rfl, by kernel_rfl, by kernel_rfl, by kernel_rfl⟩
def ac75 : AC := .seq (.reg [⟨(some 2), .mv (.c (.bool false)), none⟩])
 (.seq (.reg [xm 3 0, xu .geq 4 3 97, xm 5 4, xg 5 (xm 6 0), xg 5 (xu .leq 7 6 122), ⟨(some 8), .pick (.s 5) (.s 7) (.c (.bool false)), none⟩, xm 2 8])
 (.ret))
theorem fn75 : IsFn prog 75 ac75 [.tmp 2] 9 := ⟨f75, ⟨[], []⟩, func75, by kernel_rfl, by kernel_rfl, by kernel_rfl, by kernel_rfl⟩
def ac76 : AC := .seq (.reg [⟨(some 2), .mv (.c (.bool false)), none⟩])
 (.seq (.reg [xm 3 0, xc 75 4 [.s 3], xm 5 4, xh 5 (xm 6 0), xh 5 (xu .geq 7 6 48), xh 5 (xm 8 7), xg 8 (xm 9 0), xg 8 (xu .leq 10 9 57), ⟨(some 11), .pick (.s 8) (.s 10) (.c (.bool false)), (some (5, false))⟩, ⟨(some 12), .pick (.s 5) (.c (.bool true)) (.s 11), none⟩, xm 13 12, xh 13 (xm 14 0), xh 13 (xu .eql 15 14 95), ⟨(some 16), .pick (.s 13) (.c (.bool true)) (.s 15), none⟩, xm 2 16])
 (.ret))
theorem fn76 : IsFn prog 76 ac76 [.tmp 2] 17 := ⟨f76, ⟨[], []⟩, func76, by kernel_rfl, by kernel_rfl, by kernel_rfl, by kernel_rfl⟩
def z7_ := And.intro @am <| And.intro @amo <| And.intro @amc <| And.intro @ams <| And.intro @decide_true <| And.intro @decide_false <| And.intro @Tree.rec_ <| And.intro @Nd.rec_ <| And.intro @Word.rec_ @Got.rec_
def z8_ := And.intro @am <| And.intro @amo <| And.intro @amc <| And.intro @encs_length <| And.intro @decide_true <| And.intro @decide_false <| And.intro @Tree.rec_ <| And.intro @Nd.rec_ <| And.intro @Word.rec_ @Got.rec_
theorem letter_calls (c : Int) (σ : Store) : PCalls prog 75 [.int .u8 c] σ fun v σ' => v = .bool (letZ c) ∧ σ' = σ := by
  refine fn75.calls ?_
  simp only [slots, ac75, z7_, Nat.reduceAdd, Nat.reduceEqDiff]
  repeat' (first
    | (refine gL_split (fun h => ?_) (fun h => ?_) <;> simp only [z8_, h, Nat.reduceAdd, Nat.reduceEqDiff, List.length_map])
    | (refine vcIf_split (fun h => ?_) (fun h => ?_) <;> simp only [z8_, h, Nat.reduceAdd, Nat.reduceEqDiff, List.length_map])
    | (refine pickL_split (fun h => ?_) (fun h => ?_) <;> simp only [z8_, h, Nat.reduceAdd, Nat.reduceEqDiff, List.length_map])
  )
  all_goals refine retK_intro rfl (Store.sub_refl _) ⟨?_, rfl⟩
  all_goals simp_all [V.erase, eraseL, letZ]
  all_goals (try omega)
theorem letter2_calls (c : Int) (σ : Store) : PCalls prog 47 [.int .u8 c] σ fun v σ' => v = .bool (letZ c) ∧ σ' = σ := by
  refine fn47.calls ?_
  simp only [slots, ac47, z7_, Nat.reduceAdd, Nat.reduceEqDiff]
  repeat' (first
    | (refine gL_split (fun h => ?_) (fun h => ?_) <;> simp only [z8_, h, Nat.reduceAdd, Nat.reduceEqDiff, List.length_map])
    | (refine vcIf_split (fun h => ?_) (fun h => ?_) <;> simp only [z8_, h, Nat.reduceAdd, Nat.reduceEqDiff, List.length_map])
    | (refine pickL_split (fun h => ?_) (fun h => ?_) <;> simp only [z8_, h, Nat.reduceAdd, Nat.reduceEqDiff, List.length_map])
  )
  all_goals refine retK_intro rfl (Store.sub_refl _) ⟨?_, rfl⟩
  all_goals simp_all [V.erase, eraseL, letZ]
  all_goals (try omega)
theorem goes_calls (c : Int) (σ : Store) : PCalls prog 76 [.int .u8 c] σ fun v σ' => v = .bool (goesZ c) ∧ σ' = σ := by
  refine fn76.calls ?_
  simp only [slots, ac76, z7_, Nat.reduceAdd, Nat.reduceEqDiff]
  refine (letter_calls c σ).mono ?_
  rintro v σ ⟨rfl, rfl⟩
  simp only [z8_, Nat.reduceAdd, Nat.reduceEqDiff, List.length_map]
  repeat' (first
    | (refine gL_split (fun h => ?_) (fun h => ?_) <;> simp only [z8_, h, Nat.reduceAdd, Nat.reduceEqDiff, List.length_map])
    | (refine vcIf_split (fun h => ?_) (fun h => ?_) <;> simp only [z8_, h, Nat.reduceAdd, Nat.reduceEqDiff, List.length_map])
    | (refine pickL_split (fun h => ?_) (fun h => ?_) <;> simp only [z8_, h, Nat.reduceAdd, Nat.reduceEqDiff, List.length_map])
  )
  all_goals refine retK_intro rfl (Store.sub_refl _) ⟨?_, rfl⟩
  all_goals simp_all [V.erase, eraseL, goesZ]
  all_goals (try omega)
theorem str_at {s : List UInt8} {i : Nat} (h : i < s.length) : s[((i : Nat) : Int).toNat]? = some s[i] := by simp [h]
def inv70 (s : List UInt8) (σ : Store) (i : Nat) : St :=
  ⟨[.str s] ++ List.replicate 17 .any ++ [.int .i64 s.length, .int .i64 (i : Nat)] ++ List.replicate 8 .any, [], σ⟩
theorem all_take_succ {s : List UInt8} {i : Nat} {f : UInt8 → Bool} (h : i < s.length) : (s.take (i + 1)).all f = ((s.take i).all f && f s[i]) := by
  rw [take_succ_of (List.getElem?_eq_getElem h), List.all_append]; simp only [List.all_cons, List.all_nil, Bool.and_true]
theorem nameR_loop {s : List UInt8} (h : s.length ≤ 16) (h1 : 0 < s.length) : nameR s = (letB s[0] && s.all goesB) := by
  cases s with
  | nil => simp at h1
  | cons c r =>
    simp only [nameR, h, decide_true, Bool.true_and, List.getElem_cons_zero, List.all_cons]
    cases hc : letB c
    · simp
    · have : goesB c = true := by simp only [letB] at hc; simp [goesB, goesZ, hc]
      simp [this]
theorem right_calls (s : List UInt8) (σ : Store) : PCalls prog 58 [.str s] σ fun v σ' => v = .bool (nameR s) ∧ σ' = σ := by
  refine fn58.calls ?_
  simp only [slots, ac58, z7_, Nat.reduceAdd, Nat.reduceEqDiff]
  by_cases h0 : s = []
  · subst h0
    simp only [z8_, Nat.reduceAdd, Nat.reduceEqDiff, List.length_map]
    refine retK_intro rfl (Store.sub_refl _) ⟨?_, rfl⟩
    simp [V.erase, eraseL, nameR]
  · have hpos : 0 < s.length := by cases s with | nil => exact absurd rfl h0 | cons _ _ => simp
    simp only [z8_, Nat.reduceAdd, Nat.reduceEqDiff, List.length_map, h0]
    by_cases h16 : s.length ≤ 16
    · have e : decide ((16 : Int) < s.length) = false := by simp; omega
      simp only [z8_, Nat.reduceAdd, Nat.reduceEqDiff, List.length_map, e]
      refine idxSL_intro (by omega) (c := s[0]) (by simp [hpos]) ?_
      simp only [z8_, Nat.reduceAdd, Nat.reduceEqDiff, List.length_map]
      refine (letter_calls s[0].toNat σ).mono ?_
      rintro v σ ⟨rfl, rfl⟩
      have hl : nameR s = (letB s[0] && s.all goesB) := nameR_loop h16 hpos
      cases hb : letZ (s[0].toNat : Nat)
      · have hb' : letB s[0] = false := hb
        simp only [z8_, Nat.reduceAdd, Nat.reduceEqDiff, List.length_map]
        refine retK_intro rfl (Store.sub_refl _) ⟨?_, rfl⟩
        simp [V.erase, eraseL, hl, hb']
      · have hb' : letB s[0] = true := hb
        simp only [z8_, Nat.reduceAdd, Nat.reduceEqDiff, List.length_map]
        refine vc_loop (fun p : { i : Nat // i ≤ s.length ∧ (s.take i).all goesB = true } => inv70 s σ p.1) (fun p => s.length - p.1) ?_ ?_
        · refine Upd.enter ⟨0, by simp, by simp⟩ ?_ LLLe.rfl OLe.rfl
          simp [inv70, List.replicate, am]
        · rintro ⟨i, hi, ha⟩
          simp only [inv70, List.replicate, am]
          refine vcIf_split ?_ ?_
          · intro hlt
            have hlt : i < s.length := by simpa using hlt
            simp only [z8_, Nat.reduceAdd, Nat.reduceEqDiff, List.length_map]
            refine idxSL_intro (by omega) (str_at hlt) ?_
            simp only [z8_, Nat.reduceAdd, Nat.reduceEqDiff, List.length_map]
            refine (goes_calls s[i].toNat σ).mono ?_
            rintro v σ ⟨rfl, rfl⟩
            cases hg : goesZ (s[i].toNat : Nat)
            · have hg' : goesB s[i] = false := hg
              simp only [z8_, Nat.reduceAdd, Nat.reduceEqDiff, List.length_map]
              refine retK_intro rfl (Store.sub_refl _) ⟨?_, rfl⟩
              have : s.all goesB = false := by
                rw [List.all_eq_false]; exact ⟨s[i], List.getElem_mem hlt, by simp [hg']⟩
              simp [V.erase, hl, this]
            · simp only [z8_, Nat.reduceAdd, Nat.reduceEqDiff, List.length_map]
              rw [wrap_i64 (by omega) (by omega)]
              refine Upd.again ⟨i + 1, by omega, ?_⟩ (by simp; omega) (by simp [List.replicate, am]) LLLe.rfl OLe.rfl
              rw [all_take_succ hlt, ha]; exact hg
          · intro hlt
            have hlt : i = s.length := by simp at hlt; omega
            subst hlt
            rw [List.take_length] at ha
            simp only [z8_, Nat.reduceAdd, Nat.reduceEqDiff, List.length_map]
            refine retK_intro rfl (Store.sub_refl _) ⟨?_, rfl⟩
            simp [V.erase, eraseL, hl, hb', ha]
    · have e : decide ((16 : Int) < s.length) = true := by simp; omega
      simp only [z8_, Nat.reduceAdd, Nat.reduceEqDiff, List.length_map, e]
      refine retK_intro rfl (Store.sub_refl _) ⟨?_, rfl⟩
      simp [V.erase, eraseL, nameR, h16]
def inv54 (s : List UInt8) (σ : Store) (i : Nat) : St :=
  ⟨[.str s, .any, .any, .int .i64 (i : Nat)] ++ List.replicate 43 .any, [], σ⟩
theorem right2_calls (s : List UInt8) (σ : Store) : PCalls prog 30 [.str s] σ fun v σ' => v = .bool (nameR s) ∧ σ' = σ := by
  refine fn30.calls ?_
  simp only [slots, ac30, z7_, Nat.reduceAdd, Nat.reduceEqDiff]
  by_cases h0 : s = []
  · subst h0
    simp only [z8_, Nat.reduceAdd, Nat.reduceEqDiff, List.length_map, show decide ((([] : List UInt8).length : Int) < 1) = true from rfl]
    refine retK_intro rfl (Store.sub_refl _) ⟨?_, rfl⟩
    simp [V.erase, eraseL, nameR]
  · have hpos : 0 < s.length := by cases s with | nil => exact absurd rfl h0 | cons _ _ => simp
    have e1 : decide ((s.length : Int) < 1) = false := by simp; omega
    simp only [z8_, Nat.reduceAdd, Nat.reduceEqDiff, List.length_map, e1]
    by_cases h16 : s.length ≤ 16
    · have e : decide ((16 : Int) < s.length) = false := by simp; omega
      simp only [z8_, Nat.reduceAdd, Nat.reduceEqDiff, List.length_map, e]
      refine idxSL_intro (by omega) (c := s[0]) (by simp [hpos]) ?_
      simp only [z8_, Nat.reduceAdd, Nat.reduceEqDiff, List.length_map]
      refine (letter2_calls s[0].toNat σ).mono ?_
      rintro v σ ⟨rfl, rfl⟩
      have hl : nameR s = (letB s[0] && s.all goesB) := nameR_loop h16 hpos
      cases hb : letZ (s[0].toNat : Nat)
      · have hb' : letB s[0] = false := hb
        simp only [z8_, Nat.reduceAdd, Nat.reduceEqDiff, List.length_map]
        refine retK_intro rfl (Store.sub_refl _) ⟨?_, rfl⟩
        simp [V.erase, eraseL, hl, hb']
      · have hb' : letB s[0] = true := hb
        simp only [z8_, Nat.reduceAdd, Nat.reduceEqDiff, List.length_map]
        refine vc_loop (fun p : { i : Nat // 1 ≤ i ∧ i ≤ s.length ∧ (s.take i).all goesB = true } => inv54 s σ p.1) (fun p => s.length - p.1) ?_ ?_
        · refine Upd.enter ⟨1, by simp, by omega, ?_⟩ ?_ LLLe.rfl OLe.rfl
          · rw [all_take_succ hpos]
            simp [goesB, goesZ, hb]
          · simp [inv54, List.replicate, am]
        · rintro ⟨i, hi1, hi, ha⟩
          simp only [inv54, List.replicate, am]
          refine vcIf_split ?_ ?_
          · intro hlt
            have hlt : i < s.length := by simpa using hlt
            simp only [z8_, Nat.reduceAdd, Nat.reduceEqDiff, List.length_map]
            refine idxSL_intro (by omega) (str_at hlt) ?_
            simp only [z8_, Nat.reduceAdd, Nat.reduceEqDiff, List.length_map]
            refine (letter2_calls s[i].toNat σ).mono ?_
            rintro v σ ⟨rfl, rfl⟩
            have hno : goesB s[i] = false → s.all goesB = false := fun hg => by
              rw [List.all_eq_false]; exact ⟨s[i], List.getElem_mem hlt, by simp [hg]⟩
            have fin : goesB s[i] = true → (s.take (i + 1)).all goesB = true := fun hg => by rw [all_take_succ hlt, ha, hg]; rfl
            have hgf : goesB s[i] = (letZ (s[i].toNat : Nat) || (decide (48 ≤ (s[i].toNat : Int)) && decide ((s[i].toNat : Int) ≤ 57)) || decide ((s[i].toNat : Int) = 95)) := rfl
            cases hg : letZ (s[i].toNat : Nat)
            all_goals rw [hg] at hgf
            all_goals simp only [am]
            repeat' (first
              | (refine gL_split (fun h => ?_) (fun h => ?_) <;> simp only [z8_, h, Nat.reduceAdd, Nat.reduceEqDiff, List.length_map])
              | (refine vcIf_split (fun h => ?_) (fun h => ?_) <;> simp only [z8_, h, Nat.reduceAdd, Nat.reduceEqDiff, List.length_map])
              | (refine pickL_split (fun h => ?_) (fun h => ?_) <;> simp only [z8_, h, Nat.reduceAdd, Nat.reduceEqDiff, List.length_map])
              | (refine idxSL_intro (by omega) (str_at hlt) ?_; simp only [am])
            )
            all_goals first
              | (have hgo : goesB s[i] = true := by rw [hgf]; simp_all <;> omega
                 rw [wrap_i64 (by omega) (by omega)]
                 exact Upd.again ⟨i + 1, by omega, by omega, fin hgo⟩ (by simp; omega) (by simp [List.replicate, am]) LLLe.rfl OLe.rfl)
              | (have hgo : goesB s[i] = false := by rw [hgf]; simp_all <;> omega
                 refine retK_intro rfl (Store.sub_refl _) ⟨?_, rfl⟩
                 simp [V.erase, hl, hno hgo])
          · intro hlt
            have hlt : i = s.length := by simp at hlt; omega
            subst hlt
            rw [List.take_length] at ha
            simp only [z8_, Nat.reduceAdd, Nat.reduceEqDiff, List.length_map]
            refine retK_intro rfl (Store.sub_refl _) ⟨?_, rfl⟩
            simp [V.erase, eraseL, hl, hb', ha]
    · have e : decide ((16 : Int) < s.length) = true := by simp; omega
      simp only [z8_, Nat.reduceAdd, Nat.reduceEqDiff, List.length_map, e]
      refine retK_intro rfl (Store.sub_refl _) ⟨?_, rfl⟩
      simp [V.erase, eraseL, nameR, h16]
end Go.Proofs.Tryz

namespace Go.Proofs.Tryz
open Go.Am
set_option maxRecDepth 4000
set_option maxHeartbeats 4000000
def ac31 : AC := .seq (.reg [xi 2 0])
 (.seq (.seq (.reg [xi 3 0])
 (.block 0 (.loop (.seq (.seq (.reg [xm 4 3, xm 5 0, xL 6 5, xb .lss 7 4 6])
 (.cond (.s 7) (.skip)
 (.exit 0)))
 (.seq (.block 1 (.seq (.reg [xm 10 0, xm 11 0, xm 12 3, xA 1 13 11 12, xo 14 13, xc 48 15 [.s 10, .s 14], xm 16 3, xb .lss 17 15 16])
 (.cond (.s 17) (.seq (.reg [xm 18 3, xm 2 18])
 (.ret))
 (.skip))))
 (.reg [xm 8 3, xB .add 9 8 1, xm 3 9]))))))
 (.seq (.reg [xi 2 (-1)])
 (.ret)))
theorem fn31 : IsFn prog 31 ac31 [.tmp 2] 19 := ⟨f31, ⟨[], []⟩, func31, by kernel_rfl, by kernel_rfl, by kernel_rfl, by kernel_rfl⟩
def ac48 : AC := .seq (.reg [xi 4 0])
 (.seq (.seq (.reg [xi 5 0])
 (.block 0 (.loop (.seq (.seq (.reg [xm 6 5, xm 7 0, xL 8 7, xb .lss 9 6 8])
 (.cond (.s 9) (.skip)
 (.exit 0)))
 (.seq (.block 1 (.seq (.reg [xm 12 0, xm 13 5, xA 1 14 12 13, xo 15 14, xm 16 1, ⟨(some 17), .binS .eql (.s 15) (.s 16), none⟩])
 (.cond (.s 17) (.seq (.reg [xm 18 5, xm 4 18])
 (.ret))
 (.skip))))
 (.reg [xm 10 5, xB .add 11 10 1, xm 5 11]))))))
 (.seq (.reg [xi 4 (-1)])
 (.ret)))
theorem fn48 : IsFn prog 48 ac48 [.tmp 4] 19 := ⟨f48, ⟨[], []⟩, func48, by kernel_rfl, by kernel_rfl, by kernel_rfl, by kernel_rfl⟩
def ac91 : AC := .seq (.reg [⟨(some 2), .mv (.c (.bool false)), none⟩])
 (.seq (.seq (.reg [xm 5 0, xL 6 5, xB .lss 7 6 1, xm 8 7, xh 8 (xm 9 0), xh 8 (xL 10 9), xh 8 (xB .gtr 11 10 64), ⟨(some 12), .pick (.s 8) (.c (.bool true)) (.s 11), none⟩, xm 13 12, xh 13 (xm 14 0), xh 13 (xc 105 15 [.s 14]), xh 13 (xB .geq 16 15 0), ⟨(some 17), .pick (.s 13) (.c (.bool true)) (.s 16), none⟩])
 (.cond (.s 17) (.seq (.reg [⟨(some 2), .mv (.c (.bool false)), none⟩])
 (.ret))
 (.skip)))
 (.seq (.seq (.reg [xm 18 0, xL 19 18, xi 20 0])
 (.block 0 (.loop (.seq (.reg [xb .lss 21 20 19])
 (.seq (.cond (.s 21) (.skip)
 (.exit 0))
 (.seq (.block 1 (.seq (.reg [xA 1 22 18 20, xo 23 22, xm 4 23])
 (.seq (.reg [xm 24 4, xc 58 25 [.s 24], ⟨(some 26), .not (.s 25), none⟩])
 (.cond (.s 26) (.seq (.reg [⟨(some 2), .mv (.c (.bool false)), none⟩])
 (.ret))
 (.skip)))))
 (.reg [xB .add 27 20 1, xm 20 27])))))))
 (.seq (.reg [⟨(some 2), .mv (.c (.bool true)), none⟩])
 (.ret))))
theorem fn91 : IsFn prog 91 ac91 [.tmp 2] 28 := ⟨f91, ⟨[], []⟩, func91, by kernel_rfl, by kernel_rfl, by kernel_rfl, by kernel_rfl⟩
def ac95 : AC := .seq (.reg [⟨(some 2), .boxO 1 (.s 0), none⟩, ⟨(some 3), .boxO 1 (.s 1), none⟩, xi 4 0])
 (.seq (.reg [xo 5 2, xL 6 5, ⟨(some 7), .mkfn (.func 111) [] [(.s 2), (.s 3)], none⟩, xc 110 8 [.c (.int .i64 0), .s 6, .s 7], xm 4 8])
 (.ret))
theorem fn95 : IsFn prog 95 ac95 [.tmp 4] 9 := ⟨f95, ⟨[2, 3], []⟩, func95, by kernel_rfl, by kernel_rfl, by kernel_rfl, by kernel_rfl⟩
def ac105 : AC := .seq (.reg [⟨(some 1), .boxO 1 (.s 0), none⟩, xi 2 0])
 (.seq (.reg [xo 3 1, xL 4 3, ⟨(some 5), .mkfn (.func 128) [] [(.s 1)], none⟩, xc 110 6 [.c (.int .i64 0), .s 4, .s 5], xm 2 6])
 (.ret))
theorem fn105 : IsFn prog 105 ac105 [.tmp 2] 7 := ⟨f105, ⟨[1], []⟩, func105, by kernel_rfl, by kernel_rfl, by kernel_rfl, by kernel_rfl⟩
def ac110 : AC := .seq (.reg [xi 6 0])
 (.seq (.seq (.reg [xm 8 0, xm 7 8])
 (.block 0 (.loop (.seq (.seq (.reg [xm 9 7, xm 10 1, xb .lss 11 9 10])
 (.cond (.s 11) (.skip)
 (.exit 0)))
 (.seq (.block 1 (.seq (.reg [xm 14 2, xm 15 7, ⟨(some 16), .callv (.s 14) [(.s 15)], none⟩])
 (.cond (.s 16) (.seq (.reg [xm 17 7, xm 6 17])
 (.ret))
 (.skip))))
 (.reg [xm 12 7, xB .add 13 12 1, xm 7 13]))))))
 (.seq (.reg [xi 6 (-1)])
 (.ret)))
theorem fn110 : IsFn prog 110 ac110 [.tmp 6] 18 := ⟨f110, ⟨[], []⟩, func110, by kernel_rfl, by kernel_rfl, by kernel_rfl, by kernel_rfl⟩
def ac111 : AC := .seq (.reg [⟨(some 4), .mv (.c (.bool false)), none⟩])
 (.seq (.draw [(xo 5 1, []), (xm 6 0, []), (xA 1 7 5 6, []), (xo 8 7, []), (xo 9 2, []), (⟨(some 10), .binS .eql (.s 8) (.s 9), none⟩, []), (xm 4 10, [])])
 (.ret))
theorem fn111 : IsFn prog 111 ac111 [.tmp 4] 11 := ⟨f111, ⟨[], []⟩, func111, by kernel_rfl, by kernel_rfl, by kernel_rfl, by kernel_rfl⟩
def ac128 : AC := .seq (.reg [⟨(some 3), .mv (.c (.bool false)), none⟩])
 (.seq (.draw [(xo 4 1, []), (xm 5 0, []), (⟨(some 6), .slc 1 (.s 4) none (some (.s 5)) none, none⟩, []), (xo 7 1, []), (xm 8 0, []), (xA 1 9 7 8, []), (xo 10 9, []), (xc 95 11 [.s 6, .s 10], []), (xB .geq 12 11 0, []), (xm 3 12, [])])
 (.ret))
theorem fn128 : IsFn prog 128 ac128 [.tmp 3] 13 := ⟨f128, ⟨[], []⟩, func128, by kernel_rfl, by kernel_rfl, by kernel_rfl, by kernel_rfl⟩
def z9_ := And.intro @am <| And.intro @amo <| And.intro @amc <| And.intro @ams <| And.intro @decide_true <| And.intro @decide_false <| And.intro @aml <| And.intro @Int.toNat_natCast <| And.intro @Nat.mul_one @sCells_len
def z10_ := And.intro @am <| And.intro @amo <| And.intro @amc <| And.intro @aml <| And.intro @decide_true <| And.intro @decide_false <| And.intro @Int.toNat_natCast <| And.intro @Nat.mul_one @sCells_len
def z11_ := And.intro @am <| And.intro @amo <| And.intro @amc <| And.intro @encs_length <| And.intro @decide_true <| And.intro @decide_false <| And.intro @aml <| And.intro @Int.toNat_natCast <| And.intro @Nat.mul_one @sCells_len
theorem place_calls (n : Nat) (hn : n ≤ 100000) (f : FuncId) (cap : List V) (hc : nolL cap = true) (p : Nat → Bool) (σ : Store) (h : ∀ i, i < n → PCalls prog f (.int .i64 (i : Nat) :: cap) σ fun v σ' => v = .bool (p i) ∧ σ' = σ) :
    PCalls prog 110 [.int .i64 0, .int .i64 (n : Nat), .fn (.func f) [] cap] σ fun v σ' => v = .int .i64 (optI ((List.range n).find? p)) ∧ σ' = σ := by
  refine fn110.calls ?_
  simp only [slots, ac110, z9_, Nat.reduceAdd, Nat.reduceEqDiff, Int.reduceEq, Int.reduceLT, Int.reduceLE, Nat.reduceLT, Int.reduceToNat, Nat.reduceMul, if_false, reduceCtorEq]
  obtain ⟨F, hF⟩ : ∃ F : Nat → Unit → St, ∀ i x, F i x = ⟨[.any, .int .i64 (n : Nat), .fn (.func f) [] cap, .any, .any, .any, .any, .int .i64 (i : Nat)] ++ List.replicate 10 .any, [], σ⟩ := ⟨_, fun _ _ => rfl⟩
  obtain ⟨JF, hJF⟩ : ∃ JF : Nat → Unit → Prop, ∀ i x, JF i x = (∀ k, k < i → p k = false) := ⟨_, fun _ _ => rfl⟩
  refine vc_count (n) F JF _ hJF ?_ ?_ ?_
  · refine ent (()) ?_ ?_ ?_ ?_
    · exact Eq.mpr (hJF _ _) (by intro k h; omega)
    all_goals simp [hF, List.replicate, am, lle_self]
  · rintro i x hi hJ
    simp only [hF, List.replicate, z10_, dlt hi, Nat.reduceAdd, Nat.reduceEqDiff, Int.reduceEq, Int.reduceLT, Int.reduceLE, Nat.reduceLT, Int.reduceToNat, Nat.reduceMul, if_false, reduceCtorEq, hc]
    refine (h i hi).mono ?_
    rintro v σ' ⟨rfl, rfl⟩
    cases hb : p i with
    | false =>
      simp only [z11_, Nat.reduceAdd, Nat.reduceEqDiff, List.length_map, Int.reduceEq, Int.reduceLT, Int.reduceLE, Nat.reduceLT, Int.reduceToNat, Nat.reduceMul, if_false, reduceCtorEq, winc hi (by omega)]
      refine nxt (()) hi ?_ ?_ ?_ ?_
      · exact Eq.mpr (hJF _ _) (allS hJ hb)
      all_goals simp [hF, List.replicate, am, lle_self]
    | true =>
      have e := find_at hi hJ hb
      simp only [z11_, Nat.reduceAdd, Nat.reduceEqDiff, List.length_map, Int.reduceEq, Int.reduceLT, Int.reduceLE, Nat.reduceLT, Int.reduceToNat, Nat.reduceMul, if_false, reduceCtorEq]
      refine retK_intro rfl (Store.sub_refl _) ⟨?_, rfl⟩
      simp [V.erase, eraseL, e, optI]
  · rintro x hJ
    have e := find_no hJ
    simp only [hF, List.replicate, z10_, dnl, Nat.reduceAdd, Nat.reduceEqDiff, Int.reduceEq, Int.reduceLT, Int.reduceLE, Nat.reduceLT, Int.reduceToNat, Nat.reduceMul, if_false, reduceCtorEq]
    refine retK_intro rfl (Store.sub_refl _) ⟨?_, rfl⟩
    simp [V.erase, eraseL, e, optI]
theorem find1_calls (l : List (List UInt8)) (s : List UInt8) (i b1 b2 : Nat) {σ : Store} (hi : i < l.length) (h1 : σ.box b1 = some [.sl .no 1 (sCells l)]) (h2 : σ.box b2 = some [.str s]) :
    PCalls prog 111 [.int .i64 (i : Nat), .ptr (.out b1) 0, .ptr (.out b2) 0] σ fun v σ' => v = .bool (decide (l.getD i [] = s)) ∧ σ' = σ := by
  refine fn111.calls ?_
  simp only [slots, ac111, z9_, Nat.reduceAdd, Nat.reduceEqDiff, Int.reduceEq, Int.reduceLT, Int.reduceLE, Nat.reduceLT, Int.reduceToNat, Nat.reduceMul, if_false, reduceCtorEq]
  simp only [z11_, Nat.reduceAdd, Nat.reduceEqDiff, List.length_map, Int.reduceEq, Int.reduceLT, Int.reduceLE, Nat.reduceLT, Int.reduceToNat, Nat.reduceMul, if_false, reduceCtorEq, h1]
  refine idxL_intro (by omega) (sCells_at hi) ?_
  simp only [z11_, Nat.reduceAdd, Nat.reduceEqDiff, List.length_map, Int.reduceEq, Int.reduceLT, Int.reduceLE, Nat.reduceLT, Int.reduceToNat, Nat.reduceMul, if_false, reduceCtorEq, h1, h2]
  refine retK_intro rfl (Store.sub_refl _) ⟨?_, rfl⟩
  simp [V.erase, eraseL]
theorem find_calls (l : List (List UInt8)) (s : List UInt8) (σ : Store) (hl : l.length ≤ 100000) : PCalls prog 95 [.sl .no 1 (sCells l), .str s] σ fun v σ' => v = .int .i64 (optI (findS l s)) ∧ σ' = σ := by
  refine fn95.calls ?_
  simp only [slots, ac95, z9_, Nat.reduceAdd, Nat.reduceEqDiff, Int.reduceEq, Int.reduceLT, Int.reduceLE, Nat.reduceLT, Int.reduceToNat, Nat.reduceMul, if_false, reduceCtorEq]
  refine kO_intro fun b1 hb1 => ?_
  simp only [z11_, Nat.reduceAdd, Nat.reduceEqDiff, List.length_map, Int.reduceEq, Int.reduceLT, Int.reduceLE, Nat.reduceLT, Int.reduceToNat, Nat.reduceMul, if_false, reduceCtorEq]
  refine kO_intro fun b2 hb2 => ?_
  have hne : b1 ≠ b2 := by rintro rfl; rw [set_box] at hb2; simp at hb2
  have hs := Store.subT (sub_set (cs := [.sl .no 1 (sCells l)]) hb1) (sub_set (cs := [.str s]) hb2)
  have e1 : ((σ.set b1 [.sl .no 1 (sCells l)]).set b2 [.str s]).box b1 = some [.sl .no 1 (sCells l)] := by rw [set_box_ne hne, set_box]
  generalize hσ : (σ.set b1 [V.sl .no 1 (sCells l)]).set b2 [V.str s] = σ1 at hs e1
  have e2 : σ1.box b2 = some [.str s] := by rw [← hσ, set_box]
  simp only [z11_, Nat.reduceAdd, Nat.reduceEqDiff, List.length_map, Int.reduceEq, Int.reduceLT, Int.reduceLE, Nat.reduceLT, Int.reduceToNat, Nat.reduceMul, if_false, reduceCtorEq, e1]
  refine (place_calls l.length hl _ _ rfl (fun i => decide (l.getD i [] = s)) σ1 fun i hi => find1_calls l s i b1 b2 hi e1 e2).mono ?_
  rintro v σ1 ⟨rfl, rfl⟩
  simp only [z11_, Nat.reduceAdd, Nat.reduceEqDiff, List.length_map, Int.reduceEq, Int.reduceLT, Int.reduceLE, Nat.reduceLT, Int.reduceToNat, Nat.reduceMul, if_false, reduceCtorEq]
  exact retK_intro rfl hs ⟨rfl, rfl⟩
theorem twice1_calls (l : List (List UInt8)) (i b1 : Nat) {σ : Store} (hl : l.length ≤ 100000) (hi : i < l.length) (h1 : σ.box b1 = some [.sl .no 1 (sCells l)]) :
    PCalls prog 128 [.int .i64 (i : Nat), .ptr (.out b1) 0] σ fun v σ' => v = .bool (findS (l.take i) (l.getD i [])).isSome ∧ σ' = σ := by
  refine fn128.calls ?_
  simp only [slots, ac128, z9_, Nat.reduceAdd, Nat.reduceEqDiff, Int.reduceEq, Int.reduceLT, Int.reduceLE, Nat.reduceLT, Int.reduceToNat, Nat.reduceMul, if_false, reduceCtorEq]
  simp only [z11_, Nat.reduceAdd, Nat.reduceEqDiff, List.length_map, Int.reduceEq, Int.reduceLT, Int.reduceLE, Nat.reduceLT, Int.reduceToNat, Nat.reduceMul, if_false, reduceCtorEq, h1]
  refine slcL_to (b := i) (by rw [sCells_len]; omega) ?_
  simp only [z11_, Nat.reduceAdd, Nat.reduceEqDiff, List.length_map, Int.reduceEq, Int.reduceLT, Int.reduceLE, Nat.reduceLT, Int.reduceToNat, Nat.reduceMul, if_false, reduceCtorEq, h1]
  refine idxL_intro (by omega) (sCells_at hi) ?_
  rw [sCells_take]
  simp only [z11_, Nat.reduceAdd, Nat.reduceEqDiff, List.length_map, Int.reduceEq, Int.reduceLT, Int.reduceLE, Nat.reduceLT, Int.reduceToNat, Nat.reduceMul, if_false, reduceCtorEq, h1]
  refine CallD.intro (find_calls (l.take i) (l.getD i []) σ (by rw [List.length_take]; omega)) ?_
  simp only [z11_, Nat.reduceAdd, Nat.reduceEqDiff, List.length_map, Int.reduceEq, Int.reduceLT, Int.reduceLE, Nat.reduceLT, Int.reduceToNat, Nat.reduceMul, if_false, reduceCtorEq, optI_nn, h1]
  refine retK_intro rfl (Store.sub_refl _) ⟨?_, rfl⟩
  simp [V.erase, eraseL]
theorem twice_calls (l : List (List UInt8)) (σ : Store) (hl : l.length ≤ 100000) : PCalls prog 105 [.sl .no 1 (sCells l)] σ fun v σ' => v = .int .i64 (optI (twiceS l)) ∧ σ' = σ := by
  refine fn105.calls ?_
  simp only [slots, ac105, z9_, Nat.reduceAdd, Nat.reduceEqDiff, Int.reduceEq, Int.reduceLT, Int.reduceLE, Nat.reduceLT, Int.reduceToNat, Nat.reduceMul, if_false, reduceCtorEq]
  refine kO_intro fun b1 hb1 => ?_
  simp only [z11_, Nat.reduceAdd, Nat.reduceEqDiff, List.length_map, Int.reduceEq, Int.reduceLT, Int.reduceLE, Nat.reduceLT, Int.reduceToNat, Nat.reduceMul, if_false, reduceCtorEq]
  refine (place_calls l.length hl _ _ rfl (fun i => (findS (l.take i) (l.getD i [])).isSome) _ fun i hi => twice1_calls l i b1 hl hi set_box).mono ?_
  rintro v σ1 ⟨rfl, rfl⟩
  simp only [z11_, Nat.reduceAdd, Nat.reduceEqDiff, List.length_map, Int.reduceEq, Int.reduceLT, Int.reduceLE, Nat.reduceLT, Int.reduceToNat, Nat.reduceMul, if_false, reduceCtorEq]
  exact retK_intro rfl (sub_set hb1) ⟨rfl, rfl⟩
theorem rfind_calls (l : List (List UInt8)) (s : List UInt8) (σ : Store) (hl : l.length ≤ 100000) : PCalls prog 48 [.sl .no 1 (sCells l), .str s] σ fun v σ' => v = .int .i64 (optI (findS l s)) ∧ σ' = σ := by
  refine fn48.calls ?_
  simp only [slots, ac48, z9_, Nat.reduceAdd, Nat.reduceEqDiff, Int.reduceEq, Int.reduceLT, Int.reduceLE, Nat.reduceLT, Int.reduceToNat, Nat.reduceMul, if_false, reduceCtorEq]
  obtain ⟨F, hF⟩ : ∃ F : Nat → Unit → St, ∀ i x, F i x = ⟨[.sl .no 1 (sCells l), .str s, .any, .any, .any, .int .i64 (i : Nat)] ++ List.replicate 13 .any, [], σ⟩ := ⟨_, fun _ _ => rfl⟩
  obtain ⟨JF, hJF⟩ : ∃ JF : Nat → Unit → Prop, ∀ i x, JF i x = (∀ k, k < i → decide (l.getD k [] = s) = false) := ⟨_, fun _ _ => rfl⟩
  refine vc_count (l.length) F JF _ hJF ?_ ?_ ?_
  · refine ent (()) ?_ ?_ ?_ ?_
    · exact Eq.mpr (hJF _ _) (by intro k h; omega)
    all_goals simp [hF, List.replicate, am, lle_self]
  · rintro i x hi hJ
    simp only [hF, List.replicate, z10_, dlt hi, Nat.reduceAdd, Nat.reduceEqDiff, Int.reduceEq, Int.reduceLT, Int.reduceLE, Nat.reduceLT, Int.reduceToNat, Nat.reduceMul, if_false, reduceCtorEq]
    refine idxL_intro (by omega) (sCells_at hi) ?_
    simp only [z11_, Nat.reduceAdd, Nat.reduceEqDiff, List.length_map, Int.reduceEq, Int.reduceLT, Int.reduceLE, Nat.reduceLT, Int.reduceToNat, Nat.reduceMul, if_false, reduceCtorEq]
    by_cases h : l.getD i [] = s
    · have e : findS l s = some i := find_at hi hJ (decide_eq_true h)
      simp only [z11_, Nat.reduceAdd, Nat.reduceEqDiff, List.length_map, Int.reduceEq, Int.reduceLT, Int.reduceLE, Nat.reduceLT, Int.reduceToNat, Nat.reduceMul, if_false, reduceCtorEq, decide_eq_true h]
      refine retK_intro rfl (Store.sub_refl _) ⟨?_, rfl⟩
      simp [V.erase, eraseL, e, optI]
    · simp only [z11_, Nat.reduceAdd, Nat.reduceEqDiff, List.length_map, Int.reduceEq, Int.reduceLT, Int.reduceLE, Nat.reduceLT, Int.reduceToNat, Nat.reduceMul, if_false, reduceCtorEq, decide_eq_false h, winc hi (by omega)]
      refine nxt (()) hi ?_ ?_ ?_ ?_
      · exact Eq.mpr (hJF _ _) (allS hJ (decide_eq_false h))
      all_goals simp [hF, List.replicate, am, lle_self]
  · rintro x hJ
    have e : findS l s = none := find_no hJ
    simp only [hF, List.replicate, z10_, dnl, Nat.reduceAdd, Nat.reduceEqDiff, Int.reduceEq, Int.reduceLT, Int.reduceLE, Nat.reduceLT, Int.reduceToNat, Nat.reduceMul, if_false, reduceCtorEq]
    refine retK_intro rfl (Store.sub_refl _) ⟨?_, rfl⟩
    simp [V.erase, eraseL, e, optI]
theorem rtwice_calls (l : List (List UInt8)) (σ : Store) (hl : l.length ≤ 100000) : PCalls prog 31 [.sl .no 1 (sCells l)] σ fun v σ' => v = .int .i64 (optI (twiceS l)) ∧ σ' = σ := by
  refine fn31.calls ?_
  simp only [slots, ac31, z9_, Nat.reduceAdd, Nat.reduceEqDiff, Int.reduceEq, Int.reduceLT, Int.reduceLE, Nat.reduceLT, Int.reduceToNat, Nat.reduceMul, if_false, reduceCtorEq]
  obtain ⟨F, hF⟩ : ∃ F : Nat → Unit → St, ∀ i x, F i x = ⟨[.sl .no 1 (sCells l), .any, .any, .int .i64 (i : Nat)] ++ List.replicate 15 .any, [], σ⟩ := ⟨_, fun _ _ => rfl⟩
  obtain ⟨JF, hJF⟩ : ∃ JF : Nat → Unit → Prop, ∀ i x, JF i x = (∀ k, k < i → (findS (l.take k) (l.getD k [])).isSome = false) := ⟨_, fun _ _ => rfl⟩
  refine vc_count (l.length) F JF _ hJF ?_ ?_ ?_
  · refine ent (()) ?_ ?_ ?_ ?_
    · exact Eq.mpr (hJF _ _) (by intro k h; omega)
    all_goals simp [hF, List.replicate, am, lle_self]
  · rintro i x hi hJ
    simp only [hF, List.replicate, z10_, dlt hi, Nat.reduceAdd, Nat.reduceEqDiff, Int.reduceEq, Int.reduceLT, Int.reduceLE, Nat.reduceLT, Int.reduceToNat, Nat.reduceMul, if_false, reduceCtorEq]
    refine idxL_intro (by omega) (sCells_at hi) ?_
    simp only [z11_, Nat.reduceAdd, Nat.reduceEqDiff, List.length_map, Int.reduceEq, Int.reduceLT, Int.reduceLE, Nat.reduceLT, Int.reduceToNat, Nat.reduceMul, if_false, reduceCtorEq]
    refine (rfind_calls l (l.getD i []) σ hl).mono ?_
    rintro v σ ⟨rfl, rfl⟩
    have e := findS_take hi
    simp only [z11_, Nat.reduceAdd, Nat.reduceEqDiff, List.length_map, Int.reduceEq, Int.reduceLT, Int.reduceLE, Nat.reduceLT, Int.reduceToNat, Nat.reduceMul, if_false, reduceCtorEq, ← e]
    cases hb : (findS (l.take i) (l.getD i [])).isSome with
    | false =>
      simp only [z11_, Nat.reduceAdd, Nat.reduceEqDiff, List.length_map, Int.reduceEq, Int.reduceLT, Int.reduceLE, Nat.reduceLT, Int.reduceToNat, Nat.reduceMul, if_false, reduceCtorEq, winc hi (by omega)]
      refine nxt (()) hi ?_ ?_ ?_ ?_
      · exact Eq.mpr (hJF _ _) (allS hJ hb)
      all_goals simp [hF, List.replicate, am, lle_self]
    | true =>
      have e : twiceS l = some i := find_at hi hJ hb
      simp only [z11_, Nat.reduceAdd, Nat.reduceEqDiff, List.length_map, Int.reduceEq, Int.reduceLT, Int.reduceLE, Nat.reduceLT, Int.reduceToNat, Nat.reduceMul, if_false, reduceCtorEq]
      refine retK_intro rfl (Store.sub_refl _) ⟨?_, rfl⟩
      simp [V.erase, eraseL, e, optI]
  · rintro x hJ
    have e : twiceS l = none := find_no hJ
    simp only [hF, List.replicate, z10_, dnl, Nat.reduceAdd, Nat.reduceEqDiff, Int.reduceEq, Int.reduceLT, Int.reduceLE, Nat.reduceLT, Int.reduceToNat, Nat.reduceMul, if_false, reduceCtorEq]
    refine retK_intro rfl (Store.sub_refl _) ⟨?_, rfl⟩
    simp [V.erase, eraseL, e, optI]
theorem named_calls (l : List (List UInt8)) (σ : Store) (hl : l.length ≤ 100000) : PCalls prog 91 [.sl .no 1 (sCells l)] σ fun v σ' => v = .bool (namedS l) ∧ σ' = σ := by
  refine fn91.calls ?_
  simp only [slots, ac91, z9_, Nat.reduceAdd, Nat.reduceEqDiff, Int.reduceEq, Int.reduceLT, Int.reduceLE, Nat.reduceLT, Int.reduceToNat, Nat.reduceMul, if_false, reduceCtorEq]
  by_cases h1 : l.length < 1
  · simp only [z11_, Nat.reduceAdd, Nat.reduceEqDiff, List.length_map, Int.reduceEq, Int.reduceLT, Int.reduceLE, Nat.reduceLT, Int.reduceToNat, Nat.reduceMul, if_false, reduceCtorEq, decide_eq_true (show (l.length : Int) < 1 by omega)]
    refine retK_intro rfl (Store.sub_refl _) ⟨?_, rfl⟩
    simp [V.erase, eraseL, namedS]
    omega
  · simp only [z11_, Nat.reduceAdd, Nat.reduceEqDiff, List.length_map, Int.reduceEq, Int.reduceLT, Int.reduceLE, Nat.reduceLT, Int.reduceToNat, Nat.reduceMul, if_false, reduceCtorEq, decide_eq_false (show ¬ (l.length : Int) < 1 by omega)]
    by_cases h2 : 64 < l.length
    · simp only [z11_, Nat.reduceAdd, Nat.reduceEqDiff, List.length_map, Int.reduceEq, Int.reduceLT, Int.reduceLE, Nat.reduceLT, Int.reduceToNat, Nat.reduceMul, if_false, reduceCtorEq, decide_eq_true (show (64 : Int) < l.length by omega)]
      refine retK_intro rfl (Store.sub_refl _) ⟨?_, rfl⟩
      simp [V.erase, eraseL, namedS]
      omega
    · simp only [z11_, Nat.reduceAdd, Nat.reduceEqDiff, List.length_map, Int.reduceEq, Int.reduceLT, Int.reduceLE, Nat.reduceLT, Int.reduceToNat, Nat.reduceMul, if_false, reduceCtorEq, decide_eq_false (show ¬ (64 : Int) < l.length by omega)]
      refine (twice_calls l σ hl).mono ?_
      rintro v σ ⟨rfl, rfl⟩
      simp only [z11_, Nat.reduceAdd, Nat.reduceEqDiff, List.length_map, Int.reduceEq, Int.reduceLT, Int.reduceLE, Nat.reduceLT, Int.reduceToNat, Nat.reduceMul, if_false, reduceCtorEq, optI_nn]
      cases ht : twiceS l with
      | some k =>
        simp only [z11_, Nat.reduceAdd, Nat.reduceEqDiff, List.length_map, Int.reduceEq, Int.reduceLT, Int.reduceLE, Nat.reduceLT, Int.reduceToNat, Nat.reduceMul, if_false, reduceCtorEq, Option.isSome_some]
        refine retK_intro rfl (Store.sub_refl _) ⟨?_, rfl⟩
        simp [V.erase, eraseL, namedS, ht]
      | none =>
        simp only [z11_, Nat.reduceAdd, Nat.reduceEqDiff, List.length_map, Int.reduceEq, Int.reduceLT, Int.reduceLE, Nat.reduceLT, Int.reduceToNat, Nat.reduceMul, if_false, reduceCtorEq, Option.isSome_none]
        obtain ⟨F, hF⟩ : ∃ F : Nat → Unit → St, ∀ i x, F i x = ⟨[.any, .any, .any, .any, .any, .any, .any, .any, .any, .any, .any, .any, .any, .any, .any, .any, .any, .any, .sl .no 1 (sCells l), .int .i64 (l.length : Nat), .int .i64 (i : Nat)] ++ List.replicate 7 .any, [], σ⟩ := ⟨_, fun _ _ => rfl⟩
        obtain ⟨JF, hJF⟩ : ∃ JF : Nat → Unit → Prop, ∀ i x, JF i x = (∀ k, k < i → nameR (l.getD k []) = true) := ⟨_, fun _ _ => rfl⟩
        refine vc_count (l.length) F JF _ hJF ?_ ?_ ?_
        · refine ent (()) ?_ ?_ ?_ ?_
          · exact Eq.mpr (hJF _ _) (by intro k h; omega)
          all_goals simp [hF, List.replicate, am, lle_self]
        · rintro i x hi hJ
          simp only [hF, List.replicate, z10_, dlt hi, Nat.reduceAdd, Nat.reduceEqDiff, Int.reduceEq, Int.reduceLT, Int.reduceLE, Nat.reduceLT, Int.reduceToNat, Nat.reduceMul, if_false, reduceCtorEq]
          refine idxL_intro (by omega) (sCells_at hi) ?_
          simp only [z11_, Nat.reduceAdd, Nat.reduceEqDiff, List.length_map, Int.reduceEq, Int.reduceLT, Int.reduceLE, Nat.reduceLT, Int.reduceToNat, Nat.reduceMul, if_false, reduceCtorEq]
          refine (right_calls _ σ).mono ?_
          rintro v σ ⟨rfl, rfl⟩
          simp only [z11_, Nat.reduceAdd, Nat.reduceEqDiff, List.length_map, Int.reduceEq, Int.reduceLT, Int.reduceLE, Nat.reduceLT, Int.reduceToNat, Nat.reduceMul, if_false, reduceCtorEq]
          cases hb : nameR (l.getD i []) with
          | false =>
            have e : namedS l = false := by
              cases hq : namedS l with
              | false => rfl
              | true =>
                simp only [namedS, Bool.and_eq_true, List.all_eq_true] at hq
                have hm : l.getD i [] ∈ l := by rw [getD_at hi]; exact List.getElem_mem hi
                rw [hq.2 _ hm] at hb; simp at hb
            simp only [z11_, Nat.reduceAdd, Nat.reduceEqDiff, List.length_map, Int.reduceEq, Int.reduceLT, Int.reduceLE, Nat.reduceLT, Int.reduceToNat, Nat.reduceMul, if_false, reduceCtorEq]
            refine retK_intro rfl (Store.sub_refl _) ⟨?_, rfl⟩
            simp [V.erase, eraseL, e]
          | true =>
            simp only [z11_, Nat.reduceAdd, Nat.reduceEqDiff, List.length_map, Int.reduceEq, Int.reduceLT, Int.reduceLE, Nat.reduceLT, Int.reduceToNat, Nat.reduceMul, if_false, reduceCtorEq, winc hi (by omega)]
            refine nxt (()) hi ?_ ?_ ?_ ?_
            · exact Eq.mpr (hJF _ _) (allS hJ hb)
            all_goals simp [hF, List.replicate, am, lle_self]
        · rintro x hJ
          have e : namedS l = true := by
            simp only [namedS, ht, Bool.and_eq_true, List.all_eq_true, decide_eq_true_eq, Option.isNone_none, and_true]
            refine ⟨by omega, fun s hs => ?_⟩
            obtain ⟨k, hk, rfl⟩ := List.mem_iff_getElem.1 hs
            have := hJ k hk
            rwa [getD_at hk] at this
          simp only [hF, List.replicate, z10_, dnl, Nat.reduceAdd, Nat.reduceEqDiff, Int.reduceEq, Int.reduceLT, Int.reduceLE, Nat.reduceLT, Int.reduceToNat, Nat.reduceMul, if_false, reduceCtorEq]
          refine retK_intro rfl (Store.sub_refl _) ⟨?_, rfl⟩
          simp [V.erase, eraseL, e]
end Go.Proofs.Tryz

namespace Go.Proofs.Tryz
open Go.Am
set_option maxRecDepth 4000
set_option maxHeartbeats 4000000
def ac53 : AC := .seq (.reg [⟨(some 3), .box 2 (.s 0), none⟩, ⟨(some 4), .box 8 (.s 1), none⟩, ⟨(some 5), .box 8 (.s 2), none⟩, ⟨(some 6), .alloc elmZ, none⟩])
 (.seq (.seq (.reg [xi 8 0])
 (.block 0 (.loop (.seq (.reg [xB .lss 9 8 8])
 (.seq (.cond (.s 9) (.skip)
 (.exit 0))
 (.seq (.block 1 (.seq (.reg [xm 10 8, xm 7 10])
 (.seq (.seq (.reg [xm 11 7, xf 1 12 3, xo 13 12, xL 14 13, xb .lss 15 11 14, xm 16 15, xg 16 (xf 1 17 3), xg 16 (xo 18 17), xg 16 (xm 19 7), xg 16 (xA 67 20 18 19), xg 16 (xf 0 21 20), xg 16 (xo 22 21), xg 16 (xB .eql 23 22 4), ⟨(some 24), .pick (.s 16) (.s 23) (.c (.bool false)), none⟩])
 (.cond (.s 24) (.seq (.draw [(xm 25 7, []), (xf 1 26 3, []), (xo 27 26, []), (xm 28 7, []), (xA 67 29 27 28, []), (xf 2 30 29, []), (xl 65 31 30, []), (xm 32 7, []), (⟨(some 33), .idxP 8 1 (.s 4) (.s 32), none⟩, []), (xo 34 33, []), (xm 35 7, []), (⟨(some 36), .idxP 8 1 (.s 5) (.s 35), none⟩, []), (xo 37 36, []), (xc 73 38 [.s 31, .s 34, .s 37], []), (⟨(some 39), .idxP 8 1 (.s 4) (.s 25), none⟩, []), (xs 1 39 38, [])])
 (.exit 1))
 (.skip)))
 (.draw [(xm 40 7, []), (⟨(some 41), .idxP 8 1 (.s 4) (.s 40), none⟩, []), (xo 42 41, []), (xm 43 7, []), (⟨(some 44), .idxP 8 1 (.s 5) (.s 43), none⟩, []), (xo 45 44, []), (xb .or 46 42 45, []), (⟨(some 47), .idxP 8 1 (.s 4) (.s 40), none⟩, []), (xs 1 47 46, [])]))))
 (.reg [xB .add 48 8 1, xm 8 48])))))))
 (.seq (.reg [xl 8 49 4, xs 8 6 49])
 (.ret)))
theorem fn53 : IsFn prog 53 ac53 [.cell 6 true 8] 50 := ⟨f53, ⟨[], []⟩, func53, by kernel_rfl, by kernel_rfl, by kernel_rfl, by kernel_rfl⟩
def ac54 : AC := .seq (.reg [⟨(some 2), .box 8 (.s 0), none⟩, ⟨(some 3), .box 8 (.s 1), none⟩, ⟨(some 4), .alloc elmZ, none⟩])
 (.seq (.seq (.reg [xi 6 0])
 (.block 0 (.loop (.seq (.reg [xB .lss 7 6 8])
 (.seq (.cond (.s 7) (.skip)
 (.exit 0))
 (.seq (.block 1 (.seq (.reg [xm 8 6, xm 5 8])
 (.draw [(xm 9 5, []), (⟨(some 10), .idxP 8 1 (.s 2) (.s 9), none⟩, []), (xo 11 10, []), (xm 12 5, []), (⟨(some 13), .idxP 8 1 (.s 3) (.s 12), none⟩, []), (xo 14 13, []), (xb .and 15 11 14, []), (⟨(some 16), .idxP 8 1 (.s 2) (.s 9), none⟩, []), (xs 1 16 15, [])])))
 (.reg [xB .add 17 6 1, xm 6 17])))))))
 (.seq (.reg [xl 8 18 2, xs 8 4 18])
 (.ret)))
theorem fn54 : IsFn prog 54 ac54 [.cell 4 true 8] 19 := ⟨f54, ⟨[], []⟩, func54, by kernel_rfl, by kernel_rfl, by kernel_rfl, by kernel_rfl⟩
def ac63 : AC := .seq (.reg [⟨(some 1), .box 2 (.s 0), none⟩, ⟨(some 2), .mv (.c (.bool false)), none⟩])
 (.seq (.reg [xf 1 6 1, xo 7 6, xL 8 7, xm 3 8])
 (.seq (.seq (.reg [xm 9 3, xB .lss 10 9 1, xm 11 10, xh 11 (xm 12 3), xh 11 (xB .gtr 13 12 8), ⟨(some 14), .pick (.s 11) (.c (.bool true)) (.s 13), none⟩, xm 15 14, xh 15 (xf 0 16 1), xh 15 (xo 17 16), ⟨(some 18), .not (.s 17), (some (15, false))⟩, xh 15 (xm 19 18), xg 19 (xm 20 3), xg 19 (xB .neq 21 20 1), ⟨(some 22), .pick (.s 19) (.s 21) (.c (.bool false)), (some (15, false))⟩, ⟨(some 23), .pick (.s 15) (.c (.bool true)) (.s 22), none⟩])
 (.cond (.s 23) (.seq (.reg [⟨(some 2), .mv (.c (.bool false)), none⟩])
 (.ret))
 (.skip)))
 (.seq (.seq (.reg [xf 1 24 1, xo 25 24, xL 26 25, xi 27 0])
 (.block 0 (.loop (.seq (.reg [xb .lss 28 27 26])
 (.seq (.cond (.s 28) (.skip)
 (.exit 0))
 (.seq (.block 1 (.seq (.reg [xA 67 29 25 27, xl 67 30 29, ⟨(some 5), .alloc facZ, none⟩, xs 67 5 30])
 (.seq (.reg [xl 67 31 5, xc 77 32 [.s 31], ⟨(some 33), .not (.s 32), none⟩])
 (.cond (.s 33) (.seq (.reg [⟨(some 2), .mv (.c (.bool false)), none⟩])
 (.ret))
 (.skip)))))
 (.reg [xB .add 34 27 1, xm 27 34])))))))
 (.seq (.reg [⟨(some 2), .mv (.c (.bool true)), none⟩])
 (.ret)))))
theorem fn63 : IsFn prog 63 ac63 [.tmp 2] 35 := ⟨f63, ⟨[], []⟩, func63, by kernel_rfl, by kernel_rfl, by kernel_rfl, by kernel_rfl⟩
def ac77 : AC := .seq (.reg [⟨(some 1), .box 67 (.s 0), none⟩, ⟨(some 2), .mv (.c (.bool false)), none⟩])
 (.seq (.seq (.reg [xf 1 3 1, xo 4 3, xc 91 5 [.s 4], ⟨(some 6), .not (.s 5), none⟩])
 (.cond (.s 6) (.seq (.reg [⟨(some 2), .mv (.c (.bool false)), none⟩])
 (.ret))
 (.skip)))
 (.seq (.seq (.reg [xf 0 7 1, xo 8 7])
 (.block 0 (.seq (.seq (.reg [xB .eql 10 8 1, xm 9 10])
 (.cond (.s 9) (.skip)
 (.reg [xB .eql 11 8 2, xm 9 11])))
 (.cond (.s 9) (.seq (.reg [xf 2 12 1, xl 65 13 12, ⟨(some 14), .build relZ [], none⟩, xc 92 15 [.s 13, .s 14], xm 2 15])
 (.ret))
 (.seq (.reg [xB .eql 17 8 3, xm 16 17])
 (.cond (.s 16) (.seq (.reg [xf 2 18 1, xf 0 19 18, xo 20 19, xf 1 21 1, xo 22 21, xL 23 22, xb .eql 24 20 23, xm 25 24, xg 25 (xf 2 26 1), xg 25 (xl 65 27 26), xg 25 (xc 93 28 [.s 27]), ⟨(some 29), .pick (.s 25) (.s 28) (.c (.bool false)), none⟩, xm 2 29])
 (.ret))
 (.seq (.reg [xB .eql 31 8 4, xm 30 31])
 (.cond (.s 30) (.seq (.reg [xf 2 32 1, xf 0 33 32, xo 34 33, xf 1 35 1, xo 36 35, xL 37 36, xb .eql 38 34 37, xm 39 38, xg 39 (xf 2 40 1), xg 39 (xl 65 41 40), xg 39 (xc 94 42 [.s 41]), ⟨(some 43), .pick (.s 39) (.s 42) (.c (.bool false)), none⟩, xm 2 43])
 (.ret))
 (.skip)))))))))
 (.seq (.reg [⟨(some 2), .mv (.c (.bool false)), none⟩])
 (.ret))))
theorem fn77 : IsFn prog 77 ac77 [.tmp 2] 44 := ⟨f77, ⟨[], []⟩, func77, by kernel_rfl, by kernel_rfl, by kernel_rfl, by kernel_rfl⟩
def z12_ := And.intro @am <| And.intro @amo <| And.intro @amc <| And.intro @ams <| And.intro @decide_true <| And.intro @decide_false <| And.intro @aml <| And.intro @w_zero <| And.intro @w_one <| And.intro @w_ones <| And.intro @w_and <| And.intro @w_or <| And.intro @w_andNot <| And.intro @w_shl <| And.intro @w_shr <| And.intro @w_add <| And.intro @w_sub <| And.intro @w_eq <| And.intro @binIV_shl <| And.intro @binIV_shr <| And.intro @Rl.rec_ <| And.intro @Fct.rec_ <| And.intro @Shp.rec_ <| And.intro @Elm.rec_ <| And.intro @Int.toNat_natCast <| And.intro @Nat.mul_one <| And.intro @iCells_len <| And.intro @sCells_len @Nat.add_zero
def z13_ := And.intro @am <| And.intro @amo <| And.intro @amc <| And.intro @encs_length <| And.intro @decide_true <| And.intro @decide_false <| And.intro @aml <| And.intro @w_zero <| And.intro @w_one <| And.intro @w_ones <| And.intro @w_and <| And.intro @w_or <| And.intro @w_andNot <| And.intro @w_shl <| And.intro @w_shr <| And.intro @w_add <| And.intro @w_sub <| And.intro @w_eq <| And.intro @binIV_shl <| And.intro @binIV_shr <| And.intro @Rl.rec_ <| And.intro @Fct.rec_ <| And.intro @Shp.rec_ <| And.intro @Elm.rec_ <| And.intro @Int.toNat_natCast <| And.intro @Nat.mul_one <| And.intro @iCells_len <| And.intro @sCells_len @Nat.add_zero
theorem factor_calls (f : Fct) {σ : Store} (hg : TZ σ) (hl : f.names.length ≤ 100000) : PCalls prog 77 [.agg f.enc] σ fun v σ' => v = .bool (facR f) ∧ σ' = σ := by
  refine fn77.calls ?_
  simp only [slots, ac77, z12_, Nat.reduceAdd, Nat.reduceEqDiff, Int.reduceEq, Int.reduceLT, Int.reduceLE, Nat.reduceLT, Int.reduceToNat, Nat.reduceMul, if_false, reduceCtorEq, List.length_map]
  refine (named_calls f.names σ hl).mono ?_
  rintro v σ ⟨rfl, rfl⟩
  cases hn : namedS f.names with
  | false =>
    simp only [z13_, Nat.reduceAdd, Nat.reduceEqDiff, List.length_map, Int.reduceEq, Int.reduceLT, Int.reduceLE, Nat.reduceLT, Int.reduceToNat, Nat.reduceMul, if_false, reduceCtorEq]
    refine retK_intro rfl (Store.sub_refl _) ⟨?_, rfl⟩
    simp [V.erase, eraseL, facR, hn]
  | true =>
    simp only [z13_, Nat.reduceAdd, Nat.reduceEqDiff, List.length_map, Int.reduceEq, Int.reduceLT, Int.reduceLE, Nat.reduceLT, Int.reduceToNat, Nat.reduceMul, if_false, reduceCtorEq]
    by_cases h1 : f.kind = 1
    · simp only [z13_, Nat.reduceAdd, Nat.reduceEqDiff, List.length_map, Int.reduceEq, Int.reduceLT, Int.reduceLE, Nat.reduceLT, Int.reduceToNat, Nat.reduceMul, if_false, reduceCtorEq, decide_eq_true h1]
      refine (same_calls f.rel Rl.zero σ).mono ?_
      rintro v σ ⟨rfl, rfl⟩
      simp only [z13_, Nat.reduceAdd, Nat.reduceEqDiff, List.length_map, Int.reduceEq, Int.reduceLT, Int.reduceLE, Nat.reduceLT, Int.reduceToNat, Nat.reduceMul, if_false, reduceCtorEq, plain_zero]
      refine retK_intro rfl (Store.sub_refl _) ⟨?_, rfl⟩
      simp [V.erase, eraseL, facR, hn, h1]
    · simp only [z13_, Nat.reduceAdd, Nat.reduceEqDiff, List.length_map, Int.reduceEq, Int.reduceLT, Int.reduceLE, Nat.reduceLT, Int.reduceToNat, Nat.reduceMul, if_false, reduceCtorEq, decide_eq_false h1]
      by_cases h2 : f.kind = 2
      · simp only [z13_, Nat.reduceAdd, Nat.reduceEqDiff, List.length_map, Int.reduceEq, Int.reduceLT, Int.reduceLE, Nat.reduceLT, Int.reduceToNat, Nat.reduceMul, if_false, reduceCtorEq, decide_eq_true h2]
        refine (same_calls f.rel Rl.zero σ).mono ?_
        rintro v σ ⟨rfl, rfl⟩
        simp only [z13_, Nat.reduceAdd, Nat.reduceEqDiff, List.length_map, Int.reduceEq, Int.reduceLT, Int.reduceLE, Nat.reduceLT, Int.reduceToNat, Nat.reduceMul, if_false, reduceCtorEq, plain_zero]
        refine retK_intro rfl (Store.sub_refl _) ⟨?_, rfl⟩
        simp [V.erase, eraseL, facR, hn, h2]
      · simp only [z13_, Nat.reduceAdd, Nat.reduceEqDiff, List.length_map, Int.reduceEq, Int.reduceLT, Int.reduceLE, Nat.reduceLT, Int.reduceToNat, Nat.reduceMul, if_false, reduceCtorEq, decide_eq_false h2]
        by_cases h3 : f.kind = 3
        · simp only [z13_, Nat.reduceAdd, Nat.reduceEqDiff, List.length_map, Int.reduceEq, Int.reduceLT, Int.reduceLE, Nat.reduceLT, Int.reduceToNat, Nat.reduceMul, if_false, reduceCtorEq, decide_eq_true h3]
          by_cases h4 : f.rel.n = f.names.length
          · simp only [z13_, Nat.reduceAdd, Nat.reduceEqDiff, List.length_map, Int.reduceEq, Int.reduceLT, Int.reduceLE, Nat.reduceLT, Int.reduceToNat, Nat.reduceMul, if_false, reduceCtorEq, decide_eq_true h4]
            refine (gright_calls f.rel σ).mono ?_
            rintro v σ ⟨rfl, rfl⟩
            simp only [z13_, Nat.reduceAdd, Nat.reduceEqDiff, List.length_map, Int.reduceEq, Int.reduceLT, Int.reduceLE, Nat.reduceLT, Int.reduceToNat, Nat.reduceMul, if_false, reduceCtorEq]
            refine retK_intro rfl (Store.sub_refl _) ⟨?_, rfl⟩
            simp [V.erase, eraseL, facR, hn, h3, h4]
          · simp only [z13_, Nat.reduceAdd, Nat.reduceEqDiff, List.length_map, Int.reduceEq, Int.reduceLT, Int.reduceLE, Nat.reduceLT, Int.reduceToNat, Nat.reduceMul, if_false, reduceCtorEq, decide_eq_false h4]
            refine retK_intro rfl (Store.sub_refl _) ⟨?_, rfl⟩
            simp [V.erase, eraseL, facR, hn, h3, h4]
        · simp only [z13_, Nat.reduceAdd, Nat.reduceEqDiff, List.length_map, Int.reduceEq, Int.reduceLT, Int.reduceLE, Nat.reduceLT, Int.reduceToNat, Nat.reduceMul, if_false, reduceCtorEq, decide_eq_false h3]
          by_cases h5 : f.kind = 4
          · simp only [z13_, Nat.reduceAdd, Nat.reduceEqDiff, List.length_map, Int.reduceEq, Int.reduceLT, Int.reduceLE, Nat.reduceLT, Int.reduceToNat, Nat.reduceMul, if_false, reduceCtorEq, decide_eq_true h5]
            by_cases h4 : f.rel.n = f.names.length
            · simp only [z13_, Nat.reduceAdd, Nat.reduceEqDiff, List.length_map, Int.reduceEq, Int.reduceLT, Int.reduceLE, Nat.reduceLT, Int.reduceToNat, Nat.reduceMul, if_false, reduceCtorEq, decide_eq_true h4]
              refine (lattice_calls f.rel hg).mono ?_
              rintro v σ ⟨rfl, rfl⟩
              simp only [z13_, Nat.reduceAdd, Nat.reduceEqDiff, List.length_map, Int.reduceEq, Int.reduceLT, Int.reduceLE, Nat.reduceLT, Int.reduceToNat, Nat.reduceMul, if_false, reduceCtorEq]
              refine retK_intro rfl (Store.sub_refl _) ⟨?_, rfl⟩
              simp [V.erase, eraseL, facR, hn, h5, h4]
            · simp only [z13_, Nat.reduceAdd, Nat.reduceEqDiff, List.length_map, Int.reduceEq, Int.reduceLT, Int.reduceLE, Nat.reduceLT, Int.reduceToNat, Nat.reduceMul, if_false, reduceCtorEq, decide_eq_false h4]
              refine retK_intro rfl (Store.sub_refl _) ⟨?_, rfl⟩
              simp [V.erase, eraseL, facR, hn, h5, h4]
          · simp only [z13_, Nat.reduceAdd, Nat.reduceEqDiff, List.length_map, Int.reduceEq, Int.reduceLT, Int.reduceLE, Nat.reduceLT, Int.reduceToNat, Nat.reduceMul, if_false, reduceCtorEq, decide_eq_false h5]
            refine retK_intro rfl (Store.sub_refl _) ⟨?_, rfl⟩
            simp [V.erase, eraseL, facR, hn, h1, h2, h3, h5]
theorem facs_at {l : List Fct} {j : Nat} (h : j < l.length) : (l.map Fct.enc)[((j : Nat) : Int).toNat]? = some l[j].enc := by simp [h]
theorem shpR_bad {s : Shp} {i : Nat} (hi : i < s.facs.length) (h : facR s.facs[i] = false) : shpR s = false := by
  cases hq : shpR s with
  | false => rfl
  | true =>
    simp only [shpR, Bool.and_eq_true, List.all_eq_true] at hq
    rw [hq.2 _ (List.getElem_mem hi)] at h; simp at h
theorem shpR_ok {s : Shp} (h1 : 1 ≤ s.facs.length) (h2 : s.facs.length ≤ 8) (h3 : s.tuple = true ∨ s.facs.length = 1) (h : ∀ k (hk : k < s.facs.length), facR s.facs[k] = true) : shpR s = true := by
  simp only [shpR, Bool.and_eq_true, List.all_eq_true, decide_eq_true_eq, Bool.or_eq_true]
  refine ⟨⟨⟨h1, h2⟩, h3⟩, fun f hf => ?_⟩
  obtain ⟨k, hk, rfl⟩ := List.mem_iff_getElem.1 hf
  exact h k hk
def z14_ := And.intro @am <| And.intro @amo <| And.intro @amc <| And.intro @aml <| And.intro @decide_true <| And.intro @decide_false <| And.intro @w_zero <| And.intro @w_one <| And.intro @w_ones <| And.intro @w_and <| And.intro @w_or <| And.intro @w_andNot <| And.intro @w_shl <| And.intro @w_shr <| And.intro @w_add <| And.intro @w_sub <| And.intro @w_eq <| And.intro @binIV_shl <| And.intro @binIV_shr <| And.intro @Rl.rec_ <| And.intro @Fct.rec_ <| And.intro @Shp.rec_ <| And.intro @Elm.rec_ <| And.intro @Int.toNat_natCast <| And.intro @Nat.mul_one <| And.intro @iCells_len <| And.intro @sCells_len @Nat.add_zero
theorem shright_calls (s : Shp) {σ : Store} (hg : TZ σ) (hok : s.ok) : PCalls prog 63 [.agg s.enc] σ fun v σ' => v = .bool (shpR s) ∧ σ' = σ := by
  refine fn63.calls ?_
  simp only [slots, ac63, z12_, Nat.reduceAdd, Nat.reduceEqDiff, Int.reduceEq, Int.reduceLT, Int.reduceLE, Nat.reduceLT, Int.reduceToNat, Nat.reduceMul, if_false, reduceCtorEq, List.length_map]
  by_cases h1 : s.facs.length < 1
  · simp only [z13_, Nat.reduceAdd, Nat.reduceEqDiff, List.length_map, Int.reduceEq, Int.reduceLT, Int.reduceLE, Nat.reduceLT, Int.reduceToNat, Nat.reduceMul, if_false, reduceCtorEq, decide_eq_true (show (s.facs.length : Int) < 1 by omega)]
    refine retK_intro rfl (Store.sub_refl _) ⟨?_, rfl⟩
    simp [V.erase, eraseL, shpR]
    omega
  · simp only [z13_, Nat.reduceAdd, Nat.reduceEqDiff, List.length_map, Int.reduceEq, Int.reduceLT, Int.reduceLE, Nat.reduceLT, Int.reduceToNat, Nat.reduceMul, if_false, reduceCtorEq, decide_eq_false (show ¬ (s.facs.length : Int) < 1 by omega)]
    by_cases h2 : 8 < s.facs.length
    · simp only [z13_, Nat.reduceAdd, Nat.reduceEqDiff, List.length_map, Int.reduceEq, Int.reduceLT, Int.reduceLE, Nat.reduceLT, Int.reduceToNat, Nat.reduceMul, if_false, reduceCtorEq, decide_eq_true (show (8 : Int) < s.facs.length by omega)]
      refine retK_intro rfl (Store.sub_refl _) ⟨?_, rfl⟩
      simp [V.erase, eraseL, shpR]
      omega
    · simp only [z13_, Nat.reduceAdd, Nat.reduceEqDiff, List.length_map, Int.reduceEq, Int.reduceLT, Int.reduceLE, Nat.reduceLT, Int.reduceToNat, Nat.reduceMul, if_false, reduceCtorEq, decide_eq_false (show ¬ (8 : Int) < s.facs.length by omega)]
      have h3 : (∃ t, s.tuple = t ∧ (t = true ∨ s.facs.length = 1)) ∨ (s.tuple = false ∧ s.facs.length ≠ 1) := by
        cases ht : s.tuple with
        | true => exact .inl ⟨true, rfl, .inl rfl⟩
        | false =>
          by_cases hl : s.facs.length = 1
          · exact .inl ⟨false, rfl, .inr hl⟩
          · exact .inr ⟨rfl, hl⟩
      rcases h3 with ⟨t, ht, h3⟩ | ⟨ht, h3⟩
      · cases t
        case' false =>
          have h3 : s.facs.length = 1 := by simpa using h3
          simp only [z13_, Nat.reduceAdd, Nat.reduceEqDiff, List.length_map, Int.reduceEq, Int.reduceLT, Int.reduceLE, Nat.reduceLT, Int.reduceToNat, Nat.reduceMul, if_false, reduceCtorEq, ht, decide_eq_true (show (s.facs.length : Int) = 1 by omega)]
        case' true => simp only [z13_, Nat.reduceAdd, Nat.reduceEqDiff, List.length_map, Int.reduceEq, Int.reduceLT, Int.reduceLE, Nat.reduceLT, Int.reduceToNat, Nat.reduceMul, if_false, reduceCtorEq, ht]
        all_goals
          obtain ⟨F, hF⟩ : ∃ F : Nat → Unit → St, ∀ i x, F i x = ⟨[.any, .ptr (.loc 0) 0, .bool false, .any, .any, .any, .any, .any, .any, .any, .any, .any, .any, .any, .any, .any, .any, .any, .any, .any, .any, .any, .any, .any, .any, .sl .no 67 (s.facs.map Fct.enc), .int .i64 (s.facs.length : Nat), .int .i64 (i : Nat)] ++ List.replicate 7 .any, [s.enc], σ⟩ := ⟨_, fun _ _ => rfl⟩
          obtain ⟨JF, hJF⟩ : ∃ JF : Nat → Unit → Prop, ∀ i x, JF i x = (∀ k, k < i → ∀ hk : k < s.facs.length, facR s.facs[k] = true) := ⟨_, fun _ _ => rfl⟩
          refine vc_count (s.facs.length) F JF _ hJF ?_ ?_ ?_
          · refine ent (()) ?_ ?_ ?_ ?_
            · exact Eq.mpr (hJF _ _) (by intro k h; omega)
            all_goals simp [hF, List.replicate, am, lle_self]
          · rintro i x hi hJ
            simp only [hF, List.replicate, z14_, dlt hi, Nat.reduceAdd, Nat.reduceEqDiff, Int.reduceEq, Int.reduceLT, Int.reduceLE, Nat.reduceLT, Int.reduceToNat, Nat.reduceMul, if_false, reduceCtorEq, List.length_map]
            refine idxL_intro (by omega) (facs_at hi) ?_
            simp only [z13_, Nat.reduceAdd, Nat.reduceEqDiff, List.length_map, Int.reduceEq, Int.reduceLT, Int.reduceLE, Nat.reduceLT, Int.reduceToNat, Nat.reduceMul, if_false, reduceCtorEq]
            refine (factor_calls s.facs[i] hg (hok.2 _ (List.getElem_mem hi))).mono ?_
            rintro v σ ⟨rfl, rfl⟩
            cases hb : facR s.facs[i] with
            | false =>
              simp only [z13_, Nat.reduceAdd, Nat.reduceEqDiff, List.length_map, Int.reduceEq, Int.reduceLT, Int.reduceLE, Nat.reduceLT, Int.reduceToNat, Nat.reduceMul, if_false, reduceCtorEq]
              refine retK_intro rfl (Store.sub_refl _) ⟨?_, rfl⟩
              simp [V.erase, eraseL, shpR_bad hi hb]
            | true =>
              simp only [z13_, Nat.reduceAdd, Nat.reduceEqDiff, List.length_map, Int.reduceEq, Int.reduceLT, Int.reduceLE, Nat.reduceLT, Int.reduceToNat, Nat.reduceMul, if_false, reduceCtorEq, winc hi (by omega)]
              refine nxtD (()) hi ?_ ?_ ?_ ?_ ?_ ?_
              · exact Eq.mpr (hJF _ _) (allS hJ (fun _ => hb))
              all_goals simp [hF, List.replicate, am, lle_self, loL, loLL, V.lo, Shp.r_lo]
          · rintro x hJ
            have e := shpR_ok (s := s) (by omega) (by omega) (by first | exact .inr h3 | exact .inl ht) fun k hk => hJ k hk hk
            simp only [hF, List.replicate, z14_, dnl, Nat.reduceAdd, Nat.reduceEqDiff, Int.reduceEq, Int.reduceLT, Int.reduceLE, Nat.reduceLT, Int.reduceToNat, Nat.reduceMul, if_false, reduceCtorEq, List.length_map]
            refine retK_intro rfl (Store.sub_refl _) ⟨?_, rfl⟩
            simp [V.erase, eraseL, e]
      · have e : shpR s = false := by simp [shpR, ht, h3]
        simp only [z13_, Nat.reduceAdd, Nat.reduceEqDiff, List.length_map, Int.reduceEq, Int.reduceLT, Int.reduceLE, Nat.reduceLT, Int.reduceToNat, Nat.reduceMul, if_false, reduceCtorEq, ht, decide_eq_false (show ¬ (s.facs.length : Int) = 1 by omega)]
        refine retK_intro rfl (Store.sub_refl _) ⟨?_, rfl⟩
        simp [V.erase, eraseL, e]
theorem meetE_fill {a b : Elm} {i : Nat} (hi : i < 8) : (Elm.of fun j => if j < i then a.get j &&& b.get j else a.get j).put i (a.get i &&& b.get i) = Elm.of fun j => if j < i + 1 then a.get j &&& b.get j else a.get j := Elm.fill2 (f := fun j => a.get j &&& b.get j) (g := a.get)
theorem fill2_get {i : Nat} {f g : Nat → B64} (hi : i < 8) : (Elm.of fun j => if j < i then f j else g j).get i = g i := by rw [Elm.get_of hi, if_neg (Nat.lt_irrefl _)]
theorem meet_calls7 (a b : Elm) (σ : Store) : PCalls prog 54 [.agg a.enc, .agg b.enc] σ fun v σ' => v = .agg (meetE a b).enc ∧ σ' = σ := by
  refine fn54.calls ?_
  simp only [slots, ac54, z12_, Nat.reduceAdd, Nat.reduceEqDiff, Int.reduceEq, Int.reduceLT, Int.reduceLE, Nat.reduceLT, Int.reduceToNat, Nat.reduceMul, if_false, reduceCtorEq, List.length_map]
  obtain ⟨F, hF⟩ : ∃ F : Nat → Unit → St, ∀ i x, F i x = ⟨[.any, .any, .ptr (.loc 0) 0, .ptr (.loc 1) 0, .ptr (.loc 2) 0, .any, .int .i64 (i : Nat)] ++ List.replicate 12 .any, [(Elm.of fun j => if j < i then a.get j &&& b.get j else a.get j).enc, b.enc, Elm.zero.enc], σ⟩ := ⟨_, fun _ _ => rfl⟩
  obtain ⟨JF, hJF⟩ : ∃ JF : Nat → Unit → Prop, ∀ i x, JF i x = (True) := ⟨_, fun _ _ => rfl⟩
  refine vc_count (8) F JF _ hJF ?_ ?_ ?_
  · refine ent (()) ?_ ?_ ?_ ?_
    · exact Eq.mpr (hJF _ _) (trivial)
    all_goals simp [hF, List.replicate, am, lle_self, Elm.of_get]
  · rintro i x hi -
    simp only [hF, List.replicate, z14_, dlt hi, Nat.reduceAdd, Nat.reduceEqDiff, Int.reduceEq, Int.reduceLT, Int.reduceLE, Nat.reduceLT, Int.reduceToNat, Nat.reduceMul, if_false, reduceCtorEq, List.length_map, show decide ((i : Int) < 8) = true from dlt hi]
    refine idxPL_ptr (by omega) (by omega) ?_
    simp only [z13_, Nat.reduceAdd, Nat.reduceEqDiff, List.length_map, Int.reduceEq, Int.reduceLT, Int.reduceLE, Nat.reduceLT, Int.reduceToNat, Nat.reduceMul, if_false, reduceCtorEq, Elm.u_ld hi, fill2_get hi]
    refine idxPL_ptr (by omega) (by omega) ?_
    simp only [z13_, Nat.reduceAdd, Nat.reduceEqDiff, List.length_map, Int.reduceEq, Int.reduceLT, Int.reduceLE, Nat.reduceLT, Int.reduceToNat, Nat.reduceMul, if_false, reduceCtorEq, Elm.u_ld hi]
    refine idxPL_ptr (by omega) (by omega) ?_
    simp only [z13_, Nat.reduceAdd, Nat.reduceEqDiff, List.length_map, Int.reduceEq, Int.reduceLT, Int.reduceLE, Nat.reduceLT, Int.reduceToNat, Nat.reduceMul, if_false, reduceCtorEq, Elm.u_has hi, Elm.u_st hi, meetE_fill hi, winc hi (by omega)]
    refine nxt (()) hi ?_ ?_ ?_ ?_
    · exact Eq.mpr (hJF _ _) (trivial)
    all_goals simp [hF, List.replicate, am, lle_self]
  · rintro x -
    simp only [hF, List.replicate, z14_, dnl, Nat.reduceAdd, Nat.reduceEqDiff, Int.reduceEq, Int.reduceLT, Int.reduceLE, Nat.reduceLT, Int.reduceToNat, Nat.reduceMul, if_false, reduceCtorEq, List.length_map, show decide (((8 : Nat) : Int) < 8) = false from rfl]
    rw [Elm.full]
    exact retK_intro (v := .agg (meetE a b).enc) Elm.r_nol (Store.sub_refl _) ⟨by simp only [V.erase, Elm.r_er], rfl⟩
theorem join_calls7 (s : Shp) (a b : Elm) {σ : Store} (hg : TZ σ) (hok : s.ok) : PCalls prog 53 [.agg s.enc, .agg a.enc, .agg b.enc] σ fun v σ' => v = .agg (joinE s a b).enc ∧ σ' = σ := by
  refine fn53.calls ?_
  simp only [slots, ac53, z12_, Nat.reduceAdd, Nat.reduceEqDiff, Int.reduceEq, Int.reduceLT, Int.reduceLE, Nat.reduceLT, Int.reduceToNat, Nat.reduceMul, if_false, reduceCtorEq, List.length_map]
  obtain ⟨F, hF⟩ : ∃ F : Nat → Unit → St, ∀ i x, F i x = ⟨[.any, .any, .any, .ptr (.loc 0) 0, .ptr (.loc 1) 0, .ptr (.loc 2) 0, .ptr (.loc 3) 0, .any, .int .i64 (i : Nat)] ++ List.replicate 41 .any, [s.enc, (Elm.of fun j => if j < i then joinF s a b j else a.get j).enc, b.enc, Elm.zero.enc], σ⟩ := ⟨_, fun _ _ => rfl⟩
  obtain ⟨JF, hJF⟩ : ∃ JF : Nat → Unit → Prop, ∀ i x, JF i x = (True) := ⟨_, fun _ _ => rfl⟩
  refine vc_count (8) F JF _ hJF ?_ ?_ ?_
  · refine ent (()) ?_ ?_ ?_ ?_
    · exact Eq.mpr (hJF _ _) (trivial)
    all_goals simp [hF, List.replicate, am, lle_self, Elm.of_get]
  · rintro i x hi -
    simp only [hF, List.replicate, z14_, dlt hi, Nat.reduceAdd, Nat.reduceEqDiff, Int.reduceEq, Int.reduceLT, Int.reduceLE, Nat.reduceLT, Int.reduceToNat, Nat.reduceMul, if_false, reduceCtorEq, List.length_map, show decide ((i : Int) < 8) = true from dlt hi]
    by_cases hl : i < s.facs.length
    · simp only [z13_, Nat.reduceAdd, Nat.reduceEqDiff, List.length_map, Int.reduceEq, Int.reduceLT, Int.reduceLE, Nat.reduceLT, Int.reduceToNat, Nat.reduceMul, if_false, reduceCtorEq, dlt hl]
      refine idxL_intro (by omega) (facs_at hl) ?_
      simp only [z13_, Nat.reduceAdd, Nat.reduceEqDiff, List.length_map, Int.reduceEq, Int.reduceLT, Int.reduceLE, Nat.reduceLT, Int.reduceToNat, Nat.reduceMul, if_false, reduceCtorEq]
      have hf : s.facs[i]? = some s.facs[i] := List.getElem?_eq_getElem hl
      by_cases hk : s.facs[i].kind = 4
      · have e : raiseH s.facs[i].rel (a.get i) (b.get i) = joinF s a b i := by simp only [joinF, hf, if_pos hk]
        simp only [z13_, Nat.reduceAdd, Nat.reduceEqDiff, List.length_map, Int.reduceEq, Int.reduceLT, Int.reduceLE, Nat.reduceLT, Int.reduceToNat, Nat.reduceMul, if_false, reduceCtorEq, decide_eq_true hk]
        refine idxL_intro (by omega) (facs_at hl) ?_
        simp only [z13_, Nat.reduceAdd, Nat.reduceEqDiff, List.length_map, Int.reduceEq, Int.reduceLT, Int.reduceLE, Nat.reduceLT, Int.reduceToNat, Nat.reduceMul, if_false, reduceCtorEq]
        refine idxPL_ptr (by omega) (by omega) ?_
        simp only [z13_, Nat.reduceAdd, Nat.reduceEqDiff, List.length_map, Int.reduceEq, Int.reduceLT, Int.reduceLE, Nat.reduceLT, Int.reduceToNat, Nat.reduceMul, if_false, reduceCtorEq, Elm.u_ld hi, fill2_get hi]
        refine idxPL_ptr (by omega) (by omega) ?_
        simp only [z13_, Nat.reduceAdd, Nat.reduceEqDiff, List.length_map, Int.reduceEq, Int.reduceLT, Int.reduceLE, Nat.reduceLT, Int.reduceToNat, Nat.reduceMul, if_false, reduceCtorEq, Elm.u_ld hi]
        refine CallD.intro (raise_calls s.facs[i].rel (a.get i) (b.get i) hg) ?_
        simp only [z13_, Nat.reduceAdd, Nat.reduceEqDiff, List.length_map, Int.reduceEq, Int.reduceLT, Int.reduceLE, Nat.reduceLT, Int.reduceToNat, Nat.reduceMul, if_false, reduceCtorEq]
        refine idxPL_ptr (by omega) (by omega) ?_
        simp only [z13_, Nat.reduceAdd, Nat.reduceEqDiff, List.length_map, Int.reduceEq, Int.reduceLT, Int.reduceLE, Nat.reduceLT, Int.reduceToNat, Nat.reduceMul, if_false, reduceCtorEq, Elm.u_has hi, Elm.u_st hi, e, Elm.fill2, winc hi (by omega)]
        refine nxt (()) hi ?_ ?_ ?_ ?_
        · exact Eq.mpr (hJF _ _) (trivial)
        all_goals simp [hF, List.replicate, am, lle_self]
      · have e : a.get i ||| b.get i = joinF s a b i := by simp only [joinF, hf, if_neg hk]
        simp only [z13_, Nat.reduceAdd, Nat.reduceEqDiff, List.length_map, Int.reduceEq, Int.reduceLT, Int.reduceLE, Nat.reduceLT, Int.reduceToNat, Nat.reduceMul, if_false, reduceCtorEq, decide_eq_false hk]
        refine idxPL_ptr (by omega) (by omega) ?_
        simp only [z13_, Nat.reduceAdd, Nat.reduceEqDiff, List.length_map, Int.reduceEq, Int.reduceLT, Int.reduceLE, Nat.reduceLT, Int.reduceToNat, Nat.reduceMul, if_false, reduceCtorEq, Elm.u_ld hi, fill2_get hi]
        refine idxPL_ptr (by omega) (by omega) ?_
        simp only [z13_, Nat.reduceAdd, Nat.reduceEqDiff, List.length_map, Int.reduceEq, Int.reduceLT, Int.reduceLE, Nat.reduceLT, Int.reduceToNat, Nat.reduceMul, if_false, reduceCtorEq, Elm.u_ld hi]
        refine idxPL_ptr (by omega) (by omega) ?_
        simp only [z13_, Nat.reduceAdd, Nat.reduceEqDiff, List.length_map, Int.reduceEq, Int.reduceLT, Int.reduceLE, Nat.reduceLT, Int.reduceToNat, Nat.reduceMul, if_false, reduceCtorEq, Elm.u_has hi, Elm.u_st hi, e, Elm.fill2, winc hi (by omega)]
        refine nxt (()) hi ?_ ?_ ?_ ?_
        · exact Eq.mpr (hJF _ _) (trivial)
        all_goals simp [hF, List.replicate, am, lle_self]
    · have e : a.get i ||| b.get i = joinF s a b i := by simp only [joinF]; rw [List.getElem?_eq_none (by omega)]
      simp only [z13_, Nat.reduceAdd, Nat.reduceEqDiff, List.length_map, Int.reduceEq, Int.reduceLT, Int.reduceLE, Nat.reduceLT, Int.reduceToNat, Nat.reduceMul, if_false, reduceCtorEq, decide_eq_false (show ¬ (i : Int) < s.facs.length by omega)]
      refine idxPL_ptr (by omega) (by omega) ?_
      simp only [z13_, Nat.reduceAdd, Nat.reduceEqDiff, List.length_map, Int.reduceEq, Int.reduceLT, Int.reduceLE, Nat.reduceLT, Int.reduceToNat, Nat.reduceMul, if_false, reduceCtorEq, Elm.u_ld hi, fill2_get hi]
      refine idxPL_ptr (by omega) (by omega) ?_
      simp only [z13_, Nat.reduceAdd, Nat.reduceEqDiff, List.length_map, Int.reduceEq, Int.reduceLT, Int.reduceLE, Nat.reduceLT, Int.reduceToNat, Nat.reduceMul, if_false, reduceCtorEq, Elm.u_ld hi]
      refine idxPL_ptr (by omega) (by omega) ?_
      simp only [z13_, Nat.reduceAdd, Nat.reduceEqDiff, List.length_map, Int.reduceEq, Int.reduceLT, Int.reduceLE, Nat.reduceLT, Int.reduceToNat, Nat.reduceMul, if_false, reduceCtorEq, Elm.u_has hi, Elm.u_st hi, e, Elm.fill2, winc hi (by omega)]
      refine nxt (()) hi ?_ ?_ ?_ ?_
      · exact Eq.mpr (hJF _ _) (trivial)
      all_goals simp [hF, List.replicate, am, lle_self]
  · rintro x -
    simp only [hF, List.replicate, z14_, dnl, Nat.reduceAdd, Nat.reduceEqDiff, Int.reduceEq, Int.reduceLT, Int.reduceLE, Nat.reduceLT, Int.reduceToNat, Nat.reduceMul, if_false, reduceCtorEq, List.length_map, show decide (((8 : Nat) : Int) < 8) = false from rfl]
    rw [Elm.full]
    exact retK_intro (v := .agg (joinE s a b).enc) Elm.r_nol (Store.sub_refl _) ⟨by simp only [V.erase, Elm.r_er, joinE], rfl⟩
end Go.Proofs.Tryz

namespace Go.Proofs.Tryz
open Go.Am
set_option maxRecDepth 4000
set_option maxHeartbeats 4000000
def ac29 : AC := .seq (.reg [⟨(some 1), .box 2 (.s 0), none⟩, ⟨(some 2), .mv (.c (.bool false)), none⟩])
 (.seq (.seq (.reg [xf 1 4 1, xo 5 4, xL 6 5, xB .lss 7 6 1, xm 8 7, xh 8 (xf 1 9 1), xh 8 (xo 10 9), xh 8 (xL 11 10), xh 8 (xB .gtr 12 11 8), ⟨(some 13), .pick (.s 8) (.c (.bool true)) (.s 12), none⟩, xm 14 13, xh 14 (xf 0 15 1), xh 14 (xo 16 15), ⟨(some 17), .not (.s 16), (some (14, false))⟩, xh 14 (xm 18 17), xg 18 (xf 1 19 1), xg 18 (xo 20 19), xg 18 (xL 21 20), xg 18 (xB .neq 22 21 1), ⟨(some 23), .pick (.s 18) (.s 22) (.c (.bool false)), (some (14, false))⟩, ⟨(some 24), .pick (.s 14) (.c (.bool true)) (.s 23), none⟩])
 (.cond (.s 24) (.seq (.reg [⟨(some 2), .mv (.c (.bool false)), none⟩])
 (.ret))
 (.skip)))
 (.seq (.seq (.reg [xi 3 0])
 (.block 0 (.loop (.seq (.seq (.reg [xm 25 3, xf 1 26 1, xo 27 26, xL 28 27, xb .lss 29 25 28])
 (.cond (.s 29) (.skip)
 (.exit 0)))
 (.seq (.block 1 (.seq (.reg [xf 1 32 1, xo 33 32, xm 34 3, xA 67 35 33 34, xl 67 36 35, xc 46 37 [.s 36], ⟨(some 38), .not (.s 37), none⟩])
 (.cond (.s 38) (.seq (.reg [⟨(some 2), .mv (.c (.bool false)), none⟩])
 (.ret))
 (.skip))))
 (.reg [xm 30 3, xB .add 31 30 1, xm 3 31]))))))
 (.seq (.reg [⟨(some 2), .mv (.c (.bool true)), none⟩])
 (.ret))))
theorem fn29 : IsFn prog 29 ac29 [.tmp 2] 39 := ⟨f29, ⟨[], []⟩, func29, by kernel_rfl, by kernel_rfl, by kernel_rfl, by kernel_rfl⟩
def ac46 : AC := .seq (.reg [⟨(some 1), .box 67 (.s 0), none⟩, ⟨(some 2), .mv (.c (.bool false)), none⟩])
 (.seq (.reg [xf 1 5 1, xo 6 5, xL 7 6, xm 3 7])
 (.seq (.seq (.reg [xm 8 3, xB .lss 9 8 1, xm 10 9, xh 10 (xm 11 3), xh 10 (xB .gtr 12 11 64), ⟨(some 13), .pick (.s 10) (.c (.bool true)) (.s 12), none⟩, xm 14 13, xh 14 (xf 1 15 1), xh 14 (xo 16 15), xh 14 (xc 31 17 [.s 16]), xh 14 (xB .geq 18 17 0), ⟨(some 19), .pick (.s 14) (.c (.bool true)) (.s 18), none⟩])
 (.cond (.s 19) (.seq (.reg [⟨(some 2), .mv (.c (.bool false)), none⟩])
 (.ret))
 (.skip)))
 (.seq (.seq (.reg [xi 4 0])
 (.block 0 (.loop (.seq (.seq (.reg [xm 20 4, xm 21 3, xb .lss 22 20 21])
 (.cond (.s 22) (.skip)
 (.exit 0)))
 (.seq (.block 1 (.seq (.reg [xf 1 25 1, xo 26 25, xm 27 4, xA 1 28 26 27, xo 29 28, xc 30 30 [.s 29], ⟨(some 31), .not (.s 30), none⟩])
 (.cond (.s 31) (.seq (.reg [⟨(some 2), .mv (.c (.bool false)), none⟩])
 (.ret))
 (.skip))))
 (.reg [xm 23 4, xB .add 24 23 1, xm 4 24]))))))
 (.seq (.seq (.reg [xf 0 32 1, xo 33 32, xB .eql 34 33 1, xm 35 34, xh 35 (xf 0 36 1), xh 35 (xo 37 36), xh 35 (xB .eql 38 37 2), ⟨(some 39), .pick (.s 35) (.c (.bool true)) (.s 38), none⟩])
 (.cond (.s 39) (.seq (.reg [xf 2 40 1, xl 65 41 40, xc 69 42 [.s 41], xB .eql 43 42 0, xm 2 43])
 (.ret))
 (.skip)))
 (.seq (.seq (.reg [xf 0 44 1, xo 45 44, xB .eql 46 45 3])
 (.cond (.s 46) (.seq (.reg [xf 2 47 1, xf 0 48 47, xo 49 48, xm 50 3, xb .eql 51 49 50, xm 52 51, xg 52 (xf 2 53 1), xg 52 (xl 65 54 53), xg 52 (xc 70 55 [.s 54]), ⟨(some 56), .pick (.s 52) (.s 55) (.c (.bool false)), none⟩, xm 2 56])
 (.ret))
 (.skip)))
 (.seq (.reg [xf 0 57 1, xo 58 57, xB .eql 59 58 4, xm 60 59, xg 60 (xf 2 61 1), xg 60 (xf 0 62 61), xg 60 (xo 63 62), xg 60 (xm 64 3), xg 60 (xb .eql 65 63 64), ⟨(some 66), .pick (.s 60) (.s 65) (.c (.bool false)), none⟩, xm 67 66, xg 67 (xf 2 68 1), xg 67 (xl 65 69 68), xg 67 (xc 71 70 [.s 69]), ⟨(some 71), .pick (.s 67) (.s 70) (.c (.bool false)), none⟩, xm 2 71])
 (.ret)))))))
theorem fn46 : IsFn prog 46 ac46 [.tmp 2] 72 := ⟨f46, ⟨[], []⟩, func46, by kernel_rfl, by kernel_rfl, by kernel_rfl, by kernel_rfl⟩
theorem named_ok {l : List (List UInt8)} (h1 : 1 ≤ l.length) (h2 : l.length ≤ 64) (ht : twiceS l = none) (hJ : ∀ k, k < l.length → nameR (l.getD k []) = true) : namedS l = true := by
  simp only [namedS, ht, Bool.and_eq_true, List.all_eq_true, decide_eq_true_eq, Option.isNone_none, and_true]
  refine ⟨⟨h1, h2⟩, fun s hs => ?_⟩
  obtain ⟨k, hk, rfl⟩ := List.mem_iff_getElem.1 hs
  have := hJ k hk
  rwa [getD_at hk] at this
theorem named_bad {l : List (List UInt8)} {i : Nat} (hi : i < l.length) (hb : nameR (l.getD i []) = false) : namedS l = false := by
  cases hq : namedS l with
  | false => rfl
  | true =>
    simp only [namedS, Bool.and_eq_true, List.all_eq_true] at hq
    have hm : l.getD i [] ∈ l := by rw [getD_at hi]; exact List.getElem_mem hi
    rw [hq.2 _ hm] at hb; simp at hb
theorem rfactor_calls (f : Fct) (σ : Store) (hl : f.names.length ≤ 100000) : PCalls prog 46 [.agg f.enc] σ fun v σ' => v = .bool (facR f) ∧ σ' = σ := by
  refine fn46.calls ?_
  simp only [slots, ac46, z12_, Nat.reduceAdd, Nat.reduceEqDiff, Int.reduceEq, Int.reduceLT, Int.reduceLE, Nat.reduceLT, Int.reduceToNat, Nat.reduceMul, if_false, reduceCtorEq, List.length_map]
  have bad : namedS f.names = false → facR f = false := fun h => by rw [facR, h]; rfl
  by_cases h1 : f.names.length < 1
  · simp only [z13_, Nat.reduceAdd, Nat.reduceEqDiff, List.length_map, Int.reduceEq, Int.reduceLT, Int.reduceLE, Nat.reduceLT, Int.reduceToNat, Nat.reduceMul, if_false, reduceCtorEq, decide_eq_true (show (f.names.length : Int) < 1 by omega)]
    refine retK_intro rfl (Store.sub_refl _) ⟨?_, rfl⟩
    simp [V.erase, eraseL, bad (by simp [namedS]; omega)]
  · simp only [z13_, Nat.reduceAdd, Nat.reduceEqDiff, List.length_map, Int.reduceEq, Int.reduceLT, Int.reduceLE, Nat.reduceLT, Int.reduceToNat, Nat.reduceMul, if_false, reduceCtorEq, decide_eq_false (show ¬ (f.names.length : Int) < 1 by omega)]
    by_cases h2 : 64 < f.names.length
    · simp only [z13_, Nat.reduceAdd, Nat.reduceEqDiff, List.length_map, Int.reduceEq, Int.reduceLT, Int.reduceLE, Nat.reduceLT, Int.reduceToNat, Nat.reduceMul, if_false, reduceCtorEq, decide_eq_true (show (64 : Int) < f.names.length by omega)]
      refine retK_intro rfl (Store.sub_refl _) ⟨?_, rfl⟩
      simp [V.erase, eraseL, bad (by simp [namedS]; omega)]
    · simp only [z13_, Nat.reduceAdd, Nat.reduceEqDiff, List.length_map, Int.reduceEq, Int.reduceLT, Int.reduceLE, Nat.reduceLT, Int.reduceToNat, Nat.reduceMul, if_false, reduceCtorEq, decide_eq_false (show ¬ (64 : Int) < f.names.length by omega)]
      refine (rtwice_calls f.names σ hl).mono ?_
      rintro v σ ⟨rfl, rfl⟩
      simp only [z13_, Nat.reduceAdd, Nat.reduceEqDiff, List.length_map, Int.reduceEq, Int.reduceLT, Int.reduceLE, Nat.reduceLT, Int.reduceToNat, Nat.reduceMul, if_false, reduceCtorEq, optI_nn]
      cases ht : twiceS f.names with
      | some k =>
        simp only [z13_, Nat.reduceAdd, Nat.reduceEqDiff, List.length_map, Int.reduceEq, Int.reduceLT, Int.reduceLE, Nat.reduceLT, Int.reduceToNat, Nat.reduceMul, if_false, reduceCtorEq, Option.isSome_some]
        refine retK_intro rfl (Store.sub_refl _) ⟨?_, rfl⟩
        simp [V.erase, eraseL, bad (by simp [namedS, ht])]
      | none =>
        simp only [z13_, Nat.reduceAdd, Nat.reduceEqDiff, List.length_map, Int.reduceEq, Int.reduceLT, Int.reduceLE, Nat.reduceLT, Int.reduceToNat, Nat.reduceMul, if_false, reduceCtorEq, Option.isSome_none]
        obtain ⟨F, hF⟩ : ∃ F : Nat → Unit → St, ∀ i x, F i x = ⟨[.any, .ptr (.loc 0) 0, .any, .int .i64 (f.names.length : Nat), .int .i64 (i : Nat)] ++ List.replicate 67 .any, [f.enc], σ⟩ := ⟨_, fun _ _ => rfl⟩
        obtain ⟨JF, hJF⟩ : ∃ JF : Nat → Unit → Prop, ∀ i x, JF i x = (∀ k, k < i → nameR (f.names.getD k []) = true) := ⟨_, fun _ _ => rfl⟩
        refine vc_count (f.names.length) F JF _ hJF ?_ ?_ ?_
        · refine ent (()) ?_ ?_ ?_ ?_
          · exact Eq.mpr (hJF _ _) (by intro k h; omega)
          all_goals simp [hF, List.replicate, am, lle_self]
        · rintro i x hi hJ
          simp only [hF, List.replicate, z14_, dlt hi, Nat.reduceAdd, Nat.reduceEqDiff, Int.reduceEq, Int.reduceLT, Int.reduceLE, Nat.reduceLT, Int.reduceToNat, Nat.reduceMul, if_false, reduceCtorEq, List.length_map]
          refine idxL_intro (by omega) (sCells_at hi) ?_
          simp only [z13_, Nat.reduceAdd, Nat.reduceEqDiff, List.length_map, Int.reduceEq, Int.reduceLT, Int.reduceLE, Nat.reduceLT, Int.reduceToNat, Nat.reduceMul, if_false, reduceCtorEq]
          refine (right2_calls _ σ).mono ?_
          rintro v σ ⟨rfl, rfl⟩
          simp only [z13_, Nat.reduceAdd, Nat.reduceEqDiff, List.length_map, Int.reduceEq, Int.reduceLT, Int.reduceLE, Nat.reduceLT, Int.reduceToNat, Nat.reduceMul, if_false, reduceCtorEq]
          cases hb : nameR (f.names.getD i []) with
          | false =>
            simp only [z13_, Nat.reduceAdd, Nat.reduceEqDiff, List.length_map, Int.reduceEq, Int.reduceLT, Int.reduceLE, Nat.reduceLT, Int.reduceToNat, Nat.reduceMul, if_false, reduceCtorEq]
            refine retK_intro rfl (Store.sub_refl _) ⟨?_, rfl⟩
            simp [V.erase, eraseL, bad (named_bad hi hb)]
          | true =>
            simp only [z13_, Nat.reduceAdd, Nat.reduceEqDiff, List.length_map, Int.reduceEq, Int.reduceLT, Int.reduceLE, Nat.reduceLT, Int.reduceToNat, Nat.reduceMul, if_false, reduceCtorEq, winc hi (by omega)]
            refine nxt (()) hi ?_ ?_ ?_ ?_
            · exact Eq.mpr (hJF _ _) (allS hJ hb)
            all_goals simp [hF, List.replicate, am, lle_self]
        · rintro x hJ
          have hn : namedS f.names = true := named_ok (by omega) (by omega) ht hJ
          simp only [hF, List.replicate, z14_, dnl, Nat.reduceAdd, Nat.reduceEqDiff, Int.reduceEq, Int.reduceLT, Int.reduceLE, Nat.reduceLT, Int.reduceToNat, Nat.reduceMul, if_false, reduceCtorEq, List.length_map]
          by_cases h1 : f.kind = 1
          · simp only [z13_, Nat.reduceAdd, Nat.reduceEqDiff, List.length_map, Int.reduceEq, Int.reduceLT, Int.reduceLE, Nat.reduceLT, Int.reduceToNat, Nat.reduceMul, if_false, reduceCtorEq, decide_eq_true h1]
            refine (rpoints_calls f.rel σ).mono ?_
            rintro v σ ⟨rfl, rfl⟩
            simp only [z13_, Nat.reduceAdd, Nat.reduceEqDiff, List.length_map, Int.reduceEq, Int.reduceLT, Int.reduceLE, Nat.reduceLT, Int.reduceToNat, Nat.reduceMul, if_false, reduceCtorEq]
            refine retK_intro rfl (Store.sub_refl _) ⟨?_, rfl⟩
            simp [V.erase, eraseL, facR, hn, h1]
          · simp only [z13_, Nat.reduceAdd, Nat.reduceEqDiff, List.length_map, Int.reduceEq, Int.reduceLT, Int.reduceLE, Nat.reduceLT, Int.reduceToNat, Nat.reduceMul, if_false, reduceCtorEq, decide_eq_false h1]
            by_cases h2 : f.kind = 2
            · simp only [z13_, Nat.reduceAdd, Nat.reduceEqDiff, List.length_map, Int.reduceEq, Int.reduceLT, Int.reduceLE, Nat.reduceLT, Int.reduceToNat, Nat.reduceMul, if_false, reduceCtorEq, decide_eq_true h2]
              refine (rpoints_calls f.rel σ).mono ?_
              rintro v σ ⟨rfl, rfl⟩
              simp only [z13_, Nat.reduceAdd, Nat.reduceEqDiff, List.length_map, Int.reduceEq, Int.reduceLT, Int.reduceLE, Nat.reduceLT, Int.reduceToNat, Nat.reduceMul, if_false, reduceCtorEq]
              refine retK_intro rfl (Store.sub_refl _) ⟨?_, rfl⟩
              simp [V.erase, eraseL, facR, hn, h2]
            · simp only [z13_, Nat.reduceAdd, Nat.reduceEqDiff, List.length_map, Int.reduceEq, Int.reduceLT, Int.reduceLE, Nat.reduceLT, Int.reduceToNat, Nat.reduceMul, if_false, reduceCtorEq, decide_eq_false h2]
              by_cases h3 : f.kind = 3
              · simp only [z13_, Nat.reduceAdd, Nat.reduceEqDiff, List.length_map, Int.reduceEq, Int.reduceLT, Int.reduceLE, Nat.reduceLT, Int.reduceToNat, Nat.reduceMul, if_false, reduceCtorEq, decide_eq_true h3]
                by_cases h4 : f.rel.n = f.names.length
                · simp only [z13_, Nat.reduceAdd, Nat.reduceEqDiff, List.length_map, Int.reduceEq, Int.reduceLT, Int.reduceLE, Nat.reduceLT, Int.reduceToNat, Nat.reduceMul, if_false, reduceCtorEq, decide_eq_true h4]
                  refine (r5right_calls f.rel σ).mono ?_
                  rintro v σ ⟨rfl, rfl⟩
                  simp only [z13_, Nat.reduceAdd, Nat.reduceEqDiff, List.length_map, Int.reduceEq, Int.reduceLT, Int.reduceLE, Nat.reduceLT, Int.reduceToNat, Nat.reduceMul, if_false, reduceCtorEq]
                  refine retK_intro rfl (Store.sub_refl _) ⟨?_, rfl⟩
                  simp [V.erase, eraseL, facR, hn, h3, h4]
                · simp only [z13_, Nat.reduceAdd, Nat.reduceEqDiff, List.length_map, Int.reduceEq, Int.reduceLT, Int.reduceLE, Nat.reduceLT, Int.reduceToNat, Nat.reduceMul, if_false, reduceCtorEq, decide_eq_false h4]
                  refine retK_intro rfl (Store.sub_refl _) ⟨?_, rfl⟩
                  simp [V.erase, eraseL, facR, hn, h3, h4]
              · simp only [z13_, Nat.reduceAdd, Nat.reduceEqDiff, List.length_map, Int.reduceEq, Int.reduceLT, Int.reduceLE, Nat.reduceLT, Int.reduceToNat, Nat.reduceMul, if_false, reduceCtorEq, decide_eq_false h3]
                by_cases h5 : f.kind = 4
                · simp only [z13_, Nat.reduceAdd, Nat.reduceEqDiff, List.length_map, Int.reduceEq, Int.reduceLT, Int.reduceLE, Nat.reduceLT, Int.reduceToNat, Nat.reduceMul, if_false, reduceCtorEq, decide_eq_true h5]
                  by_cases h4 : f.rel.n = f.names.length
                  · simp only [z13_, Nat.reduceAdd, Nat.reduceEqDiff, List.length_map, Int.reduceEq, Int.reduceLT, Int.reduceLE, Nat.reduceLT, Int.reduceToNat, Nat.reduceMul, if_false, reduceCtorEq, decide_eq_true h4]
                    refine (rlattice_calls f.rel σ).mono ?_
                    rintro v σ ⟨rfl, rfl⟩
                    simp only [z13_, Nat.reduceAdd, Nat.reduceEqDiff, List.length_map, Int.reduceEq, Int.reduceLT, Int.reduceLE, Nat.reduceLT, Int.reduceToNat, Nat.reduceMul, if_false, reduceCtorEq]
                    refine retK_intro rfl (Store.sub_refl _) ⟨?_, rfl⟩
                    simp [V.erase, eraseL, facR, hn, h5, h4]
                  · simp only [z13_, Nat.reduceAdd, Nat.reduceEqDiff, List.length_map, Int.reduceEq, Int.reduceLT, Int.reduceLE, Nat.reduceLT, Int.reduceToNat, Nat.reduceMul, if_false, reduceCtorEq, decide_eq_false h4]
                    refine retK_intro rfl (Store.sub_refl _) ⟨?_, rfl⟩
                    simp [V.erase, eraseL, facR, hn, h5, h4]
                · simp only [z13_, Nat.reduceAdd, Nat.reduceEqDiff, List.length_map, Int.reduceEq, Int.reduceLT, Int.reduceLE, Nat.reduceLT, Int.reduceToNat, Nat.reduceMul, if_false, reduceCtorEq, decide_eq_false h5]
                  refine retK_intro rfl (Store.sub_refl _) ⟨?_, rfl⟩
                  simp [V.erase, eraseL, facR, hn, h1, h2, h3, h5]
theorem rshright_calls (s : Shp) (σ : Store) (hok : s.ok) : PCalls prog 29 [.agg s.enc] σ fun v σ' => v = .bool (shpR s) ∧ σ' = σ := by
  refine fn29.calls ?_
  simp only [slots, ac29, z12_, Nat.reduceAdd, Nat.reduceEqDiff, Int.reduceEq, Int.reduceLT, Int.reduceLE, Nat.reduceLT, Int.reduceToNat, Nat.reduceMul, if_false, reduceCtorEq, List.length_map]
  by_cases h1 : s.facs.length < 1
  · simp only [z13_, Nat.reduceAdd, Nat.reduceEqDiff, List.length_map, Int.reduceEq, Int.reduceLT, Int.reduceLE, Nat.reduceLT, Int.reduceToNat, Nat.reduceMul, if_false, reduceCtorEq, decide_eq_true (show (s.facs.length : Int) < 1 by omega)]
    refine retK_intro rfl (Store.sub_refl _) ⟨?_, rfl⟩
    simp [V.erase, eraseL, shpR]
    omega
  · simp only [z13_, Nat.reduceAdd, Nat.reduceEqDiff, List.length_map, Int.reduceEq, Int.reduceLT, Int.reduceLE, Nat.reduceLT, Int.reduceToNat, Nat.reduceMul, if_false, reduceCtorEq, decide_eq_false (show ¬ (s.facs.length : Int) < 1 by omega)]
    by_cases h2 : 8 < s.facs.length
    · simp only [z13_, Nat.reduceAdd, Nat.reduceEqDiff, List.length_map, Int.reduceEq, Int.reduceLT, Int.reduceLE, Nat.reduceLT, Int.reduceToNat, Nat.reduceMul, if_false, reduceCtorEq, decide_eq_true (show (8 : Int) < s.facs.length by omega)]
      refine retK_intro rfl (Store.sub_refl _) ⟨?_, rfl⟩
      simp [V.erase, eraseL, shpR]
      omega
    · simp only [z13_, Nat.reduceAdd, Nat.reduceEqDiff, List.length_map, Int.reduceEq, Int.reduceLT, Int.reduceLE, Nat.reduceLT, Int.reduceToNat, Nat.reduceMul, if_false, reduceCtorEq, decide_eq_false (show ¬ (8 : Int) < s.facs.length by omega)]
      have h3 : (∃ t, s.tuple = t ∧ (t = true ∨ s.facs.length = 1)) ∨ (s.tuple = false ∧ s.facs.length ≠ 1) := by
        cases ht : s.tuple with
        | true => exact .inl ⟨true, rfl, .inl rfl⟩
        | false =>
          by_cases hl : s.facs.length = 1
          · exact .inl ⟨false, rfl, .inr hl⟩
          · exact .inr ⟨rfl, hl⟩
      rcases h3 with ⟨t, ht, h3⟩ | ⟨ht, h3⟩
      · cases t
        case' false =>
          have h3 : s.facs.length = 1 := by simpa using h3
          simp only [z13_, Nat.reduceAdd, Nat.reduceEqDiff, List.length_map, Int.reduceEq, Int.reduceLT, Int.reduceLE, Nat.reduceLT, Int.reduceToNat, Nat.reduceMul, if_false, reduceCtorEq, ht, decide_eq_true (show (s.facs.length : Int) = 1 by omega)]
        case' true => simp only [z13_, Nat.reduceAdd, Nat.reduceEqDiff, List.length_map, Int.reduceEq, Int.reduceLT, Int.reduceLE, Nat.reduceLT, Int.reduceToNat, Nat.reduceMul, if_false, reduceCtorEq, ht]
        all_goals
          obtain ⟨F, hF⟩ : ∃ F : Nat → Unit → St, ∀ i x, F i x = ⟨[.any, .ptr (.loc 0) 0, .bool false, .int .i64 (i : Nat)] ++ List.replicate 35 .any, [s.enc], σ⟩ := ⟨_, fun _ _ => rfl⟩
          obtain ⟨JF, hJF⟩ : ∃ JF : Nat → Unit → Prop, ∀ i x, JF i x = (∀ k, k < i → ∀ hk : k < s.facs.length, facR s.facs[k] = true) := ⟨_, fun _ _ => rfl⟩
          refine vc_count (s.facs.length) F JF _ hJF ?_ ?_ ?_
          · refine ent (()) ?_ ?_ ?_ ?_
            · exact Eq.mpr (hJF _ _) (by intro k h; omega)
            all_goals simp [hF, List.replicate, am, lle_self]
          · rintro i x hi hJ
            simp only [hF, List.replicate, z14_, dlt hi, Nat.reduceAdd, Nat.reduceEqDiff, Int.reduceEq, Int.reduceLT, Int.reduceLE, Nat.reduceLT, Int.reduceToNat, Nat.reduceMul, if_false, reduceCtorEq, List.length_map]
            refine idxL_intro (by omega) (facs_at hi) ?_
            simp only [z13_, Nat.reduceAdd, Nat.reduceEqDiff, List.length_map, Int.reduceEq, Int.reduceLT, Int.reduceLE, Nat.reduceLT, Int.reduceToNat, Nat.reduceMul, if_false, reduceCtorEq]
            refine (rfactor_calls s.facs[i] σ (hok.2 _ (List.getElem_mem hi))).mono ?_
            rintro v σ ⟨rfl, rfl⟩
            cases hb : facR s.facs[i] with
            | false =>
              simp only [z13_, Nat.reduceAdd, Nat.reduceEqDiff, List.length_map, Int.reduceEq, Int.reduceLT, Int.reduceLE, Nat.reduceLT, Int.reduceToNat, Nat.reduceMul, if_false, reduceCtorEq]
              refine retK_intro rfl (Store.sub_refl _) ⟨?_, rfl⟩
              simp [V.erase, eraseL, shpR_bad hi hb]
            | true =>
              simp only [z13_, Nat.reduceAdd, Nat.reduceEqDiff, List.length_map, Int.reduceEq, Int.reduceLT, Int.reduceLE, Nat.reduceLT, Int.reduceToNat, Nat.reduceMul, if_false, reduceCtorEq, winc hi (by omega)]
              refine nxt (()) hi ?_ ?_ ?_ ?_
              · exact Eq.mpr (hJF _ _) (allS hJ (fun _ => hb))
              all_goals simp [hF, List.replicate, am, lle_self]
          · rintro x hJ
            have e := shpR_ok (s := s) (by omega) (by omega) (by simp [ht, h3]) fun k hk => hJ k hk hk
            simp only [hF, List.replicate, z14_, dnl, Nat.reduceAdd, Nat.reduceEqDiff, Int.reduceEq, Int.reduceLT, Int.reduceLE, Nat.reduceLT, Int.reduceToNat, Nat.reduceMul, if_false, reduceCtorEq, List.length_map]
            refine retK_intro rfl (Store.sub_refl _) ⟨?_, rfl⟩
            simp [V.erase, eraseL, e]
      · have e : shpR s = false := by simp [shpR, ht, h3]
        simp only [z13_, Nat.reduceAdd, Nat.reduceEqDiff, List.length_map, Int.reduceEq, Int.reduceLT, Int.reduceLE, Nat.reduceLT, Int.reduceToNat, Nat.reduceMul, if_false, reduceCtorEq, ht, decide_eq_false (show ¬ (s.facs.length : Int) = 1 by omega)]
        refine retK_intro rfl (Store.sub_refl _) ⟨?_, rfl⟩
        simp [V.erase, eraseL, e]
end Go.Proofs.Tryz

namespace Go.Proofs.Tryz
open Go.Am
set_option maxRecDepth 4000
set_option maxHeartbeats 4000000
end Go.Proofs.Tryz

namespace Go.Proofs.Tryz
open Go.Am
set_option maxRecDepth 4000
set_option maxHeartbeats 4000000
theorem Tok.wd {t : Tok} : t.enc.length = 3 := rfl
end Go.Proofs.Tryz

namespace Go.Proofs.Tryz
open Go.Am
set_option maxRecDepth 4000
set_option maxHeartbeats 4000000
end Go.Proofs.Tryz

namespace Go.Proofs.Tryz
open Go.Am
set_option maxRecDepth 4000
set_option maxHeartbeats 4000000
end Go.Proofs.Tryz

namespace Go.Proofs.Tryz
open Go.Am
set_option maxRecDepth 4000
set_option maxHeartbeats 4000000
end Go.Proofs.Tryz

namespace Go.Proofs.Tryz
open Go.Am
set_option maxRecDepth 4000
set_option maxHeartbeats 4000000
def ac24 : AC := .seq (.reg [⟨(some 1), .box 5 (.s 0), none⟩, ⟨(some 2), .mv (.c (.bool false)), none⟩])
 (.seq (.seq (.reg [xf 0 3 1, xo 4 3])
 (.block 0 (.seq (.reg [xB .eql 6 4 1, xm 5 6])
 (.cond (.s 5) (.seq (.reg [xl 5 7 1, xc 37 8 [.s 7], xm 2 8])
 (.ret))
 (.seq (.reg [xB .eql 10 4 7, xm 9 10])
 (.cond (.s 9) (.seq (.reg [xl 5 11 1, xc 38 12 [.s 11], xm 13 12, xg 13 (xf 4 14 1), xg 13 (xo 15 14), xg 13 (xL 16 15), xg 13 (xB .eql 17 16 1), ⟨(some 18), .pick (.s 13) (.s 17) (.c (.bool false)), none⟩, xm 19 18, xg 19 (xf 4 20 1), xg 19 (xo 21 20), ⟨(some 22), .idxA 5 (.s 21) (.c (.int .i64 0)), (some (19, true))⟩, xg 19 (xl 5 23 22), xg 19 (xc 39 24 [.s 23]), ⟨(some 25), .pick (.s 19) (.s 24) (.c (.bool false)), none⟩, xm 2 25])
 (.ret))
 (.seq (.seq (.reg [xB .eql 27 4 8, xm 26 27])
 (.cond (.s 26) (.skip)
 (.reg [xB .eql 28 4 9, xm 26 28])))
 (.cond (.s 26) (.seq (.reg [xl 5 29 1, xc 38 30 [.s 29], xm 31 30, xg 31 (xf 4 32 1), xg 31 (xo 33 32), xg 31 (xL 34 33), xg 31 (xB .gtr 35 34 0), ⟨(some 36), .pick (.s 31) (.s 35) (.c (.bool false)), none⟩, xm 37 36, xg 37 (xf 4 38 1), xg 37 (xo 39 38), xg 37 (xc 40 40 [.s 39, .c (.fn (.func 24) [] [])]), ⟨(some 41), .pick (.s 37) (.s 40) (.c (.bool false)), none⟩, xm 2 41])
 (.ret))
 (.skip)))))))))
 (.seq (.reg [⟨(some 2), .mv (.c (.bool false)), none⟩])
 (.ret)))
theorem fn24 : IsFn prog 24 ac24 [.tmp 2] 42 := ⟨f24, ⟨[], []⟩, func24, by kernel_rfl, by kernel_rfl, by kernel_rfl, by kernel_rfl⟩
def ac37 : AC := .seq (.reg [⟨(some 1), .box 5 (.s 0), none⟩, ⟨(some 2), .mv (.c (.bool false)), none⟩])
 (.seq (.reg [xf 2 3 1, xo 4 3, xc 58 5 [.s 4], xm 6 5, xg 6 (xf 3 7 1), xg 6 (xo 8 7), xg 6 (xL 9 8), xg 6 (xf 4 10 1), xg 6 (xo 11 10), xg 6 (xL 12 11), xg 6 (xb .add 13 9 12), xg 6 (xB .eql 14 13 0), ⟨(some 15), .pick (.s 6) (.s 14) (.c (.bool false)), none⟩, xm 2 15])
 (.ret))
theorem fn37 : IsFn prog 37 ac37 [.tmp 2] 16 := ⟨f37, ⟨[], []⟩, func37, by kernel_rfl, by kernel_rfl, by kernel_rfl, by kernel_rfl⟩
def ac38 : AC := .seq (.reg [⟨(some 1), .box 5 (.s 0), none⟩, ⟨(some 2), .mv (.c (.bool false)), none⟩])
 (.seq (.reg [xf 2 3 1, xo 4 3, ⟨(some 5), .binS .eql (.s 4) (.c (.str [])), none⟩, xm 6 5, xg 6 (xf 3 7 1), xg 6 (xo 8 7), xg 6 (xL 9 8), xg 6 (xB .eql 10 9 0), ⟨(some 11), .pick (.s 6) (.s 10) (.c (.bool false)), none⟩, xm 2 11])
 (.ret))
theorem fn38 : IsFn prog 38 ac38 [.tmp 2] 12 := ⟨f38, ⟨[], []⟩, func38, by kernel_rfl, by kernel_rfl, by kernel_rfl, by kernel_rfl⟩
def ac39 : AC := .seq (.reg [⟨(some 1), .box 5 (.s 0), none⟩, ⟨(some 2), .mv (.c (.bool false)), none⟩])
 (.seq (.seq (.reg [xf 0 3 1, xo 4 3])
 (.block 0 (.seq (.reg [xB .eql 6 4 2, xm 5 6])
 (.cond (.s 5) (.seq (.reg [xl 5 7 1, xc 37 8 [.s 7], xm 2 8])
 (.ret))
 (.seq (.reg [xB .eql 10 4 3, xm 9 10])
 (.cond (.s 9) (.seq (.reg [xf 2 11 1, xo 12 11, ⟨(some 13), .binS .eql (.s 12) (.c (.str [])), none⟩, xm 14 13, xg 14 (xf 3 15 1), xg 14 (xo 16 15), xg 14 (xc 59 17 [.s 16]), ⟨(some 18), .pick (.s 14) (.s 17) (.c (.bool false)), none⟩, xm 19 18, xg 19 (xf 4 20 1), xg 19 (xo 21 20), xg 19 (xL 22 21), xg 19 (xB .eql 23 22 0), ⟨(some 24), .pick (.s 19) (.s 23) (.c (.bool false)), none⟩, xm 2 24])
 (.ret))
 (.seq (.reg [xB .eql 26 4 4, xm 25 26])
 (.cond (.s 25) (.seq (.reg [xl 5 27 1, xc 38 28 [.s 27], xm 29 28, xg 29 (xf 4 30 1), xg 29 (xo 31 30), xg 29 (xL 32 31), xg 29 (xB .gtr 33 32 0), ⟨(some 34), .pick (.s 29) (.s 33) (.c (.bool false)), none⟩, xm 35 34, xg 35 (xf 4 36 1), xg 35 (xo 37 36), xg 35 (xc 40 38 [.s 37, .c (.fn (.func 39) [] [])]), ⟨(some 39), .pick (.s 35) (.s 38) (.c (.bool false)), none⟩, xm 2 39])
 (.ret))
 (.seq (.reg [xB .eql 41 4 5, xm 40 41])
 (.cond (.s 40) (.seq (.reg [xl 5 42 1, xc 38 43 [.s 42], xm 44 43, xg 44 (xf 4 45 1), xg 44 (xo 46 45), xg 44 (xc 40 47 [.s 46, .c (.fn (.func 60) [] [])]), ⟨(some 48), .pick (.s 44) (.s 47) (.c (.bool false)), none⟩, xm 2 48])
 (.ret))
 (.skip)))))))))))
 (.seq (.reg [⟨(some 2), .mv (.c (.bool false)), none⟩])
 (.ret)))
theorem fn39 : IsFn prog 39 ac39 [.tmp 2] 49 := ⟨f39, ⟨[], []⟩, func39, by kernel_rfl, by kernel_rfl, by kernel_rfl, by kernel_rfl⟩
def ac40 : AC := .seq (.reg [⟨(some 4), .mv (.c (.bool false)), none⟩])
 (.seq (.seq (.reg [xm 7 0, xL 8 7, xi 9 0])
 (.block 0 (.loop (.seq (.reg [xb .lss 10 9 8])
 (.seq (.cond (.s 10) (.skip)
 (.exit 0))
 (.seq (.block 1 (.seq (.reg [xA 5 11 7 9, xl 5 12 11, ⟨(some 6), .alloc [(.int .i64 0), (.int .i64 0), (.str []), (.sl .full 2 []), (.sl .full 5 [])], none⟩, xs 5 6 12])
 (.seq (.reg [xm 13 1, xl 5 14 6, ⟨(some 15), .callv (.s 13) [(.s 14)], none⟩, ⟨(some 16), .not (.s 15), none⟩])
 (.cond (.s 16) (.seq (.reg [⟨(some 4), .mv (.c (.bool false)), none⟩])
 (.ret))
 (.skip)))))
 (.reg [xB .add 17 9 1, xm 9 17])))))))
 (.seq (.reg [⟨(some 4), .mv (.c (.bool true)), none⟩])
 (.ret)))
theorem fn40 : IsFn prog 40 ac40 [.tmp 4] 18 := ⟨f40, ⟨[], []⟩, func40, by kernel_rfl, by kernel_rfl, by kernel_rfl, by kernel_rfl⟩
def ac59 : AC := .seq (.reg [⟨(some 2), .mv (.c (.bool false)), none⟩])
 (.seq (.seq (.reg [xm 5 0, xL 6 5, xi 7 0])
 (.block 0 (.loop (.seq (.reg [xb .lss 8 7 6])
 (.seq (.cond (.s 8) (.skip)
 (.exit 0))
 (.seq (.block 1 (.seq (.reg [xA 2 9 5 7, xl 2 10 9, ⟨(some 4), .alloc [(.str []), (.int .i64 0)], none⟩, xs 2 4 10])
 (.seq (.reg [xf 0 11 4, xo 12 11, xc 58 13 [.s 12], ⟨(some 14), .not (.s 13), none⟩])
 (.cond (.s 14) (.seq (.reg [⟨(some 2), .mv (.c (.bool false)), none⟩])
 (.ret))
 (.skip)))))
 (.reg [xB .add 15 7 1, xm 7 15])))))))
 (.seq (.reg [⟨(some 2), .mv (.c (.bool true)), none⟩])
 (.ret)))
theorem fn59 : IsFn prog 59 ac59 [.tmp 2] 16 := ⟨f59, ⟨[], []⟩, func59, by kernel_rfl, by kernel_rfl, by kernel_rfl, by kernel_rfl⟩
def ac60 : AC := .seq (.reg [⟨(some 1), .box 5 (.s 0), none⟩, ⟨(some 2), .mv (.c (.bool false)), none⟩])
 (.seq (.reg [xf 0 3 1, xo 4 3, xB .eql 5 4 6, xm 6 5, xg 6 (xf 2 7 1), xg 6 (xo 8 7), xg 6 (xc 58 9 [.s 8]), ⟨(some 10), .pick (.s 6) (.s 9) (.c (.bool false)), none⟩, xm 11 10, xg 11 (xf 3 12 1), xg 11 (xo 13 12), xg 11 (xc 59 14 [.s 13]), ⟨(some 15), .pick (.s 11) (.s 14) (.c (.bool false)), none⟩, xm 16 15, xg 16 (xf 4 17 1), xg 16 (xo 18 17), xg 16 (xL 19 18), xg 16 (xB .eql 20 19 0), ⟨(some 21), .pick (.s 16) (.s 20) (.c (.bool false)), none⟩, xm 2 21])
 (.ret))
theorem fn60 : IsFn prog 60 ac60 [.tmp 2] 22 := ⟨f60, ⟨[], []⟩, func60, by kernel_rfl, by kernel_rfl, by kernel_rfl, by kernel_rfl⟩
theorem all_take {α : Type} {l : List α} {i : Nat} {f : α → Bool} (h : i < l.length) : (l.take (i + 1)).all f = ((l.take i).all f && f l[i]) := by
  rw [take_succ_of (List.getElem?_eq_getElem h), List.all_append]; simp only [List.all_cons, List.all_nil, Bool.and_true]
theorem all_no {α : Type} {l : List α} {i : Nat} {f : α → Bool} (h : i < l.length) (hf : f l[i] = false) : l.all f = false := by
  rw [List.all_eq_false]; exact ⟨l[i], List.getElem_mem h, by simp [hf]⟩
def inv40 (l : List Word) (σ : Store) (i : Nat) : St :=
  ⟨[.sl .no 2 (l.map Word.enc)] ++ List.replicate 4 .any ++ [.sl .no 2 (l.map Word.enc), .int .i64 l.length, .int .i64 (i : Nat)] ++ List.replicate 8 .any, [], σ⟩
def z15_ := And.intro @am <| And.intro @amo <| And.intro @amc <| And.intro @ams <| And.intro @decide_true <| And.intro @decide_false <| And.intro @Tree.rec_ <| And.intro @Nd.rec_ <| And.intro @Word.rec_ <| And.intro @Got.rec_ @Nd.fl
def z16_ := And.intro @am <| And.intro @amo <| And.intro @amc <| And.intro @encs_length <| And.intro @decide_true <| And.intro @decide_false <| And.intro @Tree.rec_ <| And.intro @Nd.rec_ <| And.intro @Word.rec_ <| And.intro @Got.rec_ @Nd.fl
theorem rightW_calls (l : List Word) (σ : Store) (hb : l.length ≤ big) : PCalls prog 59 [.sl .no 2 (l.map Word.enc)] σ fun v σ' => v = .bool (rightW l) ∧ σ' = σ := by
  simp only [big] at hb
  refine fn59.calls ?_
  simp only [slots, ac59, z15_, Nat.reduceAdd, Nat.reduceEqDiff]
  refine vc_loop (fun p : { i : Nat // i ≤ l.length ∧ (l.take i).all (fun w => nameR w.text) = true } => inv40 l σ p.1) (fun p => l.length - p.1) ?_ ?_
  · refine Upd.enter ⟨0, by simp, by simp⟩ ?_ LLLe.rfl OLe.rfl
    simp [inv40, List.replicate, am]
  · rintro ⟨i, hi, ha⟩
    simp only [inv40, List.replicate, am]
    refine vcIf_split ?_ ?_
    · intro hlt
      have hlt : i < l.length := by simpa using hlt
      simp only [z16_, Nat.reduceAdd, Nat.reduceEqDiff, List.length_map]
      refine idxL_intro (by omega) (wencs_at (List.getElem?_eq_getElem hlt)) ?_
      simp only [z16_, Nat.reduceAdd, Nat.reduceEqDiff, List.length_map, Word.enc]
      refine (right_calls l[i].text σ).mono ?_
      rintro v σ ⟨rfl, rfl⟩
      cases hg : nameR l[i].text
      · simp only [z16_, Nat.reduceAdd, Nat.reduceEqDiff, List.length_map]
        refine retK_intro rfl (Store.sub_refl _) ⟨?_, rfl⟩
        rw [show rightW l = false from all_no (f := fun (w : Word) => nameR w.text) hlt hg]; rfl
      · simp only [z16_, Nat.reduceAdd, Nat.reduceEqDiff, List.length_map]
        rw [wrap_i64 (by omega) (by omega)]
        exact Upd.againD ⟨i + 1, hlt, by rw [all_take hlt, ha, hg]; rfl⟩ (by simp; omega) (by simp [List.replicate, am]) (by simp [am]) OLe.rfl rfl rfl
    · intro hlt
      have hlt : i = l.length := by simp at hlt; omega
      subst hlt
      rw [List.take_length] at ha
      simp only [z16_, Nat.reduceAdd, Nat.reduceEqDiff, List.length_map]
      refine retK_intro rfl (Store.sub_refl _) ⟨?_, rfl⟩
      simp [V.erase, eraseL, rightW, ha]
def inv42 (g : FuncId) (l : List Nd) (σ : Store) (i : Nat) : St :=
  ⟨[.sl .no 5 (l.map Nd.enc), .fn (.func g) [] []] ++ List.replicate 5 .any ++ [.sl .no 5 (l.map Nd.enc), .int .i64 l.length, .int .i64 (i : Nat)] ++ List.replicate 8 .any, [], σ⟩
theorem all_calls {g : FuncId} {f : Nd → Bool} (l : List Nd) (σ : Store) (hb : l.length ≤ big) (h : ∀ n ∈ l, PCalls prog g [.agg n.enc] σ fun v σ' => v = .bool (f n) ∧ σ' = σ) : PCalls prog 40 [.sl .no 5 (l.map Nd.enc), .fn (.func g) [] []] σ fun v σ' => v = .bool (l.all f) ∧ σ' = σ := by
  simp only [big] at hb
  refine fn40.calls ?_
  simp only [slots, ac40, z15_, Nat.reduceAdd, Nat.reduceEqDiff]
  refine vc_loop (fun p : { i : Nat // i ≤ l.length ∧ (l.take i).all f = true } => inv42 g l σ p.1) (fun p => l.length - p.1) ?_ ?_
  · refine Upd.enter ⟨0, by simp, by simp⟩ ?_ LLLe.rfl OLe.rfl
    simp [inv42, List.replicate, am]
  · rintro ⟨i, hi, ha⟩
    simp only [inv42, List.replicate, am]
    refine vcIf_split ?_ ?_
    · intro hlt
      have hlt : i < l.length := by simpa using hlt
      simp only [z16_, Nat.reduceAdd, Nat.reduceEqDiff, List.length_map]
      refine idxL_intro (by omega) (nencs_at (List.getElem?_eq_getElem hlt)) ?_
      simp only [z16_, Nat.reduceAdd, Nat.reduceEqDiff, List.length_map, Nd.r_ov]
      refine (h l[i] (List.getElem_mem hlt)).mono ?_
      rintro v σ ⟨rfl, rfl⟩
      cases hg : f l[i]
      · simp only [z16_, Nat.reduceAdd, Nat.reduceEqDiff, List.length_map]
        refine retK_intro rfl (Store.sub_refl _) ⟨?_, rfl⟩
        simp [V.erase, eraseL, all_no hlt hg]
      · simp only [z16_, Nat.reduceAdd, Nat.reduceEqDiff, List.length_map]
        rw [wrap_i64 (by omega) (by omega)]
        exact Upd.againD ⟨i + 1, hlt, by rw [all_take hlt, ha, hg]; rfl⟩ (by simp; omega) (by simp [List.replicate, am]) (by simp [am]) OLe.rfl rfl rfl
    · intro hlt
      have hlt : i = l.length := by simp at hlt; omega
      subst hlt
      rw [List.take_length] at ha
      simp only [z16_, Nat.reduceAdd, Nat.reduceEqDiff, List.length_map]
      refine retK_intro rfl (Store.sub_refl _) ⟨?_, rfl⟩
      simp [V.erase, eraseL, ha]
theorem leaf_calls (n : Nd) (σ : Store) (hb : n.names.length + n.kids.length ≤ big) : PCalls prog 37 [.agg n.enc] σ fun v σ' => v = .bool n.leafQ ∧ σ' = σ := by
  simp only [big] at hb
  refine fn37.calls ?_
  simp only [slots, ac37, z15_, Nat.reduceAdd, Nat.reduceEqDiff]
  refine (right_calls n.text σ).mono ?_
  rintro v σ ⟨rfl, rfl⟩
  simp only [z16_, Nat.reduceAdd, Nat.reduceEqDiff, List.length_map, wrap_i64 (x := (n.names.length : Int) + n.kids.length) (by omega) (by omega)]
  repeat' (first
    | (refine gL_split (fun h => ?_) (fun h => ?_) <;> simp only [z16_, h, Nat.reduceAdd, Nat.reduceEqDiff, List.length_map, wrap_i64 (x := (n.names.length : Int) + n.kids.length) (by omega) (by omega)])
    | (refine vcIf_split (fun h => ?_) (fun h => ?_) <;> simp only [z16_, h, Nat.reduceAdd, Nat.reduceEqDiff, List.length_map, wrap_i64 (x := (n.names.length : Int) + n.kids.length) (by omega) (by omega)])
    | (refine pickL_split (fun h => ?_) (fun h => ?_) <;> simp only [z16_, h, Nat.reduceAdd, Nat.reduceEqDiff, List.length_map, wrap_i64 (x := (n.names.length : Int) + n.kids.length) (by omega) (by omega)])
  )
  all_goals refine retK_intro rfl (Store.sub_refl _) ⟨?_, rfl⟩
  all_goals simp_all [V.erase, eraseL, Nd.leafQ]
  all_goals (try omega)
theorem bare_calls (n : Nd) (σ : Store) : PCalls prog 38 [.agg n.enc] σ fun v σ' => v = .bool n.bareQ ∧ σ' = σ := by
  refine fn38.calls ?_
  simp only [slots, ac38, z15_, Nat.reduceAdd, Nat.reduceEqDiff]
  repeat' (first
    | (refine gL_split (fun h => ?_) (fun h => ?_) <;> simp only [z16_, h, Nat.reduceAdd, Nat.reduceEqDiff, List.length_map])
    | (refine vcIf_split (fun h => ?_) (fun h => ?_) <;> simp only [z16_, h, Nat.reduceAdd, Nat.reduceEqDiff, List.length_map])
    | (refine pickL_split (fun h => ?_) (fun h => ?_) <;> simp only [z16_, h, Nat.reduceAdd, Nat.reduceEqDiff, List.length_map])
  )
  all_goals refine retK_intro rfl (Store.sub_refl _) ⟨?_, rfl⟩
  all_goals simp_all [V.erase, eraseL, Nd.bareQ]
  all_goals (try omega)
theorem wt_names (n : Nd) : n.names.length + n.kids.length + 4 ≤ n.wt := by
  have h2 : n.names.length ≤ wsum n.names := by
    unfold wsum; generalize n.names = l
    induction l with
    | nil => simp
    | cons w ws ih => simp only [List.map_cons, List.sum_cons, List.length_cons]; omega
  have h3 : n.kids.length ≤ wts n.kids := by
    rw [wts_map]; generalize n.kids = l
    induction l with
    | nil => simp
    | cons w ws ih => simp only [List.map_cons, List.sum_cons, List.length_cons]; omega
  have h1 : wts n.kids + wsum n.names + 4 ≤ n.wt := by cases n; simp only [Nd.wt, Nd.kids, Nd.names]; omega
  omega
theorem rule_is_calls (n : Nd) (σ : Store) (hw : n.wt ≤ big) : PCalls prog 60 [.agg n.enc] σ fun v σ' => v = .bool n.ruleQ ∧ σ' = σ := by
  have hn := wt_names n
  refine fn60.calls ?_
  simp only [slots, ac60, z15_, Nat.reduceAdd, Nat.reduceEqDiff]
  repeat' (first
    | (refine gL_split (fun h => ?_) (fun h => ?_) <;> simp only [z16_, h, Nat.reduceAdd, Nat.reduceEqDiff, List.length_map])
    | (refine vcIf_split (fun h => ?_) (fun h => ?_) <;> simp only [z16_, h, Nat.reduceAdd, Nat.reduceEqDiff, List.length_map])
    | (refine pickL_split (fun h => ?_) (fun h => ?_) <;> simp only [z16_, h, Nat.reduceAdd, Nat.reduceEqDiff, List.length_map])
    | (refine (right_calls n.text σ).mono ?_; rintro v _ ⟨rfl, rfl⟩; simp only [am])
    | (refine (rightW_calls n.names _ (by omega)).mono ?_; rintro v _ ⟨rfl, rfl⟩; simp only [am])
  )
  all_goals refine retK_intro rfl (Store.sub_refl _) ⟨?_, rfl⟩
  all_goals simp_all [V.erase, eraseL, Nd.ruleQ]
  all_goals (try omega)
theorem const_is_calls : ∀ (k : Nat) (n : Nd) (σ : Store), n.wt ≤ k → n.wt ≤ big → PCalls prog 39 [.agg n.enc] σ fun v σ' => v = .bool n.constQ ∧ σ' = σ := by
  intro k
  induction k with
  | zero => intro n σ h _; cases n; simp only [Nd.wt] at h; omega
  | succ k ihk =>
    intro n σ hk hw
    have hn := wt_names n
    have hkid : ∀ m ∈ n.kids, m.wt + 5 ≤ n.wt := fun m hm => by
      have h1 := wt_mem hm
      have h2 : wts n.kids + 4 ≤ n.wt := by cases n; simp only [Nd.wt, Nd.kids]; omega
      omega
    have hall : PCalls prog 40 [.sl .no 5 (n.kids.map Nd.enc), .fn (.func 39) [] []] σ fun v σ' => v = .bool (n.kids.all Nd.constQ) ∧ σ' = σ :=
      all_calls n.kids σ (by omega) fun m hm => ihk m σ (by have := hkid m hm; omega) (by have := hkid m hm; omega)
    have hrule : PCalls prog 40 [.sl .no 5 (n.kids.map Nd.enc), .fn (.func 60) [] []] σ fun v σ' => v = .bool (n.kids.all Nd.ruleQ) ∧ σ' = σ :=
      all_calls n.kids σ (by omega) fun m hm => rule_is_calls m σ (by have := hkid m hm; omega)
    rw [Nd.constQ_eq]
    refine fn39.calls ?_
    simp only [slots, ac39, z15_, Nat.reduceAdd, Nat.reduceEqDiff]
    by_cases k2 : n.kind = 2
    · simp only [z16_, Nat.reduceAdd, Nat.reduceEqDiff, List.length_map, decide_eq_true k2]
      refine (leaf_calls n σ (by omega)).mono ?_
      rintro v σ ⟨rfl, rfl⟩
      simp only [z16_, Nat.reduceAdd, Nat.reduceEqDiff, List.length_map]
      refine retK_intro rfl (Store.sub_refl _) ⟨?_, rfl⟩
      simp [V.erase, eraseL, k2]
    simp only [z16_, Nat.reduceAdd, Nat.reduceEqDiff, List.length_map, decide_eq_false k2]
    by_cases k3 : n.kind = 3
    · simp only [z16_, Nat.reduceAdd, Nat.reduceEqDiff, List.length_map, decide_eq_true k3]
      repeat' (first
        | (refine gL_split (fun h => ?_) (fun h => ?_) <;> simp only [z16_, h, Nat.reduceAdd, Nat.reduceEqDiff, List.length_map])
        | (refine vcIf_split (fun h => ?_) (fun h => ?_) <;> simp only [z16_, h, Nat.reduceAdd, Nat.reduceEqDiff, List.length_map])
        | (refine pickL_split (fun h => ?_) (fun h => ?_) <;> simp only [z16_, h, Nat.reduceAdd, Nat.reduceEqDiff, List.length_map])
        | (refine (rightW_calls n.names _ (by omega)).mono ?_; rintro v _ ⟨rfl, rfl⟩; simp only [am])
      )
      all_goals refine retK_intro rfl (Store.sub_refl _) ⟨?_, rfl⟩
      all_goals simp_all [V.erase, eraseL]
      all_goals (try omega)
    simp only [z16_, Nat.reduceAdd, Nat.reduceEqDiff, List.length_map, decide_eq_false k3]
    by_cases k4 : n.kind = 4
    · simp only [z16_, Nat.reduceAdd, Nat.reduceEqDiff, List.length_map, decide_eq_true k4]
      refine (bare_calls n σ).mono ?_
      rintro v σ ⟨rfl, rfl⟩
      simp only [z16_, Nat.reduceAdd, Nat.reduceEqDiff, List.length_map]
      repeat' (first
        | (refine gL_split (fun h => ?_) (fun h => ?_) <;> simp only [z16_, h, Nat.reduceAdd, Nat.reduceEqDiff, List.length_map])
        | (refine vcIf_split (fun h => ?_) (fun h => ?_) <;> simp only [z16_, h, Nat.reduceAdd, Nat.reduceEqDiff, List.length_map])
        | (refine pickL_split (fun h => ?_) (fun h => ?_) <;> simp only [z16_, h, Nat.reduceAdd, Nat.reduceEqDiff, List.length_map])
        | (refine hall.mono ?_; rintro v _ ⟨rfl, rfl⟩; simp only [am])
      )
      all_goals refine retK_intro rfl (Store.sub_refl _) ⟨?_, rfl⟩
      all_goals simp_all [V.erase, eraseL]
      all_goals (try omega)
    simp only [z16_, Nat.reduceAdd, Nat.reduceEqDiff, List.length_map, decide_eq_false k4]
    by_cases k5 : n.kind = 5
    · simp only [z16_, Nat.reduceAdd, Nat.reduceEqDiff, List.length_map, decide_eq_true k5]
      refine (bare_calls n σ).mono ?_
      rintro v σ ⟨rfl, rfl⟩
      simp only [z16_, Nat.reduceAdd, Nat.reduceEqDiff, List.length_map]
      repeat' (first
        | (refine gL_split (fun h => ?_) (fun h => ?_) <;> simp only [z16_, h, Nat.reduceAdd, Nat.reduceEqDiff, List.length_map])
        | (refine vcIf_split (fun h => ?_) (fun h => ?_) <;> simp only [z16_, h, Nat.reduceAdd, Nat.reduceEqDiff, List.length_map])
        | (refine pickL_split (fun h => ?_) (fun h => ?_) <;> simp only [z16_, h, Nat.reduceAdd, Nat.reduceEqDiff, List.length_map])
        | (refine hrule.mono ?_; rintro v _ ⟨rfl, rfl⟩; simp only [am])
      )
      all_goals refine retK_intro rfl (Store.sub_refl _) ⟨?_, rfl⟩
      all_goals simp_all [V.erase, eraseL]
      all_goals (try omega)
    simp only [z16_, Nat.reduceAdd, Nat.reduceEqDiff, List.length_map, decide_eq_false k5]
    refine retK_intro rfl (Store.sub_refl _) ⟨?_, rfl⟩
    simp [V.erase, eraseL, k2, k3, k4, k5]
theorem kid_wt {n m : Nd} (hm : m ∈ n.kids) : m.wt + 5 ≤ n.wt := by
  have h1 := wt_mem hm
  have h2 : wts n.kids + 4 ≤ n.wt := by cases n; simp only [Nd.wt, Nd.kids]; omega
  omega
theorem label_is_calls : ∀ (k : Nat) (n : Nd) (σ : Store), n.wt ≤ k → n.wt ≤ big → PCalls prog 24 [.agg n.enc] σ fun v σ' => v = .bool n.labelQ ∧ σ' = σ := by
  intro k
  induction k with
  | zero => intro n σ h _; cases n; simp only [Nd.wt] at h; omega
  | succ k ihk =>
    intro n σ hk hw
    have hn := wt_names n
    have hall : PCalls prog 40 [.sl .no 5 (n.kids.map Nd.enc), .fn (.func 24) [] []] σ fun v σ' => v = .bool (n.kids.all Nd.labelQ) ∧ σ' = σ :=
      all_calls n.kids σ (by omega) fun m hm => ihk m σ (by have := kid_wt hm; omega) (by have := kid_wt hm; omega)
    rw [Nd.labelQ_eq]
    refine fn24.calls ?_
    simp only [slots, ac24, z15_, Nat.reduceAdd, Nat.reduceEqDiff]
    by_cases k1 : n.kind = 1
    · simp only [z16_, Nat.reduceAdd, Nat.reduceEqDiff, List.length_map, decide_eq_true k1]
      refine (leaf_calls n σ (by omega)).mono ?_
      rintro v σ ⟨rfl, rfl⟩
      simp only [z16_, Nat.reduceAdd, Nat.reduceEqDiff, List.length_map]
      refine retK_intro rfl (Store.sub_refl _) ⟨?_, rfl⟩
      simp [V.erase, eraseL, k1]
    simp only [z16_, Nat.reduceAdd, Nat.reduceEqDiff, List.length_map, decide_eq_false k1]
    by_cases k7 : n.kind = 7
    · simp only [z16_, Nat.reduceAdd, Nat.reduceEqDiff, List.length_map, decide_eq_true k7]
      refine (bare_calls n σ).mono ?_
      rintro v σ ⟨rfl, rfl⟩
      simp only [z16_, Nat.reduceAdd, Nat.reduceEqDiff, List.length_map]
      cases hks : n.kids with
      | nil =>
        simp only [z16_, Nat.reduceAdd, Nat.reduceEqDiff, List.length_map, List.map_nil, List.length_nil, hks, Int.natCast_zero, show decide ((0 : Int) = 1) = false from rfl]
        repeat' (first
          | (refine gL_split (fun h => ?_) (fun h => ?_) <;> simp only [z16_, h, Nat.reduceAdd, Nat.reduceEqDiff, List.length_map, hks, List.map_nil, List.length_nil, Int.natCast_zero, show decide ((0 : Int) = 1) = false from rfl])
          | (refine vcIf_split (fun h => ?_) (fun h => ?_) <;> simp only [z16_, h, Nat.reduceAdd, Nat.reduceEqDiff, List.length_map, hks, List.map_nil, List.length_nil, Int.natCast_zero, show decide ((0 : Int) = 1) = false from rfl])
          | (refine pickL_split (fun h => ?_) (fun h => ?_) <;> simp only [z16_, h, Nat.reduceAdd, Nat.reduceEqDiff, List.length_map, hks, List.map_nil, List.length_nil, Int.natCast_zero, show decide ((0 : Int) = 1) = false from rfl])
        )
        all_goals refine retK_intro rfl (Store.sub_refl _) ⟨?_, rfl⟩
        all_goals simp_all [V.erase, eraseL, k7]
        all_goals (try omega)
      | cons m ms =>
        have hc : PCalls prog 39 [.agg m.enc] σ fun v σ' => v = .bool m.constQ ∧ σ' = σ := const_is_calls _ m σ (Nat.le_refl _) (by have := kid_wt (n := n) (m := m) (by rw [hks]; simp); omega)
        repeat' (first
          | (refine gL_split (fun h => ?_) (fun h => ?_) <;> simp only [z16_, h, Nat.reduceAdd, Nat.reduceEqDiff, List.length_map, hks])
          | (refine vcIf_split (fun h => ?_) (fun h => ?_) <;> simp only [z16_, h, Nat.reduceAdd, Nat.reduceEqDiff, List.length_map, hks])
          | (refine pickL_split (fun h => ?_) (fun h => ?_) <;> simp only [z16_, h, Nat.reduceAdd, Nat.reduceEqDiff, List.length_map, hks])
          | (refine idxL_intro (by omega) (c := m.enc) (by simp) ?_; simp only [am, Nd.rec_])
          | (refine hc.mono ?_; rintro v _ ⟨rfl, rfl⟩; simp only [am])
        )
        all_goals refine retK_intro rfl (Store.sub_refl _) ⟨?_, rfl⟩
        all_goals simp_all [V.erase, eraseL, k7, headQ]
        all_goals (try omega)
    simp only [z16_, Nat.reduceAdd, Nat.reduceEqDiff, List.length_map, decide_eq_false k7]
    by_cases k8 : n.kind = 8
    case' pos =>
      simp only [z16_, Nat.reduceAdd, Nat.reduceEqDiff, List.length_map, decide_eq_true k8]
    case' neg =>
      simp only [z16_, Nat.reduceAdd, Nat.reduceEqDiff, List.length_map, decide_eq_false k8]
      by_cases k9 : n.kind = 9
      case' pos =>
        simp only [z16_, Nat.reduceAdd, Nat.reduceEqDiff, List.length_map, decide_eq_true k9]
      case' neg =>
        simp only [z16_, Nat.reduceAdd, Nat.reduceEqDiff, List.length_map, decide_eq_false k9]
        refine retK_intro rfl (Store.sub_refl _) ⟨?_, rfl⟩
        simp [V.erase, eraseL, k1, k7, k8, k9]
    all_goals
      refine (bare_calls n σ).mono ?_
      rintro v σ ⟨rfl, rfl⟩
      simp only [z16_, Nat.reduceAdd, Nat.reduceEqDiff, List.length_map]
      repeat' (first
        | (refine gL_split (fun h => ?_) (fun h => ?_) <;> simp only [z16_, h, Nat.reduceAdd, Nat.reduceEqDiff, List.length_map])
        | (refine vcIf_split (fun h => ?_) (fun h => ?_) <;> simp only [z16_, h, Nat.reduceAdd, Nat.reduceEqDiff, List.length_map])
        | (refine pickL_split (fun h => ?_) (fun h => ?_) <;> simp only [z16_, h, Nat.reduceAdd, Nat.reduceEqDiff, List.length_map])
        | (refine hall.mono ?_; rintro v _ ⟨rfl, rfl⟩; simp only [am])
      )
      all_goals refine retK_intro rfl (Store.sub_refl _) ⟨?_, rfl⟩
      all_goals simp_all [V.erase, eraseL]
      all_goals (try omega)
end Go.Proofs.Tryz

namespace Go.Proofs.Tryz
open Go.Am
set_option maxRecDepth 4000
set_option maxHeartbeats 4000000
def ac42 : AC := .seq (.reg [⟨(some 2), .box 2 (.s 0), none⟩, ⟨(some 3), .box 5 (.s 1), none⟩, ⟨(some 4), .alloc elmZ, none⟩, ⟨(some 5), .alloc [(.int .i64 0), (.int .i64 0)], none⟩])
 (.seq (.reg [⟨(some 6), .alloc elmZ, none⟩])
 (.seq (.reg [xl 2 13 2, xl 5 14 3, xc 62 15 [.s 13, .s 14], xm 12 15, xe 16 12 0, xe 17 12 1, xm 7 16, xm 8 17])
 (.seq (.seq (.reg [xm 18 8, ⟨(some 19), .not (.s 18), none⟩, xm 20 19, xh 20 (xl 2 21 2), xh 20 (xc 63 22 [.s 21]), ⟨(some 23), .not (.s 22), (some (20, false))⟩, ⟨(some 24), .pick (.s 20) (.c (.bool true)) (.s 23), none⟩, xm 25 24, xh 25 (xl 5 26 3), xh 25 (xc 39 27 [.s 26]), ⟨(some 28), .not (.s 27), (some (25, false))⟩, ⟨(some 29), .pick (.s 25) (.c (.bool true)) (.s 28), none⟩])
 (.cond (.s 29) (.seq (.draw [(xl 8 30 6, []), (xf 1 31 3, []), (xo 32 31, [1]), (⟨(some 33), .build [(.int .i64 0), (.int .i64 0)] [(0, 1, (.c (.int .i64 4))), (1, 1, (.s 32))], none⟩, []), (xs 8 4 30, []), (xs 2 5 33, [])])
 (.ret))
 (.skip)))
 (.seq (.reg [⟨(some 34), .build [(.bool false), (.int .i64 0)] [], none⟩, ⟨(some 35), .boxO 2 (.s 34), none⟩, xm 9 35])
 (.seq (.seq (.reg [xf 1 36 2, xo 37 36, xL 38 37, xi 39 0])
 (.block 0 (.loop (.seq (.reg [xb .lss 40 39 38])
 (.seq (.cond (.s 40) (.skip)
 (.exit 0))
 (.seq (.block 1 (.seq (.reg [xm 41 39, xA 67 42 37 39, xl 67 43 42, ⟨(some 11), .alloc facZ, none⟩, xm 10 41, xs 67 11 43])
 (.draw [(xm 44 10, []), (xm 45 9, []), (xl 67 46 11, []), (xm 47 7, []), (xm 48 10, []), (xA 5 49 47 48, []), (xl 5 50 49, []), (xc 64 51 [.s 45, .s 46, .s 50], []), (⟨(some 52), .idxP 8 1 (.s 6) (.s 44), none⟩, []), (xs 1 52 51, [])])))
 (.reg [xB .add 53 39 1, xm 39 53])))))))
 (.seq (.seq (.reg [xm 54 9, xk 55 54, xf 0 56 55, xo 57 56])
 (.cond (.s 57) (.seq (.draw [(⟨(some 58), .build elmZ [], none⟩, []), (xm 59 9, []), (xk 60 59, []), (xf 1 61 60, []), (xo 62 61, [1]), (⟨(some 63), .build [(.int .i64 0), (.int .i64 0)] [(0, 1, (.c (.int .i64 4))), (1, 1, (.s 62))], none⟩, []), (xs 8 4 58, []), (xs 2 5 63, [])])
 (.ret))
 (.skip)))
 (.seq (.reg [xl 8 64 6, ⟨(some 65), .build [(.int .i64 0), (.int .i64 0)] [], none⟩, xs 8 4 64, xs 2 5 65])
 (.ret))))))))
theorem fn42 : IsFn prog 42 ac42 [.cell 4 true 8, .cell 5 true 2] 66 := ⟨f42, ⟨[35], []⟩, func42, by kernel_rfl, by kernel_rfl, by kernel_rfl, by kernel_rfl⟩
def ac62 : AC := .seq (.reg [⟨(some 2), .box 2 (.s 0), none⟩, ⟨(some 3), .box 5 (.s 1), none⟩, ⟨(some 4), .mv (.c (.sl .full 5 [])), none⟩, ⟨(some 5), .mv (.c (.bool false)), none⟩])
 (.seq (.seq (.reg [xf 0 6 2, xo 7 6, ⟨(some 8), .not (.s 7), none⟩])
 (.cond (.s 8) (.seq (.reg [xl 5 9 3, ⟨(some 10), .bslice 5 [(.s 9)], none⟩, xm 4 10, ⟨(some 5), .mv (.c (.bool true)), none⟩])
 (.ret))
 (.skip)))
 (.seq (.draw [(xf 4 11 3, []), (xo 12 11, []), (xf 0 13 3, []), (xo 14 13, []), (xB .eql 15 14 4, []), (xm 16 15, []), (xg 16 (xf 4 17 3), []), (xg 16 (xo 18 17), []), (xg 16 (xL 19 18), []), (xg 16 (xf 1 20 2), []), (xg 16 (xo 21 20), []), (xg 16 (xL 22 21), []), (xg 16 (xb .eql 23 19 22), []), (⟨(some 24), .pick (.s 16) (.s 23) (.c (.bool false)), none⟩, []), (xm 4 12, []), (xm 5 24, [])])
 (.ret)))
theorem fn62 : IsFn prog 62 ac62 [.tmp 4, .tmp 5] 25 := ⟨f62, ⟨[], []⟩, func62, by kernel_rfl, by kernel_rfl, by kernel_rfl, by kernel_rfl⟩
def ac64 : AC := .seq (.reg [⟨(some 4), .box 67 (.s 1), none⟩, ⟨(some 5), .box 5 (.s 2), none⟩, ⟨(some 6), .mv (.c (.int .u64 0)), none⟩])
 (.seq (.seq (.draw [(xf 0 7 5, []), (xo 8 7, [1]), (xl 67 9 4, []), (xc 78 10 [.s 9], []), (xb .neq 11 8 10, [])])
 (.cond (.s 11) (.seq (.reg [xm 12 0, xf 1 13 5, xo 14 13, xc 79 15 [.s 12, .s 14], xm 6 15])
 (.ret))
 (.skip)))
 (.seq (.seq (.reg [xf 0 16 4, xo 17 16])
 (.block 0 (.seq (.reg [xB .eql 19 17 2, xm 18 19])
 (.cond (.s 18) (.seq (.reg [xm 20 0, xf 1 21 4, xo 22 21, xf 3 23 5, xo 24 23, xc 80 25 [.s 20, .s 22, .s 24], xm 6 25])
 (.ret))
 (.seq (.reg [xB .eql 27 17 3, xm 26 27])
 (.cond (.s 26) (.seq (.reg [xm 28 0, xl 67 29 4, xl 5 30 5, xc 81 31 [.s 28, .s 29, .s 30], xm 6 31])
 (.ret))
 (.skip)))))))
 (.seq (.reg [xm 32 0, xl 67 33 4, xl 5 34 5, xc 82 35 [.s 32, .s 33, .s 34], xm 6 35])
 (.ret))))
theorem fn64 : IsFn prog 64 ac64 [.tmp 6] 36 := ⟨f64, ⟨[], []⟩, func64, by kernel_rfl, by kernel_rfl, by kernel_rfl, by kernel_rfl⟩
def ac78 : AC := .seq (.reg [⟨(some 1), .box 67 (.s 0), none⟩, xi 2 0])
 (.seq (.seq (.reg [xf 0 3 1, xo 4 3])
 (.block 0 (.seq (.reg [xB .eql 6 4 2, xm 5 6])
 (.cond (.s 5) (.seq (.reg [xi 2 3])
 (.ret))
 (.seq (.reg [xB .eql 8 4 3, xm 7 8])
 (.cond (.s 7) (.seq (.reg [xi 2 5])
 (.ret))
 (.skip)))))))
 (.seq (.reg [xi 2 2])
 (.ret)))
theorem fn78 : IsFn prog 78 ac78 [.tmp 2] 9 := ⟨f78, ⟨[], []⟩, func78, by kernel_rfl, by kernel_rfl, by kernel_rfl, by kernel_rfl⟩
def ac79 : AC := .seq (.reg [⟨(some 4), .mv (.c (.int .u64 0)), none⟩])
 (.seq (.seq (.reg [xm 5 0, xk 6 5, xf 0 7 6, xo 8 7, ⟨(some 9), .not (.s 8), none⟩])
 (.cond (.s 9) (.reg [xm 10 0, xm 11 0, xm 12 1, xk 13 10, xf 0 14 13, ⟨none, .store 1 (.s 14) (.c (.bool true)), none⟩, xk 15 11, xf 1 16 15, xs 1 16 12])
 (.skip)))
 (.seq (.reg [⟨(some 4), .mv (.c (.int .u64 0)), none⟩])
 (.ret)))
theorem fn79 : IsFn prog 79 ac79 [.tmp 4] 17 := ⟨f79, ⟨[], []⟩, func79, by kernel_rfl, by kernel_rfl, by kernel_rfl, by kernel_rfl⟩
def ac80 : AC := .seq (.reg [⟨(some 6), .mv (.c (.int .u64 0)), none⟩])
 (.seq (.reg [⟨(some 7), .mv (.c (.int .u64 0)), none⟩])
 (.seq (.seq (.reg [xm 11 2, xL 12 11, xi 13 0])
 (.block 0 (.loop (.seq (.reg [xb .lss 14 13 12])
 (.seq (.cond (.s 14) (.skip)
 (.exit 0))
 (.seq (.block 1 (.seq (.reg [xA 2 15 11 13, xl 2 16 15, ⟨(some 9), .alloc [(.str []), (.int .i64 0)], none⟩, xs 2 9 16])
 (.seq (.reg [xm 17 1, xf 0 18 9, xo 19 18, xc 95 20 [.s 17, .s 19], xm 10 20])
 (.seq (.seq (.reg [xm 21 10, xB .lss 22 21 0])
 (.cond (.s 22) (.seq (.reg [xm 23 0, xf 1 24 9, xo 25 24, xc 79 26 [.s 23, .s 25], xm 6 26])
 (.ret))
 (.skip)))
 (.reg [xm 27 7, xm 28 10, xc 96 29 [.s 27, .s 28], xm 7 29])))))
 (.reg [xB .add 30 13 1, xm 13 30])))))))
 (.seq (.reg [xm 31 7, xm 6 31])
 (.ret))))
theorem fn80 : IsFn prog 80 ac80 [.tmp 6] 32 := ⟨f80, ⟨[], []⟩, func80, by kernel_rfl, by kernel_rfl, by kernel_rfl, by kernel_rfl⟩
def ac81 : AC := .seq (.reg [⟨(some 4), .box 67 (.s 1), none⟩, ⟨(some 5), .box 5 (.s 2), none⟩, ⟨(some 6), .mv (.c (.int .u64 0)), none⟩])
 (.seq (.reg [⟨(some 7), .mv (.c (.int .u64 0)), none⟩])
 (.seq (.seq (.reg [xf 4 11 5, xo 12 11, xL 13 12, xi 14 0])
 (.block 0 (.loop (.seq (.reg [xb .lss 15 14 13])
 (.seq (.cond (.s 15) (.skip)
 (.exit 0))
 (.seq (.block 1 (.seq (.reg [xA 5 16 12 14, xl 5 17 16, ⟨(some 9), .alloc [(.int .i64 0), (.int .i64 0), (.str []), (.sl .full 2 []), (.sl .full 5 [])], none⟩, xs 5 9 17])
 (.seq (.reg [xf 1 18 4, xo 19 18, xf 2 20 9, xo 21 20, xc 95 22 [.s 19, .s 21], xm 10 22])
 (.seq (.seq (.reg [xm 23 10, xB .lss 24 23 0])
 (.cond (.s 24) (.seq (.reg [xm 25 0, xf 1 26 9, xo 27 26, xc 79 28 [.s 25, .s 27], xm 6 28])
 (.ret))
 (.skip)))
 (.draw [(xm 29 7, []), (xf 2 30 4, []), (xl 65 31 30, [1]), (xm 32 10, []), (xm 33 0, []), (xf 1 34 4, []), (xo 35 34, []), (xf 3 36 9, []), (xo 37 36, []), (xc 80 38 [.s 33, .s 35, .s 37], []), (xc 97 39 [.s 31, .s 32, .s 38], []), (xb .or 40 29 39, []), (xm 7 40, [])])))))
 (.reg [xB .add 41 14 1, xm 14 41])))))))
 (.seq (.reg [xm 42 7, xm 6 42])
 (.ret))))
theorem fn81 : IsFn prog 81 ac81 [.tmp 6] 43 := ⟨f81, ⟨[], []⟩, func81, by kernel_rfl, by kernel_rfl, by kernel_rfl, by kernel_rfl⟩
def ac82 : AC := .seq (.reg [⟨(some 4), .box 67 (.s 1), none⟩, ⟨(some 5), .box 5 (.s 2), none⟩, ⟨(some 6), .mv (.c (.int .u64 0)), none⟩])
 (.seq (.reg [xf 1 10 4, xo 11 10, xf 2 12 5, xo 13 12, xc 95 14 [.s 11, .s 13], xm 7 14])
 (.seq (.seq (.reg [xm 15 7, xB .lss 16 15 0])
 (.cond (.s 16) (.seq (.reg [xm 17 0, xf 1 18 5, xo 19 18, xc 79 20 [.s 17, .s 19], xm 6 20])
 (.ret))
 (.skip)))
 (.seq (.seq (.reg [xf 0 21 4, xo 22 21, xB .eql 23 22 4])
 (.cond (.s 23) (.seq (.reg [xf 2 24 4, xl 65 25 24, xm 26 7, xc 90 27 [.s 25, .s 26], xm 6 27])
 (.ret))
 (.skip)))
 (.seq (.reg [xf 1 29 4, xo 30 29, xL 31 30, xm 32 7, xc 98 33 [.s 31, .s 32], xm 28 33, xe 34 28 0, xe 35 28 1, xm 8 34, xm 9 35])
 (.seq (.reg [xm 36 8, xm 6 36])
 (.ret))))))
theorem fn82 : IsFn prog 82 ac82 [.tmp 6] 37 := ⟨f82, ⟨[], []⟩, func82, by kernel_rfl, by kernel_rfl, by kernel_rfl, by kernel_rfl⟩
abbrev BB (σ : Store) (b : Nat) (o : Option Int) : Prop := σ.box b = some (badV o)
theorem tz_set {σ : Store} {b : Nat} {o : Option Int} {c : List V} (hg : TZ σ) (h : BB σ b o) : TZ (σ.set b c) := by
  have hne : 0 ≠ b := by
    rintro rfl
    have hg : σ.box _ = _ := hg
    rw [h] at hg
    have := congrArg (fun x : Option (List V) => (x.getD []).length) hg
    simp [badV, tzCells, tzTab] at this
  show (σ.set b c).box _ = _
  rw [set_box_ne hne]; exact hg
def z17_ := And.intro @am <| And.intro @amo <| And.intro @amc <| And.intro @ams <| And.intro @decide_true <| And.intro @decide_false <| And.intro @aml <| And.intro @w_zero <| And.intro @w_one <| And.intro @w_ones <| And.intro @w_and <| And.intro @w_or <| And.intro @w_andNot <| And.intro @w_shl <| And.intro @w_shr <| And.intro @w_add <| And.intro @w_sub <| And.intro @w_eq <| And.intro @binIV_shl <| And.intro @binIV_shr <| And.intro @Rl.rec_ <| And.intro @Fct.rec_ <| And.intro @Shp.rec_ <| And.intro @Elm.rec_ <| And.intro @Word.rec_ <| And.intro @Nd.rec_ <| And.intro @Nd.fl <| And.intro @Int.toNat_natCast <| And.intro @Nat.mul_one <| And.intro @iCells_len <| And.intro @sCells_len @Nat.add_zero
def z18_ := And.intro @am <| And.intro @amo <| And.intro @amc <| And.intro @encs_length <| And.intro @decide_true <| And.intro @decide_false <| And.intro @aml <| And.intro @w_zero <| And.intro @w_one <| And.intro @w_ones <| And.intro @w_and <| And.intro @w_or <| And.intro @w_andNot <| And.intro @w_shl <| And.intro @w_shr <| And.intro @w_add <| And.intro @w_sub <| And.intro @w_eq <| And.intro @binIV_shl <| And.intro @binIV_shr <| And.intro @Rl.rec_ <| And.intro @Fct.rec_ <| And.intro @Shp.rec_ <| And.intro @Elm.rec_ <| And.intro @Word.rec_ <| And.intro @Nd.rec_ <| And.intro @Nd.fl <| And.intro @Int.toNat_natCast <| And.intro @Nat.mul_one <| And.intro @iCells_len <| And.intro @sCells_len @Nat.add_zero
theorem spfail_calls (b : Nat) (o : Option Int) (p : Int) {σ : Store} (h : BB σ b o) : PCalls prog 79 [.ptr (.out b) 0, .int .i64 p] σ fun v σ' => v = .int .u64 ((0#64 : B64).toNat : Nat) ∧ σ' = σ.set b (badV (o.or (some p))) := by
  refine fn79.calls ?_
  simp only [slots, ac79, z17_, Nat.reduceAdd, Nat.reduceEqDiff, Int.reduceEq, Int.reduceLT, Int.reduceLE, Nat.reduceLT, Int.reduceToNat, Nat.reduceMul, if_false, reduceCtorEq, List.length_map]
  cases o with
  | none =>
    simp only [z18_, Nat.reduceAdd, Nat.reduceEqDiff, List.length_map, Int.reduceEq, Int.reduceLT, Int.reduceLE, Nat.reduceLT, Int.reduceToNat, Nat.reduceMul, if_false, reduceCtorEq, show σ.box b = some [.bool false, .int .i64 0] from h]
    exact retK_intro rfl (Store.sub_refl _) ⟨rfl, rfl⟩
  | some q =>
    have e : σ.set b (badV ((some q).or (some p))) = σ := Store.set_id h
    simp only [z18_, Nat.reduceAdd, Nat.reduceEqDiff, List.length_map, Int.reduceEq, Int.reduceLT, Int.reduceLE, Nat.reduceLT, Int.reduceToNat, Nat.reduceMul, if_false, reduceCtorEq, show σ.box b = some [.bool true, .int .i64 q] from h]
    rw [e]
    exact retK_intro rfl (Store.sub_refl _) ⟨rfl, rfl⟩
theorem plcF_step {l : List (List UInt8)} {w : Word} {ws : List Word} {s : B64} {k : Nat} (h : findS l w.text = some k) : plcF l s (w :: ws) = plcF l (withB s (k : Nat)) ws := by simp only [plcF, h]
theorem plcF_fail {l : List (List UInt8)} {w : Word} {ws : List Word} {s : B64} (h : findS l w.text = none) : plcF l s (w :: ws) = (0#64, some w.pos) := by simp only [plcF, h]
def z19_ := And.intro @am <| And.intro @amo <| And.intro @amc <| And.intro @aml <| And.intro @decide_true <| And.intro @decide_false <| And.intro @w_zero <| And.intro @w_one <| And.intro @w_ones <| And.intro @w_and <| And.intro @w_or <| And.intro @w_andNot <| And.intro @w_shl <| And.intro @w_shr <| And.intro @w_add <| And.intro @w_sub <| And.intro @w_eq <| And.intro @binIV_shl <| And.intro @binIV_shr <| And.intro @Rl.rec_ <| And.intro @Fct.rec_ <| And.intro @Shp.rec_ <| And.intro @Elm.rec_ <| And.intro @Word.rec_ <| And.intro @Nd.rec_ <| And.intro @Nd.fl <| And.intro @Int.toNat_natCast <| And.intro @Nat.mul_one <| And.intro @iCells_len <| And.intro @sCells_len @Nat.add_zero
theorem spplaces_calls (b : Nat) (o : Option Int) (l : List (List UInt8)) (ws : List Word) {σ : Store} (h : BB σ b o) (hl : l.length ≤ 100000) (hw : ws.length ≤ 1000000000) :
    PCalls prog 80 [.ptr (.out b) 0, .sl .no 1 (sCells l), .sl .no 2 (ws.map Word.enc)] σ fun v σ' => v = .int .u64 ((plcF l 0#64 ws).1.toNat : Nat) ∧ σ' = σ.set b (badV (o.or (plcF l 0#64 ws).2)) := by
  refine fn80.calls ?_
  simp only [slots, ac80, z17_, Nat.reduceAdd, Nat.reduceEqDiff, Int.reduceEq, Int.reduceLT, Int.reduceLE, Nat.reduceLT, Int.reduceToNat, Nat.reduceMul, if_false, reduceCtorEq, List.length_map]
  obtain ⟨F, hF⟩ : ∃ F : Nat → B64 → St, ∀ i x, F i x = ⟨[.ptr (.out b) 0, .sl .no 1 (sCells l), .any, .any, .any, .any, .any, .int .u64 (x.toNat : Nat), .any, .any, .any, .sl .no 2 (ws.map Word.enc), .int .i64 (ws.length : Nat), .int .i64 (i : Nat)] ++ List.replicate 18 .any, [], σ⟩ := ⟨_, fun _ _ => rfl⟩
  obtain ⟨JF, hJF⟩ : ∃ JF : Nat → B64 → Prop, ∀ i x, JF i x = (plcF l 0#64 ws = plcF l x (ws.drop i)) := ⟨_, fun _ _ => rfl⟩
  refine vc_count (ws.length) F JF _ hJF ?_ ?_ ?_
  · refine ent (0#64) ?_ ?_ ?_ ?_
    · exact Eq.mpr (hJF _ _) (rfl)
    all_goals simp [hF, List.replicate, am, lle_self]
  · rintro i x hi hJ
    rw [List.drop_eq_getElem_cons hi] at hJ
    simp only [hF, List.replicate, z19_, dlt hi, Nat.reduceAdd, Nat.reduceEqDiff, Int.reduceEq, Int.reduceLT, Int.reduceLE, Nat.reduceLT, Int.reduceToNat, Nat.reduceMul, if_false, reduceCtorEq, List.length_map]
    refine idxL_intro (by omega) (wencs_at (List.getElem?_eq_getElem hi)) ?_
    simp only [z18_, Nat.reduceAdd, Nat.reduceEqDiff, List.length_map, Int.reduceEq, Int.reduceLT, Int.reduceLE, Nat.reduceLT, Int.reduceToNat, Nat.reduceMul, if_false, reduceCtorEq, Word.enc]
    refine (find_calls l ws[i].text σ hl).mono ?_
    rintro v σ ⟨rfl, rfl⟩
    simp only [z18_, Nat.reduceAdd, Nat.reduceEqDiff, List.length_map, Int.reduceEq, Int.reduceLT, Int.reduceLE, Nat.reduceLT, Int.reduceToNat, Nat.reduceMul, if_false, reduceCtorEq, optI_neg]
    cases hf : findS l ws[i].text with
    | none =>
      rw [plcF_fail hf] at hJ
      simp only [z18_, Nat.reduceAdd, Nat.reduceEqDiff, List.length_map, Int.reduceEq, Int.reduceLT, Int.reduceLE, Nat.reduceLT, Int.reduceToNat, Nat.reduceMul, if_false, reduceCtorEq, Option.isNone_none]
      refine (spfail_calls b o ws[i].pos h).mono ?_
      rintro v σ' ⟨rfl, rfl⟩
      simp only [z18_, Nat.reduceAdd, Nat.reduceEqDiff, List.length_map, Int.reduceEq, Int.reduceLT, Int.reduceLE, Nat.reduceLT, Int.reduceToNat, Nat.reduceMul, if_false, reduceCtorEq]
      exact retK_intro rfl (Store.sub_refl _) ⟨by rw [hJ]; rfl, by rw [hJ]⟩
    | some k =>
      rw [plcF_step hf] at hJ
      simp only [z18_, Nat.reduceAdd, Nat.reduceEqDiff, List.length_map, Int.reduceEq, Int.reduceLT, Int.reduceLE, Nat.reduceLT, Int.reduceToNat, Nat.reduceMul, if_false, reduceCtorEq, Option.isNone_some, optI]
      refine (mask_with_calls x (k : Nat) σ).mono ?_
      rintro v σ ⟨rfl, rfl⟩
      simp only [z18_, Nat.reduceAdd, Nat.reduceEqDiff, List.length_map, Int.reduceEq, Int.reduceLT, Int.reduceLE, Nat.reduceLT, Int.reduceToNat, Nat.reduceMul, if_false, reduceCtorEq, winc hi (by omega)]
      refine nxtD (withB x (k : Nat)) hi ?_ ?_ ?_ ?_ ?_ ?_
      · exact Eq.mpr (hJF _ _) (hJ)
      all_goals simp [hF, List.replicate, am, lle_self, loL, loLL, V.lo]
  · rintro x hJ
    rw [List.drop_length] at hJ
    have e : σ.set b (badV (o.or (plcF l 0#64 ws).2)) = σ := by rw [hJ]; simp only [plcF, Option.or_none]; exact Store.set_id h
    simp only [hF, List.replicate, z19_, dnl, Nat.reduceAdd, Nat.reduceEqDiff, Int.reduceEq, Int.reduceLT, Int.reduceLE, Nat.reduceLT, Int.reduceToNat, Nat.reduceMul, if_false, reduceCtorEq, List.length_map]
    rw [e, hJ]
    refine retK_intro rfl (Store.sub_refl _) ⟨?_, rfl⟩
    simp [V.erase, eraseL, plcF]
theorem rules_calls (b : Nat) (o : Option Int) (f : Fct) (n : Nd) {σ : Store} (h : BB σ b o) (hg : TZ σ) (hl : f.names.length ≤ 100000) (hk : n.kids.length ≤ 1000000000) (hw : ∀ k ∈ n.kids, k.names.length ≤ 1000000000) :
    PCalls prog 81 [.ptr (.out b) 0, .agg f.enc, .agg n.enc] σ fun v σ' => v = .int .u64 ((rulP f 0#64 o n.kids).1.toNat : Nat) ∧ σ' = σ.set b (badV (rulP f 0#64 o n.kids).2) := by
  refine fn81.calls ?_
  simp only [slots, ac81, z17_, Nat.reduceAdd, Nat.reduceEqDiff, Int.reduceEq, Int.reduceLT, Int.reduceLE, Nat.reduceLT, Int.reduceToNat, Nat.reduceMul, if_false, reduceCtorEq, List.length_map]
  have hid : σ.set b (badV o) = σ := Store.set_id h
  obtain ⟨F, hF⟩ : ∃ F : Nat → B64 × Option Int → St, ∀ i x, F i x = ⟨[.ptr (.out b) 0, .any, .any, .any, .ptr (.loc 0) 0, .ptr (.loc 1) 0, .any, .int .u64 (x.1.toNat : Nat), .any, .any, .any, .any, .sl .no 5 (n.kids.map Nd.enc), .int .i64 (n.kids.length : Nat), .int .i64 (i : Nat)] ++ List.replicate 28 .any, [f.enc, n.enc], σ.set b (badV x.2)⟩ := ⟨_, fun _ _ => rfl⟩
  obtain ⟨JF, hJF⟩ : ∃ JF : Nat → B64 × Option Int → Prop, ∀ i x, JF i x = (rulP f 0#64 o n.kids = rulP f x.1 x.2 (n.kids.drop i)) := ⟨_, fun _ _ => rfl⟩
  refine vc_count (n.kids.length) F JF _ hJF ?_ ?_ ?_
  · refine ent ((0#64, o)) ?_ ?_ ?_ ?_
    · exact Eq.mpr (hJF _ _) (rfl)
    all_goals simp [hF, List.replicate, am, lle_self, hid]
  · rintro i ⟨x, o'⟩ hi hJ
    rw [List.drop_eq_getElem_cons hi] at hJ
    simp only at hJ
    have h1 : BB (σ.set b (badV o')) b o' := set_box
    simp only [hF, List.replicate, z19_, dlt hi, Nat.reduceAdd, Nat.reduceEqDiff, Int.reduceEq, Int.reduceLT, Int.reduceLE, Nat.reduceLT, Int.reduceToNat, Nat.reduceMul, if_false, reduceCtorEq, List.length_map]
    refine idxL_intro (by omega) (nencs_at (List.getElem?_eq_getElem hi)) ?_
    simp only [z18_, Nat.reduceAdd, Nat.reduceEqDiff, List.length_map, Int.reduceEq, Int.reduceLT, Int.reduceLE, Nat.reduceLT, Int.reduceToNat, Nat.reduceMul, if_false, reduceCtorEq]
    refine (find_calls f.names n.kids[i].text _ hl).mono ?_
    rintro v σ1 ⟨rfl, rfl⟩
    simp only [z18_, Nat.reduceAdd, Nat.reduceEqDiff, List.length_map, Int.reduceEq, Int.reduceLT, Int.reduceLE, Nat.reduceLT, Int.reduceToNat, Nat.reduceMul, if_false, reduceCtorEq, optI_neg]
    cases hf : findS f.names n.kids[i].text with
    | none =>
      simp only [rulP, hf] at hJ
      simp only [z18_, Nat.reduceAdd, Nat.reduceEqDiff, List.length_map, Int.reduceEq, Int.reduceLT, Int.reduceLE, Nat.reduceLT, Int.reduceToNat, Nat.reduceMul, if_false, reduceCtorEq, Option.isNone_none]
      refine (spfail_calls b o' n.kids[i].pos h1).mono ?_
      rintro v σ' ⟨rfl, rfl⟩
      simp only [z18_, Nat.reduceAdd, Nat.reduceEqDiff, List.length_map, Int.reduceEq, Int.reduceLT, Int.reduceLE, Nat.reduceLT, Int.reduceToNat, Nat.reduceMul, if_false, reduceCtorEq]
      exact retK_intro rfl (Store.sub_refl _) ⟨by rw [hJ]; rfl, by rw [hJ]⟩
    | some k =>
      simp only [rulP, hf] at hJ
      simp only [z18_, Nat.reduceAdd, Nat.reduceEqDiff, List.length_map, Int.reduceEq, Int.reduceLT, Int.reduceLE, Nat.reduceLT, Int.reduceToNat, Nat.reduceMul, if_false, reduceCtorEq, Option.isNone_some, optI]
      refine CallD.intro (spplaces_calls b o' f.names n.kids[i].names h1 hl (hw _ (List.getElem_mem hi))) ?_
      simp only [z18_, Nat.reduceAdd, Nat.reduceEqDiff, List.length_map, Int.reduceEq, Int.reduceLT, Int.reduceLE, Nat.reduceLT, Int.reduceToNat, Nat.reduceMul, if_false, reduceCtorEq]
      refine CallD.intro (grule_calls f.rel k (plcF f.names 0#64 n.kids[i].names).1 (tz_set hg h)) ?_
      simp only [z18_, Nat.reduceAdd, Nat.reduceEqDiff, List.length_map, Int.reduceEq, Int.reduceLT, Int.reduceLE, Nat.reduceLT, Int.reduceToNat, Nat.reduceMul, if_false, reduceCtorEq, winc hi (by omega)]
      refine nxtD ((x ||| ruleG f.rel k (plcF f.names 0#64 n.kids[i].names).1, o'.or (plcF f.names 0#64 n.kids[i].names).2)) hi ?_ ?_ ?_ ?_ ?_ ?_
      · exact Eq.mpr (hJF _ _) (hJ)
      all_goals simp [hF, List.replicate, am, lle_self, loL, loLL, V.lo, Fct.r_lo, Nd.r_lo]
  · rintro ⟨x, o'⟩ hJ
    rw [List.drop_length] at hJ
    simp only [hF, List.replicate, z19_, dnl, Nat.reduceAdd, Nat.reduceEqDiff, Int.reduceEq, Int.reduceLT, Int.reduceLE, Nat.reduceLT, Int.reduceToNat, Nat.reduceMul, if_false, reduceCtorEq, List.length_map]
    rw [hJ]
    refine retK_intro rfl (Store.sub_refl _) ⟨?_, rfl⟩
    simp [V.erase, eraseL, rulP]
theorem point_calls11 (b : Nat) (o : Option Int) (f : Fct) (n : Nd) {σ : Store} (h : BB σ b o) (hl : f.names.length ≤ 100000) :
    PCalls prog 82 [.ptr (.out b) 0, .agg f.enc, .agg n.enc] σ fun v σ' => v = .int .u64 ((ptF f n).1.toNat : Nat) ∧ σ' = σ.set b (badV (o.or (ptF f n).2)) := by
  refine fn82.calls ?_
  simp only [slots, ac82, z17_, Nat.reduceAdd, Nat.reduceEqDiff, Int.reduceEq, Int.reduceLT, Int.reduceLE, Nat.reduceLT, Int.reduceToNat, Nat.reduceMul, if_false, reduceCtorEq, List.length_map]
  refine (find_calls f.names n.text _ hl).mono ?_
  rintro v σ ⟨rfl, rfl⟩
  simp only [z18_, Nat.reduceAdd, Nat.reduceEqDiff, List.length_map, Int.reduceEq, Int.reduceLT, Int.reduceLE, Nat.reduceLT, Int.reduceToNat, Nat.reduceMul, if_false, reduceCtorEq, optI_neg]
  cases hf : findS f.names n.text with
  | none =>
    simp only [z18_, Nat.reduceAdd, Nat.reduceEqDiff, List.length_map, Int.reduceEq, Int.reduceLT, Int.reduceLE, Nat.reduceLT, Int.reduceToNat, Nat.reduceMul, if_false, reduceCtorEq, Option.isNone_none]
    refine (spfail_calls b o n.pos h).mono ?_
    rintro v σ' ⟨rfl, rfl⟩
    simp only [z18_, Nat.reduceAdd, Nat.reduceEqDiff, List.length_map, Int.reduceEq, Int.reduceLT, Int.reduceLE, Nat.reduceLT, Int.reduceToNat, Nat.reduceMul, if_false, reduceCtorEq]
    exact retK_intro rfl (Store.sub_refl _) ⟨by simp only [ptF, hf]; rfl, by simp only [ptF, hf]⟩
  | some k =>
    have e : σ.set b (badV (o.or (ptF f n).2)) = σ := by simp only [ptF, hf, Option.or_none]; exact Store.set_id h
    rw [e]
    simp only [z18_, Nat.reduceAdd, Nat.reduceEqDiff, List.length_map, Int.reduceEq, Int.reduceLT, Int.reduceLE, Nat.reduceLT, Int.reduceToNat, Nat.reduceMul, if_false, reduceCtorEq, Option.isNone_some, optI]
    by_cases h4 : f.kind = 4
    · simp only [z18_, Nat.reduceAdd, Nat.reduceEqDiff, List.length_map, Int.reduceEq, Int.reduceLT, Int.reduceLE, Nat.reduceLT, Int.reduceToNat, Nat.reduceMul, if_false, reduceCtorEq, decide_eq_true h4]
      refine (hword_calls f.rel k σ).mono ?_
      rintro v σ ⟨rfl, rfl⟩
      simp only [z18_, Nat.reduceAdd, Nat.reduceEqDiff, List.length_map, Int.reduceEq, Int.reduceLT, Int.reduceLE, Nat.reduceLT, Int.reduceToNat, Nat.reduceMul, if_false, reduceCtorEq]
      refine retK_intro rfl (Store.sub_refl _) ⟨?_, rfl⟩
      simp [V.erase, eraseL, ptF, hf, h4]
    · simp only [z18_, Nat.reduceAdd, Nat.reduceEqDiff, List.length_map, Int.reduceEq, Int.reduceLT, Int.reduceLE, Nat.reduceLT, Int.reduceToNat, Nat.reduceMul, if_false, reduceCtorEq, decide_eq_false h4]
      refine (rword_calls f.names.length k σ).mono ?_
      rintro v σ ⟨rfl, rfl⟩
      simp only [z18_, Nat.reduceAdd, Nat.reduceEqDiff, List.length_map, Int.reduceEq, Int.reduceLT, Int.reduceLE, Nat.reduceLT, Int.reduceToNat, Nat.reduceMul, if_false, reduceCtorEq, wTup]
      refine retK_intro rfl (Store.sub_refl _) ⟨?_, rfl⟩
      simp [V.erase, eraseL, ptF, hf, h4]
theorem kind_calls (f : Fct) (σ : Store) : PCalls prog 78 [.agg f.enc] σ fun v σ' => v = .int .i64 (kindF f) ∧ σ' = σ := by
  refine fn78.calls ?_
  simp only [slots, ac78, z17_, Nat.reduceAdd, Nat.reduceEqDiff, Int.reduceEq, Int.reduceLT, Int.reduceLE, Nat.reduceLT, Int.reduceToNat, Nat.reduceMul, if_false, reduceCtorEq, List.length_map]
  by_cases h2 : f.kind = 2
  · simp only [z18_, Nat.reduceAdd, Nat.reduceEqDiff, List.length_map, Int.reduceEq, Int.reduceLT, Int.reduceLE, Nat.reduceLT, Int.reduceToNat, Nat.reduceMul, if_false, reduceCtorEq, decide_eq_true h2]
    refine retK_intro rfl (Store.sub_refl _) ⟨?_, rfl⟩
    simp [V.erase, eraseL, kindF, h2]
  · simp only [z18_, Nat.reduceAdd, Nat.reduceEqDiff, List.length_map, Int.reduceEq, Int.reduceLT, Int.reduceLE, Nat.reduceLT, Int.reduceToNat, Nat.reduceMul, if_false, reduceCtorEq, decide_eq_false h2]
    by_cases h3 : f.kind = 3
    · simp only [z18_, Nat.reduceAdd, Nat.reduceEqDiff, List.length_map, Int.reduceEq, Int.reduceLT, Int.reduceLE, Nat.reduceLT, Int.reduceToNat, Nat.reduceMul, if_false, reduceCtorEq, decide_eq_true h3]
      refine retK_intro rfl (Store.sub_refl _) ⟨?_, rfl⟩
      simp [V.erase, eraseL, kindF, h3]
    · simp only [z18_, Nat.reduceAdd, Nat.reduceEqDiff, List.length_map, Int.reduceEq, Int.reduceLT, Int.reduceLE, Nat.reduceLT, Int.reduceToNat, Nat.reduceMul, if_false, reduceCtorEq, decide_eq_false h3]
      refine retK_intro rfl (Store.sub_refl _) ⟨?_, rfl⟩
      simp [V.erase, eraseL, kindF, h2, h3]
theorem word_calls11 (b : Nat) (o : Option Int) (f : Fct) (n : Nd) {σ : Store} (h : BB σ b o) (hg : TZ σ) (hl : f.names.length ≤ 100000) (hk : n.names.length ≤ 1000000000 ∧ n.kids.length ≤ 1000000000) (hw : ∀ k ∈ n.kids, k.names.length ≤ 1000000000) :
    PCalls prog 64 [.ptr (.out b) 0, .agg f.enc, .agg n.enc] σ fun v σ' => v = .int .u64 ((wrdP f n o).1.toNat : Nat) ∧ σ' = σ.set b (badV (wrdP f n o).2) := by
  refine fn64.calls ?_
  simp only [slots, ac64, z17_, Nat.reduceAdd, Nat.reduceEqDiff, Int.reduceEq, Int.reduceLT, Int.reduceLE, Nat.reduceLT, Int.reduceToNat, Nat.reduceMul, if_false, reduceCtorEq, List.length_map]
  refine CallD.intro (kind_calls f σ) ?_
  simp only [z18_, Nat.reduceAdd, Nat.reduceEqDiff, List.length_map, Int.reduceEq, Int.reduceLT, Int.reduceLE, Nat.reduceLT, Int.reduceToNat, Nat.reduceMul, if_false, reduceCtorEq]
  by_cases hq : n.kind = kindF f
  · simp only [z18_, Nat.reduceAdd, Nat.reduceEqDiff, List.length_map, Int.reduceEq, Int.reduceLT, Int.reduceLE, Nat.reduceLT, Int.reduceToNat, Nat.reduceMul, if_false, reduceCtorEq, decide_eq_true hq]
    by_cases h2 : f.kind = 2
    · have e : wrdP f n o = ((plcF f.names 0#64 n.names).1, o.or (plcF f.names 0#64 n.names).2) := by rw [wrdP, if_pos hq, if_pos h2]
      simp only [z18_, Nat.reduceAdd, Nat.reduceEqDiff, List.length_map, Int.reduceEq, Int.reduceLT, Int.reduceLE, Nat.reduceLT, Int.reduceToNat, Nat.reduceMul, if_false, reduceCtorEq, decide_eq_true h2]
      refine (spplaces_calls b o f.names n.names h hl hk.1).mono ?_
      rintro v σ' ⟨rfl, rfl⟩
      simp only [z18_, Nat.reduceAdd, Nat.reduceEqDiff, List.length_map, Int.reduceEq, Int.reduceLT, Int.reduceLE, Nat.reduceLT, Int.reduceToNat, Nat.reduceMul, if_false, reduceCtorEq]
      exact retK_intro rfl (Store.sub_refl _) ⟨by rw [e]; rfl, by rw [e]⟩
    · simp only [z18_, Nat.reduceAdd, Nat.reduceEqDiff, List.length_map, Int.reduceEq, Int.reduceLT, Int.reduceLE, Nat.reduceLT, Int.reduceToNat, Nat.reduceMul, if_false, reduceCtorEq, decide_eq_false h2]
      by_cases h3 : f.kind = 3
      · have e : wrdP f n o = rulP f 0#64 o n.kids := by rw [wrdP, if_pos hq, if_neg h2, if_pos h3]
        simp only [z18_, Nat.reduceAdd, Nat.reduceEqDiff, List.length_map, Int.reduceEq, Int.reduceLT, Int.reduceLE, Nat.reduceLT, Int.reduceToNat, Nat.reduceMul, if_false, reduceCtorEq, decide_eq_true h3]
        refine (rules_calls b o f n h hg hl hk.2 hw).mono ?_
        rintro v σ' ⟨rfl, rfl⟩
        simp only [z18_, Nat.reduceAdd, Nat.reduceEqDiff, List.length_map, Int.reduceEq, Int.reduceLT, Int.reduceLE, Nat.reduceLT, Int.reduceToNat, Nat.reduceMul, if_false, reduceCtorEq]
        exact retK_intro rfl (Store.sub_refl _) ⟨by rw [e]; rfl, by rw [e]⟩
      · have e : wrdP f n o = ((ptF f n).1, o.or (ptF f n).2) := by rw [wrdP, if_pos hq, if_neg h2, if_neg h3]
        simp only [z18_, Nat.reduceAdd, Nat.reduceEqDiff, List.length_map, Int.reduceEq, Int.reduceLT, Int.reduceLE, Nat.reduceLT, Int.reduceToNat, Nat.reduceMul, if_false, reduceCtorEq, decide_eq_false h3]
        refine (point_calls11 b o f n h hl).mono ?_
        rintro v σ' ⟨rfl, rfl⟩
        simp only [z18_, Nat.reduceAdd, Nat.reduceEqDiff, List.length_map, Int.reduceEq, Int.reduceLT, Int.reduceLE, Nat.reduceLT, Int.reduceToNat, Nat.reduceMul, if_false, reduceCtorEq]
        exact retK_intro rfl (Store.sub_refl _) ⟨by rw [e]; rfl, by rw [e]⟩
  · have e : wrdP f n o = (0#64, o.or (some n.pos)) := by rw [wrdP, if_neg hq]
    simp only [z18_, Nat.reduceAdd, Nat.reduceEqDiff, List.length_map, Int.reduceEq, Int.reduceLT, Int.reduceLE, Nat.reduceLT, Int.reduceToNat, Nat.reduceMul, if_false, reduceCtorEq, decide_eq_false hq]
    refine (spfail_calls b o n.pos h).mono ?_
    rintro v σ' ⟨rfl, rfl⟩
    simp only [z18_, Nat.reduceAdd, Nat.reduceEqDiff, List.length_map, Int.reduceEq, Int.reduceLT, Int.reduceLE, Nat.reduceLT, Int.reduceToNat, Nat.reduceMul, if_false, reduceCtorEq]
    exact retK_intro rfl (Store.sub_refl _) ⟨by rw [e]; rfl, by rw [e]⟩
theorem parts_calls (s : Shp) (n : Nd) (σ : Store) : PCalls prog 62 [.agg s.enc, .agg n.enc] σ fun v σ' => v = .tup [.sl .no 5 ((partsF s n).map Nd.enc), .bool (partsQ s n)] ∧ σ' = σ := by
  refine fn62.calls ?_
  simp only [slots, ac62, z17_, Nat.reduceAdd, Nat.reduceEqDiff, Int.reduceEq, Int.reduceLT, Int.reduceLE, Nat.reduceLT, Int.reduceToNat, Nat.reduceMul, if_false, reduceCtorEq, List.length_map]
  cases ht : s.tuple with
  | false =>
    simp only [z18_, Nat.reduceAdd, Nat.reduceEqDiff, List.length_map, Int.reduceEq, Int.reduceLT, Int.reduceLE, Nat.reduceLT, Int.reduceToNat, Nat.reduceMul, if_false, reduceCtorEq, ht]
    refine retK_intro rfl (Store.sub_refl _) ⟨?_, rfl⟩
    simp [V.erase, eraseL, partsF, partsQ, ht]
  | true =>
    simp only [z18_, Nat.reduceAdd, Nat.reduceEqDiff, List.length_map, Int.reduceEq, Int.reduceLT, Int.reduceLE, Nat.reduceLT, Int.reduceToNat, Nat.reduceMul, if_false, reduceCtorEq, ht]
    by_cases h4 : n.kind = 4
    · simp only [z18_, Nat.reduceAdd, Nat.reduceEqDiff, List.length_map, Int.reduceEq, Int.reduceLT, Int.reduceLE, Nat.reduceLT, Int.reduceToNat, Nat.reduceMul, if_false, reduceCtorEq, decide_eq_true h4]
      by_cases hl : n.kids.length = s.facs.length
      · simp only [z18_, Nat.reduceAdd, Nat.reduceEqDiff, List.length_map, Int.reduceEq, Int.reduceLT, Int.reduceLE, Nat.reduceLT, Int.reduceToNat, Nat.reduceMul, if_false, reduceCtorEq, decide_eq_true (show (n.kids.length : Int) = s.facs.length by omega)]
        refine retK_intro rfl (Store.sub_refl _) ⟨?_, rfl⟩
        simp [V.erase, eraseL, partsF, partsQ, ht, h4, hl]
      · simp only [z18_, Nat.reduceAdd, Nat.reduceEqDiff, List.length_map, Int.reduceEq, Int.reduceLT, Int.reduceLE, Nat.reduceLT, Int.reduceToNat, Nat.reduceMul, if_false, reduceCtorEq, decide_eq_false (show ¬ (n.kids.length : Int) = s.facs.length by omega)]
        refine retK_intro rfl (Store.sub_refl _) ⟨?_, rfl⟩
        simp [V.erase, eraseL, partsF, partsQ, ht, h4, hl]
    · simp only [z18_, Nat.reduceAdd, Nat.reduceEqDiff, List.length_map, Int.reduceEq, Int.reduceLT, Int.reduceLE, Nat.reduceLT, Int.reduceToNat, Nat.reduceMul, if_false, reduceCtorEq, decide_eq_false h4]
      refine retK_intro rfl (Store.sub_refl _) ⟨?_, rfl⟩
      simp [V.erase, eraseL, partsF, partsQ, ht, h4]
def Nd.ok (n : Nd) : Prop := n.names.length ≤ 1000000000 ∧ n.kids.length ≤ 1000000000 ∧ ∀ k ∈ n.kids, k.names.length ≤ 1000000000
theorem elemF_no {s : Shp} {n : Nd} (h : (partsQ s n && shpR s && n.constQ) = false) : elemF s n = (.zero, some n.pos) := by rw [elemF, h]; rfl
theorem elemF_go {s : Shp} {n : Nd} (h1 : partsQ s n = true) (h2 : shpR s = true) (h3 : n.constQ = true) : elemF s n = elmGo s (partsF s n) := by rw [elemF, h1, h2, h3]; rfl
theorem shpR_len {s : Shp} (h : shpR s = true) : 1 ≤ s.facs.length ∧ s.facs.length ≤ 8 ∧ (s.tuple = false → s.facs.length = 1) := by
  simp only [shpR, Bool.and_eq_true, decide_eq_true_eq, Bool.or_eq_true] at h
  refine ⟨h.1.1.1, h.1.1.2, fun ht => ?_⟩
  rcases h.1.2 with h | h
  · rw [ht] at h; simp at h
  · exact h
theorem parts_len {s : Shp} {n : Nd} (h1 : partsQ s n = true) (h2 : shpR s = true) : (partsF s n).length = s.facs.length := by
  have hl := (shpR_len h2).2.2
  unfold partsF; unfold partsQ at h1
  cases ht : s.tuple with
  | false => simp [hl ht]
  | true => rw [ht] at h1; simpa using And.right (by simpa using h1)
theorem elem_calls (s : Shp) (n : Nd) {σ : Store} (hg : TZ σ) (hok : s.ok) (hn : ∀ k ∈ partsF s n, Nd.ok k) (hwt : n.wt ≤ big) :
    PCalls prog 42 [.agg s.enc, .agg n.enc] σ fun v σ' => v = .tup [.agg (elemF s n).1.enc, .agg (fltV (elemF s n).2)] ∧ σ' = σ := by
  refine fn42.calls ?_
  simp only [slots, ac42, z17_, Nat.reduceAdd, Nat.reduceEqDiff, Int.reduceEq, Int.reduceLT, Int.reduceLE, Nat.reduceLT, Int.reduceToNat, Nat.reduceMul, if_false, reduceCtorEq, List.length_map]
  refine (parts_calls s n σ).mono ?_
  rintro v σ ⟨rfl, rfl⟩
  simp only [z18_, Nat.reduceAdd, Nat.reduceEqDiff, List.length_map, Int.reduceEq, Int.reduceLT, Int.reduceLE, Nat.reduceLT, Int.reduceToNat, Nat.reduceMul, if_false, reduceCtorEq]
  have done : ∀ (e : Elm × Option Int) (t : List V) (l : List (List V)) (σ1 : Store), e = elemF s n → σ.sub σ1 → RetK (fun v σ' => v = V.tup [.agg (elemF s n).1.enc, .agg (fltV (elemF s n).2)] ∧ σ' = σ) ⟨t, l, σ1⟩ (.tup [.agg e.1.enc, .agg (fltV e.2)]) := fun e t l σ1 he hs => by
    subst he
    exact retK_intro (by simp [V.nol, nolL, Elm.r_nol, fltV]) hs ⟨by simp [V.erase, eraseL, Elm.r_er, fltV], rfl⟩
  cases hp : partsQ s n with
  | false =>
    simp only [z18_, Nat.reduceAdd, Nat.reduceEqDiff, List.length_map, Int.reduceEq, Int.reduceLT, Int.reduceLE, Nat.reduceLT, Int.reduceToNat, Nat.reduceMul, if_false, reduceCtorEq]
    exact done (.zero, some n.pos) _ _ _ (elemF_no (by rw [hp]; rfl)).symm (Store.sub_refl _)
  | true =>
    simp only [z18_, Nat.reduceAdd, Nat.reduceEqDiff, List.length_map, Int.reduceEq, Int.reduceLT, Int.reduceLE, Nat.reduceLT, Int.reduceToNat, Nat.reduceMul, if_false, reduceCtorEq]
    refine (shright_calls s hg hok).mono ?_
    rintro v σ ⟨rfl, rfl⟩
    cases hr : shpR s with
    | false =>
      simp only [z18_, Nat.reduceAdd, Nat.reduceEqDiff, List.length_map, Int.reduceEq, Int.reduceLT, Int.reduceLE, Nat.reduceLT, Int.reduceToNat, Nat.reduceMul, if_false, reduceCtorEq]
      exact done (.zero, some n.pos) _ _ _ (elemF_no (by rw [hp, hr]; rfl)).symm (Store.sub_refl _)
    | true =>
      simp only [z18_, Nat.reduceAdd, Nat.reduceEqDiff, List.length_map, Int.reduceEq, Int.reduceLT, Int.reduceLE, Nat.reduceLT, Int.reduceToNat, Nat.reduceMul, if_false, reduceCtorEq]
      refine (const_is_calls _ n σ (Nat.le_refl _) hwt).mono ?_
      rintro v σ ⟨rfl, rfl⟩
      cases hc : n.constQ with
      | false =>
        simp only [z18_, Nat.reduceAdd, Nat.reduceEqDiff, List.length_map, Int.reduceEq, Int.reduceLT, Int.reduceLE, Nat.reduceLT, Int.reduceToNat, Nat.reduceMul, if_false, reduceCtorEq]
        exact done (.zero, some n.pos) _ _ _ (elemF_no (by rw [hp, hr, hc]; rfl)).symm (Store.sub_refl _)
      | true =>
        have hgo := elemF_go hp hr hc
        obtain ⟨hl1, hl8, _⟩ := shpR_len hr
        have hpl := parts_len hp hr
        simp only [z18_, Nat.reduceAdd, Nat.reduceEqDiff, List.length_map, Int.reduceEq, Int.reduceLT, Int.reduceLE, Nat.reduceLT, Int.reduceToNat, Nat.reduceMul, if_false, reduceCtorEq]
        refine kO_intro fun b hb => ?_
        have hs : ∀ c, σ.sub (σ.set b c) := fun c => sub_set hb
        have hgb : ∀ c, TZ (σ.set b c) := fun c => (hs c).1 _ _ hg
        simp only [z18_, Nat.reduceAdd, Nat.reduceEqDiff, List.length_map, Int.reduceEq, Int.reduceLT, Int.reduceLE, Nat.reduceLT, Int.reduceToNat, Nat.reduceMul, if_false, reduceCtorEq]
        obtain ⟨F, hF⟩ : ∃ F : Nat → Elm × Option Int → St, ∀ i x, F i x = ⟨[.any, .any, .any, .any, .ptr (.loc 2) 0, .ptr (.loc 3) 0, .ptr (.loc 4) 0, .sl .no 5 ((partsF s n).map Nd.enc), .any, .ptr (.out b) 0, .any, .any, .any, .any, .any, .any, .any, .any, .any, .any, .any, .any, .any, .any, .any, .any, .any, .any, .any, .any, .any, .any, .any, .any, .any, .any, .any, .sl .no 67 (s.facs.map Fct.enc), .int .i64 (s.facs.length : Nat), .int .i64 (i : Nat)] ++ List.replicate 26 .any, [s.enc, n.enc, Elm.zero.enc, [.int .i64 0, .int .i64 0], x.1.enc], σ.set b (badV x.2)⟩ := ⟨_, fun _ _ => rfl⟩
        obtain ⟨JF, hJF⟩ : ∃ JF : Nat → Elm × Option Int → Prop, ∀ i x, JF i x = (goI s (partsF s n) i x) := ⟨_, fun _ _ => rfl⟩
        refine vc_count (s.facs.length) F JF _ hJF ?_ ?_ ?_
        · refine ent ((.zero, none)) ?_ ?_ ?_ ?_
          · exact Eq.mpr (hJF _ _) (goI_zero)
          all_goals simp [hF, List.replicate, am, lle_self, badV]
        · rintro i ⟨e, o⟩ hi hJ
          have hip : i < (partsF s n).length := by omega
          have h8 : i < 8 := by omega
          have hst := goI_step hJ
          rw [getD_at hi, getD_at hip] at hst
          have hnd := hn _ (List.getElem_mem hip)
          simp only [hF, List.replicate, z19_, dlt hi, Nat.reduceAdd, Nat.reduceEqDiff, Int.reduceEq, Int.reduceLT, Int.reduceLE, Nat.reduceLT, Int.reduceToNat, Nat.reduceMul, if_false, reduceCtorEq, List.length_map]
          refine idxL_intro (by omega) (facs_at hi) ?_
          simp only [z18_, Nat.reduceAdd, Nat.reduceEqDiff, List.length_map, Int.reduceEq, Int.reduceLT, Int.reduceLE, Nat.reduceLT, Int.reduceToNat, Nat.reduceMul, if_false, reduceCtorEq]
          refine idxL_intro (by omega) (nencs_at (List.getElem?_eq_getElem hip)) ?_
          simp only [z18_, Nat.reduceAdd, Nat.reduceEqDiff, List.length_map, Int.reduceEq, Int.reduceLT, Int.reduceLE, Nat.reduceLT, Int.reduceToNat, Nat.reduceMul, if_false, reduceCtorEq]
          refine CallD.intro (word_calls11 b o s.facs[i] (partsF s n)[i] set_box (hgb _) (hok.2 _ (List.getElem_mem hi)) ⟨hnd.1, hnd.2.1⟩ hnd.2.2) ?_
          simp only [z18_, Nat.reduceAdd, Nat.reduceEqDiff, List.length_map, Int.reduceEq, Int.reduceLT, Int.reduceLE, Nat.reduceLT, Int.reduceToNat, Nat.reduceMul, if_false, reduceCtorEq]
          refine idxPL_ptr (by omega) (by omega) ?_
          simp only [z18_, Nat.reduceAdd, Nat.reduceEqDiff, List.length_map, Int.reduceEq, Int.reduceLT, Int.reduceLE, Nat.reduceLT, Int.reduceToNat, Nat.reduceMul, if_false, reduceCtorEq, Elm.u_has h8, Elm.u_st h8, winc hi (by omega)]
          refine nxtD ((e.put i (wrdP s.facs[i] (partsF s n)[i] o).1, (wrdP s.facs[i] (partsF s n)[i] o).2)) hi ?_ ?_ ?_ ?_ ?_ ?_
          · exact Eq.mpr (hJF _ _) (hst)
          all_goals simp [hF, List.replicate, am, lle_self, loL, loLL, V.lo, Fct.r_lo, Nd.r_lo, Shp.r_lo, Elm.r_lo]
        · rintro ⟨e, o⟩ hJ
          have hend := goI_end hJ
          rw [← hgo] at hend
          simp only [hF, List.replicate, z19_, dnl, Nat.reduceAdd, Nat.reduceEqDiff, Int.reduceEq, Int.reduceLT, Int.reduceLE, Nat.reduceLT, Int.reduceToNat, Nat.reduceMul, if_false, reduceCtorEq, List.length_map, badV]
          cases o with
          | some p =>
            simp only [z18_, Nat.reduceAdd, Nat.reduceEqDiff, List.length_map, Int.reduceEq, Int.reduceLT, Int.reduceLE, Nat.reduceLT, Int.reduceToNat, Nat.reduceMul, if_false, reduceCtorEq, Option.isSome_some, Option.getD_some]
            exact done (.zero, some p) _ _ _ (by rw [hend]; rfl) (hs _)
          | none =>
            simp only [z18_, Nat.reduceAdd, Nat.reduceEqDiff, List.length_map, Int.reduceEq, Int.reduceLT, Int.reduceLE, Nat.reduceLT, Int.reduceToNat, Nat.reduceMul, if_false, reduceCtorEq, Option.isSome_none]
            exact done (e, none) _ _ _ (by rw [hend]; rfl) (hs _)
end Go.Proofs.Tryz

namespace Go.Proofs.Tryz
open Go.Am
set_option maxRecDepth 4000
set_option maxHeartbeats 4000000
end Go.Proofs.Tryz

namespace Go.Proofs.Tryz
open Go.Am
set_option maxRecDepth 4000
set_option maxHeartbeats 4000000
end Go.Proofs.Tryz

namespace Go.Proofs.Tryz
open Go.Am
set_option maxRecDepth 4000
set_option maxHeartbeats 4000000
def ac43 : AC := .seq (.reg [⟨(some 4), .mv (.c (.bool false)), none⟩])
 (.seq (.seq (.reg [xi 5 0])
 (.block 0 (.loop (.seq (.seq (.reg [xm 8 5, xm 9 1, xL 10 9, xb .lss 11 8 10])
 (.cond (.s 11) (.skip)
 (.exit 0)))
 (.seq (.block 1 (.seq (.reg [xm 14 1, xm 15 5, xA 5 16 14 15, xl 5 17 16, ⟨(some 6), .alloc [(.int .i64 0), (.int .i64 0), (.str []), (.sl .full 2 []), (.sl .full 5 [])], none⟩, xs 5 6 17])
 (.seq (.reg [xm 18 0, xB .eql 19 18 1, xm 20 19, xg 20 (xl 5 21 6), xg 20 (xc 44 22 [.s 21]), ⟨(some 23), .pick (.s 20) (.s 22) (.c (.bool false)), none⟩, xm 24 23, xh 24 (xm 25 0), xh 24 (xB .eql 26 25 3), xh 24 (xm 27 26), xg 27 (xl 5 28 6), xg 27 (xc 26 29 [.s 28]), ⟨(some 30), .pick (.s 27) (.s 29) (.c (.bool false)), (some (24, false))⟩, ⟨(some 31), .pick (.s 24) (.c (.bool true)) (.s 30), none⟩, xm 7 31])
 (.seq (.seq (.reg [xm 32 0, xB .eql 33 32 2])
 (.cond (.s 33) (.reg [xf 0 34 6, xo 35 34, xB .eql 36 35 6, xm 37 36, xg 37 (xf 2 38 6), xg 37 (xo 39 38), xg 37 (xc 30 40 [.s 39]), ⟨(some 41), .pick (.s 37) (.s 40) (.c (.bool false)), none⟩, xm 42 41, xg 42 (xf 3 43 6), xg 42 (xo 44 43), xg 42 (xc 65 45 [.s 44]), ⟨(some 46), .pick (.s 42) (.s 45) (.c (.bool false)), none⟩, xm 47 46, xg 47 (xf 4 48 6), xg 47 (xo 49 48), xg 47 (xL 50 49), xg 47 (xB .eql 51 50 0), ⟨(some 52), .pick (.s 47) (.s 51) (.c (.bool false)), none⟩, xm 7 52])
 (.skip)))
 (.seq (.seq (.reg [xm 53 0, xB .eql 54 53 4])
 (.cond (.s 54) (.reg [xf 0 55 6, xo 56 55, xB .eql 57 56 11, xm 58 57, xg 58 (xf 2 59 6), xg 58 (xo 60 59), xg 58 (xc 30 61 [.s 60]), ⟨(some 62), .pick (.s 58) (.s 61) (.c (.bool false)), none⟩, xm 63 62, xg 63 (xf 3 64 6), xg 63 (xo 65 64), xg 63 (xL 66 65), xg 63 (xB .eql 67 66 0), ⟨(some 68), .pick (.s 63) (.s 67) (.c (.bool false)), none⟩, xm 69 68, xg 69 (xf 4 70 6), xg 69 (xo 71 70), xg 69 (xL 72 71), xg 69 (xB .eql 73 72 1), ⟨(some 74), .pick (.s 69) (.s 73) (.c (.bool false)), none⟩, xm 75 74, xg 75 (xf 4 76 6), xg 75 (xo 77 76), ⟨(some 78), .idxA 5 (.s 77) (.c (.int .i64 0)), (some (75, true))⟩, xg 75 (xl 5 79 78), xg 75 (xc 26 80 [.s 79]), ⟨(some 81), .pick (.s 75) (.s 80) (.c (.bool false)), none⟩, xm 82 81, xg 82 (xf 4 83 6), xg 82 (xo 84 83), ⟨(some 85), .idxA 5 (.s 84) (.c (.int .i64 0)), (some (82, true))⟩, xg 82 (xf 0 86 85), xg 82 (xo 87 86), xg 82 (xB .neq 88 87 8), ⟨(some 89), .pick (.s 82) (.s 88) (.c (.bool false)), none⟩, xm 90 89, xg 90 (xf 4 91 6), xg 90 (xo 92 91), ⟨(some 93), .idxA 5 (.s 92) (.c (.int .i64 0)), (some (90, true))⟩, xg 90 (xf 0 94 93), xg 90 (xo 95 94), xg 90 (xB .neq 96 95 9), ⟨(some 97), .pick (.s 90) (.s 96) (.c (.bool false)), none⟩, xm 7 97])
 (.skip)))
 (.seq (.reg [xm 98 7, ⟨(some 99), .not (.s 98), none⟩])
 (.cond (.s 99) (.seq (.reg [⟨(some 4), .mv (.c (.bool false)), none⟩])
 (.ret))
 (.skip))))))))
 (.reg [xm 12 5, xB .add 13 12 1, xm 5 13]))))))
 (.seq (.reg [⟨(some 4), .mv (.c (.bool true)), none⟩])
 (.ret)))
theorem fn43 : IsFn prog 43 ac43 [.tmp 4] 100 := ⟨f43, ⟨[], []⟩, func43, by kernel_rfl, by kernel_rfl, by kernel_rfl, by kernel_rfl⟩
def ac65 : AC := .seq (.reg [⟨(some 2), .mv (.c (.bool false)), none⟩])
 (.seq (.seq (.reg [xi 3 0])
 (.block 0 (.loop (.seq (.seq (.reg [xm 4 3, xm 5 0, xL 6 5, xb .lss 7 4 6])
 (.cond (.s 7) (.skip)
 (.exit 0)))
 (.seq (.block 1 (.seq (.reg [xm 10 0, xm 11 3, xA 2 12 10 11, xf 0 13 12, xo 14 13, xc 30 15 [.s 14], ⟨(some 16), .not (.s 15), none⟩])
 (.cond (.s 16) (.seq (.reg [⟨(some 2), .mv (.c (.bool false)), none⟩])
 (.ret))
 (.skip))))
 (.reg [xm 8 3, xB .add 9 8 1, xm 3 9]))))))
 (.seq (.reg [⟨(some 2), .mv (.c (.bool true)), none⟩])
 (.ret)))
theorem fn65 : IsFn prog 65 ac65 [.tmp 2] 17 := ⟨f65, ⟨[], []⟩, func65, by kernel_rfl, by kernel_rfl, by kernel_rfl, by kernel_rfl⟩
def inv55 (l : List Word) (σ : Store) (i : Nat) : St :=
  ⟨[.sl .no 2 (l.map Word.enc), .any, .any, .int .i64 (i : Nat)] ++ List.replicate 13 .any, [], σ⟩
theorem right2W_calls (l : List Word) (σ : Store) (hb : l.length ≤ big) : PCalls prog 65 [.sl .no 2 (l.map Word.enc)] σ fun v σ' => v = .bool (rightW l) ∧ σ' = σ := by
  simp only [big] at hb
  refine fn65.calls ?_
  simp only [slots, ac65, z15_, Nat.reduceAdd, Nat.reduceEqDiff]
  refine vc_loop (fun p : { i : Nat // i ≤ l.length ∧ (l.take i).all (fun w => nameR w.text) = true } => inv55 l σ p.1) (fun p => l.length - p.1) ?_ ?_
  · refine Upd.enter ⟨0, by simp, by simp⟩ ?_ LLLe.rfl OLe.rfl
    simp [inv55, List.replicate, am]
  · rintro ⟨i, hi, ha⟩
    simp only [inv55, List.replicate, am, List.length_map]
    refine vcIf_split ?_ ?_
    · intro hlt
      have hlt : i < l.length := by simpa using hlt
      simp only [z16_, Nat.reduceAdd, Nat.reduceEqDiff, List.length_map]
      refine idxL_intro (by omega) (wencs_at (List.getElem?_eq_getElem hlt)) ?_
      simp only [z16_, Nat.reduceAdd, Nat.reduceEqDiff, List.length_map, Word.enc]
      refine (right2_calls l[i].text σ).mono ?_
      rintro v σ ⟨rfl, rfl⟩
      cases hg : nameR l[i].text
      · simp only [z16_, Nat.reduceAdd, Nat.reduceEqDiff, List.length_map]
        refine retK_intro rfl (Store.sub_refl _) ⟨?_, rfl⟩
        rw [show rightW l = false from all_no (f := fun (w : Word) => nameR w.text) hlt hg]; rfl
      · simp only [z16_, Nat.reduceAdd, Nat.reduceEqDiff, List.length_map]
        rw [wrap_i64 (by omega) (by omega)]
        exact Upd.again ⟨i + 1, hlt, by rw [all_take hlt, ha, hg]; rfl⟩ (by simp; omega) (by simp [List.replicate, am]) LLLe.rfl OLe.rfl
    · intro hlt
      have hlt : i = l.length := by simp at hlt; omega
      subst hlt
      rw [List.take_length] at ha
      simp only [z16_, Nat.reduceAdd, Nat.reduceEqDiff, List.length_map]
      refine retK_intro rfl (Store.sub_refl _) ⟨?_, rfl⟩
      simp [V.erase, eraseL, rightW, ha]
theorem headQ_all {f : Nd → Bool} {l : List Nd} (h : (l.length : Int) = 1) : headQ f l = l.all f := by
  match l, h with
  | [m], _ => simp [headQ]
  | [], h => simp at h
  | _ :: _ :: _, h => simp at h; omega
def inv56 (w : Int) (l : List Nd) (σ : Store) (i : Nat) : St :=
  ⟨[.int .i64 w, .sl .no 5 (l.map Nd.enc), .any, .any, .any, .int .i64 (i : Nat)] ++ List.replicate 94 .any, [], σ⟩
theorem all1_calls (l : List Nd) (σ : Store) (hb : l.length ≤ big) (h : ∀ n ∈ l, ∀ σ, PCalls prog 44 [.agg n.enc] σ fun v σ' => v = .bool n.constQ ∧ σ' = σ) : PCalls prog 43 [.int .i64 1, .sl .no 5 (l.map Nd.enc)] σ fun v σ' => v = .bool (l.all Nd.constQ) ∧ σ' = σ := by
  simp only [big] at hb
  refine fn43.calls ?_
  simp only [slots, ac43, z15_, Nat.reduceAdd, Nat.reduceEqDiff]
  refine vc_loop (fun p : { i : Nat // i ≤ l.length ∧ (l.take i).all Nd.constQ = true } => inv56 1 l σ p.1) (fun p => l.length - p.1) ?_ ?_
  · refine Upd.enter ⟨0, by simp, by simp⟩ ?_ LLLe.rfl OLe.rfl
    simp [inv56, List.replicate, am]
  rintro ⟨i, hi, ha⟩
  simp only [inv56, List.replicate, am, List.length_map]
  refine vcIf_split ?_ ?_
  · intro hlt
    have hlt : i < l.length := by simpa using hlt
    have wi : IntKind.i64.wrap ((i : Int) + 1) = (i : Int) + 1 := wrap_i64 (by omega) (by omega)
    have hyes : l[i].constQ = true → (l.take (i + 1)).all Nd.constQ = true := fun hg => by rw [all_take hlt, ha, hg]; rfl
    have hno : l[i].constQ = false → l.all Nd.constQ = false := fun hg => all_no hlt hg
    have hmem := List.getElem_mem hlt
    simp only [z16_, Nat.reduceAdd, Nat.reduceEqDiff, List.length_map]
    refine idxL_intro (by omega) (nencs_at (List.getElem?_eq_getElem hlt)) ?_
    generalize l[i] = n at hyes hno hmem ⊢
    simp only [z16_, Nat.reduceAdd, Nat.reduceEqDiff, List.length_map, Nd.r_ov, Int.reduceEq, Int.reduceNe]
    refine (h n hmem σ).mono ?_
    rintro v σ ⟨rfl, rfl⟩
    cases hg : n.constQ
    · simp only [z16_, Nat.reduceAdd, Nat.reduceEqDiff, List.length_map, Int.reduceEq, Int.reduceNe]
      refine retK_intro rfl (Store.sub_refl _) ⟨?_, rfl⟩
      simp [V.erase, eraseL, hno hg]
    · simp only [z16_, Nat.reduceAdd, Nat.reduceEqDiff, List.length_map, Int.reduceEq, Int.reduceNe, wi]
      exact Upd.againD ⟨i + 1, hlt, hyes hg⟩ (by simp; omega) (by simp [List.replicate, am]) (by simp [am]) OLe.rfl rfl rfl
  intro hlt
  have hlt : i = l.length := by simp at hlt; omega
  subst hlt
  rw [List.take_length] at ha
  simp only [z16_, Nat.reduceAdd, Nat.reduceEqDiff, List.length_map]
  refine retK_intro rfl (Store.sub_refl _) ⟨?_, rfl⟩
  simp [V.erase, eraseL, ha]
theorem all3_calls (l : List Nd) (σ : Store) (hb : l.length ≤ big) (h : ∀ n ∈ l, ∀ σ, PCalls prog 26 [.agg n.enc] σ fun v σ' => v = .bool n.labelQ ∧ σ' = σ) : PCalls prog 43 [.int .i64 3, .sl .no 5 (l.map Nd.enc)] σ fun v σ' => v = .bool (l.all Nd.labelQ) ∧ σ' = σ := by
  simp only [big] at hb
  refine fn43.calls ?_
  simp only [slots, ac43, z15_, Nat.reduceAdd, Nat.reduceEqDiff]
  refine vc_loop (fun p : { i : Nat // i ≤ l.length ∧ (l.take i).all Nd.labelQ = true } => inv56 3 l σ p.1) (fun p => l.length - p.1) ?_ ?_
  · refine Upd.enter ⟨0, by simp, by simp⟩ ?_ LLLe.rfl OLe.rfl
    simp [inv56, List.replicate, am]
  rintro ⟨i, hi, ha⟩
  simp only [inv56, List.replicate, am, List.length_map]
  refine vcIf_split ?_ ?_
  · intro hlt
    have hlt : i < l.length := by simpa using hlt
    have wi : IntKind.i64.wrap ((i : Int) + 1) = (i : Int) + 1 := wrap_i64 (by omega) (by omega)
    have hyes : l[i].labelQ = true → (l.take (i + 1)).all Nd.labelQ = true := fun hg => by rw [all_take hlt, ha, hg]; rfl
    have hno : l[i].labelQ = false → l.all Nd.labelQ = false := fun hg => all_no hlt hg
    have hmem := List.getElem_mem hlt
    simp only [z16_, Nat.reduceAdd, Nat.reduceEqDiff, List.length_map]
    refine idxL_intro (by omega) (nencs_at (List.getElem?_eq_getElem hlt)) ?_
    generalize l[i] = n at hyes hno hmem ⊢
    simp only [z16_, Nat.reduceAdd, Nat.reduceEqDiff, List.length_map, Nd.r_ov, Int.reduceEq, Int.reduceNe]
    refine (h n hmem σ).mono ?_
    rintro v σ ⟨rfl, rfl⟩
    cases hg : n.labelQ
    · simp only [z16_, Nat.reduceAdd, Nat.reduceEqDiff, List.length_map, Int.reduceEq, Int.reduceNe]
      refine retK_intro rfl (Store.sub_refl _) ⟨?_, rfl⟩
      simp [V.erase, eraseL, hno hg]
    · simp only [z16_, Nat.reduceAdd, Nat.reduceEqDiff, List.length_map, Int.reduceEq, Int.reduceNe, wi]
      exact Upd.againD ⟨i + 1, hlt, hyes hg⟩ (by simp; omega) (by simp [List.replicate, am]) (by simp [am]) OLe.rfl rfl rfl
  intro hlt
  have hlt : i = l.length := by simp at hlt; omega
  subst hlt
  rw [List.take_length] at ha
  simp only [z16_, Nat.reduceAdd, Nat.reduceEqDiff, List.length_map]
  refine retK_intro rfl (Store.sub_refl _) ⟨?_, rfl⟩
  simp [V.erase, eraseL, ha]
theorem all2_calls (l : List Nd) (σ : Store) (hb : l.length ≤ big) (hw : ∀ n ∈ l, n.names.length ≤ big) : PCalls prog 43 [.int .i64 2, .sl .no 5 (l.map Nd.enc)] σ fun v σ' => v = .bool (l.all Nd.ruleQ) ∧ σ' = σ := by
  simp only [big] at hb
  refine fn43.calls ?_
  simp only [slots, ac43, z15_, Nat.reduceAdd, Nat.reduceEqDiff]
  refine vc_loop (fun p : { i : Nat // i ≤ l.length ∧ (l.take i).all Nd.ruleQ = true } => inv56 2 l σ p.1) (fun p => l.length - p.1) ?_ ?_
  · refine Upd.enter ⟨0, by simp, by simp⟩ ?_ LLLe.rfl OLe.rfl
    simp [inv56, List.replicate, am]
  rintro ⟨i, hi, ha⟩
  simp only [inv56, List.replicate, am, List.length_map]
  refine vcIf_split ?_ ?_
  · intro hlt
    have hlt : i < l.length := by simpa using hlt
    have wi : IntKind.i64.wrap ((i : Int) + 1) = (i : Int) + 1 := wrap_i64 (by omega) (by omega)
    have hyes : l[i].ruleQ = true → (l.take (i + 1)).all Nd.ruleQ = true := fun hg => by rw [all_take hlt, ha, hg]; rfl
    have hno : l[i].ruleQ = false → l.all Nd.ruleQ = false := fun hg => all_no hlt hg
    have hmem := List.getElem_mem hlt
    simp only [z16_, Nat.reduceAdd, Nat.reduceEqDiff, List.length_map]
    refine idxL_intro (by omega) (nencs_at (List.getElem?_eq_getElem hlt)) ?_
    generalize l[i] = n at hyes hno hmem ⊢
    simp only [z16_, Nat.reduceAdd, Nat.reduceEqDiff, List.length_map, Nd.r_ov, Int.reduceEq, Int.reduceNe]
    have hnm := hw n hmem
    repeat' (first
      | (refine gL_split (fun h => ?_) (fun h => ?_) <;> simp only [z16_, h, Nat.reduceAdd, Nat.reduceEqDiff, List.length_map, Int.reduceEq, Int.reduceNe, wi])
      | (refine vcIf_split (fun h => ?_) (fun h => ?_) <;> simp only [z16_, h, Nat.reduceAdd, Nat.reduceEqDiff, List.length_map, Int.reduceEq, Int.reduceNe, wi])
      | (refine pickL_split (fun h => ?_) (fun h => ?_) <;> simp only [z16_, h, Nat.reduceAdd, Nat.reduceEqDiff, List.length_map, Int.reduceEq, Int.reduceNe, wi])
      | (refine (right2_calls n.text _).mono ?_; rintro v _ ⟨rfl, rfl⟩; simp only [am, Int.reduceEq, Int.reduceNe])
      | (refine (right2W_calls n.names _ hnm).mono ?_; rintro v _ ⟨rfl, rfl⟩; simp only [am, Int.reduceEq, Int.reduceNe])
    )
    all_goals cases hg : n.ruleQ
    all_goals first
      | (exfalso; revert hg; simp_all [Nd.ruleQ]; done)
      | (refine retK_intro rfl (Store.sub_refl _) ⟨?_, rfl⟩; rw [hno hg]; rfl)
      | exact Upd.againD ⟨i + 1, hlt, hyes hg⟩ (by simp; omega) (by simp [List.replicate, am]) (by simp [am]) OLe.rfl rfl rfl
  intro hlt
  have hlt : i = l.length := by simp at hlt; omega
  subst hlt
  rw [List.take_length] at ha
  simp only [z16_, Nat.reduceAdd, Nat.reduceEqDiff, List.length_map]
  refine retK_intro rfl (Store.sub_refl _) ⟨?_, rfl⟩
  simp [V.erase, eraseL, ha]
end Go.Proofs.Tryz

namespace Go.Proofs.Tryz
open Go.Am
set_option maxRecDepth 4000
set_option maxHeartbeats 4000000
def s1 : List UInt8 := [43, 40, 120, 44, 35, 123, 97, 44, 98, 125, 41]
def s2 : List UInt8 := [43, 40, 41]
def s3 : List UInt8 := [91, 102, 61, 120, 44, 103, 61, 35, 104, 105, 124, 114, 93]
end Go.Proofs.Tryz

namespace Go.Proofs.Tryz
open Go.Am
set_option maxRecDepth 4000
set_option maxHeartbeats 4000000
def ac7 : AC := .seq (.reg [⟨(some 2), .mv (.c (.bool false)), none⟩])
 (.seq (.seq (.reg [xm 5 0, xL 6 5, xi 7 0])
 (.block 0 (.loop (.seq (.reg [xb .lss 8 7 6])
 (.seq (.cond (.s 8) (.skip)
 (.exit 0))
 (.seq (.block 1 (.seq (.reg [xA 5 9 5 7, xl 5 10 9, ⟨(some 4), .alloc [(.int .i64 0), (.int .i64 0), (.str []), (.sl .full 2 []), (.sl .full 5 [])], none⟩, xs 5 4 10])
 (.seq (.reg [xl 5 11 4, xc 23 12 [.s 11], xB .gtr 13 12 300])
 (.cond (.s 13) (.seq (.reg [⟨(some 2), .mv (.c (.bool true)), none⟩])
 (.ret))
 (.skip)))))
 (.reg [xB .add 14 7 1, xm 7 14])))))))
 (.seq (.reg [⟨(some 2), .mv (.c (.bool false)), none⟩])
 (.ret)))
theorem fn7 : IsFn prog 7 ac7 [.tmp 2] 15 := ⟨f7, ⟨[], []⟩, func7, by kernel_rfl, by kernel_rfl, by kernel_rfl, by kernel_rfl⟩
def ac23 : AC := .seq (.reg [⟨(some 1), .box 5 (.s 0), none⟩, xi 2 0])
 (.seq (.reg [xf 3 5 1, xo 6 5, xL 7 6, ⟨(some 8), .binI .add (.c (.int .i64 1)) (.s 7), none⟩, xm 3 8])
 (.seq (.seq (.reg [xi 4 0])
 (.block 0 (.loop (.seq (.seq (.reg [xm 9 4, xf 4 10 1, xo 11 10, xL 12 11, xb .lss 13 9 12])
 (.cond (.s 13) (.skip)
 (.exit 0)))
 (.seq (.block 1 (.reg [xm 16 3, xf 4 17 1, xo 18 17, xm 19 4, xA 5 20 18 19, xl 5 21 20, xc 23 22 [.s 21], xb .add 23 16 22, xm 3 23]))
 (.reg [xm 14 4, xB .add 15 14 1, xm 4 15]))))))
 (.seq (.reg [xm 24 3, xm 2 24])
 (.ret))))
theorem fn23 : IsFn prog 23 ac23 [.tmp 2] 25 := ⟨f23, ⟨[], []⟩, func23, by kernel_rfl, by kernel_rfl, by kernel_rfl, by kernel_rfl⟩
def ac26 : AC := .seq (.reg [⟨(some 1), .box 5 (.s 0), none⟩, ⟨(some 2), .mv (.c (.bool false)), none⟩])
 (.seq (.seq (.reg [xf 0 3 1, xo 4 3])
 (.block 0 (.seq (.reg [xB .eql 6 4 1, xm 5 6])
 (.cond (.s 5) (.seq (.reg [xf 2 7 1, xo 8 7, xc 30 9 [.s 8], xm 10 9, xg 10 (xf 3 11 1), xg 10 (xo 12 11), xg 10 (xL 13 12), xg 10 (xf 4 14 1), xg 10 (xo 15 14), xg 10 (xL 16 15), xg 10 (xb .add 17 13 16), xg 10 (xB .eql 18 17 0), ⟨(some 19), .pick (.s 10) (.s 18) (.c (.bool false)), none⟩, xm 2 19])
 (.ret))
 (.seq (.reg [xB .eql 21 4 7, xm 20 21])
 (.cond (.s 20) (.seq (.reg [xf 2 22 1, xo 23 22, ⟨(some 24), .binS .eql (.s 23) (.c (.str [])), none⟩, xm 25 24, xg 25 (xf 3 26 1), xg 25 (xo 27 26), xg 25 (xL 28 27), xg 25 (xB .eql 29 28 0), ⟨(some 30), .pick (.s 25) (.s 29) (.c (.bool false)), none⟩, xm 31 30, xg 31 (xf 4 32 1), xg 31 (xo 33 32), xg 31 (xL 34 33), xg 31 (xB .eql 35 34 1), ⟨(some 36), .pick (.s 31) (.s 35) (.c (.bool false)), none⟩, xm 37 36, xg 37 (xf 4 38 1), xg 37 (xo 39 38), xg 37 (xc 43 40 [.c (.int .i64 1), .s 39]), ⟨(some 41), .pick (.s 37) (.s 40) (.c (.bool false)), none⟩, xm 2 41])
 (.ret))
 (.seq (.seq (.reg [xB .eql 43 4 8, xm 42 43])
 (.cond (.s 42) (.skip)
 (.reg [xB .eql 44 4 9, xm 42 44])))
 (.cond (.s 42) (.seq (.reg [xf 2 45 1, xo 46 45, ⟨(some 47), .binS .eql (.s 46) (.c (.str [])), none⟩, xm 48 47, xg 48 (xf 3 49 1), xg 48 (xo 50 49), xg 48 (xL 51 50), xg 48 (xB .eql 52 51 0), ⟨(some 53), .pick (.s 48) (.s 52) (.c (.bool false)), none⟩, xm 54 53, xg 54 (xf 4 55 1), xg 54 (xo 56 55), xg 54 (xL 57 56), xg 54 (xB .gtr 58 57 0), ⟨(some 59), .pick (.s 54) (.s 58) (.c (.bool false)), none⟩, xm 60 59, xg 60 (xf 4 61 1), xg 60 (xo 62 61), xg 60 (xc 43 63 [.c (.int .i64 3), .s 62]), ⟨(some 64), .pick (.s 60) (.s 63) (.c (.bool false)), none⟩, xm 2 64])
 (.ret))
 (.skip)))))))))
 (.seq (.reg [⟨(some 2), .mv (.c (.bool false)), none⟩])
 (.ret)))
theorem fn26 : IsFn prog 26 ac26 [.tmp 2] 65 := ⟨f26, ⟨[], []⟩, func26, by kernel_rfl, by kernel_rfl, by kernel_rfl, by kernel_rfl⟩
def ac44 : AC := .seq (.reg [⟨(some 1), .box 5 (.s 0), none⟩, ⟨(some 2), .mv (.c (.bool false)), none⟩])
 (.seq (.seq (.reg [xf 0 3 1, xo 4 3])
 (.block 0 (.seq (.reg [xB .eql 6 4 2, xm 5 6])
 (.cond (.s 5) (.seq (.reg [xf 2 7 1, xo 8 7, xc 30 9 [.s 8], xm 10 9, xg 10 (xf 3 11 1), xg 10 (xo 12 11), xg 10 (xL 13 12), xg 10 (xf 4 14 1), xg 10 (xo 15 14), xg 10 (xL 16 15), xg 10 (xb .add 17 13 16), xg 10 (xB .eql 18 17 0), ⟨(some 19), .pick (.s 10) (.s 18) (.c (.bool false)), none⟩, xm 2 19])
 (.ret))
 (.seq (.reg [xB .eql 21 4 3, xm 20 21])
 (.cond (.s 20) (.seq (.reg [xf 2 22 1, xo 23 22, ⟨(some 24), .binS .eql (.s 23) (.c (.str [])), none⟩, xm 25 24, xg 25 (xf 3 26 1), xg 25 (xo 27 26), xg 25 (xc 65 28 [.s 27]), ⟨(some 29), .pick (.s 25) (.s 28) (.c (.bool false)), none⟩, xm 30 29, xg 30 (xf 4 31 1), xg 30 (xo 32 31), xg 30 (xL 33 32), xg 30 (xB .eql 34 33 0), ⟨(some 35), .pick (.s 30) (.s 34) (.c (.bool false)), none⟩, xm 2 35])
 (.ret))
 (.seq (.reg [xB .eql 37 4 4, xm 36 37])
 (.cond (.s 36) (.seq (.reg [xf 2 38 1, xo 39 38, ⟨(some 40), .binS .eql (.s 39) (.c (.str [])), none⟩, xm 41 40, xg 41 (xf 3 42 1), xg 41 (xo 43 42), xg 41 (xL 44 43), xg 41 (xB .eql 45 44 0), ⟨(some 46), .pick (.s 41) (.s 45) (.c (.bool false)), none⟩, xm 47 46, xg 47 (xf 4 48 1), xg 47 (xo 49 48), xg 47 (xL 50 49), xg 47 (xB .gtr 51 50 0), ⟨(some 52), .pick (.s 47) (.s 51) (.c (.bool false)), none⟩, xm 53 52, xg 53 (xf 4 54 1), xg 53 (xo 55 54), xg 53 (xc 43 56 [.c (.int .i64 1), .s 55]), ⟨(some 57), .pick (.s 53) (.s 56) (.c (.bool false)), none⟩, xm 2 57])
 (.ret))
 (.seq (.reg [xB .eql 59 4 5, xm 58 59])
 (.cond (.s 58) (.seq (.reg [xf 2 60 1, xo 61 60, ⟨(some 62), .binS .eql (.s 61) (.c (.str [])), none⟩, xm 63 62, xg 63 (xf 3 64 1), xg 63 (xo 65 64), xg 63 (xL 66 65), xg 63 (xB .eql 67 66 0), ⟨(some 68), .pick (.s 63) (.s 67) (.c (.bool false)), none⟩, xm 69 68, xg 69 (xf 4 70 1), xg 69 (xo 71 70), xg 69 (xc 43 72 [.c (.int .i64 2), .s 71]), ⟨(some 73), .pick (.s 69) (.s 72) (.c (.bool false)), none⟩, xm 2 73])
 (.ret))
 (.skip)))))))))))
 (.seq (.reg [⟨(some 2), .mv (.c (.bool false)), none⟩])
 (.ret)))
theorem fn44 : IsFn prog 44 ac44 [.tmp 2] 74 := ⟨f44, ⟨[], []⟩, func44, by kernel_rfl, by kernel_rfl, by kernel_rfl, by kernel_rfl⟩
theorem const2_calls : ∀ (k : Nat) (n : Nd) (σ : Store), n.wt ≤ k → n.wt ≤ big → PCalls prog 44 [.agg n.enc] σ fun v σ' => v = .bool n.constQ ∧ σ' = σ := by
  intro k
  induction k with
  | zero => intro n σ h _; cases n; simp only [Nd.wt] at h; omega
  | succ k ihk =>
    intro n σ hk hw
    have hn := wt_names n
    have hbig : n.wt < 2 ^ 62 := by simp only [big] at hw; omega
    have hall : ∀ σ, PCalls prog 43 [.int .i64 1, .sl .no 5 (n.kids.map Nd.enc)] σ fun v σ' => v = .bool (n.kids.all Nd.constQ) ∧ σ' = σ := fun σ =>
      all1_calls n.kids σ (by omega) fun m hm σ => ihk m σ (by have := kid_wt hm; omega) (by have := kid_wt hm; omega)
    have hrule : ∀ σ, PCalls prog 43 [.int .i64 2, .sl .no 5 (n.kids.map Nd.enc)] σ fun v σ' => v = .bool (n.kids.all Nd.ruleQ) ∧ σ' = σ := fun σ =>
      all2_calls n.kids σ (by omega) fun m hm => by have := kid_wt hm; have := wt_names m; omega
    have hr := fun σ => right2_calls n.text σ
    have hrw := fun σ => right2W_calls n.names σ (by omega)
    rw [Nd.constQ_eq]
    refine fn44.calls ?_
    simp only [slots, ac44, z15_, Nat.reduceAdd, Nat.reduceEqDiff]
    by_cases k2 : n.kind = 2
    · simp only [z16_, Nat.reduceAdd, Nat.reduceEqDiff, List.length_map, decide_eq_true k2]
      repeat' (first
        | (refine gL_split (fun h => ?_) (fun h => ?_) <;> simp only [z16_, h, Nat.reduceAdd, Nat.reduceEqDiff, List.length_map, wrap_i64 (x := (n.names.length : Int) + n.kids.length) (by omega) (by omega)])
        | (refine vcIf_split (fun h => ?_) (fun h => ?_) <;> simp only [z16_, h, Nat.reduceAdd, Nat.reduceEqDiff, List.length_map, wrap_i64 (x := (n.names.length : Int) + n.kids.length) (by omega) (by omega)])
        | (refine pickL_split (fun h => ?_) (fun h => ?_) <;> simp only [z16_, h, Nat.reduceAdd, Nat.reduceEqDiff, List.length_map, wrap_i64 (x := (n.names.length : Int) + n.kids.length) (by omega) (by omega)])
        | (refine (hr _).mono ?_; rintro v _ ⟨rfl, rfl⟩; simp only [am])
      )
      all_goals refine retK_intro rfl (Store.sub_refl _) ⟨?_, rfl⟩
      all_goals simp_all [V.erase, eraseL, Nd.leafQ]
      all_goals (try omega)
    simp only [z16_, Nat.reduceAdd, Nat.reduceEqDiff, List.length_map, decide_eq_false k2]
    by_cases k3 : n.kind = 3
    · simp only [z16_, Nat.reduceAdd, Nat.reduceEqDiff, List.length_map, decide_eq_true k3]
      repeat' (first
        | (refine gL_split (fun h => ?_) (fun h => ?_) <;> simp only [z16_, h, Nat.reduceAdd, Nat.reduceEqDiff, List.length_map])
        | (refine vcIf_split (fun h => ?_) (fun h => ?_) <;> simp only [z16_, h, Nat.reduceAdd, Nat.reduceEqDiff, List.length_map])
        | (refine pickL_split (fun h => ?_) (fun h => ?_) <;> simp only [z16_, h, Nat.reduceAdd, Nat.reduceEqDiff, List.length_map])
        | (refine (hrw _).mono ?_; rintro v _ ⟨rfl, rfl⟩; simp only [am])
      )
      all_goals refine retK_intro rfl (Store.sub_refl _) ⟨?_, rfl⟩
      all_goals simp_all [V.erase, eraseL]
      all_goals (try omega)
    simp only [z16_, Nat.reduceAdd, Nat.reduceEqDiff, List.length_map, decide_eq_false k3]
    by_cases k4 : n.kind = 4
    · simp only [z16_, Nat.reduceAdd, Nat.reduceEqDiff, List.length_map, decide_eq_true k4]
      repeat' (first
        | (refine gL_split (fun h => ?_) (fun h => ?_) <;> simp only [z16_, h, Nat.reduceAdd, Nat.reduceEqDiff, List.length_map])
        | (refine vcIf_split (fun h => ?_) (fun h => ?_) <;> simp only [z16_, h, Nat.reduceAdd, Nat.reduceEqDiff, List.length_map])
        | (refine pickL_split (fun h => ?_) (fun h => ?_) <;> simp only [z16_, h, Nat.reduceAdd, Nat.reduceEqDiff, List.length_map])
        | (refine (hall _).mono ?_; rintro v _ ⟨rfl, rfl⟩; simp only [am])
      )
      all_goals refine retK_intro rfl (Store.sub_refl _) ⟨?_, rfl⟩
      all_goals simp_all [V.erase, eraseL, Nd.bareQ]
      all_goals (try omega)
    simp only [z16_, Nat.reduceAdd, Nat.reduceEqDiff, List.length_map, decide_eq_false k4]
    by_cases k5 : n.kind = 5
    · simp only [z16_, Nat.reduceAdd, Nat.reduceEqDiff, List.length_map, decide_eq_true k5]
      repeat' (first
        | (refine gL_split (fun h => ?_) (fun h => ?_) <;> simp only [z16_, h, Nat.reduceAdd, Nat.reduceEqDiff, List.length_map])
        | (refine vcIf_split (fun h => ?_) (fun h => ?_) <;> simp only [z16_, h, Nat.reduceAdd, Nat.reduceEqDiff, List.length_map])
        | (refine pickL_split (fun h => ?_) (fun h => ?_) <;> simp only [z16_, h, Nat.reduceAdd, Nat.reduceEqDiff, List.length_map])
        | (refine (hrule _).mono ?_; rintro v _ ⟨rfl, rfl⟩; simp only [am])
      )
      all_goals refine retK_intro rfl (Store.sub_refl _) ⟨?_, rfl⟩
      all_goals simp_all [V.erase, eraseL, Nd.bareQ]
      all_goals (try omega)
    simp only [z16_, Nat.reduceAdd, Nat.reduceEqDiff, List.length_map, decide_eq_false k5]
    refine retK_intro rfl (Store.sub_refl _) ⟨?_, rfl⟩
    simp [V.erase, eraseL, k2, k3, k4, k5]
theorem label2_calls : ∀ (k : Nat) (n : Nd) (σ : Store), n.wt ≤ k → n.wt ≤ big → PCalls prog 26 [.agg n.enc] σ fun v σ' => v = .bool n.labelQ ∧ σ' = σ := by
  intro k
  induction k with
  | zero => intro n σ h _; cases n; simp only [Nd.wt] at h; omega
  | succ k ihk =>
    intro n σ hk hw
    have hn := wt_names n
    have hbig : n.wt < 2 ^ 62 := by simp only [big] at hw; omega
    have hall : ∀ σ, PCalls prog 43 [.int .i64 3, .sl .no 5 (n.kids.map Nd.enc)] σ fun v σ' => v = .bool (n.kids.all Nd.labelQ) ∧ σ' = σ := fun σ =>
      all3_calls n.kids σ (by omega) fun m hm σ => ihk m σ (by have := kid_wt hm; omega) (by have := kid_wt hm; omega)
    have hcon : ∀ σ, PCalls prog 43 [.int .i64 1, .sl .no 5 (n.kids.map Nd.enc)] σ fun v σ' => v = .bool (n.kids.all Nd.constQ) ∧ σ' = σ := fun σ =>
      all1_calls n.kids σ (by omega) fun m hm σ => const2_calls _ m σ (Nat.le_refl _) (by have := kid_wt hm; omega)
    have hr := fun σ => right2_calls n.text σ
    rw [Nd.labelQ_eq]
    refine fn26.calls ?_
    simp only [slots, ac26, z15_, Nat.reduceAdd, Nat.reduceEqDiff]
    by_cases k1 : n.kind = 1
    · simp only [z16_, Nat.reduceAdd, Nat.reduceEqDiff, List.length_map, decide_eq_true k1]
      repeat' (first
        | (refine gL_split (fun h => ?_) (fun h => ?_) <;> simp only [z16_, h, Nat.reduceAdd, Nat.reduceEqDiff, List.length_map, wrap_i64 (x := (n.names.length : Int) + n.kids.length) (by omega) (by omega)])
        | (refine vcIf_split (fun h => ?_) (fun h => ?_) <;> simp only [z16_, h, Nat.reduceAdd, Nat.reduceEqDiff, List.length_map, wrap_i64 (x := (n.names.length : Int) + n.kids.length) (by omega) (by omega)])
        | (refine pickL_split (fun h => ?_) (fun h => ?_) <;> simp only [z16_, h, Nat.reduceAdd, Nat.reduceEqDiff, List.length_map, wrap_i64 (x := (n.names.length : Int) + n.kids.length) (by omega) (by omega)])
        | (refine (hr _).mono ?_; rintro v _ ⟨rfl, rfl⟩; simp only [am])
      )
      all_goals refine retK_intro rfl (Store.sub_refl _) ⟨?_, rfl⟩
      all_goals simp_all [V.erase, eraseL, Nd.leafQ]
      all_goals (try omega)
    simp only [z16_, Nat.reduceAdd, Nat.reduceEqDiff, List.length_map, decide_eq_false k1]
    by_cases k7 : n.kind = 7
    · have hq : (decide ((n.kids.length : Int) = 1) && headQ Nd.constQ n.kids) = (decide ((n.kids.length : Int) = 1) && n.kids.all Nd.constQ) := by
        by_cases h1 : (n.kids.length : Int) = 1
        · rw [headQ_all h1]
        · simp [h1]
      rw [if_neg k1, if_pos k7, Bool.and_assoc, hq]
      simp only [z16_, Nat.reduceAdd, Nat.reduceEqDiff, List.length_map, decide_eq_true k7]
      repeat' (first
        | (refine gL_split (fun h => ?_) (fun h => ?_) <;> simp only [z16_, h, Nat.reduceAdd, Nat.reduceEqDiff, List.length_map])
        | (refine vcIf_split (fun h => ?_) (fun h => ?_) <;> simp only [z16_, h, Nat.reduceAdd, Nat.reduceEqDiff, List.length_map])
        | (refine pickL_split (fun h => ?_) (fun h => ?_) <;> simp only [z16_, h, Nat.reduceAdd, Nat.reduceEqDiff, List.length_map])
        | (refine (hcon _).mono ?_; rintro v _ ⟨rfl, rfl⟩; simp only [am])
      )
      all_goals refine retK_intro rfl (Store.sub_refl _) ⟨?_, rfl⟩
      all_goals simp_all [V.erase, eraseL, Nd.bareQ]
      all_goals (try omega)
    simp only [z16_, Nat.reduceAdd, Nat.reduceEqDiff, List.length_map, decide_eq_false k7]
    by_cases k8 : n.kind = 8
    case' pos =>
      simp only [z16_, Nat.reduceAdd, Nat.reduceEqDiff, List.length_map, decide_eq_true k8]
    case' neg =>
      simp only [z16_, Nat.reduceAdd, Nat.reduceEqDiff, List.length_map, decide_eq_false k8]
      by_cases k9 : n.kind = 9
      case' pos =>
        simp only [z16_, Nat.reduceAdd, Nat.reduceEqDiff, List.length_map, decide_eq_true k9]
      case' neg =>
        simp only [z16_, Nat.reduceAdd, Nat.reduceEqDiff, List.length_map, decide_eq_false k9]
        refine retK_intro rfl (Store.sub_refl _) ⟨?_, rfl⟩
        simp [V.erase, eraseL, k1, k7, k8, k9]
    all_goals
      repeat' (first
        | (refine gL_split (fun h => ?_) (fun h => ?_) <;> simp only [z16_, h, Nat.reduceAdd, Nat.reduceEqDiff, List.length_map])
        | (refine vcIf_split (fun h => ?_) (fun h => ?_) <;> simp only [z16_, h, Nat.reduceAdd, Nat.reduceEqDiff, List.length_map])
        | (refine pickL_split (fun h => ?_) (fun h => ?_) <;> simp only [z16_, h, Nat.reduceAdd, Nat.reduceEqDiff, List.length_map])
        | (refine (hall _).mono ?_; rintro v _ ⟨rfl, rfl⟩; simp only [am])
      )
      all_goals refine retK_intro rfl (Store.sub_refl _) ⟨?_, rfl⟩
      all_goals simp_all [V.erase, eraseL, Nd.bareQ]
      all_goals (try omega)
def inv52 (n : Nd) (i : Nat) (σ : Store) : St :=
  ⟨[.any, .ptr (.loc 0) 0, .any, .int .i64 ((1 + n.names.length + cnts (n.kids.take i) : Nat) : Int), .int .i64 (i : Nat)] ++ List.replicate 20 .any, [n.enc], σ⟩
theorem many2_calls : ∀ (k : Nat) (n : Nd) (σ : Store), n.wt ≤ k → n.wt ≤ big → PCalls prog 23 [.agg n.enc] σ fun v σ' => v = .int .i64 n.cnt ∧ σ' = σ := by
  intro k
  induction k with
  | zero => intro n σ h _; cases n; simp only [Nd.wt] at h; omega
  | succ k ihk =>
    intro n σ hk hw
    have hn := wt_names n
    have hc := cnt_wt n
    have hbig : n.wt < 2 ^ 62 := by simp only [big] at hw; omega
    have hce : n.cnt = 1 + n.names.length + cnts n.kids := by cases n; rw [Nd.cnt]; rfl
    refine fn23.calls ?_
    simp only [slots, ac23, z15_, Nat.reduceAdd, Nat.reduceEqDiff]
    refine vc_loop (fun p : { i : Nat // i ≤ n.kids.length } => inv52 n p.1 σ) (fun p => n.kids.length - p.1) ?_ ?_
    · refine Upd.enter ⟨0, by simp⟩ ?_ LLLe.rfl OLe.rfl
      rw [List.length_map, wrap_i64 (by omega) (by omega)]
      simp [inv52, List.replicate, am, cnts]
    rintro ⟨i, hi⟩
    simp only [inv52, List.replicate, am, Nd.fl, List.length_map, Nd.rec_]
    refine vcIf_split ?_ ?_
    · intro hlt
      have hlt : i < n.kids.length := by simpa using hlt
      have h1 := cnts_at hlt
      have h2 := cnts_take n.kids (i + 1)
      have h3 := kid_wt (n := n) (List.getElem_mem hlt)
      simp only [z16_, Nat.reduceAdd, Nat.reduceEqDiff, List.length_map]
      refine idxL_intro (by omega) (nencs_at (List.getElem?_eq_getElem hlt)) ?_
      simp only [z16_, Nat.reduceAdd, Nat.reduceEqDiff, List.length_map]
      refine (ihk n.kids[i] σ (by omega) (by omega)).mono ?_
      rintro v σ ⟨rfl, rfl⟩
      simp only [z16_, Nat.reduceAdd, Nat.reduceEqDiff, List.length_map]
      rw [wrap_i64 (by omega) (by omega), wrap_i64 (x := (i : Int) + 1) (by omega) (by omega)]
      refine Upd.again ⟨i + 1, hlt⟩ (by simp; omega) ?_ LLLe.rfl OLe.rfl
      simp [List.replicate, am, h1]
      omega
    intro hlt
    have hlt : i = n.kids.length := by simp at hlt; omega
    subst hlt
    rw [List.take_length]
    simp only [z16_, Nat.reduceAdd, Nat.reduceEqDiff, List.length_map]
    refine retK_intro rfl (Store.sub_refl _) ⟨?_, rfl⟩
    simp [V.erase, hce]
def bigQ (l : List Nd) : Bool := l.any fun n => decide ((300 : Int) < n.cnt)
def inv22 (l : List Nd) (i : Nat) (σ : Store) : St :=
  ⟨[.any, .any, .any, .any, .any, .sl .no 5 (l.map Nd.enc), .int .i64 l.length, .int .i64 (i : Nat)] ++ List.replicate 7 .any, [], σ⟩
theorem big_calls {τ : Tk} (l : List Nd) (σ : Store) (hb : l.length ≤ big) (hw : ∀ n ∈ l, n.wt ≤ big) : PCalls prog 7 [.sl τ 5 (l.map Nd.enc)] σ fun v σ' => v = .bool (bigQ l) ∧ σ' = σ := by
  simp only [big] at hb
  refine fn7.calls ?_
  simp only [slots, ac7, z15_, Nat.reduceAdd, Nat.reduceEqDiff]
  refine vc_loop (fun p : { i : Nat // i ≤ l.length ∧ bigQ (l.take i) = false } => inv22 l p.1 σ) (fun p => l.length - p.1) ?_ ?_
  · refine Upd.enter ⟨0, by simp, by simp [bigQ]⟩ ?_ LLLe.rfl OLe.rfl
    simp [inv22, List.replicate, am]
  rintro ⟨i, hi, ha⟩
  simp only [inv22, List.replicate, am]
  refine vcIf_split ?_ ?_
  · intro hlt
    have hlt : i < l.length := by simpa using hlt
    simp only [z16_, Nat.reduceAdd, Nat.reduceEqDiff, List.length_map]
    refine idxL_intro (by omega) (nencs_at (List.getElem?_eq_getElem hlt)) ?_
    simp only [z16_, Nat.reduceAdd, Nat.reduceEqDiff, List.length_map, Nd.r_ov]
    refine (many2_calls _ l[i] σ (Nat.le_refl _) (hw _ (List.getElem_mem hlt))).mono ?_
    rintro v σ ⟨rfl, rfl⟩
    simp only [z16_, Nat.reduceAdd, Nat.reduceEqDiff, List.length_map]
    refine vcIf_split ?_ ?_
    · intro hg
      simp only [z16_, Nat.reduceAdd, Nat.reduceEqDiff, List.length_map]
      refine retK_intro rfl (Store.sub_refl _) ⟨?_, rfl⟩
      rw [show bigQ l = true from List.any_eq_true.2 ⟨l[i], List.getElem_mem hlt, by simpa using hg⟩]; rfl
    · intro hg
      simp only [z16_, Nat.reduceAdd, Nat.reduceEqDiff, List.length_map]
      rw [wrap_i64 (by omega) (by omega)]
      refine Upd.againD ⟨i + 1, hlt, ?_⟩ (by simp; omega) (by simp [List.replicate, am]) (by simp [am]) OLe.rfl rfl rfl
      unfold bigQ at ha ⊢
      rw [take_succ_of (List.getElem?_eq_getElem hlt), List.any_append, ha]
      simpa using hg
  intro hlt
  have hlt : i = l.length := by simp at hlt; omega
  subst hlt
  rw [List.take_length] at ha
  simp only [z16_, Nat.reduceAdd, Nat.reduceEqDiff, List.length_map]
  refine retK_intro rfl (Store.sub_refl _) ⟨?_, rfl⟩
  simp [V.erase, eraseL, ha]
end Go.Proofs.Tryz
