/-
  Part 6 of the proof of CommandReadsUptoCardSaid: a logic over the model, the forms of the functions that the law reaches, and what they compute.
-/
import Derived.Test.YthncngbmelgmaaaDoorProg
import Derived.Test.YthncngbmelgmaaaDoorReads5
set_option linter.unusedVariables false
set_option linter.unusedSimpArgs false
set_option linter.defProp false
set_option linter.unusedSectionVars false

namespace Go.Proofs.Tryd
open Go.Am
set_option maxRecDepth 4000
set_option maxHeartbeats 4000000
def ac64 : AC := .seq (.reg [⟨(some 1), .box 5 (.s 0), none⟩, ⟨(some 2), .mv (.c (.sl .full 4 [])), none⟩, xi 3 0])
 (.seq (.reg [⟨(some 4), .mv (.c (.sl .full 4 [])), none⟩])
 (.seq (.reg [xi 5 0])
 (.seq (.block 0 (.loop (.seq (.seq (.reg [xm 10 5, xf 3 11 1, xo 12 11, xL 13 12, xb .lss 14 10 13, xm 15 14, xh 15 (xm 16 5), xh 15 (xB .gtr 17 16 0), ⟨(some 18), .pick (.s 15) (.c (.bool true)) (.s 17), none⟩])
 (.cond (.s 18) (.skip)
 (.exit 0)))
 (.block 1 (.seq (.seq (.reg [xi 6 0])
 (.block 2 (.loop (.seq (.seq (.reg [xm 19 6, xB .lss 20 19 3])
 (.cond (.s 20) (.skip)
 (.exit 2)))
 (.seq (.block 3 (.seq (.reg [⟨(some 23), .bslice 1 [(.c (.int .u8 97)), (.c (.int .u8 60)), (.c (.int .u8 97))], none⟩, xm 7 23])
 (.seq (.draw [(xm 24 5, []), (xm 25 6, []), (xb .add 26 24 25, []), (xf 3 27 1, []), (xo 28 27, []), (xL 29 28, []), (xb .geq 30 26 29, []), (xm 31 30, []), (xh 31 (xf 3 32 1), []), (xh 31 (xo 33 32), []), (xh 31 (xm 34 5), []), (xh 31 (xm 35 6), []), (xh 31 (xb .add 36 34 35), []), (xh 31 (xA 5 37 33 36), []), (xh 31 (xf 0 38 37), []), (xh 31 (xf 0 39 38), []), (xh 31 (xo 40 39), []), (xh 31 (xm 41 7), []), (xh 31 (xm 42 6), []), (xh 31 (xA 1 43 41 42), []), (xh 31 (xo 44 43), []), (xh 31 (xb .neq 45 40 44), []), (⟨(some 46), .pick (.s 31) (.c (.bool true)) (.s 45), none⟩, [])])
 (.cond (.s 46) (.seq (.reg [xf 3 47 1, xo 48 47, xm 49 5, xm 50 6, xb .add 51 49 50, xf 4 52 1, xo 53 52, xc 62 54 [.s 48, .s 51, .s 53], ⟨(some 2), .mv (.c (.sl .full 4 [])), none⟩, xm 3 54])
 (.ret))
 (.skip)))))
 (.reg [xm 21 6, xB .add 22 21 1, xm 6 22]))))))
 (.seq (.drawA [8, 9] [(xf 3 55 1, []), (xo 56 55, []), (xm 57 5, []), (xA 5 58 56 57, []), (xf 0 59 58, []), (xl 3 60 59, []), (xf 3 61 1, []), (xo 62 61, [1]), (xm 63 5, []), (xB .add 64 63 2, []), (xA 5 65 62 64, []), (xf 0 66 65, []), (xl 3 67 66, [1]), (⟨none, .mv (.c .any), none⟩, []), (⟨none, .mv (.c .any), none⟩, []), (⟨(some 8), .boxS 3 (.s 60), none⟩, []), (⟨(some 9), .boxS 3 (.s 67), none⟩, [])])
 (.seq (.reg [xm 68 4, xf 1 69 8, xo 70 69, xf 2 71 8, xo 72 71, ⟨(some 73), .build [(.str []), (.int .i64 0)] [(0, 1, (.s 70)), (1, 1, (.s 72))], none⟩, xf 1 74 9, xo 75 74, xf 2 76 9, xo 77 76, ⟨(some 78), .build [(.str []), (.int .i64 0)] [(0, 1, (.s 75)), (1, 1, (.s 77))], none⟩, ⟨(some 79), .build [(.str []), (.int .i64 0), (.str []), (.int .i64 0)] [(0, 2, (.s 73)), (2, 2, (.s 78))], none⟩, ⟨(some 80), .bslice 4 [(.s 79)], none⟩, xa 4 81 68 80, xm 4 81])
 (.seq (.reg [xm 82 5, xB .add 83 82 3, xm 5 83])
 (.seq (.seq (.reg [xm 84 5, xf 3 85 1, xo 86 85, xL 87 86, xb .eql 88 84 87])
 (.cond (.s 88) (.seq (.reg [xm 89 4, xm 2 89, xi 3 (-1)])
 (.ret))
 (.skip)))
 (.seq (.seq (.reg [xf 3 90 1, xo 91 90, xm 92 5, xA 5 93 91 92, xf 0 94 93, xf 0 95 94, xo 96 95, xu .neq 97 96 44])
 (.cond (.s 97) (.seq (.reg [xf 3 98 1, xo 99 98, xm 100 5, xf 4 101 1, xo 102 101, xc 62 103 [.s 99, .s 100, .s 102], ⟨(some 2), .mv (.c (.sl .full 4 [])), none⟩, xm 3 103])
 (.ret))
 (.skip)))
 (.reg [xm 104 5, xB .add 105 104 1, xm 5 105])))))))))))
 (.seq (.reg [⟨(some 2), .mv (.c (.sl .full 4 [])), none⟩, xi 3 (-1)])
 (.ret)))))
theorem fn64 : IsFn prog 64 ac64 [.tmp 2, .tmp 3] 106 := ⟨f64, ⟨[], []⟩, func64, by kernel_rfl, by kernel_rfl, by kernel_rfl, by kernel_rfl⟩
theorem isK_in {l : List Tree} {j : Nat} {k : Int} (h : j < l.length) : isK l (j : Nat) k = decide (l[j].tok.kind = k) := by simp [isK, h]
theorem isK_out {l : List Tree} {j : Nat} {k : Int} (h : ¬ j < l.length) : isK l (j : Nat) k = false := by simp only [isK, Int.toNat_natCast]; rw [List.getElem?_eq_none (by omega)]; simp
theorem tree_tk3 {t : Tree} : takeN 3 t.enc = some [.int .u8 t.tok.kind, .str t.tok.text, .int .i64 t.tok.pos] := by rw [enc_eq]; rfl
def kindP (k : Nat) : Int := if k = 1 then 60 else 97
def rowsP : List (List V) := [[.int .u8 97], [.int .u8 60], [.int .u8 97]]
def invP (t : Tree) (σ : Store) (a τ : Nat) (acc : List (Word × Word)) : St :=
  ⟨[.any, .ptr (.loc 0) 0, .any, .any, .sl (.tk τ) 4 (acc.map penc), .int .i64 (a : Nat)] ++ List.replicate 100 .any, [t.enc], σ.setTip τ acc.length⟩
def invPk (t : Tree) (σ : Store) (a τ : Nat) (acc : List (Word × Word)) (k : Nat) : St :=
  ⟨[.any, .ptr (.loc 0) 0, .any, .any, .sl (.tk τ) 4 (acc.map penc), .int .i64 (a : Nat), .int .i64 (k : Nat)] ++ List.replicate 99 .any, [t.enc], σ.setTip τ acc.length⟩
abbrev PF (t : Tree) (σ : Store) (R : List (Word × Word) × Int) := { p : Nat × Nat × List (Word × Word) × Nat // σ.tip p.2.2.2 = none ∧ pairsF t.kids t.fin p.1 p.2.1 p.2.2.1 = R ∧ p.2.2.1.length ≤ p.2.1 ∧ p.2.1 ≤ t.kids.length ∧ t.kids.length + 1 ≤ p.2.1 + p.1 }
theorem pairs12_calls (t : Tree) (σ : Store) (hm : t.kids.length + 8 ≤ big) : PCalls prog 64 [.agg t.enc] σ fun v σ' => v = .tup [.sl .no 4 ((pairsR t).1.map penc), .int .i64 (pairsR t).2] ∧ σ' = σ := by
  simp only [big] at hm
  refine fn64.calls ?_
  simp only [slots, ac64, am, amo, amc, ams, Nat.reduceAdd, Nat.reduceEqDiff, decide_true, decide_false, Tree.rec_, Nd.rec_, Word.rec_, Got.rec_, Tree.fl, tree_tk3, Int.reduceEq, Int.reduceLT, Int.reduceLE, Nat.reduceLT]
  by_cases hk0 : t.kids.length = 0
  · have hR : pairsR t = ([], -1) := by unfold pairsR; rw [if_pos hk0]
    rw [hR]
    refine vc_loop (fun _ : Unit => ⟨[.any, .ptr (.loc 0) 0, .any, .any, .any, .int .i64 0] ++ List.replicate 100 .any, [t.enc], σ⟩) (fun _ => 0) ?_ ?_
    · refine Upd.enter () ?_ (by simp [am]) OLe.rfl
      simp [List.replicate, am]
    · rintro _
      simp only [List.replicate]
      simp only [am, amo, amc, Nat.reduceAdd, Nat.reduceEqDiff, encs_length, List.length_map, decide_true, decide_false, Tree.rec_, Nd.rec_, Word.rec_, Got.rec_, Tree.fl, tree_tk3, Int.reduceEq, Int.reduceLT, Int.reduceLE, Nat.reduceLT, hk0, show (((0 : Nat) : Int)) = 0 from rfl]
      refine retK_intro rfl (Store.sub_refl _) ⟨?_, rfl⟩
      simp [V.erase, eraseL]
  · generalize hR : pairsF t.kids t.fin (t.kids.length + 1) 0 [] = R
    have hR0 : pairsR t = R := by unfold pairsR; rw [if_neg hk0, hR]
    rw [hR0]
    refine vc_loop (fun p : PF t σ R => invP t σ p.1.2.1 p.1.2.2.2 p.1.2.2.1) (fun p => p.1.1) ?_ ?_
    · refine Upd.tokEnter 0 fun τ hτ => ⟨⟨(t.kids.length + 1, 0, [], τ), hτ, hR, by simp, by simp, by simp⟩, ?_, rfl, rfl⟩
      simp [invP, List.replicate, lto]
    · rintro ⟨⟨n, a, acc, τ⟩, hτ, hR, h1, h2, h3⟩
      simp only at hτ hR h1 h2 h3
      obtain ⟨m, rfl⟩ : ∃ m, n = m + 1 := ⟨n - 1, by omega⟩
      simp only [invP, List.replicate]
      simp only [am, amo, amc, Nat.reduceAdd, Nat.reduceEqDiff, encs_length, List.length_map, decide_true, decide_false, Tree.rec_, Nd.rec_, Word.rec_, Got.rec_, Tree.fl, tree_tk3, Int.reduceEq, Int.reduceLT, Int.reduceLE, Nat.reduceLT]
      have hw : ∀ k : Nat, k ≤ 3 → IntKind.i64.wrap ((a : Int) + (k : Int)) = ((a + k : Nat) : Int) := fun k hk => by rw [wrap_i64 (by omega) (by omega)]; simp
      by_cases ha : a < t.kids.length
      case' pos =>
        simp only [am, amo, amc, Nat.reduceAdd, Nat.reduceEqDiff, encs_length, List.length_map, decide_true, decide_false, Tree.rec_, Nd.rec_, Word.rec_, Got.rec_, Tree.fl, tree_tk3, Int.reduceEq, Int.reduceLT, Int.reduceLE, Nat.reduceLT, decide_eq_true (show (a : Int) < t.kids.length by omega)]
      case' neg =>
        simp only [am, amo, amc, Nat.reduceAdd, Nat.reduceEqDiff, encs_length, List.length_map, decide_true, decide_false, Tree.rec_, Nd.rec_, Word.rec_, Got.rec_, Tree.fl, tree_tk3, Int.reduceEq, Int.reduceLT, Int.reduceLE, Nat.reduceLT, decide_eq_false (show ¬ (a : Int) < t.kids.length by omega), decide_eq_true (show (0 : Int) < a by omega)]
      all_goals
        refine vc_loop (fun p : { k : Nat // k ≤ 3 ∧ ∀ j, j < k → isK t.kids ((a + j : Nat) : Int) (kindP j) = true } => invPk t σ a τ acc p.1) (fun p => 3 - p.1) ?_ ?_
        · refine Upd.enter ⟨0, by simp, by simp⟩ ?_ LLLe.rfl OLe.rfl
          simp [invPk, List.replicate, am]
        · rintro ⟨k, hk, hall⟩
          simp only [invPk, List.replicate]
          by_cases hlt : k < 3
          · simp only [am, amo, amc, Nat.reduceAdd, Nat.reduceEqDiff, encs_length, List.length_map, decide_true, decide_false, Tree.rec_, Nd.rec_, Word.rec_, Got.rec_, Tree.fl, tree_tk3, Int.reduceEq, Int.reduceLT, Int.reduceLE, Nat.reduceLT, decide_eq_true (show (k : Int) < 3 by omega), hw k hk]
            have wk : IntKind.i64.wrap ((k : Int) + 1) = ((k + 1 : Nat) : Int) := by rw [wrap_i64 (by omega) (by omega)]; simp
            have hres : isK t.kids ((a + k : Nat) : Int) (kindP k) = false → R = ([], spotOf t.kids ((a + k : Nat) : Int) t.fin) := fun hf => by
              rw [← hR]
              simp only [pairsF]
              match k, hlt with
              | 0, _ =>
                have hf : isK t.kids (a : Nat) 97 = false := hf
                rw [if_pos hf]; rfl
              | 1, _ =>
                have q0 : isK t.kids (a : Nat) 97 = true := hall 0 (by omega)
                have hf : isK t.kids ((a + 1 : Nat) : Int) 60 = false := hf
                rw [if_neg (by rw [q0]; decide), if_pos hf]
              | 2, _ =>
                have q0 : isK t.kids (a : Nat) 97 = true := hall 0 (by omega)
                have q1 : isK t.kids ((a + 1 : Nat) : Int) 60 = true := hall 1 (by omega)
                have hf : isK t.kids ((a + 2 : Nat) : Int) 97 = false := hf
                rw [if_neg (by rw [q0]; decide), if_neg (by rw [q1]; decide), if_pos hf]
            by_cases hin : a + k < t.kids.length
            · simp only [am, amo, amc, Nat.reduceAdd, Nat.reduceEqDiff, encs_length, List.length_map, decide_true, decide_false, Tree.rec_, Nd.rec_, Word.rec_, Got.rec_, Tree.fl, tree_tk3, Int.reduceEq, Int.reduceLT, Int.reduceLE, Nat.reduceLT, decide_eq_false (show ¬ (t.kids.length : Int) ≤ ((a + k : Nat) : Int) by omega), hw k hk]
              refine idxL_intro (by omega) (encs_at (List.getElem?_eq_getElem hin)) ?_
              simp only [am, amo, amc, Nat.reduceAdd, Nat.reduceEqDiff, encs_length, List.length_map, decide_true, decide_false, Tree.rec_, Nd.rec_, Word.rec_, Got.rec_, Tree.fl, tree_tk3, Int.reduceEq, Int.reduceLT, Int.reduceLE, Nat.reduceLT]
              rw [show ([[V.int .u8 97], [V.int .u8 60], [V.int .u8 97]] : List (List V)) = rowsP from rfl]
              refine idxL_intro (by omega) (c := [.int .u8 (kindP k)]) (by match k, hlt with | 0, _ => rfl | 1, _ => rfl | 2, _ => rfl) ?_
              have hik : isK t.kids ((a + k : Nat) : Int) (kindP k) = decide (t.kids[a + k].tok.kind = kindP k) := isK_in hin
              by_cases hkk : t.kids[a + k].tok.kind = kindP k
              · simp only [am, amo, amc, Nat.reduceAdd, Nat.reduceEqDiff, encs_length, List.length_map, decide_true, decide_false, Tree.rec_, Nd.rec_, Word.rec_, Got.rec_, Tree.fl, tree_tk3, Int.reduceEq, Int.reduceLT, Int.reduceLE, Nat.reduceLT, decide_eq_true hkk, wk]
                refine Upd.again ⟨k + 1, by omega, fun j hj => ?_⟩ (by simp; omega) (by simp [List.replicate, am]) (by simp [am]) OLe.rfl
                by_cases e : j = k
                · subst e; rw [hik]; exact decide_eq_true hkk
                · exact hall j (by omega)
              · have hf : isK t.kids ((a + k : Nat) : Int) (kindP k) = false := by rw [hik]; exact decide_eq_false hkk
                simp only [am, amo, amc, Nat.reduceAdd, Nat.reduceEqDiff, encs_length, List.length_map, decide_true, decide_false, Tree.rec_, Nd.rec_, Word.rec_, Got.rec_, Tree.fl, tree_tk3, Int.reduceEq, Int.reduceLT, Int.reduceLE, Nat.reduceLT, decide_eq_false hkk, hw k hk]
                refine (place_calls t.kids (a + k) t.fin _).mono ?_
                rintro v σ' ⟨rfl, rfl⟩
                simp only [am, amo, amc, Nat.reduceAdd, Nat.reduceEqDiff, encs_length, List.length_map, decide_true, decide_false, Tree.rec_, Nd.rec_, Word.rec_, Got.rec_, Tree.fl, tree_tk3, Int.reduceEq, Int.reduceLT, Int.reduceLE, Nat.reduceLT]
                refine retK_intro rfl (sub_tip hτ) ⟨?_, rfl⟩
                simp [V.erase, eraseL, hres hf]
            · have hf : isK t.kids ((a + k : Nat) : Int) (kindP k) = false := isK_out hin
              simp only [am, amo, amc, Nat.reduceAdd, Nat.reduceEqDiff, encs_length, List.length_map, decide_true, decide_false, Tree.rec_, Nd.rec_, Word.rec_, Got.rec_, Tree.fl, tree_tk3, Int.reduceEq, Int.reduceLT, Int.reduceLE, Nat.reduceLT, decide_eq_true (show (t.kids.length : Int) ≤ ((a + k : Nat) : Int) by omega), hw k hk]
              refine (place_calls t.kids (a + k) t.fin _).mono ?_
              rintro v σ' ⟨rfl, rfl⟩
              simp only [am, amo, amc, Nat.reduceAdd, Nat.reduceEqDiff, encs_length, List.length_map, decide_true, decide_false, Tree.rec_, Nd.rec_, Word.rec_, Got.rec_, Tree.fl, tree_tk3, Int.reduceEq, Int.reduceLT, Int.reduceLE, Nat.reduceLT]
              refine retK_intro rfl (sub_tip hτ) ⟨?_, rfl⟩
              simp [V.erase, eraseL, hres hf]
          · obtain rfl : k = 3 := by omega
            have q0 : isK t.kids (a : Nat) 97 = true := hall 0 (by omega)
            have q1 : isK t.kids ((a + 1 : Nat) : Int) 60 = true := hall 1 (by omega)
            have q2 : isK t.kids ((a + 2 : Nat) : Int) 97 = true := hall 2 (by omega)
            have hl2 := (isK_lt q2).2
            have ha0 : a < t.kids.length := by omega
            have ha2 : a + 2 < t.kids.length := by omega
            simp only [pairsF, q0, q1, q2, Bool.true_eq_false, if_false] at hR
            have w2 : IntKind.i64.wrap ((a : Int) + 2) = ((a + 2 : Nat) : Int) := hw 2 (by omega)
            have w3 : IntKind.i64.wrap ((a : Int) + 3) = ((a + 3 : Nat) : Int) := hw 3 (by omega)
            have w4 : IntKind.i64.wrap (((a + 3 : Nat) : Int) + 1) = ((a + 4 : Nat) : Int) := by rw [wrap_i64 (by omega) (by omega)]; omega
            simp only [am, amo, amc, Nat.reduceAdd, Nat.reduceEqDiff, encs_length, List.length_map, decide_true, decide_false, Tree.rec_, Nd.rec_, Word.rec_, Got.rec_, Tree.fl, tree_tk3, Int.reduceEq, Int.reduceLT, Int.reduceLE, Nat.reduceLT, show (((3 : Nat) : Int) < 3) = False by simp, w2]
            refine idxL_intro (by omega) (encs_at (List.getElem?_eq_getElem ha0)) ?_
            simp only [am, amo, amc, Nat.reduceAdd, Nat.reduceEqDiff, encs_length, List.length_map, decide_true, decide_false, Tree.rec_, Nd.rec_, Word.rec_, Got.rec_, Tree.fl, tree_tk3, Int.reduceEq, Int.reduceLT, Int.reduceLE, Nat.reduceLT, w2]
            refine idxL_intro (by omega) (encs_at (List.getElem?_eq_getElem ha2)) ?_
            simp only [am, amo, amc, Nat.reduceAdd, Nat.reduceEqDiff, encs_length, List.length_map, decide_true, decide_false, Tree.rec_, Nd.rec_, Word.rec_, Got.rec_, Tree.fl, tree_tk3, Int.reduceEq, Int.reduceLT, Int.reduceLE, Nat.reduceLT]
            refine app_tk (by rw [List.length_map]; simp [big]; omega) (by rw [List.length_map, setTip_tip_same]) ?_
            have hacc : acc.map penc ++ [[V.str t.kids[a].tok.text, V.int .i64 t.kids[a].tok.pos, V.str t.kids[a + 2].tok.text, V.int .i64 t.kids[a + 2].tok.pos]] = (acc ++ [(wordAt t.kids (a : Nat), wordAt t.kids ((a + 2 : Nat) : Int))]).map penc := by simp [penc, wordAt, tokAt, ha0]; rw [show ((a : Int) + 2).toNat = a + 2 by omega]; simp [ha2]
            rw [hacc]
            generalize hac : acc ++ [(wordAt t.kids (a : Nat), wordAt t.kids ((a + 2 : Nat) : Int))] = acc' at hR ⊢
            have hle : acc'.length = acc.length + 1 := by rw [← hac]; simp
            simp only [am, amo, amc, Nat.reduceAdd, Nat.reduceEqDiff, encs_length, List.length_map, decide_true, decide_false, Tree.rec_, Nd.rec_, Word.rec_, Got.rec_, Tree.fl, tree_tk3, Int.reduceEq, Int.reduceLT, Int.reduceLE, Nat.reduceLT, setTip_setTip, w3]
            by_cases hend : a + 3 = t.kids.length
            · rw [if_pos hend] at hR
              simp only [am, amo, amc, Nat.reduceAdd, Nat.reduceEqDiff, encs_length, List.length_map, decide_true, decide_false, Tree.rec_, Nd.rec_, Word.rec_, Got.rec_, Tree.fl, tree_tk3, Int.reduceEq, Int.reduceLT, Int.reduceLE, Nat.reduceLT, decide_eq_true (show ((a + 3 : Nat) : Int) = (t.kids.length : Nat) by omega)]
              refine retK_intro rfl (sub_tip hτ) ⟨?_, rfl⟩
              simp [V.erase, eraseL, ← hR]
            · rw [if_neg hend] at hR
              have ha3 : a + 3 < t.kids.length := by omega
              simp only [am, amo, amc, Nat.reduceAdd, Nat.reduceEqDiff, encs_length, List.length_map, decide_true, decide_false, Tree.rec_, Nd.rec_, Word.rec_, Got.rec_, Tree.fl, tree_tk3, Int.reduceEq, Int.reduceLT, Int.reduceLE, Nat.reduceLT, decide_eq_false (show ¬ ((a + 3 : Nat) : Int) = (t.kids.length : Nat) by omega)]
              refine idxL_intro (by omega) (encs_at (List.getElem?_eq_getElem ha3)) ?_
              simp only [am, amo, amc, Nat.reduceAdd, Nat.reduceEqDiff, encs_length, List.length_map, decide_true, decide_false, Tree.rec_, Nd.rec_, Word.rec_, Got.rec_, Tree.fl, tree_tk3, Int.reduceEq, Int.reduceLT, Int.reduceLE, Nat.reduceLT]
              have h44 := isK_in (k := 44) ha3
              by_cases hk : t.kids[a + 3].tok.kind = 44
              · rw [if_neg (by rw [h44, decide_eq_true hk]; decide)] at hR
                simp only [am, amo, amc, Nat.reduceAdd, Nat.reduceEqDiff, encs_length, List.length_map, decide_true, decide_false, Tree.rec_, Nd.rec_, Word.rec_, Got.rec_, Tree.fl, tree_tk3, Int.reduceEq, Int.reduceLT, Int.reduceLE, Nat.reduceLT, decide_eq_true hk, w4]
                refine Upd.againD (I := fun p : PF t σ R => invP t σ p.1.2.1 p.1.2.2.2 p.1.2.2.1) (μ := fun p => p.1.1) ⟨(m, a + 4, acc', τ), hτ, hR, by simp only; omega, by simp only; omega, by simp only; omega⟩ (by simp) (by simp [invP, List.replicate, am]) (by simp [invP, am]) ?_ (by simp [invP, List.replicate, loL, V.lo]) (by simp [invP, loLL, Tree.r_lo])
                simp only [invP, hle]
                exact OLe.rfl
              · rw [if_pos (by rw [h44]; exact decide_eq_false hk)] at hR
                simp only [am, amo, amc, Nat.reduceAdd, Nat.reduceEqDiff, encs_length, List.length_map, decide_true, decide_false, Tree.rec_, Nd.rec_, Word.rec_, Got.rec_, Tree.fl, tree_tk3, Int.reduceEq, Int.reduceLT, Int.reduceLE, Nat.reduceLT, decide_eq_false hk]
                refine (place_calls t.kids (a + 3) t.fin _).mono ?_
                rintro v σ' ⟨rfl, rfl⟩
                simp only [am, amo, amc, Nat.reduceAdd, Nat.reduceEqDiff, encs_length, List.length_map, decide_true, decide_false, Tree.rec_, Nd.rec_, Word.rec_, Got.rec_, Tree.fl, tree_tk3, Int.reduceEq, Int.reduceLT, Int.reduceLE, Nat.reduceLT]
                refine retK_intro rfl (sub_tip hτ) ⟨?_, rfl⟩
                simp [V.erase, eraseL, ← hR]
end Go.Proofs.Tryd

namespace Go.Proofs.Tryd
open Go.Am
set_option maxRecDepth 4000
set_option maxHeartbeats 4000000
def ac25 : AC := .seq (.reg [⟨(some 5), .box 17 (.s 0), none⟩, ⟨(some 10), .alloc [(.int .i64 0), (.int .i64 0), (.str []), (.int .i64 0), (.sl .full 2 []), (.sl .full 4 []), (.int .i64 0), (.int .i64 0), (.int .i64 0), (.str []), (.sl .full 2 []), (.sl .full 5 []), (.int .i64 0), (.int .i64 0), (.str []), (.sl .full 2 []), (.sl .full 5 [])], none⟩, xi 11 0, xi 12 0])
 (.seq (.seq (.reg [xm 19 1, xu .eql 20 19 110, xm 21 20, xh 21 (xm 22 1), xh 21 (xu .eql 23 22 102), ⟨(some 24), .pick (.s 21) (.c (.bool true)) (.s 23), none⟩])
 (.cond (.s 24) (.seq (.seq (.reg [xm 25 2, xm 26 3, xc 61 27 [.s 25, .s 26], ⟨(some 28), .not (.s 27), none⟩])
 (.cond (.s 28) (.seq (.draw [(xl 17 29 5, [1]), (xm 30 3, []), (xm 31 2, []), (xm 32 3, []), (xm 33 4, []), (xc 62 34 [.s 31, .s 32, .s 33], []), (xs 17 10 29, []), (xm 11 30, []), (xm 12 34, [])])
 (.ret))
 (.skip)))
 (.seq (.draw [(xm 35 2, []), (xm 36 3, []), (xA 5 37 35 36, []), (xf 0 38 37, []), (xf 1 39 38, []), (xo 40 39, [1]), (xm 41 2, []), (xm 42 3, []), (xA 5 43 41 42, []), (xf 0 44 43, []), (xf 2 45 44, []), (xo 46 45, [1]), (⟨(some 47), .build [(.str []), (.int .i64 0)] [(0, 1, (.s 40)), (1, 1, (.s 46))], none⟩, []), (⟨(some 13), .alloc [(.str []), (.int .i64 0)], none⟩, []), (xs 2 13 47, [])])
 (.seq (.seq (.reg [xm 48 1, xu .eql 49 48 102])
 (.cond (.s 49) (.reg [xl 2 50 13, ⟨(some 51), .bslice 2 [(.s 50)], none⟩, xf 4 52 5, xs 1 52 51])
 (.reg [xl 2 53 13, xf 2 54 5, xs 2 54 53])))
 (.seq (.reg [xl 17 55 5, xm 56 3, xB .add 57 56 1, xs 17 10 55, xm 11 57, xi 12 (-1)])
 (.ret)))))
 (.skip)))
 (.seq (.seq (.reg [xm 58 1, xu .eql 59 58 119])
 (.cond (.s 59) (.seq (.reg [xm 61 2, xm 62 3, xm 63 4, xc 63 64 [.s 61, .s 62, .s 63], xm 60 64, xe 65 60 0, xe 66 60 1, ⟨(some 15), .alloc [(.int .i64 0), (.int .i64 0), (.str []), (.sl .full 2 []), (.sl .full 5 []), (.int .i64 0), (.bool false), (.int .i64 0)], none⟩, xm 14 65, xs 8 15 66])
 (.seq (.seq (.reg [xf 6 67 15, xo 68 67])
 (.cond (.s 68) (.seq (.draw [(xl 17 69 5, []), (xm 70 3, []), (xf 7 71 15, []), (xo 72 71, [1]), (xs 17 10 69, []), (xm 11 70, []), (xm 12 72, [])])
 (.ret))
 (.skip)))
 (.seq (.reg [xm 73 14, xf 4 74 5, xs 1 74 73])
 (.seq (.reg [xl 17 75 5, xm 76 3, xB .add 77 76 1, xs 17 10 75, xm 11 77, xi 12 (-1)])
 (.ret)))))
 (.skip)))
 (.seq (.seq (.reg [xm 78 1, xu .eql 79 78 112])
 (.cond (.s 79) (.seq (.seq (.reg [xm 80 3, xm 81 2, xL 82 81, xb .geq 83 80 82, xm 84 83, xh 84 (xm 85 2), xh 84 (xm 86 3), xh 84 (xA 5 87 85 86), xh 84 (xf 0 88 87), xh 84 (xf 0 89 88), xh 84 (xo 90 89), xh 84 (xu .neq 91 90 123), ⟨(some 92), .pick (.s 84) (.c (.bool true)) (.s 91), none⟩])
 (.cond (.s 92) (.seq (.draw [(xl 17 93 5, [1]), (xm 94 3, []), (xm 95 2, []), (xm 96 3, []), (xm 97 4, []), (xc 62 98 [.s 95, .s 96, .s 97], []), (xs 17 10 93, []), (xm 11 94, []), (xm 12 98, [])])
 (.ret))
 (.skip)))
 (.seq (.reg [xm 100 2, xm 101 3, xA 5 102 100 101, xl 5 103 102, xc 64 104 [.s 103], xm 99 104, xe 105 99 0, xe 106 99 1, xm 16 105, xm 17 106])
 (.seq (.reg [xm 107 16, xf 5 108 5, xs 1 108 107])
 (.seq (.reg [xm 109 2, xm 110 3, xA 5 111 109 110, xf 0 112 111, xf 2 113 112, xo 114 113, xf 6 115 5, xs 1 115 114])
 (.seq (.reg [xl 17 116 5, xm 117 3, xB .add 118 117 1, xm 119 17, xs 17 10 116, xm 11 118, xm 12 119])
 (.ret))))))
 (.skip)))
 (.seq (.reg [xm 120 2, xm 121 3, xm 122 4, xc 65 123 [.s 120, .s 121, .s 122], ⟨(some 18), .alloc [(.int .i64 0), (.int .i64 0), (.str []), (.sl .full 2 []), (.sl .full 5 []), (.int .i64 0), (.bool false), (.int .i64 0)], none⟩, xs 8 18 123])
 (.seq (.seq (.reg [xm 124 1, xu .eql 125 124 114])
 (.cond (.s 125) (.reg [xm 126 2, xm 127 3, xm 128 4, xc 66 129 [.s 126, .s 127, .s 128], xs 8 18 129])
 (.skip)))
 (.seq (.seq (.reg [xf 6 130 18, xo 131 130])
 (.cond (.s 131) (.seq (.draw [(xl 17 132 5, []), (xm 133 3, []), (xf 7 134 18, []), (xo 135 134, [1]), (xs 17 10 132, []), (xm 11 133, []), (xm 12 135, [])])
 (.ret))
 (.skip)))
 (.seq (.seq (.reg [xf 7 136 5, xf 0 137 136, xo 138 137, xB .eql 139 138 0])
 (.cond (.s 139) (.reg [xf 0 140 18, xl 5 141 140, xf 7 142 5, xs 5 142 141])
 (.reg [xf 0 143 18, xl 5 144 143, xf 12 145 5, xs 5 145 144])))
 (.seq (.draw [(xl 17 146 5, []), (xf 5 147 18, []), (xo 148 147, [1]), (xs 17 10 146, []), (xm 11 148, []), (xi 12 (-1), [])])
 (.ret)))))))))
theorem fn25 : IsFn prog 25 ac25 [.cell 10 true 17, .tmp 11, .tmp 12] 149 := ⟨f25, ⟨[], []⟩, func25, by kernel_rfl, by kernel_rfl, by kernel_rfl, by kernel_rfl⟩
section
variable {c : Cmd}
theorem c_len : c.enc.length = 17 := rfl
theorem c_one : oneL c.enc = true := rfl
theorem c_nol : nolL c.enc = true := rfl
theorem c_er : eraseL c.enc = c.enc := rfl
theorem c_tk : takeN 17 c.enc = some c.enc := rfl
theorem c_ov {z0 z1 z2 z3 z4 z5 z6 z7 z8 z9 z10 z11 z12 z13 z14 z15 z16 : V} : over [z0, z1, z2, z3, z4, z5, z6, z7, z8, z9, z10, z11, z12, z13, z14, z15, z16] c.enc = c.enc := rfl
theorem c_lk : ldC false 1 (c.enc.drop 7) = some (.int .i64 c.left.kind) := rfl
theorem c_sname {w : Word} : setAt c.enc 2 w.enc = ({ c with name := w } : Cmd).enc := rfl
theorem c_hname : hasN 2 (c.enc.drop 2) = true := rfl
theorem c_snames {ws : List Word} : setAt c.enc 4 [.sl .no 2 (ws.map Word.enc)] = ({ c with names := ws } : Cmd).enc := rfl
theorem c_hnames : hasN 1 (c.enc.drop 4) = true := rfl
theorem c_spairs {ps : List (Word × Word)} : setAt c.enc 5 [.sl .no 4 (ps.map penc)] = ({ c with pairs := ps } : Cmd).enc := rfl
theorem c_hpairs : hasN 1 (c.enc.drop 5) = true := rfl
theorem c_spat {n : Int} : setAt c.enc 6 [.int .i64 n] = ({ c with pairsAt := n } : Cmd).enc := rfl
theorem c_hpat : hasN 1 (c.enc.drop 6) = true := rfl
theorem c_sl {n : Nd} : setAt c.enc 7 n.enc = ({ c with left := n } : Cmd).enc := by rw [Nd.enc_eq]; rfl
theorem c_hl : hasN 5 (c.enc.drop 7) = true := rfl
theorem c_sr {n : Nd} : setAt c.enc 12 n.enc = ({ c with right := n } : Cmd).enc := by rw [Nd.enc_eq]; rfl
theorem c_hr : hasN 5 (c.enc.drop 12) = true := rfl
def cfl := And.intro @c_len <| And.intro @c_one <| And.intro @c_nol <| And.intro @c_er <| And.intro @c_tk <| And.intro @c_ov <| And.intro @c_lk <| And.intro @c_sname <| And.intro @c_hname <| And.intro @c_snames <| And.intro @c_hnames <| And.intro @c_spairs <| And.intro @c_hpairs <| And.intro @c_spat <| And.intro @c_hpat <| And.intro @c_sl <| And.intro @c_hl <| And.intro @c_sr @c_hr
end
theorem part12_calls (k : UInt8) (c : Cmd) (l : List Tree) (a : Nat) (fin : Int) (σ : Store) (hm : manys l + 8 ≤ big) :
    PCalls prog 25 [.agg c.enc, .int .u8 (k.toNat : Nat), .sl .no 5 (encs l), .int .i64 (a : Nat), .int .i64 fin] σ fun v σ' => v = .tup [.agg (partR k c l a fin).1.enc, .int .i64 (partR k c l a fin).2.1, .int .i64 (partR k c l a fin).2.2] ∧ σ' = σ := by
  have hlen := manys_ge l
  have hkk : ∀ n : UInt8, ((k.toNat : Nat) : Int) = (n.toNat : Nat) ↔ k = n := fun n => by
    constructor
    · intro h; exact UInt8.toNat_inj.1 (by omega)
    · rintro rfl; rfl
  have e110 : ((k.toNat : Nat) : Int) = 110 ↔ k = 110 := hkk 110
  have e102 : ((k.toNat : Nat) : Int) = 102 ↔ k = 102 := hkk 102
  have e119 : ((k.toNat : Nat) : Int) = 119 ↔ k = 119 := hkk 119
  have e112 : ((k.toNat : Nat) : Int) = 112 ↔ k = 112 := hkk 112
  have e114 : ((k.toNat : Nat) : Int) = 114 ↔ k = 114 := hkk 114
  have w1 : ∀ j : Nat, j < l.length → IntKind.i64.wrap ((j : Int) + 1) = (j : Int) + 1 := fun j hj => by simp only [big] at hm; exact wrap_i64 (by omega) (by omega)
  generalize hR : partR k c l a fin = R
  unfold partR at hR
  refine fn25.calls ?_
  simp only [slots, ac25, am, amo, amc, ams, Nat.reduceAdd, Nat.reduceEqDiff, decide_true, decide_false, Tree.rec_, Nd.rec_, Word.rec_, Got.rec_, Tree.fl, tree_tk3, Int.reduceEq, Int.reduceLT, Int.reduceLE, Nat.reduceLT, cfl]
  by_cases hnf : k = 110 ∨ k = 102
  · rw [if_pos hnf] at hR
    by_cases k1 : k = 110
    case' pos => simp only [am, amo, amc, Nat.reduceAdd, Nat.reduceEqDiff, encs_length, List.length_map, decide_true, decide_false, Tree.rec_, Nd.rec_, Word.rec_, Got.rec_, Tree.fl, tree_tk3, Int.reduceEq, Int.reduceLT, Int.reduceLE, Nat.reduceLT, cfl, decide_eq_true (e110.2 k1)]
    case' neg => simp only [am, amo, amc, Nat.reduceAdd, Nat.reduceEqDiff, encs_length, List.length_map, decide_true, decide_false, Tree.rec_, Nd.rec_, Word.rec_, Got.rec_, Tree.fl, tree_tk3, Int.reduceEq, Int.reduceLT, Int.reduceLE, Nat.reduceLT, cfl, decide_eq_false (fun h => k1 (e110.1 h)), decide_eq_true (e102.2 (hnf.resolve_left k1))]
    all_goals
      refine (name12_calls l a σ).mono ?_
      rintro v σ ⟨rfl, rfl⟩
      cases h97 : isK l (a : Nat) 97
      · rw [if_neg (by simp [h97])] at hR
        simp only [am, amo, amc, Nat.reduceAdd, Nat.reduceEqDiff, encs_length, List.length_map, decide_true, decide_false, Tree.rec_, Nd.rec_, Word.rec_, Got.rec_, Tree.fl, tree_tk3, Int.reduceEq, Int.reduceLT, Int.reduceLE, Nat.reduceLT, cfl]
        refine CallD.intro (place_calls l a fin σ) ?_
        simp only [am, amo, amc, Nat.reduceAdd, Nat.reduceEqDiff, encs_length, List.length_map, decide_true, decide_false, Tree.rec_, Nd.rec_, Word.rec_, Got.rec_, Tree.fl, tree_tk3, Int.reduceEq, Int.reduceLT, Int.reduceLE, Nat.reduceLT, cfl]
        refine retK_intro rfl (Store.sub_refl _) ⟨?_, rfl⟩
        simp [V.erase, eraseL, ← hR, cfl]
      · rw [if_pos h97] at hR
        obtain ⟨j, t, e, hj, _, hl⟩ := isK_spec h97
        obtain rfl : j = a := by omega
        obtain ⟨_, htk⟩ := tree_at hj
        have hwa : wordAt l (j : Nat) = ⟨t.tok.text, t.tok.pos⟩ := by unfold wordAt; rw [htk]
        simp only [am, amo, amc, Nat.reduceAdd, Nat.reduceEqDiff, encs_length, List.length_map, decide_true, decide_false, Tree.rec_, Nd.rec_, Word.rec_, Got.rec_, Tree.fl, tree_tk3, Int.reduceEq, Int.reduceLT, Int.reduceLE, Nat.reduceLT, cfl]
        refine idxL_intro (by omega) (encs_at hj) ?_
        simp only [am, amo, amc, Nat.reduceAdd, Nat.reduceEqDiff, encs_length, List.length_map, decide_true, decide_false, Tree.rec_, Nd.rec_, Word.rec_, Got.rec_, Tree.fl, tree_tk3, Int.reduceEq, Int.reduceLT, Int.reduceLE, Nat.reduceLT, cfl]
        refine idxL_intro (by omega) (encs_at hj) ?_
        simp only [am, amo, amc, Nat.reduceAdd, Nat.reduceEqDiff, encs_length, List.length_map, decide_true, decide_false, Tree.rec_, Nd.rec_, Word.rec_, Got.rec_, Tree.fl, tree_tk3, Int.reduceEq, Int.reduceLT, Int.reduceLE, Nat.reduceLT, cfl]
        rw [show [V.str t.tok.text, V.int .i64 t.tok.pos] = (wordAt l (j : Nat)).enc by rw [hwa]; rfl]
        generalize wordAt l (j : Nat) = w at hR ⊢
        by_cases k2 : k = 102
        · rw [if_pos k2] at hR
          simp only [am, amo, amc, Nat.reduceAdd, Nat.reduceEqDiff, encs_length, List.length_map, decide_true, decide_false, Tree.rec_, Nd.rec_, Word.rec_, Got.rec_, Tree.fl, tree_tk3, Int.reduceEq, Int.reduceLT, Int.reduceLE, Nat.reduceLT, cfl, decide_eq_true (e102.2 k2), Cmd.enc, Cmd.encP, w1 j hl]
          refine retK_intro rfl (Store.sub_refl _) ⟨?_, rfl⟩
          simp [V.erase, eraseL, ← hR, Cmd.enc, Cmd.encP]
        · rw [if_neg k2] at hR
          simp only [am, amo, amc, Nat.reduceAdd, Nat.reduceEqDiff, encs_length, List.length_map, decide_true, decide_false, Tree.rec_, Nd.rec_, Word.rec_, Got.rec_, Tree.fl, tree_tk3, Int.reduceEq, Int.reduceLT, Int.reduceLE, Nat.reduceLT, cfl, decide_eq_false (fun h => k2 (e102.1 h)), w1 j hl]
          refine retK_intro rfl (Store.sub_refl _) ⟨?_, rfl⟩
          rw [← hR]; rfl
  rw [if_neg hnf] at hR
  simp only [am, amo, amc, Nat.reduceAdd, Nat.reduceEqDiff, encs_length, List.length_map, decide_true, decide_false, Tree.rec_, Nd.rec_, Word.rec_, Got.rec_, Tree.fl, tree_tk3, Int.reduceEq, Int.reduceLT, Int.reduceLE, Nat.reduceLT, cfl, decide_eq_false (fun h => hnf (.inl (e110.1 h))), decide_eq_false (fun h => hnf (.inr (e102.1 h)))]
  by_cases k3 : k = 119
  · rw [if_pos k3] at hR
    simp only [am, amo, amc, Nat.reduceAdd, Nat.reduceEqDiff, encs_length, List.length_map, decide_true, decide_false, Tree.rec_, Nd.rec_, Word.rec_, Got.rec_, Tree.fl, tree_tk3, Int.reduceEq, Int.reduceLT, Int.reduceLE, Nat.reduceLT, cfl, decide_eq_true (e119.2 k3)]
    refine (Words_ref_calls l a fin σ (by omega)).mono ?_
    rintro v σ ⟨rfl, rfl⟩
    have hbk : (refWords l (a : Nat) fin).2.bad = false → a < l.length := fun hb => by
      unfold refWords at hb
      split at hb
      · rename_i hk; have := isK_lt hk; omega
      · simp [wrongAt] at hb
    generalize refWords l (a : Nat) fin = g at hR hbk ⊢
    simp only [am, amo, amc, Nat.reduceAdd, Nat.reduceEqDiff, encs_length, List.length_map, decide_true, decide_false, Tree.rec_, Nd.rec_, Word.rec_, Got.rec_, Tree.fl, tree_tk3, Int.reduceEq, Int.reduceLT, Int.reduceLE, Nat.reduceLT, cfl, Got.enc]
    cases hbad : g.2.bad
    · rw [if_neg (by simp [hbad])] at hR
      simp only [am, amo, amc, Nat.reduceAdd, Nat.reduceEqDiff, encs_length, List.length_map, decide_true, decide_false, Tree.rec_, Nd.rec_, Word.rec_, Got.rec_, Tree.fl, tree_tk3, Int.reduceEq, Int.reduceLT, Int.reduceLE, Nat.reduceLT, cfl, w1 a (hbk hbad)]
      refine retK_intro rfl (Store.sub_refl _) ⟨?_, rfl⟩
      rw [← hR]; rfl
    · rw [if_pos hbad] at hR
      simp only [am, amo, amc, Nat.reduceAdd, Nat.reduceEqDiff, encs_length, List.length_map, decide_true, decide_false, Tree.rec_, Nd.rec_, Word.rec_, Got.rec_, Tree.fl, tree_tk3, Int.reduceEq, Int.reduceLT, Int.reduceLE, Nat.reduceLT, cfl]
      refine retK_intro rfl (Store.sub_refl _) ⟨?_, rfl⟩
      rw [← hR]; rfl
  rw [if_neg k3] at hR
  simp only [am, amo, amc, Nat.reduceAdd, Nat.reduceEqDiff, encs_length, List.length_map, decide_true, decide_false, Tree.rec_, Nd.rec_, Word.rec_, Got.rec_, Tree.fl, tree_tk3, Int.reduceEq, Int.reduceLT, Int.reduceLE, Nat.reduceLT, cfl, decide_eq_false (fun h => k3 (e119.1 h))]
  by_cases k4 : k = 112
  · rw [if_pos k4] at hR
    simp only [am, amo, amc, Nat.reduceAdd, Nat.reduceEqDiff, encs_length, List.length_map, decide_true, decide_false, Tree.rec_, Nd.rec_, Word.rec_, Got.rec_, Tree.fl, tree_tk3, Int.reduceEq, Int.reduceLT, Int.reduceLE, Nat.reduceLT, cfl, decide_eq_true (e112.2 k4)]
    by_cases hin : a < l.length
    · have hik := isK_in (l := l) (k := 123) hin
      have ht : treeAt l (a : Nat) = l[a] := by simp [treeAt, hin]
      simp only [am, amo, amc, Nat.reduceAdd, Nat.reduceEqDiff, encs_length, List.length_map, decide_true, decide_false, Tree.rec_, Nd.rec_, Word.rec_, Got.rec_, Tree.fl, tree_tk3, Int.reduceEq, Int.reduceLT, Int.reduceLE, Nat.reduceLT, cfl, decide_eq_false (show ¬ (l.length : Int) ≤ (a : Nat) by omega)]
      refine idxL_intro (by omega) (encs_at (List.getElem?_eq_getElem hin)) ?_
      simp only [am, amo, amc, Nat.reduceAdd, Nat.reduceEqDiff, encs_length, List.length_map, decide_true, decide_false, Tree.rec_, Nd.rec_, Word.rec_, Got.rec_, Tree.fl, tree_tk3, Int.reduceEq, Int.reduceLT, Int.reduceLE, Nat.reduceLT, cfl]
      by_cases hk : l[a].tok.kind = 123
      · rw [if_pos (by rw [hik]; exact decide_eq_true hk), ht] at hR
        have hkm := kid_many (List.getElem?_eq_getElem hin)
        have := manys_ge l[a].kids
        simp only [am, amo, amc, Nat.reduceAdd, Nat.reduceEqDiff, encs_length, List.length_map, decide_true, decide_false, Tree.rec_, Nd.rec_, Word.rec_, Got.rec_, Tree.fl, tree_tk3, Int.reduceEq, Int.reduceLT, Int.reduceLE, Nat.reduceLT, cfl, decide_eq_true hk]
        refine idxL_intro (by omega) (encs_at (List.getElem?_eq_getElem hin)) ?_
        simp only [am, amo, amc, Nat.reduceAdd, Nat.reduceEqDiff, encs_length, List.length_map, decide_true, decide_false, Tree.rec_, Nd.rec_, Word.rec_, Got.rec_, Tree.fl, tree_tk3, Int.reduceEq, Int.reduceLT, Int.reduceLE, Nat.reduceLT, cfl]
        refine (pairs12_calls l[a] σ (by omega)).mono ?_
        rintro v σ ⟨rfl, rfl⟩
        simp only [am, amo, amc, Nat.reduceAdd, Nat.reduceEqDiff, encs_length, List.length_map, decide_true, decide_false, Tree.rec_, Nd.rec_, Word.rec_, Got.rec_, Tree.fl, tree_tk3, Int.reduceEq, Int.reduceLT, Int.reduceLE, Nat.reduceLT, cfl]
        refine idxL_intro (by omega) (encs_at (List.getElem?_eq_getElem hin)) ?_
        simp only [am, amo, amc, Nat.reduceAdd, Nat.reduceEqDiff, encs_length, List.length_map, decide_true, decide_false, Tree.rec_, Nd.rec_, Word.rec_, Got.rec_, Tree.fl, tree_tk3, Int.reduceEq, Int.reduceLT, Int.reduceLE, Nat.reduceLT, cfl, w1 a hin]
        refine retK_intro rfl (Store.sub_refl _) ⟨?_, rfl⟩
        rw [← hR]; rfl
      · rw [if_neg (by rw [hik]; simp [hk])] at hR
        simp only [am, amo, amc, Nat.reduceAdd, Nat.reduceEqDiff, encs_length, List.length_map, decide_true, decide_false, Tree.rec_, Nd.rec_, Word.rec_, Got.rec_, Tree.fl, tree_tk3, Int.reduceEq, Int.reduceLT, Int.reduceLE, Nat.reduceLT, cfl, decide_eq_false hk]
        refine CallD.intro (place_calls l a fin σ) ?_
        simp only [am, amo, amc, Nat.reduceAdd, Nat.reduceEqDiff, encs_length, List.length_map, decide_true, decide_false, Tree.rec_, Nd.rec_, Word.rec_, Got.rec_, Tree.fl, tree_tk3, Int.reduceEq, Int.reduceLT, Int.reduceLE, Nat.reduceLT, cfl]
        refine retK_intro rfl (Store.sub_refl _) ⟨?_, rfl⟩
        simp [V.erase, eraseL, ← hR, cfl]
    · rw [if_neg (by rw [isK_out hin]; simp)] at hR
      simp only [am, amo, amc, Nat.reduceAdd, Nat.reduceEqDiff, encs_length, List.length_map, decide_true, decide_false, Tree.rec_, Nd.rec_, Word.rec_, Got.rec_, Tree.fl, tree_tk3, Int.reduceEq, Int.reduceLT, Int.reduceLE, Nat.reduceLT, cfl, decide_eq_true (show (l.length : Int) ≤ (a : Nat) by omega)]
      refine CallD.intro (place_calls l a fin σ) ?_
      simp only [am, amo, amc, Nat.reduceAdd, Nat.reduceEqDiff, encs_length, List.length_map, decide_true, decide_false, Tree.rec_, Nd.rec_, Word.rec_, Got.rec_, Tree.fl, tree_tk3, Int.reduceEq, Int.reduceLT, Int.reduceLE, Nat.reduceLT, cfl]
      refine retK_intro rfl (Store.sub_refl _) ⟨?_, rfl⟩
      simp [V.erase, eraseL, ← hR, cfl]
  rw [if_neg k4] at hR
  simp only [am, amo, amc, Nat.reduceAdd, Nat.reduceEqDiff, encs_length, List.length_map, decide_true, decide_false, Tree.rec_, Nd.rec_, Word.rec_, Got.rec_, Tree.fl, tree_tk3, Int.reduceEq, Int.reduceLT, Int.reduceLE, Nat.reduceLT, cfl, decide_eq_false (fun h => k4 (e112.1 h))]
  refine (label_ref_calls (manys l) l (Nat.le_refl _) (by omega) a fin σ).mono ?_
  rintro v σ ⟨rfl, rfl⟩
  simp only [am, amo, amc, Nat.reduceAdd, Nat.reduceEqDiff, encs_length, List.length_map, decide_true, decide_false, Tree.rec_, Nd.rec_, Word.rec_, Got.rec_, Tree.fl, tree_tk3, Int.reduceEq, Int.reduceLT, Int.reduceLE, Nat.reduceLT, cfl, Got.enc]
  by_cases k5 : k = 114
  case' pos =>
    simp only [k5, if_true] at hR
    generalize labelG (manys l) l (a : Nat) fin = g0
    simp only [am, amo, amc, Nat.reduceAdd, Nat.reduceEqDiff, encs_length, List.length_map, decide_true, decide_false, Tree.rec_, Nd.rec_, Word.rec_, Got.rec_, Tree.fl, tree_tk3, Int.reduceEq, Int.reduceLT, Int.reduceLE, Nat.reduceLT, cfl, decide_eq_true (e114.2 k5)]
    refine (row_ref_calls (manys l) l (Nat.le_refl _) (by omega) a fin σ).mono ?_
    rintro v σ ⟨rfl, rfl⟩
    generalize rowG (manys l) l (a : Nat) fin = g at hR ⊢
    simp only [am, amo, amc, Nat.reduceAdd, Nat.reduceEqDiff, encs_length, List.length_map, decide_true, decide_false, Tree.rec_, Nd.rec_, Word.rec_, Got.rec_, Tree.fl, tree_tk3, Int.reduceEq, Int.reduceLT, Int.reduceLE, Nat.reduceLT, cfl, Got.enc]
  case' neg =>
    simp only [k5, if_false] at hR
    generalize labelG (manys l) l (a : Nat) fin = g at hR ⊢
    simp only [am, amo, amc, Nat.reduceAdd, Nat.reduceEqDiff, encs_length, List.length_map, decide_true, decide_false, Tree.rec_, Nd.rec_, Word.rec_, Got.rec_, Tree.fl, tree_tk3, Int.reduceEq, Int.reduceLT, Int.reduceLE, Nat.reduceLT, cfl, decide_eq_false (fun h => k5 (e114.1 h)), Got.enc]
  all_goals
    cases hbad : g.bad
    · rw [if_neg (by simp [hbad])] at hR
      have hsl : setAt c.enc 7 [V.int .i64 g.node.kind, .int .i64 g.node.pos, .str g.node.text, .sl .no 2 (g.node.names.map Word.enc), .sl .no 5 (g.node.kids.map Nd.enc)] = ({ c with left := g.node } : Cmd).enc := rfl
      have hsr : setAt c.enc 12 [V.int .i64 g.node.kind, .int .i64 g.node.pos, .str g.node.text, .sl .no 2 (g.node.names.map Word.enc), .sl .no 5 (g.node.kids.map Nd.enc)] = ({ c with right := g.node } : Cmd).enc := rfl
      simp only [am, amo, amc, Nat.reduceAdd, Nat.reduceEqDiff, encs_length, List.length_map, decide_true, decide_false, Tree.rec_, Nd.rec_, Word.rec_, Got.rec_, Tree.fl, tree_tk3, Int.reduceEq, Int.reduceLT, Int.reduceLE, Nat.reduceLT, cfl]
      by_cases hlk : c.left.kind = 0
      · rw [if_pos hlk] at hR
        simp only [am, amo, amc, Nat.reduceAdd, Nat.reduceEqDiff, encs_length, List.length_map, decide_true, decide_false, Tree.rec_, Nd.rec_, Word.rec_, Got.rec_, Tree.fl, tree_tk3, Int.reduceEq, Int.reduceLT, Int.reduceLE, Nat.reduceLT, cfl, decide_eq_true hlk, hsl]
        refine retK_intro rfl (Store.sub_refl _) ⟨?_, rfl⟩
        rw [← hR]; rfl
      · rw [if_neg hlk] at hR
        simp only [am, amo, amc, Nat.reduceAdd, Nat.reduceEqDiff, encs_length, List.length_map, decide_true, decide_false, Tree.rec_, Nd.rec_, Word.rec_, Got.rec_, Tree.fl, tree_tk3, Int.reduceEq, Int.reduceLT, Int.reduceLE, Nat.reduceLT, cfl, decide_eq_false hlk, hsr]
        refine retK_intro rfl (Store.sub_refl _) ⟨?_, rfl⟩
        rw [← hR]; rfl
    · rw [if_pos hbad] at hR
      simp only [am, amo, amc, Nat.reduceAdd, Nat.reduceEqDiff, encs_length, List.length_map, decide_true, decide_false, Tree.rec_, Nd.rec_, Word.rec_, Got.rec_, Tree.fl, tree_tk3, Int.reduceEq, Int.reduceLT, Int.reduceLE, Nat.reduceLT, cfl]
      refine retK_intro rfl (Store.sub_refl _) ⟨?_, rfl⟩
      rw [← hR]; rfl
end Go.Proofs.Tryd

namespace Go.Proofs.Tryd
open Go.Am
set_option maxRecDepth 4000
set_option maxHeartbeats 4000000
def ac40 : AC := .seq (.reg [⟨(some 2), .mv (.c (.bool false)), none⟩])
 (.seq (.seq (.reg [xm 4 0, xT 5 4, xB .lss 6 5 1, xm 7 6, xh 7 (xm 8 0), xh 7 (xT 9 8), xh 7 (xB .gtr 10 9 16), ⟨(some 11), .pick (.s 7) (.c (.bool true)) (.s 10), none⟩, xm 12 11, xh 12 (xm 13 0), ⟨(some 14), .idxS (.s 13) (.c (.int .i64 0)), (some (12, false))⟩, xh 12 (xc 78 15 [.s 14]), ⟨(some 16), .not (.s 15), (some (12, false))⟩, ⟨(some 17), .pick (.s 12) (.c (.bool true)) (.s 16), none⟩])
 (.cond (.s 17) (.seq (.reg [⟨(some 2), .mv (.c (.bool false)), none⟩])
 (.ret))
 (.skip)))
 (.seq (.seq (.reg [xi 3 1])
 (.block 0 (.loop (.seq (.seq (.reg [xm 18 3, xm 19 0, xT 20 19, xb .lss 21 18 20])
 (.cond (.s 21) (.skip)
 (.exit 0)))
 (.seq (.block 1 (.seq (.reg [xm 24 0, xm 25 3, xS 26 24 25, xc 78 27 [.s 26], ⟨(some 28), .not (.s 27), none⟩, xm 29 28, xg 29 (xm 30 0), xg 29 (xm 31 3), xg 29 (xS 32 30 31), xg 29 (xu .lss 33 32 48), xg 29 (xm 34 33), xh 34 (xm 35 0), xh 34 (xm 36 3), xh 34 (xS 37 35 36), xh 34 (xu .gtr 38 37 57), ⟨(some 39), .pick (.s 34) (.c (.bool true)) (.s 38), (some (29, true))⟩, ⟨(some 40), .pick (.s 29) (.s 39) (.c (.bool false)), none⟩, xm 41 40, xg 41 (xm 42 0), xg 41 (xm 43 3), xg 41 (xS 44 42 43), xg 41 (xu .neq 45 44 95), ⟨(some 46), .pick (.s 41) (.s 45) (.c (.bool false)), none⟩])
 (.cond (.s 46) (.seq (.reg [⟨(some 2), .mv (.c (.bool false)), none⟩])
 (.ret))
 (.skip))))
 (.reg [xm 22 3, xB .add 23 22 1, xm 3 23]))))))
 (.seq (.reg [⟨(some 2), .mv (.c (.bool true)), none⟩])
 (.ret))))
theorem fn40 : IsFn prog 40 ac40 [.tmp 2] 47 := ⟨f40, ⟨[], []⟩, func40, by kernel_rfl, by kernel_rfl, by kernel_rfl, by kernel_rfl⟩
def ac51 : AC := .seq (.reg [⟨(some 2), .mv (.c (.bool false)), none⟩])
 (.seq (.seq (.reg [xm 4 0, ⟨(some 5), .binS .eql (.s 4) (.c (.str [])), none⟩, xm 6 5, xh 6 (xm 7 0), xh 6 (xT 8 7), xh 6 (xB .gtr 9 8 16), ⟨(some 10), .pick (.s 6) (.c (.bool true)) (.s 9), none⟩, xm 11 10, xh 11 (xm 12 0), ⟨(some 13), .idxS (.s 12) (.c (.int .i64 0)), (some (11, false))⟩, xh 11 (xc 84 14 [.s 13]), ⟨(some 15), .not (.s 14), (some (11, false))⟩, ⟨(some 16), .pick (.s 11) (.c (.bool true)) (.s 15), none⟩])
 (.cond (.s 16) (.seq (.reg [⟨(some 2), .mv (.c (.bool false)), none⟩])
 (.ret))
 (.skip)))
 (.seq (.seq (.reg [xm 17 0, xT 18 17, xi 19 0])
 (.block 0 (.loop (.seq (.reg [xb .lss 20 19 18])
 (.seq (.cond (.s 20) (.skip)
 (.exit 0))
 (.seq (.block 1 (.seq (.reg [xm 21 19, xm 3 21])
 (.seq (.reg [xm 22 0, xm 23 3, xS 24 22 23, xc 85 25 [.s 24], ⟨(some 26), .not (.s 25), none⟩])
 (.cond (.s 26) (.seq (.reg [⟨(some 2), .mv (.c (.bool false)), none⟩])
 (.ret))
 (.skip)))))
 (.reg [xB .add 27 19 1, xm 19 27])))))))
 (.seq (.reg [⟨(some 2), .mv (.c (.bool true)), none⟩])
 (.ret))))
theorem fn51 : IsFn prog 51 ac51 [.tmp 2] 28 := ⟨f51, ⟨[], []⟩, func51, by kernel_rfl, by kernel_rfl, by kernel_rfl, by kernel_rfl⟩
def ac77 : AC := .seq (.reg [⟨(some 2), .mv (.c (.bool false)), none⟩])
 (.seq (.reg [xm 3 0, xu .geq 4 3 97, xm 5 4, xg 5 (xm 6 0), xg 5 (xu .leq 7 6 122), ⟨(some 8), .pick (.s 5) (.s 7) (.c (.bool false)), none⟩, xm 9 8, xh 9 (xm 10 0), xh 9 (xu .geq 11 10 48), xh 9 (xm 12 11), xg 12 (xm 13 0), xg 12 (xu .leq 14 13 57), ⟨(some 15), .pick (.s 12) (.s 14) (.c (.bool false)), (some (9, false))⟩, ⟨(some 16), .pick (.s 9) (.c (.bool true)) (.s 15), none⟩, xm 17 16, xh 17 (xm 18 0), xh 17 (xu .eql 19 18 95), ⟨(some 20), .pick (.s 17) (.c (.bool true)) (.s 19), none⟩, xm 2 20])
 (.ret))
theorem fn77 : IsFn prog 77 ac77 [.tmp 2] 21 := ⟨f77, ⟨[], []⟩, func77, by kernel_rfl, by kernel_rfl, by kernel_rfl, by kernel_rfl⟩
def ac78 : AC := .seq (.reg [⟨(some 2), .mv (.c (.bool false)), none⟩])
 (.seq (.reg [xm 3 0, xu .geq 4 3 97, xm 5 4, xg 5 (xm 6 0), xg 5 (xu .leq 7 6 122), ⟨(some 8), .pick (.s 5) (.s 7) (.c (.bool false)), none⟩, xm 2 8])
 (.ret))
theorem fn78 : IsFn prog 78 ac78 [.tmp 2] 9 := ⟨f78, ⟨[], []⟩, func78, by kernel_rfl, by kernel_rfl, by kernel_rfl, by kernel_rfl⟩
def ac79 : AC := .seq (.reg [⟨(some 2), .mv (.c (.int .u8 0)), none⟩])
 (.seq (.seq (.reg [xm 3 0, xu .eql 4 3 40])
 (.cond (.s 4) (.seq (.reg [⟨(some 2), .mv (.c (.int .u8 41)), none⟩])
 (.ret))
 (.skip)))
 (.seq (.seq (.reg [xm 5 0, xu .eql 6 5 123, xm 7 6, xh 7 (xm 8 0), xh 7 (xu .eql 9 8 91), ⟨(some 10), .pick (.s 7) (.c (.bool true)) (.s 9), none⟩])
 (.cond (.s 10) (.seq (.reg [xm 11 0, xu .add 12 11 2, xm 2 12])
 (.ret))
 (.skip)))
 (.seq (.reg [⟨(some 2), .mv (.c (.int .u8 0)), none⟩])
 (.ret))))
theorem fn79 : IsFn prog 79 ac79 [.tmp 2] 13 := ⟨f79, ⟨[], []⟩, func79, by kernel_rfl, by kernel_rfl, by kernel_rfl, by kernel_rfl⟩
def ac80 : AC := .seq (.reg [⟨(some 2), .mv (.c (.bool false)), none⟩])
 (.seq (.reg [xm 3 0, xu .eql 4 3 41, xm 5 4, xh 5 (xm 6 0), xh 5 (xu .eql 7 6 125), ⟨(some 8), .pick (.s 5) (.c (.bool true)) (.s 7), none⟩, xm 9 8, xh 9 (xm 10 0), xh 9 (xu .eql 11 10 93), ⟨(some 12), .pick (.s 9) (.c (.bool true)) (.s 11), none⟩, xm 2 12])
 (.ret))
theorem fn80 : IsFn prog 80 ac80 [.tmp 2] 13 := ⟨f80, ⟨[], []⟩, func80, by kernel_rfl, by kernel_rfl, by kernel_rfl, by kernel_rfl⟩
def ac84 : AC := .seq (.reg [⟨(some 2), .mv (.c (.bool false)), none⟩])
 (.seq (.reg [xm 3 0, xu .geq 4 3 97, xm 5 4, xg 5 (xm 6 0), xg 5 (xu .leq 7 6 122), ⟨(some 8), .pick (.s 5) (.s 7) (.c (.bool false)), none⟩, xm 2 8])
 (.ret))
theorem fn84 : IsFn prog 84 ac84 [.tmp 2] 9 := ⟨f84, ⟨[], []⟩, func84, by kernel_rfl, by kernel_rfl, by kernel_rfl, by kernel_rfl⟩
def ac85 : AC := .seq (.reg [⟨(some 2), .mv (.c (.bool false)), none⟩])
 (.seq (.reg [xm 3 0, xc 84 4 [.s 3], xm 5 4, xh 5 (xm 6 0), xh 5 (xu .geq 7 6 48), xh 5 (xm 8 7), xg 8 (xm 9 0), xg 8 (xu .leq 10 9 57), ⟨(some 11), .pick (.s 8) (.s 10) (.c (.bool false)), (some (5, false))⟩, ⟨(some 12), .pick (.s 5) (.c (.bool true)) (.s 11), none⟩, xm 13 12, xh 13 (xm 14 0), xh 13 (xu .eql 15 14 95), ⟨(some 16), .pick (.s 13) (.c (.bool true)) (.s 15), none⟩, xm 2 16])
 (.ret))
theorem fn85 : IsFn prog 85 ac85 [.tmp 2] 17 := ⟨f85, ⟨[], []⟩, func85, by kernel_rfl, by kernel_rfl, by kernel_rfl, by kernel_rfl⟩
theorem letter_calls (c : Int) (σ : Store) : PCalls prog 84 [.int .u8 c] σ fun v σ' => v = .bool (letZ c) ∧ σ' = σ := by
  refine fn84.calls ?_
  simp only [slots, ac84, am, amo, amc, ams, Nat.reduceAdd, Nat.reduceEqDiff, decide_true, decide_false, Tree.rec_, Nd.rec_, Word.rec_, Got.rec_]
  repeat' (first
    | (refine gL_split (fun h => ?_) (fun h => ?_) <;> simp only [am, amo, amc, h, Nat.reduceAdd, Nat.reduceEqDiff, encs_length, List.length_map, decide_true, decide_false, Tree.rec_, Nd.rec_, Word.rec_, Got.rec_])
    | (refine vcIf_split (fun h => ?_) (fun h => ?_) <;> simp only [am, amo, amc, h, Nat.reduceAdd, Nat.reduceEqDiff, encs_length, List.length_map, decide_true, decide_false, Tree.rec_, Nd.rec_, Word.rec_, Got.rec_])
    | (refine pickL_split (fun h => ?_) (fun h => ?_) <;> simp only [am, amo, amc, h, Nat.reduceAdd, Nat.reduceEqDiff, encs_length, List.length_map, decide_true, decide_false, Tree.rec_, Nd.rec_, Word.rec_, Got.rec_])
  )
  all_goals refine retK_intro rfl (Store.sub_refl _) ⟨?_, rfl⟩
  all_goals simp_all [V.erase, eraseL, letZ]
  all_goals (try omega)
theorem letter2_calls (c : Int) (σ : Store) : PCalls prog 78 [.int .u8 c] σ fun v σ' => v = .bool (letZ c) ∧ σ' = σ := by
  refine fn78.calls ?_
  simp only [slots, ac78, am, amo, amc, ams, Nat.reduceAdd, Nat.reduceEqDiff, decide_true, decide_false, Tree.rec_, Nd.rec_, Word.rec_, Got.rec_]
  repeat' (first
    | (refine gL_split (fun h => ?_) (fun h => ?_) <;> simp only [am, amo, amc, h, Nat.reduceAdd, Nat.reduceEqDiff, encs_length, List.length_map, decide_true, decide_false, Tree.rec_, Nd.rec_, Word.rec_, Got.rec_])
    | (refine vcIf_split (fun h => ?_) (fun h => ?_) <;> simp only [am, amo, amc, h, Nat.reduceAdd, Nat.reduceEqDiff, encs_length, List.length_map, decide_true, decide_false, Tree.rec_, Nd.rec_, Word.rec_, Got.rec_])
    | (refine pickL_split (fun h => ?_) (fun h => ?_) <;> simp only [am, amo, amc, h, Nat.reduceAdd, Nat.reduceEqDiff, encs_length, List.length_map, decide_true, decide_false, Tree.rec_, Nd.rec_, Word.rec_, Got.rec_])
  )
  all_goals refine retK_intro rfl (Store.sub_refl _) ⟨?_, rfl⟩
  all_goals simp_all [V.erase, eraseL, letZ]
  all_goals (try omega)
theorem goes_calls (c : Int) (σ : Store) : PCalls prog 85 [.int .u8 c] σ fun v σ' => v = .bool (goesZ c) ∧ σ' = σ := by
  refine fn85.calls ?_
  simp only [slots, ac85, am, amo, amc, ams, Nat.reduceAdd, Nat.reduceEqDiff, decide_true, decide_false, Tree.rec_, Nd.rec_, Word.rec_, Got.rec_]
  refine (letter_calls c σ).mono ?_
  rintro v σ ⟨rfl, rfl⟩
  simp only [am, amo, amc, Nat.reduceAdd, Nat.reduceEqDiff, encs_length, List.length_map, decide_true, decide_false, Tree.rec_, Nd.rec_, Word.rec_, Got.rec_]
  repeat' (first
    | (refine gL_split (fun h => ?_) (fun h => ?_) <;> simp only [am, amo, amc, h, Nat.reduceAdd, Nat.reduceEqDiff, encs_length, List.length_map, decide_true, decide_false, Tree.rec_, Nd.rec_, Word.rec_, Got.rec_])
    | (refine vcIf_split (fun h => ?_) (fun h => ?_) <;> simp only [am, amo, amc, h, Nat.reduceAdd, Nat.reduceEqDiff, encs_length, List.length_map, decide_true, decide_false, Tree.rec_, Nd.rec_, Word.rec_, Got.rec_])
    | (refine pickL_split (fun h => ?_) (fun h => ?_) <;> simp only [am, amo, amc, h, Nat.reduceAdd, Nat.reduceEqDiff, encs_length, List.length_map, decide_true, decide_false, Tree.rec_, Nd.rec_, Word.rec_, Got.rec_])
  )
  all_goals refine retK_intro rfl (Store.sub_refl _) ⟨?_, rfl⟩
  all_goals simp_all [V.erase, eraseL, goesZ]
  all_goals (try omega)
theorem goes8_calls (c : Int) (σ : Store) : PCalls prog 77 [.int .u8 c] σ fun v σ' => v = .bool (goesZ c) ∧ σ' = σ := by
  refine fn77.calls ?_
  simp only [slots, ac77, am, amo, amc, ams, Nat.reduceAdd, Nat.reduceEqDiff, decide_true, decide_false, Tree.rec_, Nd.rec_, Word.rec_, Got.rec_]
  repeat' (first
    | (refine gL_split (fun h => ?_) (fun h => ?_) <;> simp only [am, amo, amc, h, Nat.reduceAdd, Nat.reduceEqDiff, encs_length, List.length_map, decide_true, decide_false, Tree.rec_, Nd.rec_, Word.rec_, Got.rec_])
    | (refine vcIf_split (fun h => ?_) (fun h => ?_) <;> simp only [am, amo, amc, h, Nat.reduceAdd, Nat.reduceEqDiff, encs_length, List.length_map, decide_true, decide_false, Tree.rec_, Nd.rec_, Word.rec_, Got.rec_])
    | (refine pickL_split (fun h => ?_) (fun h => ?_) <;> simp only [am, amo, amc, h, Nat.reduceAdd, Nat.reduceEqDiff, encs_length, List.length_map, decide_true, decide_false, Tree.rec_, Nd.rec_, Word.rec_, Got.rec_])
  )
  all_goals refine retK_intro rfl (Store.sub_refl _) ⟨?_, rfl⟩
  all_goals simp_all [V.erase, eraseL, goesZ, letZ]
  all_goals (try omega)
theorem closing_calls (c : Int) (σ : Store) : PCalls prog 79 [.int .u8 c] σ fun v σ' => v = .int .u8 (closing c) ∧ σ' = σ := by
  refine fn79.calls ?_
  simp only [slots, ac79, am, amo, amc, ams, Nat.reduceAdd, Nat.reduceEqDiff, decide_true, decide_false, Tree.rec_, Nd.rec_, Word.rec_, Got.rec_]
  repeat' (first
    | (refine gL_split (fun h => ?_) (fun h => ?_) <;> simp only [am, amo, amc, h, Nat.reduceAdd, Nat.reduceEqDiff, encs_length, List.length_map, decide_true, decide_false, Tree.rec_, Nd.rec_, Word.rec_, Got.rec_])
    | (refine vcIf_split (fun h => ?_) (fun h => ?_) <;> simp only [am, amo, amc, h, Nat.reduceAdd, Nat.reduceEqDiff, encs_length, List.length_map, decide_true, decide_false, Tree.rec_, Nd.rec_, Word.rec_, Got.rec_])
    | (refine pickL_split (fun h => ?_) (fun h => ?_) <;> simp only [am, amo, amc, h, Nat.reduceAdd, Nat.reduceEqDiff, encs_length, List.length_map, decide_true, decide_false, Tree.rec_, Nd.rec_, Word.rec_, Got.rec_])
  )
  all_goals refine retK_intro rfl (Store.sub_refl _) ⟨?_, rfl⟩
  all_goals simp_all [V.erase, eraseL, closing, show IntKind.u8.wrap 125 = 125 from rfl, show IntKind.u8.wrap 93 = 93 from rfl]
  all_goals (try omega)
theorem closes_calls (c : Int) (σ : Store) : PCalls prog 80 [.int .u8 c] σ fun v σ' => v = .bool (closesZ c) ∧ σ' = σ := by
  refine fn80.calls ?_
  simp only [slots, ac80, am, amo, amc, ams, Nat.reduceAdd, Nat.reduceEqDiff, decide_true, decide_false, Tree.rec_, Nd.rec_, Word.rec_, Got.rec_]
  repeat' (first
    | (refine gL_split (fun h => ?_) (fun h => ?_) <;> simp only [am, amo, amc, h, Nat.reduceAdd, Nat.reduceEqDiff, encs_length, List.length_map, decide_true, decide_false, Tree.rec_, Nd.rec_, Word.rec_, Got.rec_])
    | (refine vcIf_split (fun h => ?_) (fun h => ?_) <;> simp only [am, amo, amc, h, Nat.reduceAdd, Nat.reduceEqDiff, encs_length, List.length_map, decide_true, decide_false, Tree.rec_, Nd.rec_, Word.rec_, Got.rec_])
    | (refine pickL_split (fun h => ?_) (fun h => ?_) <;> simp only [am, amo, amc, h, Nat.reduceAdd, Nat.reduceEqDiff, encs_length, List.length_map, decide_true, decide_false, Tree.rec_, Nd.rec_, Word.rec_, Got.rec_])
  )
  all_goals refine retK_intro rfl (Store.sub_refl _) ⟨?_, rfl⟩
  all_goals simp_all [V.erase, eraseL, closesZ]
  all_goals (try omega)
theorem str_at {s : List UInt8} {i : Nat} (h : i < s.length) : s[((i : Nat) : Int).toNat]? = some s[i] := by simp [h]
def inv70 (s : List UInt8) (σ : Store) (i : Nat) : St :=
  ⟨[.str s] ++ List.replicate 17 .any ++ [.int .i64 s.length, .int .i64 (i : Nat)] ++ List.replicate 8 .any, [], σ⟩
theorem all_take_succ {s : List UInt8} {i : Nat} {f : UInt8 → Bool} (h : i < s.length) : (s.take (i + 1)).all f = ((s.take i).all f && f s[i]) := by
  rw [take_succ_of (List.getElem?_eq_getElem h), List.all_append]; simp only [List.all_cons, List.all_nil, Bool.and_true]
theorem nameR_loop {s : List UInt8} (h : s.length ≤ 16) (h1 : 0 < s.length) : nameR s = (letB s[0] && s.all goesB) := by
  cases s with
  | nil => simp at h1
  | cons c r =>
    simp only [nameR, h, decide_true, Bool.true_and, List.getElem_cons_zero, List.all_cons]
    cases hc : letB c
    · simp
    · have : goesB c = true := by simp only [letB] at hc; simp [goesB, goesZ, hc]
      simp [this]
theorem right_calls (s : List UInt8) (σ : Store) : PCalls prog 51 [.str s] σ fun v σ' => v = .bool (nameR s) ∧ σ' = σ := by
  refine fn51.calls ?_
  simp only [slots, ac51, am, amo, amc, ams, Nat.reduceAdd, Nat.reduceEqDiff, decide_true, decide_false, Tree.rec_, Nd.rec_, Word.rec_, Got.rec_]
  by_cases h0 : s = []
  · subst h0
    simp only [am, amo, amc, Nat.reduceAdd, Nat.reduceEqDiff, encs_length, List.length_map, decide_true, decide_false, Tree.rec_, Nd.rec_, Word.rec_, Got.rec_]
    refine retK_intro rfl (Store.sub_refl _) ⟨?_, rfl⟩
    simp [V.erase, eraseL, nameR]
  · have hpos : 0 < s.length := by cases s with | nil => exact absurd rfl h0 | cons _ _ => simp
    simp only [am, amo, amc, Nat.reduceAdd, Nat.reduceEqDiff, encs_length, List.length_map, decide_true, decide_false, Tree.rec_, Nd.rec_, Word.rec_, Got.rec_, h0]
    by_cases h16 : s.length ≤ 16
    · have e : decide ((16 : Int) < s.length) = false := by simp; omega
      simp only [am, amo, amc, Nat.reduceAdd, Nat.reduceEqDiff, encs_length, List.length_map, decide_true, decide_false, Tree.rec_, Nd.rec_, Word.rec_, Got.rec_, e]
      refine idxSL_intro (by omega) (c := s[0]) (by simp [hpos]) ?_
      simp only [am, amo, amc, Nat.reduceAdd, Nat.reduceEqDiff, encs_length, List.length_map, decide_true, decide_false, Tree.rec_, Nd.rec_, Word.rec_, Got.rec_]
      refine (letter_calls s[0].toNat σ).mono ?_
      rintro v σ ⟨rfl, rfl⟩
      have hl : nameR s = (letB s[0] && s.all goesB) := nameR_loop h16 hpos
      cases hb : letZ (s[0].toNat : Nat)
      · have hb' : letB s[0] = false := hb
        simp only [am, amo, amc, Nat.reduceAdd, Nat.reduceEqDiff, encs_length, List.length_map, decide_true, decide_false, Tree.rec_, Nd.rec_, Word.rec_, Got.rec_]
        refine retK_intro rfl (Store.sub_refl _) ⟨?_, rfl⟩
        simp [V.erase, eraseL, hl, hb']
      · have hb' : letB s[0] = true := hb
        simp only [am, amo, amc, Nat.reduceAdd, Nat.reduceEqDiff, encs_length, List.length_map, decide_true, decide_false, Tree.rec_, Nd.rec_, Word.rec_, Got.rec_]
        refine vc_loop (fun p : { i : Nat // i ≤ s.length ∧ (s.take i).all goesB = true } => inv70 s σ p.1) (fun p => s.length - p.1) ?_ ?_
        · refine Upd.enter ⟨0, by simp, by simp⟩ ?_ LLLe.rfl OLe.rfl
          simp [inv70, List.replicate, am]
        · rintro ⟨i, hi, ha⟩
          simp only [inv70, List.replicate, am]
          refine vcIf_split ?_ ?_
          · intro hlt
            have hlt : i < s.length := by simpa using hlt
            simp only [am, amo, amc, Nat.reduceAdd, Nat.reduceEqDiff, encs_length, List.length_map, decide_true, decide_false, Tree.rec_, Nd.rec_, Word.rec_, Got.rec_]
            refine idxSL_intro (by omega) (str_at hlt) ?_
            simp only [am, amo, amc, Nat.reduceAdd, Nat.reduceEqDiff, encs_length, List.length_map, decide_true, decide_false, Tree.rec_, Nd.rec_, Word.rec_, Got.rec_]
            refine (goes_calls s[i].toNat σ).mono ?_
            rintro v σ ⟨rfl, rfl⟩
            cases hg : goesZ (s[i].toNat : Nat)
            · have hg' : goesB s[i] = false := hg
              simp only [am, amo, amc, Nat.reduceAdd, Nat.reduceEqDiff, encs_length, List.length_map, decide_true, decide_false, Tree.rec_, Nd.rec_, Word.rec_, Got.rec_]
              refine retK_intro rfl (Store.sub_refl _) ⟨?_, rfl⟩
              have : s.all goesB = false := by
                rw [List.all_eq_false]; exact ⟨s[i], List.getElem_mem hlt, by simp [hg']⟩
              simp [V.erase, hl, this]
            · simp only [am, amo, amc, Nat.reduceAdd, Nat.reduceEqDiff, encs_length, List.length_map, decide_true, decide_false, Tree.rec_, Nd.rec_, Word.rec_, Got.rec_]
              rw [wrap_i64 (by omega) (by omega)]
              refine Upd.again ⟨i + 1, by omega, ?_⟩ (by simp; omega) (by simp [List.replicate, am]) LLLe.rfl OLe.rfl
              rw [all_take_succ hlt, ha]; exact hg
          · intro hlt
            have hlt : i = s.length := by simp at hlt; omega
            subst hlt
            rw [List.take_length] at ha
            simp only [am, amo, amc, Nat.reduceAdd, Nat.reduceEqDiff, encs_length, List.length_map, decide_true, decide_false, Tree.rec_, Nd.rec_, Word.rec_, Got.rec_]
            refine retK_intro rfl (Store.sub_refl _) ⟨?_, rfl⟩
            simp [V.erase, eraseL, hl, hb', ha]
    · have e : decide ((16 : Int) < s.length) = true := by simp; omega
      simp only [am, amo, amc, Nat.reduceAdd, Nat.reduceEqDiff, encs_length, List.length_map, decide_true, decide_false, Tree.rec_, Nd.rec_, Word.rec_, Got.rec_, e]
      refine retK_intro rfl (Store.sub_refl _) ⟨?_, rfl⟩
      simp [V.erase, eraseL, nameR, h16]
def inv54 (s : List UInt8) (σ : Store) (i : Nat) : St :=
  ⟨[.str s, .any, .any, .int .i64 (i : Nat)] ++ List.replicate 43 .any, [], σ⟩
theorem right2_calls (s : List UInt8) (σ : Store) : PCalls prog 40 [.str s] σ fun v σ' => v = .bool (nameR s) ∧ σ' = σ := by
  refine fn40.calls ?_
  simp only [slots, ac40, am, amo, amc, ams, Nat.reduceAdd, Nat.reduceEqDiff, decide_true, decide_false, Tree.rec_, Nd.rec_, Word.rec_, Got.rec_]
  by_cases h0 : s = []
  · subst h0
    simp only [am, amo, amc, Nat.reduceAdd, Nat.reduceEqDiff, encs_length, List.length_map, decide_true, decide_false, Tree.rec_, Nd.rec_, Word.rec_, Got.rec_, show decide ((([] : List UInt8).length : Int) < 1) = true from rfl]
    refine retK_intro rfl (Store.sub_refl _) ⟨?_, rfl⟩
    simp [V.erase, eraseL, nameR]
  · have hpos : 0 < s.length := by cases s with | nil => exact absurd rfl h0 | cons _ _ => simp
    have e1 : decide ((s.length : Int) < 1) = false := by simp; omega
    simp only [am, amo, amc, Nat.reduceAdd, Nat.reduceEqDiff, encs_length, List.length_map, decide_true, decide_false, Tree.rec_, Nd.rec_, Word.rec_, Got.rec_, e1]
    by_cases h16 : s.length ≤ 16
    · have e : decide ((16 : Int) < s.length) = false := by simp; omega
      simp only [am, amo, amc, Nat.reduceAdd, Nat.reduceEqDiff, encs_length, List.length_map, decide_true, decide_false, Tree.rec_, Nd.rec_, Word.rec_, Got.rec_, e]
      refine idxSL_intro (by omega) (c := s[0]) (by simp [hpos]) ?_
      simp only [am, amo, amc, Nat.reduceAdd, Nat.reduceEqDiff, encs_length, List.length_map, decide_true, decide_false, Tree.rec_, Nd.rec_, Word.rec_, Got.rec_]
      refine (letter2_calls s[0].toNat σ).mono ?_
      rintro v σ ⟨rfl, rfl⟩
      have hl : nameR s = (letB s[0] && s.all goesB) := nameR_loop h16 hpos
      cases hb : letZ (s[0].toNat : Nat)
      · have hb' : letB s[0] = false := hb
        simp only [am, amo, amc, Nat.reduceAdd, Nat.reduceEqDiff, encs_length, List.length_map, decide_true, decide_false, Tree.rec_, Nd.rec_, Word.rec_, Got.rec_]
        refine retK_intro rfl (Store.sub_refl _) ⟨?_, rfl⟩
        simp [V.erase, eraseL, hl, hb']
      · have hb' : letB s[0] = true := hb
        simp only [am, amo, amc, Nat.reduceAdd, Nat.reduceEqDiff, encs_length, List.length_map, decide_true, decide_false, Tree.rec_, Nd.rec_, Word.rec_, Got.rec_]
        refine vc_loop (fun p : { i : Nat // 1 ≤ i ∧ i ≤ s.length ∧ (s.take i).all goesB = true } => inv54 s σ p.1) (fun p => s.length - p.1) ?_ ?_
        · refine Upd.enter ⟨1, by simp, by omega, ?_⟩ ?_ LLLe.rfl OLe.rfl
          · rw [all_take_succ hpos]
            simp [goesB, goesZ, hb]
          · simp [inv54, List.replicate, am]
        · rintro ⟨i, hi1, hi, ha⟩
          simp only [inv54, List.replicate, am]
          refine vcIf_split ?_ ?_
          · intro hlt
            have hlt : i < s.length := by simpa using hlt
            simp only [am, amo, amc, Nat.reduceAdd, Nat.reduceEqDiff, encs_length, List.length_map, decide_true, decide_false, Tree.rec_, Nd.rec_, Word.rec_, Got.rec_]
            refine idxSL_intro (by omega) (str_at hlt) ?_
            simp only [am, amo, amc, Nat.reduceAdd, Nat.reduceEqDiff, encs_length, List.length_map, decide_true, decide_false, Tree.rec_, Nd.rec_, Word.rec_, Got.rec_]
            refine (letter2_calls s[i].toNat σ).mono ?_
            rintro v σ ⟨rfl, rfl⟩
            have hno : goesB s[i] = false → s.all goesB = false := fun hg => by
              rw [List.all_eq_false]; exact ⟨s[i], List.getElem_mem hlt, by simp [hg]⟩
            have fin : goesB s[i] = true → (s.take (i + 1)).all goesB = true := fun hg => by rw [all_take_succ hlt, ha, hg]; rfl
            have hgf : goesB s[i] = (letZ (s[i].toNat : Nat) || (decide (48 ≤ (s[i].toNat : Int)) && decide ((s[i].toNat : Int) ≤ 57)) || decide ((s[i].toNat : Int) = 95)) := rfl
            cases hg : letZ (s[i].toNat : Nat)
            all_goals rw [hg] at hgf
            all_goals simp only [am]
            repeat' (first
              | (refine gL_split (fun h => ?_) (fun h => ?_) <;> simp only [am, amo, amc, h, Nat.reduceAdd, Nat.reduceEqDiff, encs_length, List.length_map, decide_true, decide_false, Tree.rec_, Nd.rec_, Word.rec_, Got.rec_])
              | (refine vcIf_split (fun h => ?_) (fun h => ?_) <;> simp only [am, amo, amc, h, Nat.reduceAdd, Nat.reduceEqDiff, encs_length, List.length_map, decide_true, decide_false, Tree.rec_, Nd.rec_, Word.rec_, Got.rec_])
              | (refine pickL_split (fun h => ?_) (fun h => ?_) <;> simp only [am, amo, amc, h, Nat.reduceAdd, Nat.reduceEqDiff, encs_length, List.length_map, decide_true, decide_false, Tree.rec_, Nd.rec_, Word.rec_, Got.rec_])
              | (refine idxSL_intro (by omega) (str_at hlt) ?_; simp only [am])
            )
            all_goals first
              | (have hgo : goesB s[i] = true := by rw [hgf]; simp_all <;> omega
                 rw [wrap_i64 (by omega) (by omega)]
                 exact Upd.again ⟨i + 1, by omega, by omega, fin hgo⟩ (by simp; omega) (by simp [List.replicate, am]) LLLe.rfl OLe.rfl)
              | (have hgo : goesB s[i] = false := by rw [hgf]; simp_all <;> omega
                 refine retK_intro rfl (Store.sub_refl _) ⟨?_, rfl⟩
                 simp [V.erase, hl, hno hgo])
          · intro hlt
            have hlt : i = s.length := by simp at hlt; omega
            subst hlt
            rw [List.take_length] at ha
            simp only [am, amo, amc, Nat.reduceAdd, Nat.reduceEqDiff, encs_length, List.length_map, decide_true, decide_false, Tree.rec_, Nd.rec_, Word.rec_, Got.rec_]
            refine retK_intro rfl (Store.sub_refl _) ⟨?_, rfl⟩
            simp [V.erase, eraseL, hl, hb', ha]
    · have e : decide ((16 : Int) < s.length) = true := by simp; omega
      simp only [am, amo, amc, Nat.reduceAdd, Nat.reduceEqDiff, encs_length, List.length_map, decide_true, decide_false, Tree.rec_, Nd.rec_, Word.rec_, Got.rec_, e]
      refine retK_intro rfl (Store.sub_refl _) ⟨?_, rfl⟩
      simp [V.erase, eraseL, nameR, h16]
end Go.Proofs.Tryd

namespace Go.Proofs.Tryd
open Go.Am
set_option maxRecDepth 4000
set_option maxHeartbeats 4000000
def ac39 : AC := .seq (.reg [xi 4 0])
 (.seq (.reg [xi 5 0])
 (.seq (.block 0 (.loop (.seq (.seq (.reg [xm 6 1, xm 7 5, xb .add 8 6 7, xm 9 0, xT 10 9, xb .lss 11 8 10, xm 12 11, xg 12 (xm 13 0), xg 12 (xm 14 1), xg 12 (xm 15 5), xg 12 (xb .add 16 14 15), xg 12 (xS 17 13 16), xg 12 (xc 77 18 [.s 17]), ⟨(some 19), .pick (.s 12) (.s 18) (.c (.bool false)), none⟩])
 (.cond (.s 19) (.skip)
 (.exit 0)))
 (.block 1 (.reg [xm 20 5, xB .add 21 20 1, xm 5 21])))))
 (.seq (.reg [xm 22 5, xm 4 22])
 (.ret))))
theorem fn39 : IsFn prog 39 ac39 [.tmp 4] 23 := ⟨f39, ⟨[], []⟩, func39, by kernel_rfl, by kernel_rfl, by kernel_rfl, by kernel_rfl⟩
def ac41 : AC := .seq (.reg [⟨(some 2), .mv (.c (.bool false)), none⟩])
 (.seq (.reg [⟨(some 5), .bslice 1 [(.c (.int .u8 35)), (.c (.int .u8 43)), (.c (.int .u8 38)), (.c (.int .u8 40)), (.c (.int .u8 41)), (.c (.int .u8 123)), (.c (.int .u8 125)), (.c (.int .u8 91)), (.c (.int .u8 93)), (.c (.int .u8 44)), (.c (.int .u8 58)), (.c (.int .u8 61)), (.c (.int .u8 124)), (.c (.int .u8 60))], none⟩, xm 3 5])
 (.seq (.seq (.reg [xi 4 0])
 (.block 0 (.loop (.seq (.seq (.reg [xm 6 4, xm 7 3, xL 8 7, xb .lss 9 6 8])
 (.cond (.s 9) (.skip)
 (.exit 0)))
 (.seq (.block 1 (.seq (.reg [xm 12 3, xm 13 4, xA 1 14 12 13, xo 15 14, xm 16 0, xb .eql 17 15 16])
 (.cond (.s 17) (.seq (.reg [⟨(some 2), .mv (.c (.bool true)), none⟩])
 (.ret))
 (.skip))))
 (.reg [xm 10 4, xB .add 11 10 1, xm 4 11]))))))
 (.seq (.reg [⟨(some 2), .mv (.c (.bool false)), none⟩])
 (.ret))))
theorem fn41 : IsFn prog 41 ac41 [.tmp 2] 18 := ⟨f41, ⟨[], []⟩, func41, by kernel_rfl, by kernel_rfl, by kernel_rfl, by kernel_rfl⟩
def signRows : List (List V) := signs.map fun s => [.int .u8 s]
def inv58 (c : Int) (σ : Store) (i : Nat) : St :=
  ⟨[.int .u8 c, .any, .any, .sl .full 1 signRows, .int .i64 (i : Nat)] ++ List.replicate 13 .any, [], σ⟩
theorem sign_calls (c : Int) (σ : Store) : PCalls prog 41 [.int .u8 c] σ fun v σ' => v = .bool (signZ c) ∧ σ' = σ := by
  refine fn41.calls ?_
  simp only [slots, ac41, am, amo, amc, ams, Nat.reduceAdd, Nat.reduceEqDiff, decide_true, decide_false, Tree.rec_, Nd.rec_, Word.rec_, Got.rec_]
  rw [show [[V.int .u8 35], [V.int .u8 43], [V.int .u8 38], [V.int .u8 40], [V.int .u8 41], [V.int .u8 123], [V.int .u8 125], [V.int .u8 91], [V.int .u8 93], [V.int .u8 44], [V.int .u8 58], [V.int .u8 61], [V.int .u8 124], [V.int .u8 60]] = signRows from rfl]
  refine vc_loop (fun p : { i : Nat // i ≤ 14 ∧ (signs.take i).any (fun s => decide (s = c)) = false } => inv58 c σ p.1) (fun p => 14 - p.1) ?_ ?_
  · refine Upd.enter ⟨0, by simp, by simp⟩ ?_ LLLe.rfl OLe.rfl
    simp [inv58, List.replicate, am]
  · rintro ⟨i, hi, ha⟩
    simp only [inv58, List.replicate, am]
    rw [show signRows.length = 14 from rfl]
    refine vcIf_split ?_ ?_
    · intro hlt
      have hlt : i < 14 := by simp at hlt; omega
      have hs : i < signs.length := hlt
      simp only [am, amo, amc, Nat.reduceAdd, Nat.reduceEqDiff, encs_length, List.length_map, decide_true, decide_false, Tree.rec_, Nd.rec_, Word.rec_, Got.rec_]
      refine idxL_intro (by omega) (c := [.int .u8 signs[i]]) (by simp [signRows, hs]) ?_
      simp only [am, amo, amc, Nat.reduceAdd, Nat.reduceEqDiff, encs_length, List.length_map, decide_true, decide_false, Tree.rec_, Nd.rec_, Word.rec_, Got.rec_]
      refine vcIf_split ?_ ?_
      · intro h
        have h : signs[i] = c := by simpa using h
        simp only [am, amo, amc, Nat.reduceAdd, Nat.reduceEqDiff, encs_length, List.length_map, decide_true, decide_false, Tree.rec_, Nd.rec_, Word.rec_, Got.rec_]
        refine retK_intro rfl (Store.sub_refl _) ⟨?_, rfl⟩
        have : signZ c = true := by
          simp only [signZ, List.any_eq_true]; exact ⟨signs[i], List.getElem_mem hs, by simp [h]⟩
        simp [V.erase, this]
      · intro h
        have h : ¬ signs[i] = c := by simpa using h
        simp only [am, amo, amc, Nat.reduceAdd, Nat.reduceEqDiff, encs_length, List.length_map, decide_true, decide_false, Tree.rec_, Nd.rec_, Word.rec_, Got.rec_]
        rw [wrap_i64 (by omega) (by omega)]
        refine Upd.again ⟨i + 1, by omega, ?_⟩ (by simp; omega) (by simp [List.replicate, am]) LLLe.rfl OLe.rfl
        rw [take_succ_of (List.getElem?_eq_getElem hs), List.any_append, ha]; simp [h]
    · intro hlt
      have hlt : i = 14 := by simp at hlt; omega
      subst hlt
      simp only [am, amo, amc, Nat.reduceAdd, Nat.reduceEqDiff, encs_length, List.length_map, decide_true, decide_false, Tree.rec_, Nd.rec_, Word.rec_, Got.rec_]
      refine retK_intro rfl (Store.sub_refl _) ⟨?_, rfl⟩
      simp [V.erase, eraseL, signZ, show signs.any (fun s => decide (s = c)) = false from ha]
theorem runR_at {s : List UInt8} {a n : Nat} (h : ((s.drop a).take n).all goesB = true) (hn : a + n ≤ s.length) (he : ∀ hl : a + n < s.length, goesB s[a + n] = false) : (runR (s.drop a)).length = n := by
  have key : ∀ (r : List UInt8) (n : Nat), (r.take n).all goesB = true → n ≤ r.length → (∀ hl : n < r.length, goesB r[n] = false) → (runR r).length = n := by
    intro r
    induction r with
    | nil => intro n _ h2 _; simp at h2; subst h2; rfl
    | cons c r ih =>
      intro n h1 h2 h3
      cases n with
      | zero => have := h3 (by simp); simp at this; simp [runR, this]
      | succ n =>
        simp only [List.take_succ_cons, List.all_cons, Bool.and_eq_true] at h1
        have := ih n h1.2 (by simpa using h2) (fun hl => h3 (Nat.succ_lt_succ hl))
        simp only [runR] at this
        simp [runR, h1.1, this]
  refine key _ _ h (by simp; omega) fun hl => ?_
  have hl' : a + n < s.length := by simp at hl; omega
  have := he hl'
  simpa using this
def inv57 (s : List UInt8) (σ : Store) (a n : Nat) : St :=
  ⟨[.str s, .int .i64 (a : Nat), .any, .any, .any, .int .i64 (n : Nat)] ++ List.replicate 17 .any, [], σ⟩
theorem run_calls (s : List UInt8) (a : Nat) (σ : Store) (ha : a ≤ s.length) (hb : s.length ≤ big) : PCalls prog 39 [.str s, .int .i64 (a : Nat)] σ fun v σ' => v = .int .i64 (runR (s.drop a)).length ∧ σ' = σ := by
  simp only [big] at hb
  refine fn39.calls ?_
  simp only [slots, ac39, am, amo, amc, ams, Nat.reduceAdd, Nat.reduceEqDiff, decide_true, decide_false, Tree.rec_, Nd.rec_, Word.rec_, Got.rec_]
  refine vc_loop (fun p : { n : Nat // a + n ≤ s.length ∧ ((s.drop a).take n).all goesB = true } => inv57 s σ a p.1) (fun p => s.length - p.1) ?_ ?_
  · refine Upd.enter ⟨0, by simpa using ha, by simp⟩ ?_ LLLe.rfl OLe.rfl
    simp [inv57, List.replicate, am]
  · rintro ⟨n, hn, hall⟩
    simp only [inv57, List.replicate, am]
    rw [wrap_i64 (by omega) (by omega)]
    by_cases hlt : a + n < s.length
    · have e : decide ((a : Int) + (n : Int) < s.length) = true := by simp; omega
      simp only [am, amo, amc, Nat.reduceAdd, Nat.reduceEqDiff, encs_length, List.length_map, decide_true, decide_false, Tree.rec_, Nd.rec_, Word.rec_, Got.rec_, e]
      rw [show (a : Int) + (n : Int) = ((a + n : Nat) : Int) by simp]
      rw [wrap_i64 (by omega) (by omega)]
      refine idxSL_intro (by omega) (str_at hlt) ?_
      simp only [am, amo, amc, Nat.reduceAdd, Nat.reduceEqDiff, encs_length, List.length_map, decide_true, decide_false, Tree.rec_, Nd.rec_, Word.rec_, Got.rec_]
      refine (goes8_calls s[a + n].toNat σ).mono ?_
      rintro v σ ⟨rfl, rfl⟩
      cases hg : goesZ (s[a + n].toNat : Nat)
      · simp only [am, amo, amc, Nat.reduceAdd, Nat.reduceEqDiff, encs_length, List.length_map, decide_true, decide_false, Tree.rec_, Nd.rec_, Word.rec_, Got.rec_]
        refine retK_intro rfl (Store.sub_refl _) ⟨?_, rfl⟩
        simp [V.erase, runR_at hall hn (fun _ => hg)]
      · simp only [am, amo, amc, Nat.reduceAdd, Nat.reduceEqDiff, encs_length, List.length_map, decide_true, decide_false, Tree.rec_, Nd.rec_, Word.rec_, Got.rec_]
        rw [wrap_i64 (by omega) (by omega)]
        refine Upd.again ⟨n + 1, by omega, ?_⟩ (by simp; omega) (by simp [List.replicate, am]) LLLe.rfl OLe.rfl
        have hd : n < (s.drop a).length := by simp; omega
        rw [all_take_succ hd, hall]
        simp only [Bool.true_and, List.getElem_drop]
        exact hg
    · have e : decide ((a : Int) + (n : Int) < s.length) = false := by simp; omega
      simp only [am, amo, amc, Nat.reduceAdd, Nat.reduceEqDiff, encs_length, List.length_map, decide_true, decide_false, Tree.rec_, Nd.rec_, Word.rec_, Got.rec_, e]
      refine retK_intro rfl (Store.sub_refl _) ⟨?_, rfl⟩
      simp [V.erase, runR_at hall hn (fun h => absurd h hlt)]
end Go.Proofs.Tryd

namespace Go.Proofs.Tryd
open Go.Am
set_option maxRecDepth 4000
set_option maxHeartbeats 4000000
def ac13 : AC := .seq (.reg [⟨(some 2), .mv (.c (.sl .full 3 [])), none⟩, ⟨(some 3), .alloc [(.int .i64 0), (.int .i64 0)], none⟩])
 (.seq (.reg [⟨(some 4), .mv (.c (.sl .full 3 [])), none⟩])
 (.seq (.reg [xi 5 0])
 (.seq (.block 0 (.loop (.seq (.seq (.reg [xm 8 5, xm 9 0, xT 10 9, xb .lss 11 8 10])
 (.cond (.s 11) (.skip)
 (.exit 0)))
 (.block 1 (.seq (.reg [xm 12 0, xm 13 5, xS 14 12 13, xm 6 14])
 (.seq (.reg [xm 15 0, xm 16 5, xc 39 17 [.s 15, .s 16], xm 7 17])
 (.seq (.seq (.reg [xm 18 6, xu .eql 19 18 45, xm 20 19, xg 20 (xm 21 5), xg 20 (xB .add 22 21 1), xg 20 (xm 23 0), xg 20 (xT 24 23), xg 20 (xb .lss 25 22 24), ⟨(some 26), .pick (.s 20) (.s 25) (.c (.bool false)), none⟩, xm 27 26, xg 27 (xm 28 0), xg 27 (xm 29 5), xg 27 (xB .add 30 29 1), xg 27 (xS 31 28 30), xg 27 (xu .eql 32 31 45), ⟨(some 33), .pick (.s 27) (.s 32) (.c (.bool false)), none⟩])
 (.cond (.s 33) (.seq (.reg [xm 34 4, ⟨(some 35), .build [(.int .i64 0), (.int .i64 0)] [], none⟩, xm 2 34, xs 2 3 35])
 (.ret))
 (.skip)))
 (.seq (.reg [xm 36 7, xB .gtr 37 36 0, xm 38 37, xg 38 (xm 39 0), xg 38 (xm 40 5), xg 38 (xm 41 5), xg 38 (xm 42 7), xg 38 (xb .add 43 41 42), ⟨(some 44), .slS (.s 39) (some (.s 40)) (some (.s 43)), (some (38, true))⟩, xg 38 (xc 40 45 [.s 44]), ⟨(some 46), .pick (.s 38) (.s 45) (.c (.bool false)), none⟩])
 (.cond (.s 46) (.seq (.reg [xm 47 4, xm 48 0, xm 49 5, xm 50 5, xm 51 7, xb .add 52 50 51, ⟨(some 53), .slS (.s 48) (some (.s 49)) (some (.s 52)), none⟩, xm 54 5, ⟨(some 55), .build [(.int .u8 0), (.str []), (.int .i64 0)] [(0, 1, (.c (.int .u8 97))), (1, 1, (.s 53)), (2, 1, (.s 54))], none⟩, ⟨(some 56), .bslice 3 [(.s 55)], none⟩, xa 3 57 47 56, xm 4 57])
 (.reg [xm 58 5, xm 59 7, xb .add 60 58 59, xm 5 60]))
 (.seq (.reg [xm 61 6, xc 41 62 [.s 61]])
 (.cond (.s 62) (.seq (.reg [xm 63 4, xm 64 6, xm 65 0, xm 66 5, xm 67 5, xB .add 68 67 1, ⟨(some 69), .slS (.s 65) (some (.s 66)) (some (.s 68)), none⟩, xm 70 5, ⟨(some 71), .build [(.int .u8 0), (.str []), (.int .i64 0)] [(0, 1, (.s 64)), (1, 1, (.s 69)), (2, 1, (.s 70))], none⟩, ⟨(some 72), .bslice 3 [(.s 71)], none⟩, xa 3 73 63 72, xm 4 73])
 (.reg [xm 74 5, xB .add 75 74 1, xm 5 75]))
 (.seq (.reg [xm 76 6, xu .eql 77 76 32, xm 78 77, xh 78 (xm 79 6), xh 78 (xu .eql 80 79 9), ⟨(some 81), .pick (.s 78) (.c (.bool true)) (.s 80), none⟩])
 (.cond (.s 81) (.reg [xm 82 5, xB .add 83 82 1, xm 5 83])
 (.seq (.reg [xm 84 5, ⟨(some 85), .build [(.int .i64 0), (.int .i64 0)] [(0, 1, (.c (.int .i64 1))), (1, 1, (.s 84))], none⟩, ⟨(some 2), .mv (.c (.sl .full 3 [])), none⟩, xs 2 3 85])
 (.ret)))))))))))))))
 (.seq (.reg [xm 86 4, ⟨(some 87), .build [(.int .i64 0), (.int .i64 0)] [], none⟩, xm 2 86, xs 2 3 87])
 (.ret)))))
theorem fn13 : IsFn prog 13 ac13 [.tmp 2, .cell 3 true 2] 88 := ⟨f13, ⟨[], []⟩, func13, by kernel_rfl, by kernel_rfl, by kernel_rfl, by kernel_rfl⟩
theorem Tok.wd {t : Tok} : t.enc.length = 3 := rfl
def inv29 (s : List UInt8) (σ : Store) (a τ : Nat) (acc : List Tok) : St :=
  ⟨[.str s, .any, .any, .ptr (.loc 0) 0, .sl (.tk τ) 3 (acc.map Tok.enc), .int .i64 (a : Nat)] ++ List.replicate 82 .any, [[.int .i64 0, .int .i64 0]], σ.setTip τ acc.length⟩
theorem drop_cons {s : List UInt8} {a : Nat} (h : a < s.length) : s.drop a = s[a] :: s.drop (a + 1) := List.drop_eq_getElem_cons h
theorem lex_calls (s : List UInt8) (σ : Store) (hb : s.length + 1 ≤ big) : PCalls prog 13 [.str s] σ fun v σ' => v = .tup [.sl .no 3 ((lexR s).1.map Tok.enc), badL (lexR s).2] ∧ σ' = σ := by
  simp only [big] at hb
  generalize hR : lexR s = R
  refine fn13.calls ?_
  simp only [slots, ac13, am, amo, amc, ams, Nat.reduceAdd, Nat.reduceEqDiff, decide_true, decide_false, Tree.rec_, Nd.rec_, Word.rec_, Got.rec_]
  refine vc_loop (fun p : { p : Nat × Nat × Nat × List Tok // σ.tip p.2.2.1 = none ∧ lexF p.1 p.2.1 (s.drop p.2.1) p.2.2.2 = R ∧ p.2.2.2.length ≤ p.2.1 ∧ p.2.1 ≤ s.length ∧ s.length ≤ p.2.1 + p.1 } => inv29 s σ p.1.2.1 p.1.2.2.1 p.1.2.2.2) (fun p => s.length - p.1.2.1) ?_ ?_
  · refine Upd.tokEnter 0 fun τ hτ => ⟨⟨(s.length, 0, τ, []), hτ, hR, by simp, by simp, by simp⟩, ?_, rfl, rfl⟩
    simp [inv29, List.replicate, lto]
  · rintro ⟨⟨n, a, τ, acc⟩, hτ, hR, h1, h2, h3⟩
    simp only at hτ hR h1 h2 h3
    simp only [inv29, List.replicate, am]
    refine vcIf_split ?_ ?_
    · intro hlt
      have hlt : a < s.length := by simpa using hlt
      obtain ⟨m, rfl⟩ : ∃ m, n = m + 1 := ⟨n - 1, by omega⟩
      rw [drop_cons hlt] at hR
      simp only [lexF, ← drop_cons hlt] at hR
      have hrun := runR_le (s := s) (a := a)
      have hh : (s.drop (a + 1)).head?.map UInt8.toNat = if h : a + 1 < s.length then some s[a + 1].toNat else none := by
        by_cases h : a + 1 < s.length
        · rw [dif_pos h, drop_cons h]; rfl
        · rw [dif_neg h, List.drop_eq_nil_of_le (by omega)]; rfl
      simp only [am, amo, amc, Nat.reduceAdd, Nat.reduceEqDiff, encs_length, List.length_map, decide_true, decide_false, Tree.rec_, Nd.rec_, Word.rec_, Got.rec_]
      refine idxSL_intro (by omega) (str_at hlt) ?_
      simp only [am, amo, amc, Nat.reduceAdd, Nat.reduceEqDiff, encs_length, List.length_map, decide_true, decide_false, Tree.rec_, Nd.rec_, Word.rec_, Got.rec_]
      refine (run_calls s a _ (by omega) (by simp only [big]; omega)).mono ?_
      rintro v σ' ⟨rfl, rfl⟩
      -- a step on, with or without a piece
      have again : ∀ (b : Nat) (acc' : List Tok) (t : List V) (l : List (List V)), lexF m b (s.drop b) acc' = R → acc'.length ≤ b → a < b → b ≤ s.length →
          LLe t ([.str s, .any, .any, .ptr (.loc 0) 0, .sl (.tk τ) 3 (acc'.map Tok.enc), .int .i64 (b : Nat)] ++ List.replicate 82 .any) → l = [[.int .i64 0, .int .i64 0]] →
          Upd ⟨t, l, σ.setTip τ acc'.length⟩ fun st' => ∃ j : { p : Nat × Nat × Nat × List Tok // σ.tip p.2.2.1 = none ∧ lexF p.1 p.2.1 (s.drop p.2.1) p.2.2.2 = R ∧ p.2.2.2.length ≤ p.2.1 ∧ p.2.1 ≤ s.length ∧ s.length ≤ p.2.1 + p.1 }, st' = inv29 s σ j.1.2.1 j.1.2.2.1 j.1.2.2.2 ∧ s.length - j.1.2.1 < s.length - a := fun b acc' t l e1 e2 e3 e4 e5 e6 => by
        refine Upd.again (μ := fun p : { p : Nat × Nat × Nat × List Tok // σ.tip p.2.2.1 = none ∧ lexF p.1 p.2.1 (s.drop p.2.1) p.2.2.2 = R ∧ p.2.2.2.length ≤ p.2.1 ∧ p.2.1 ≤ s.length ∧ s.length ≤ p.2.1 + p.1 } => s.length - p.1.2.1) (I := fun p => inv29 s σ p.1.2.1 p.1.2.2.1 p.1.2.2.2) ⟨(m, b, τ, acc'), hτ, e1, e2, e4, by simp only; omega⟩ (by simp; omega) e5 (by rw [e6]; exact LLLe.rfl) OLe.rfl
      have e45 : s[a].toNat = 45 → decide (((s[a].toNat : Nat) : Int) = 45) = true := fun h => by simp [h]
      have e45f : ¬ s[a].toNat = 45 → decide (((s[a].toNat : Nat) : Int) = 45) = false := fun h => decide_eq_false (by omega)
      have w1 : IntKind.i64.wrap ((a : Int) + 1) = ((a + 1 : Nat) : Int) := by rw [wrap_i64 (by omega) (by omega)]; simp
      have wN : IntKind.i64.wrap ((a : Int) + ((runR (s.drop a)).length : Nat)) = ((a + (runR (s.drop a)).length : Nat) : Int) := by
        rw [show (a : Int) + ((runR (s.drop a)).length : Nat) = ((a + (runR (s.drop a)).length : Nat) : Int) by simp]
        exact wrap_i64 (by omega) (by omega)
      have el : a + 1 < s.length → decide (((a + 1 : Nat) : Int) < s.length) = true := fun h => decide_eq_true (by omega)
      have elf : ¬ a + 1 < s.length → decide (((a + 1 : Nat) : Int) < s.length) = false := fun h => decide_eq_false (by omega)
      have eN : 0 < (runR (s.drop a)).length → decide ((0 : Int) < ((runR (s.drop a)).length : Nat)) = true := fun h => decide_eq_true (by omega)
      have eNf : ¬ 0 < (runR (s.drop a)).length → decide ((0 : Int) < ((runR (s.drop a)).length : Nat)) = false := fun h => decide_eq_false (by omega)
      have hcut : (s.take (a + (runR (s.drop a)).length)).drop a = runR (s.drop a) := cut_run
      by_cases hcm : s[a].toNat = 45 ∧ (s.drop (a + 1)).head?.map UInt8.toNat = some 45
      · obtain ⟨h45, hh2⟩ := hcm
        rw [if_pos ⟨h45, hh2⟩] at hR
        rw [hh] at hh2
        have hl : a + 1 < s.length := by
          by_cases h : a + 1 < s.length
          · exact h
          · rw [dif_neg h] at hh2; simp at hh2
        rw [dif_pos hl] at hh2
        have e2 : decide (((s[a + 1].toNat : Nat) : Int) = 45) = true := by simp at hh2; simp [hh2]
        simp only [am, amo, amc, Nat.reduceAdd, Nat.reduceEqDiff, encs_length, List.length_map, decide_true, decide_false, Tree.rec_, Nd.rec_, Word.rec_, Got.rec_, e45 h45, w1, el hl]
        refine idxSL_intro (by omega) (str_at hl) ?_
        simp only [am, amo, amc, Nat.reduceAdd, Nat.reduceEqDiff, encs_length, List.length_map, decide_true, decide_false, Tree.rec_, Nd.rec_, Word.rec_, Got.rec_, e2]
        refine retK_intro rfl (sub_tip hτ) ⟨?_, rfl⟩
        simp [V.erase, eraseL, ← hR, badL, badA]
      · rw [if_neg hcm] at hR
        by_cases h45 : s[a].toNat = 45
        case' neg =>
          simp only [am, amo, amc, Nat.reduceAdd, Nat.reduceEqDiff, encs_length, List.length_map, decide_true, decide_false, Tree.rec_, Nd.rec_, Word.rec_, Got.rec_, e45f h45]
        case' pos =>
          by_cases hl : a + 1 < s.length
          case' pos =>
            have e2 : decide (((s[a + 1].toNat : Nat) : Int) = 45) = false := by
              rw [hh, dif_pos hl] at hcm; simp at hcm ⊢; intro h; exact hcm h45 (by omega)
            simp only [am, amo, amc, Nat.reduceAdd, Nat.reduceEqDiff, encs_length, List.length_map, decide_true, decide_false, Tree.rec_, Nd.rec_, Word.rec_, Got.rec_, e45 h45, w1, el hl]
            refine idxSL_intro (by omega) (str_at hl) ?_
            simp only [am, amo, amc, Nat.reduceAdd, Nat.reduceEqDiff, encs_length, List.length_map, decide_true, decide_false, Tree.rec_, Nd.rec_, Word.rec_, Got.rec_, e2]
          case' neg =>
            simp only [am, amo, amc, Nat.reduceAdd, Nat.reduceEqDiff, encs_length, List.length_map, decide_true, decide_false, Tree.rec_, Nd.rec_, Word.rec_, Got.rec_, e45 h45, w1, elf hl]
        all_goals
          by_cases hN : 0 < (runR (s.drop a)).length
          case' neg =>
            simp only [am, amo, amc, Nat.reduceAdd, Nat.reduceEqDiff, encs_length, List.length_map, decide_true, decide_false, Tree.rec_, Nd.rec_, Word.rec_, Got.rec_, eNf hN]
          case' pos =>
            simp only [am, amo, amc, Nat.reduceAdd, Nat.reduceEqDiff, encs_length, List.length_map, decide_true, decide_false, Tree.rec_, Nd.rec_, Word.rec_, Got.rec_, eN hN, wN]
            refine slSL_intro (by omega) (by omega) ?_
            rw [hcut]
            simp only [am, amo, amc, Nat.reduceAdd, Nat.reduceEqDiff, encs_length, List.length_map, decide_true, decide_false, Tree.rec_, Nd.rec_, Word.rec_, Got.rec_]
            refine (right2_calls (runR (s.drop a)) _).mono ?_
            rintro v σ' ⟨rfl, rfl⟩
            cases hnr : nameR (runR (s.drop a))
            case' true =>
              rw [if_pos ⟨hN, hnr⟩] at hR
              simp only [am, amo, amc, Nat.reduceAdd, Nat.reduceEqDiff, encs_length, List.length_map, decide_true, decide_false, Tree.rec_, Nd.rec_, Word.rec_, Got.rec_, wN]
              refine slSL_intro (by omega) (by omega) ?_
              rw [hcut]
              simp only [am, amo, amc, Nat.reduceAdd, Nat.reduceEqDiff, encs_length, List.length_map, decide_true, decide_false, Tree.rec_, Nd.rec_, Word.rec_, Got.rec_]
              refine app_tk (by simp [big]; omega) (by rw [List.length_map, setTip_tip_same]) ?_
              simp only [am, amo, amc, Nat.reduceAdd, Nat.reduceEqDiff, encs_length, List.length_map, decide_true, decide_false, Tree.rec_, Nd.rec_, Word.rec_, Got.rec_, setTip_setTip, wN]
              have e : acc.length + 1 = (acc ++ [(⟨97, runR (s.drop a), a⟩ : Tok)]).length := by simp
              rw [e]
              rw [List.drop_drop] at hR
              exact again (a + (runR (s.drop a)).length) _ _ _ hR (by simp; omega) (by omega) (by omega) (by simp [List.replicate, am, Tok.enc]) rfl
            case' false =>
              simp only [am, amo, amc, Nat.reduceAdd, Nat.reduceEqDiff, encs_length, List.length_map, decide_true, decide_false, Tree.rec_, Nd.rec_, Word.rec_, Got.rec_]
          all_goals
            rw [if_neg (by simp_all)] at hR
            refine (sign_calls (s[a].toNat : Nat) _).mono ?_
            rintro v σ' ⟨rfl, rfl⟩
            cases hsg : signZ (s[a].toNat : Nat)
            · rw [if_neg (by simp [hsg])] at hR
              simp only [am, amo, amc, Nat.reduceAdd, Nat.reduceEqDiff, encs_length, List.length_map, decide_true, decide_false, Tree.rec_, Nd.rec_, Word.rec_, Got.rec_]
              by_cases hbl : s[a].toNat = 32 ∨ s[a].toNat = 9
              · rw [if_pos hbl] at hR
                by_cases h32 : s[a].toNat = 32
                case' pos =>
                  simp only [am, amo, amc, Nat.reduceAdd, Nat.reduceEqDiff, encs_length, List.length_map, decide_true, decide_false, Tree.rec_, Nd.rec_, Word.rec_, Got.rec_, decide_eq_true (show ((s[a].toNat : Nat) : Int) = 32 by omega), w1]
                case' neg =>
                  simp only [am, amo, amc, Nat.reduceAdd, Nat.reduceEqDiff, encs_length, List.length_map, decide_true, decide_false, Tree.rec_, Nd.rec_, Word.rec_, Got.rec_, decide_eq_false (show ¬ ((s[a].toNat : Nat) : Int) = 32 by omega), decide_eq_true (show ((s[a].toNat : Nat) : Int) = 9 by omega), w1]
                all_goals exact again (a + 1) acc _ _ hR (by omega) (by omega) (by omega) (by simp [List.replicate, am]) rfl
              · rw [if_neg hbl] at hR
                simp only [am, amo, amc, Nat.reduceAdd, Nat.reduceEqDiff, encs_length, List.length_map, decide_true, decide_false, Tree.rec_, Nd.rec_, Word.rec_, Got.rec_, decide_eq_false (show ¬ ((s[a].toNat : Nat) : Int) = 32 by omega), decide_eq_false (show ¬ ((s[a].toNat : Nat) : Int) = 9 by omega)]
                refine retK_intro rfl (sub_tip hτ) ⟨?_, rfl⟩
                simp [V.erase, eraseL, ← hR, badL, badA]
            · rw [if_pos hsg] at hR
              simp only [am, amo, amc, Nat.reduceAdd, Nat.reduceEqDiff, encs_length, List.length_map, decide_true, decide_false, Tree.rec_, Nd.rec_, Word.rec_, Got.rec_, w1]
              refine slSL_intro (by omega) (by omega) ?_
              rw [cut_one hlt]
              simp only [am, amo, amc, Nat.reduceAdd, Nat.reduceEqDiff, encs_length, List.length_map, decide_true, decide_false, Tree.rec_, Nd.rec_, Word.rec_, Got.rec_]
              refine app_tk (by simp [big]; omega) (by rw [List.length_map, setTip_tip_same]) ?_
              simp only [am, amo, amc, Nat.reduceAdd, Nat.reduceEqDiff, encs_length, List.length_map, decide_true, decide_false, Tree.rec_, Nd.rec_, Word.rec_, Got.rec_, setTip_setTip, w1]
              have e : acc.length + 1 = (acc ++ [(⟨(s[a].toNat : Nat), [s[a]], a⟩ : Tok)]).length := by simp
              rw [e]
              exact again (a + 1) _ _ _ hR (by simp; omega) (by omega) (by omega) (by simp [List.replicate, am, Tok.enc]) rfl
    · intro hlt
      have hlt : a = s.length := by simp at hlt; omega
      subst hlt
      rw [List.drop_length] at hR
      have hR' : (acc, none) = R := by cases n <;> simpa [lexF] using hR
      simp only [am, amo, amc, Nat.reduceAdd, Nat.reduceEqDiff, encs_length, List.length_map, decide_true, decide_false, Tree.rec_, Nd.rec_, Word.rec_, Got.rec_]
      refine retK_intro rfl (sub_tip hτ) ⟨?_, rfl⟩
      simp [V.erase, eraseL, ← hR', badL, badA]
end Go.Proofs.Tryd

namespace Go.Proofs.Tryd
open Go.Am
set_option maxRecDepth 4000
set_option maxHeartbeats 4000000
def ac47 : AC := .seq (.reg [xi 3 0])
 (.seq (.block 0 (.loop (.seq (.seq (.reg [xm 4 0, xo 5 1, xT 6 5, xb .lss 7 4 6, xm 8 7, xg 8 (xo 9 1), xg 8 (xm 10 0), xg 8 (xS 11 9 10), xg 8 (xc 48 12 [.s 11]), ⟨(some 13), .pick (.s 8) (.s 12) (.c (.bool false)), none⟩])
 (.cond (.s 13) (.skip)
 (.exit 0)))
 (.block 1 (.reg [xm 14 0, xB .add 15 14 1, xm 0 15])))))
 (.seq (.reg [xm 16 0, xm 3 16])
 (.ret)))
theorem fn47 : IsFn prog 47 ac47 [.tmp 3] 17 := ⟨f47, ⟨[], []⟩, func47, by kernel_rfl, by kernel_rfl, by kernel_rfl, by kernel_rfl⟩
def ac48 : AC := .seq (.reg [⟨(some 2), .mv (.c (.bool false)), none⟩])
 (.seq (.reg [xm 3 0, xu .geq 4 3 97, xm 5 4, xg 5 (xm 6 0), xg 5 (xu .leq 7 6 122), ⟨(some 8), .pick (.s 5) (.s 7) (.c (.bool false)), none⟩, xm 9 8, xh 9 (xm 10 0), xh 9 (xu .geq 11 10 48), xh 9 (xm 12 11), xg 12 (xm 13 0), xg 12 (xu .leq 14 13 57), ⟨(some 15), .pick (.s 12) (.s 14) (.c (.bool false)), (some (9, false))⟩, ⟨(some 16), .pick (.s 9) (.c (.bool true)) (.s 15), none⟩, xm 17 16, xh 17 (xm 18 0), xh 17 (xu .eql 19 18 95), ⟨(some 20), .pick (.s 17) (.c (.bool true)) (.s 19), none⟩, xm 2 20])
 (.ret))
theorem fn48 : IsFn prog 48 ac48 [.tmp 2] 21 := ⟨f48, ⟨[], []⟩, func48, by kernel_rfl, by kernel_rfl, by kernel_rfl, by kernel_rfl⟩
def ac49 : AC := .seq (.reg [⟨(some 4), .mv (.c (.bool false)), none⟩])
 (.seq (.reg [xm 5 0, xm 6 1, xS 7 5 6, xu .eql 8 7 45, xm 9 8, xg 9 (xm 10 1), xg 9 (xB .add 11 10 1), xg 9 (xm 12 0), xg 9 (xT 13 12), xg 9 (xb .lss 14 11 13), ⟨(some 15), .pick (.s 9) (.s 14) (.c (.bool false)), none⟩, xm 16 15, xg 16 (xm 17 0), xg 16 (xm 18 1), xg 16 (xB .add 19 18 1), xg 16 (xS 20 17 19), xg 16 (xu .eql 21 20 45), ⟨(some 22), .pick (.s 16) (.s 21) (.c (.bool false)), none⟩, xm 4 22])
 (.ret))
theorem fn49 : IsFn prog 49 ac49 [.tmp 4] 23 := ⟨f49, ⟨[], []⟩, func49, by kernel_rfl, by kernel_rfl, by kernel_rfl, by kernel_rfl⟩
def ac50 : AC := .seq (.reg [⟨(some 2), .mv (.c (.bool false)), none⟩])
 (.seq (.seq (.reg [xm 3 0])
 (.block 0 (.seq (.seq (.reg [xu .eql 5 3 35, xm 4 5])
 (.cond (.s 4) (.skip)
 (.seq (.reg [xu .eql 6 3 43, xm 4 6])
 (.cond (.s 4) (.skip)
 (.seq (.reg [xu .eql 7 3 38, xm 4 7])
 (.cond (.s 4) (.skip)
 (.seq (.reg [xu .eql 8 3 40, xm 4 8])
 (.cond (.s 4) (.skip)
 (.seq (.reg [xu .eql 9 3 41, xm 4 9])
 (.cond (.s 4) (.skip)
 (.seq (.reg [xu .eql 10 3 123, xm 4 10])
 (.cond (.s 4) (.skip)
 (.seq (.reg [xu .eql 11 3 125, xm 4 11])
 (.cond (.s 4) (.skip)
 (.seq (.reg [xu .eql 12 3 91, xm 4 12])
 (.cond (.s 4) (.skip)
 (.seq (.reg [xu .eql 13 3 93, xm 4 13])
 (.cond (.s 4) (.skip)
 (.seq (.reg [xu .eql 14 3 44, xm 4 14])
 (.cond (.s 4) (.skip)
 (.seq (.reg [xu .eql 15 3 58, xm 4 15])
 (.cond (.s 4) (.skip)
 (.seq (.reg [xu .eql 16 3 61, xm 4 16])
 (.cond (.s 4) (.skip)
 (.seq (.reg [xu .eql 17 3 124, xm 4 17])
 (.cond (.s 4) (.skip)
 (.reg [xu .eql 18 3 60, xm 4 18])))))))))))))))))))))))))))
 (.cond (.s 4) (.seq (.reg [⟨(some 2), .mv (.c (.bool true)), none⟩])
 (.ret))
 (.skip)))))
 (.seq (.reg [⟨(some 2), .mv (.c (.bool false)), none⟩])
 (.ret)))
theorem fn50 : IsFn prog 50 ac50 [.tmp 2] 19 := ⟨f50, ⟨[], []⟩, func50, by kernel_rfl, by kernel_rfl, by kernel_rfl, by kernel_rfl⟩
theorem sign_facts {c : Int} (h : signZ c = true) : goesZ c = false ∧ c ≠ 45 ∧ c ≠ 32 ∧ c ≠ 9 := by
  simp only [signZ, signs, List.any_cons, List.any_nil, Bool.or_eq_true, decide_eq_true_eq, Bool.false_eq_true, or_false] at h
  rcases h with h | h | h | h | h | h | h | h | h | h | h | h | h | h <;> subst h <;> exact ⟨by decide, by decide, by decide, by decide⟩
theorem lexF_p {n p : Nat} {c : UInt8} {r : List UInt8} {acc : List Tok} : lexF (n + 1) p (c :: r) acc =
    if c.toNat = 32 ∨ c.toNat = 9 then lexF n (p + 1) r acc
    else if c.toNat = 45 ∧ (r.head?.map UInt8.toNat) = some 45 then (acc, none)
    else if signZ (c.toNat : Nat) = true then lexF n (p + 1) r (acc ++ [⟨(c.toNat : Nat), [c], p⟩])
    else if nameR (runR (c :: r)) = true then lexF n (p + (runR (c :: r)).length) ((c :: r).drop (runR (c :: r)).length) (acc ++ [⟨97, runR (c :: r), p⟩])
    else ([], some p) := by
  simp only [lexF]
  by_cases hb : c.toNat = 32 ∨ c.toNat = 9
  · have h1 : goesB c = false := by
      simp only [goesB]
      rcases hb with h | h <;> rw [h] <;> decide
    have h2 : signZ (c.toNat : Nat) = false := by rcases hb with h | h <;> rw [h] <;> decide
    have h3 : ¬ c.toNat = 45 := by omega
    simp [hb, h2, h3, runR_no h1]
  · rw [if_neg hb]
    split
    · rfl
    · cases hs : signZ (c.toNat : Nat)
      · by_cases hn : nameR (runR (c :: r)) = true
        · have : 0 < (runR (c :: r)).length := by
            cases hq : runR (c :: r) with
            | nil => rw [hq] at hn; simp [nameR] at hn
            | cons _ _ => simp
          simp [hn, this]
        · simp [hn, hb]
      · have h1 : goesB c = false := (sign_facts hs).1
        simp [runR_no h1]
theorem goesP_calls (c : Int) (σ : Store) : PCalls prog 48 [.int .u8 c] σ fun v σ' => v = .bool (goesZ c) ∧ σ' = σ := by
  refine fn48.calls ?_
  simp only [slots, ac48, am, amo, amc, ams, Nat.reduceAdd, Nat.reduceEqDiff, decide_true, decide_false, Tree.rec_, Nd.rec_, Word.rec_, Got.rec_]
  repeat' (first
    | (refine gL_split (fun h => ?_) (fun h => ?_) <;> simp only [am, amo, amc, h, Nat.reduceAdd, Nat.reduceEqDiff, encs_length, List.length_map, decide_true, decide_false, Tree.rec_, Nd.rec_, Word.rec_, Got.rec_])
    | (refine vcIf_split (fun h => ?_) (fun h => ?_) <;> simp only [am, amo, amc, h, Nat.reduceAdd, Nat.reduceEqDiff, encs_length, List.length_map, decide_true, decide_false, Tree.rec_, Nd.rec_, Word.rec_, Got.rec_])
    | (refine pickL_split (fun h => ?_) (fun h => ?_) <;> simp only [am, amo, amc, h, Nat.reduceAdd, Nat.reduceEqDiff, encs_length, List.length_map, decide_true, decide_false, Tree.rec_, Nd.rec_, Word.rec_, Got.rec_])
  )
  all_goals refine retK_intro rfl (Store.sub_refl _) ⟨?_, rfl⟩
  all_goals simp_all [V.erase, eraseL, goesZ, letZ]
  all_goals (try omega)
theorem signP_calls (c : Int) (σ : Store) : PCalls prog 50 [.int .u8 c] σ fun v σ' => v = .bool (signZ c) ∧ σ' = σ := by
  refine fn50.calls ?_
  simp only [slots, ac50, am, amo, amc, ams, Nat.reduceAdd, Nat.reduceEqDiff, decide_true, decide_false, Tree.rec_, Nd.rec_, Word.rec_, Got.rec_]
  repeat' (first
    | (refine gL_split (fun h => ?_) (fun h => ?_) <;> simp only [am, amo, amc, h, Nat.reduceAdd, Nat.reduceEqDiff, encs_length, List.length_map, decide_true, decide_false, Tree.rec_, Nd.rec_, Word.rec_, Got.rec_])
    | (refine vcIf_split (fun h => ?_) (fun h => ?_) <;> simp only [am, amo, amc, h, Nat.reduceAdd, Nat.reduceEqDiff, encs_length, List.length_map, decide_true, decide_false, Tree.rec_, Nd.rec_, Word.rec_, Got.rec_])
    | (refine pickL_split (fun h => ?_) (fun h => ?_) <;> simp only [am, amo, amc, h, Nat.reduceAdd, Nat.reduceEqDiff, encs_length, List.length_map, decide_true, decide_false, Tree.rec_, Nd.rec_, Word.rec_, Got.rec_])
  )
  all_goals refine retK_intro rfl (Store.sub_refl _) ⟨?_, rfl⟩
  all_goals simp_all [V.erase, eraseL, signZ, signs]
  all_goals (try omega)
theorem comment_calls (s : List UInt8) (a : Nat) (σ : Store) (ha : a < s.length) (hb : s.length ≤ big) : PCalls prog 49 [.str s, .int .i64 (a : Nat)] σ fun v σ' => v = .bool (decide (s[a].toNat = 45 ∧ (s.drop (a + 1)).head?.map UInt8.toNat = some 45)) ∧ σ' = σ := by
  simp only [big] at hb
  have w1 : IntKind.i64.wrap ((a : Int) + 1) = ((a + 1 : Nat) : Int) := by rw [wrap_i64 (by omega) (by omega)]; simp
  have hh : (s.drop (a + 1)).head?.map UInt8.toNat = if h : a + 1 < s.length then some s[a + 1].toNat else none := by
    by_cases h : a + 1 < s.length
    · rw [dif_pos h, drop_cons h]; rfl
    · rw [dif_neg h, List.drop_eq_nil_of_le (by omega)]; rfl
  rw [hh]
  refine fn49.calls ?_
  simp only [slots, ac49, am, amo, amc, ams, Nat.reduceAdd, Nat.reduceEqDiff, decide_true, decide_false, Tree.rec_, Nd.rec_, Word.rec_, Got.rec_]
  refine idxSL_intro (by omega) (str_at ha) ?_
  simp only [am, amo, amc, Nat.reduceAdd, Nat.reduceEqDiff, encs_length, List.length_map, decide_true, decide_false, Tree.rec_, Nd.rec_, Word.rec_, Got.rec_, w1]
  by_cases h45 : s[a].toNat = 45
  · simp only [am, amo, amc, Nat.reduceAdd, Nat.reduceEqDiff, encs_length, List.length_map, decide_true, decide_false, Tree.rec_, Nd.rec_, Word.rec_, Got.rec_, decide_eq_true (show ((s[a].toNat : Nat) : Int) = 45 by omega), w1]
    by_cases hl : a + 1 < s.length
    · simp only [am, amo, amc, Nat.reduceAdd, Nat.reduceEqDiff, encs_length, List.length_map, decide_true, decide_false, Tree.rec_, Nd.rec_, Word.rec_, Got.rec_, decide_eq_true (show ((a + 1 : Nat) : Int) < s.length by omega), w1]
      refine idxSL_intro (by omega) (str_at hl) ?_
      simp only [am, amo, amc, Nat.reduceAdd, Nat.reduceEqDiff, encs_length, List.length_map, decide_true, decide_false, Tree.rec_, Nd.rec_, Word.rec_, Got.rec_]
      refine retK_intro rfl (Store.sub_refl _) ⟨?_, rfl⟩
      simp [V.erase, eraseL, h45, hl]
      omega
    · simp only [am, amo, amc, Nat.reduceAdd, Nat.reduceEqDiff, encs_length, List.length_map, decide_true, decide_false, Tree.rec_, Nd.rec_, Word.rec_, Got.rec_, decide_eq_false (show ¬ ((a + 1 : Nat) : Int) < s.length by omega), w1]
      refine retK_intro rfl (Store.sub_refl _) ⟨?_, rfl⟩
      simp [V.erase, eraseL, hl]
  · simp only [am, amo, amc, Nat.reduceAdd, Nat.reduceEqDiff, encs_length, List.length_map, decide_true, decide_false, Tree.rec_, Nd.rec_, Word.rec_, Got.rec_, decide_eq_false (show ¬ ((s[a].toNat : Nat) : Int) = 45 by omega), w1]
    refine retK_intro rfl (Store.sub_refl _) ⟨?_, rfl⟩
    simp [V.erase, eraseL, h45]
def inv47 (s : List UInt8) (σ : Store) (p a n : Nat) : St := ⟨[.int .i64 ((a + n : Nat) : Int), .ptr (.out p) 0] ++ List.replicate 15 .any, [], σ⟩
theorem end_calls {s : List UInt8} {p a : Nat} {σ : Store} (hp : σ.box p = some [.str s]) (ha : a ≤ s.length) (hb : s.length ≤ big) : PCalls prog 47 [.int .i64 (a : Nat), .ptr (.out p) 0] σ fun v σ' => v = .int .i64 ((a + (runR (s.drop a)).length : Nat) : Int) ∧ σ' = σ := by
  simp only [big] at hb
  refine fn47.calls ?_
  simp only [slots, ac47, am, amo, amc, ams, Nat.reduceAdd, Nat.reduceEqDiff, decide_true, decide_false, Tree.rec_, Nd.rec_, Word.rec_, Got.rec_]
  refine vc_loop (fun q : { n : Nat // a + n ≤ s.length ∧ ((s.drop a).take n).all goesB = true } => inv47 s σ p a q.1) (fun q => s.length - q.1) ?_ ?_
  · refine Upd.enter ⟨0, by simpa using ha, by simp⟩ ?_ LLLe.rfl OLe.rfl
    simp [inv47, List.replicate, am]
  · rintro ⟨n, hn, hall⟩
    simp only [inv47, List.replicate, am, hp]
    have w1 : IntKind.i64.wrap (((a + n : Nat) : Int) + 1) = ((a + (n + 1) : Nat) : Int) := by rw [wrap_i64 (by omega) (by omega)]; omega
    by_cases hlt : a + n < s.length
    · simp only [am, amo, amc, Nat.reduceAdd, Nat.reduceEqDiff, encs_length, List.length_map, decide_true, decide_false, Tree.rec_, Nd.rec_, Word.rec_, Got.rec_, decide_eq_true (show ((a + n : Nat) : Int) < s.length by omega), hp]
      refine idxSL_intro (by omega) (str_at hlt) ?_
      simp only [am, amo, amc, Nat.reduceAdd, Nat.reduceEqDiff, encs_length, List.length_map, decide_true, decide_false, Tree.rec_, Nd.rec_, Word.rec_, Got.rec_]
      refine (goesP_calls s[a + n].toNat σ).mono ?_
      rintro v σ ⟨rfl, rfl⟩
      cases hg : goesZ (s[a + n].toNat : Nat)
      · simp only [am, amo, amc, Nat.reduceAdd, Nat.reduceEqDiff, encs_length, List.length_map, decide_true, decide_false, Tree.rec_, Nd.rec_, Word.rec_, Got.rec_]
        refine retK_intro rfl (Store.sub_refl _) ⟨?_, rfl⟩
        simp [V.erase, runR_at hall hn (fun _ => hg)]
      · simp only [am, amo, amc, Nat.reduceAdd, Nat.reduceEqDiff, encs_length, List.length_map, decide_true, decide_false, Tree.rec_, Nd.rec_, Word.rec_, Got.rec_, w1]
        refine Upd.again ⟨n + 1, by omega, ?_⟩ (by simp; omega) (by simp [List.replicate, am]) LLLe.rfl OLe.rfl
        have hd : n < (s.drop a).length := by simp; omega
        rw [all_take_succ hd, hall]
        simp only [Bool.true_and, List.getElem_drop]
        exact hg
    · simp only [am, amo, amc, Nat.reduceAdd, Nat.reduceEqDiff, encs_length, List.length_map, decide_true, decide_false, Tree.rec_, Nd.rec_, Word.rec_, Got.rec_, decide_eq_false (show ¬ ((a + n : Nat) : Int) < s.length by omega)]
      refine retK_intro rfl (Store.sub_refl _) ⟨?_, rfl⟩
      simp [V.erase, runR_at hall hn (fun h => absurd h hlt)]
end Go.Proofs.Tryd

namespace Go.Proofs.Tryd
open Go.Am
set_option maxRecDepth 4000
set_option maxHeartbeats 4000000
def ac16 : AC := .seq (.reg [⟨(some 1), .boxO 1 (.s 0), none⟩, ⟨(some 2), .mv (.c (.sl .full 3 [])), none⟩, ⟨(some 3), .alloc [(.int .i64 0), (.int .i64 0)], none⟩])
 (.scope (.seq (.reg [⟨(some 9), .mkfn (.func 47) [] [(.s 1)], none⟩, xm 4 9])
 (.seq (.reg [⟨(some 5), .mv (.c (.sl .full 3 [])), none⟩])
 (.seq (.reg [xi 6 0])
 (.seq (.skip)
 (.seq (.block 0 (.loop (.seq (.seq (.reg [xm 10 6, xo 11 1, xT 12 11, xb .lss 13 10 12])
 (.cond (.s 13) (.skip)
 (.exit 0)))
 (.block 1 (.seq (.reg [xo 14 1, xm 15 6, xS 16 14 15, xm 7 16])
 (.seq (.block 2 (.seq (.reg [xm 18 7, xu .eql 19 18 32, xm 20 19, xh 20 (xm 21 7), xh 20 (xu .eql 22 21 9), ⟨(some 23), .pick (.s 20) (.c (.bool true)) (.s 22), none⟩, xm 17 23])
 (.cond (.s 17) (.seq (.reg [xm 24 6, xB .add 25 24 1, xm 6 25])
 (.exit 1))
 (.seq (.reg [xo 27 1, xm 28 6, xc 49 29 [.s 27, .s 28], xm 26 29])
 (.cond (.s 26) (.exit 0)
 (.seq (.reg [xm 31 7, xc 50 32 [.s 31], xm 30 32])
 (.cond (.s 30) (.seq (.reg [xm 33 5, xm 34 7, xo 35 1, xm 36 6, xm 37 6, xB .add 38 37 1, ⟨(some 39), .slS (.s 35) (some (.s 36)) (some (.s 38)), none⟩, xm 40 6, ⟨(some 41), .build [(.int .u8 0), (.str []), (.int .i64 0)] [(0, 1, (.s 34)), (1, 1, (.s 39)), (2, 1, (.s 40))], none⟩, ⟨(some 42), .bslice 3 [(.s 41)], none⟩, xa 3 43 33 42, xm 5 43])
 (.seq (.reg [xm 44 6, xB .add 45 44 1, xm 6 45])
 (.exit 1)))
 (.skip))))))))
 (.seq (.reg [xm 46 4, xm 47 6, ⟨(some 48), .callv (.s 46) [(.s 47)], none⟩, xm 8 48])
 (.seq (.seq (.reg [xo 49 1, xm 50 6, xm 51 8, ⟨(some 52), .slS (.s 49) (some (.s 50)) (some (.s 51)), none⟩, xc 51 53 [.s 52], ⟨(some 54), .not (.s 53), none⟩])
 (.cond (.s 54) (.seq (.reg [xm 55 6, ⟨(some 56), .build [(.int .i64 0), (.int .i64 0)] [(0, 1, (.c (.int .i64 1))), (1, 1, (.s 55))], none⟩, ⟨(some 2), .mv (.c (.sl .full 3 [])), none⟩, xs 2 3 56])
 (.ret))
 (.skip)))
 (.seq (.reg [xm 57 5, xo 58 1, xm 59 6, xm 60 8, ⟨(some 61), .slS (.s 58) (some (.s 59)) (some (.s 60)), none⟩, xm 62 6, ⟨(some 63), .build [(.int .u8 0), (.str []), (.int .i64 0)] [(0, 1, (.c (.int .u8 97))), (1, 1, (.s 61)), (2, 1, (.s 62))], none⟩, ⟨(some 64), .bslice 3 [(.s 63)], none⟩, xa 3 65 57 64, xm 5 65])
 (.reg [xm 66 8, xm 6 66]))))))))))
 (.seq (.reg [xm 67 5, ⟨(some 68), .build [(.int .i64 0), (.int .i64 0)] [], none⟩, xm 2 67, xs 2 3 68])
 (.ret))))))))
theorem fn16 : IsFn prog 16 ac16 [.tmp 2, .cell 3 true 2] 69 := ⟨f16, ⟨[1], []⟩, func16, by kernel_rfl, by kernel_rfl, by kernel_rfl, by kernel_rfl⟩
abbrev LexI (s : List UInt8) (σ : Store) (p : Nat) (R : List Tok × Option Int) := { q : Nat × Nat × Nat × List Tok // (σ.set p [.str s]).tip q.2.2.1 = none ∧ lexF q.1 q.2.1 (s.drop q.2.1) q.2.2.2 = R ∧ q.2.2.2.length ≤ q.2.1 ∧ q.2.1 ≤ s.length ∧ s.length ≤ q.2.1 + q.1 }
def inv16 (s : List UInt8) (σ : Store) (p a τ : Nat) (acc : List Tok) : St :=
  ⟨[.str s, .ptr (.out p) 0, .any, .ptr (.loc 0) 0, .fn (.func 47) [] [.ptr (.out p) 0], .sl (.tk τ) 3 (acc.map Tok.enc), .int .i64 (a : Nat)] ++ List.replicate 62 .any, [[.int .i64 0, .int .i64 0]], (σ.set p [.str s]).setTip τ acc.length⟩
theorem lexP_calls (s : List UInt8) (σ : Store) (hb : s.length + 1 ≤ big) : PCalls prog 16 [.str s] σ fun v σ' => v = .tup [.sl .no 3 ((lexR s).1.map Tok.enc), badL (lexR s).2] ∧ σ' = σ := by
  simp only [big] at hb
  generalize hR : lexR s = R
  refine fn16.calls ?_
  simp only [slots, ac16, am, amo, amc, ams, Nat.reduceAdd, Nat.reduceEqDiff, decide_true, decide_false, Tree.rec_, Nd.rec_, Word.rec_, Got.rec_]
  refine kO_intro fun p hp => ?_
  simp only [am, amo, amc, Nat.reduceAdd, Nat.reduceEqDiff, encs_length, List.length_map, decide_true, decide_false, Tree.rec_, Nd.rec_, Word.rec_, Got.rec_]
  have hbox : ∀ τ m, ((σ.set p [.str s]).setTip τ m).box p = some [.str s] := fun τ m => by simp [Store.setTip, Store.set]
  have hsub : ∀ τ m, (σ.set p [.str s]).tip τ = none → σ.sub ((σ.set p [.str s]).setTip τ m) := fun τ m h => Store.subT (sub_set hp) (sub_tip h)
  refine vc_loop (fun q : LexI s σ p R => inv16 s σ p q.1.2.1 q.1.2.2.1 q.1.2.2.2) (fun q => s.length - q.1.2.1) ?_ ?_
  · refine Upd.tokEnter 0 fun τ hτ => ⟨⟨(s.length, 0, τ, []), hτ, hR, by simp, by simp, by simp⟩, ?_, rfl, rfl⟩
    simp [inv16, List.replicate, lto]
  · rintro ⟨⟨n, a, τ, acc⟩, hτ, hR, h1, h2, h3⟩
    simp only at hτ hR h1 h2 h3
    simp only [inv16, List.replicate, am, amc, hbox]
    refine vcIf_split ?_ ?_
    · intro hlt
      have hlt : a < s.length := by simpa using hlt
      obtain ⟨m, rfl⟩ : ∃ m, n = m + 1 := ⟨n - 1, by omega⟩
      rw [drop_cons hlt] at hR
      rw [lexF_p, ← drop_cons hlt] at hR
      have hrun := runR_le (s := s) (a := a)
      have w1 : IntKind.i64.wrap ((a : Int) + 1) = ((a + 1 : Nat) : Int) := by rw [wrap_i64 (by omega) (by omega)]; simp
      have again : ∀ (b : Nat) (acc' : List Tok) (t : List V) (l : List (List V)), lexF m b (s.drop b) acc' = R → acc'.length ≤ b → a < b → b ≤ s.length →
          LLe t (inv16 s σ p b τ acc').t → l = [[.int .i64 0, .int .i64 0]] →
          Upd ⟨t, l, (σ.set p [.str s]).setTip τ acc'.length⟩ fun st' => ∃ j : LexI s σ p R, st' = inv16 s σ p j.1.2.1 j.1.2.2.1 j.1.2.2.2 ∧ s.length - j.1.2.1 < s.length - a := fun b acc' t l e1 e2 e3 e4 e5 e6 => by
        refine Upd.again (μ := fun q : LexI s σ p R => s.length - q.1.2.1) (I := fun q => inv16 s σ p q.1.2.1 q.1.2.2.1 q.1.2.2.2) ⟨(m, b, τ, acc'), hτ, e1, e2, e4, by simp only; omega⟩ (by simp; omega) e5 (by rw [e6]; exact LLLe.rfl) OLe.rfl
      simp only [am, amo, amc, Nat.reduceAdd, Nat.reduceEqDiff, encs_length, List.length_map, decide_true, decide_false, Tree.rec_, Nd.rec_, Word.rec_, Got.rec_]
      refine idxSL_intro (by omega) (str_at hlt) ?_
      simp only [am, amo, amc, Nat.reduceAdd, Nat.reduceEqDiff, encs_length, List.length_map, decide_true, decide_false, Tree.rec_, Nd.rec_, Word.rec_, Got.rec_]
      by_cases hbl : s[a].toNat = 32 ∨ s[a].toNat = 9
      · rw [if_pos hbl] at hR
        by_cases h32 : s[a].toNat = 32
        case' pos => simp only [am, amo, amc, Nat.reduceAdd, Nat.reduceEqDiff, encs_length, List.length_map, decide_true, decide_false, Tree.rec_, Nd.rec_, Word.rec_, Got.rec_, decide_eq_true (show ((s[a].toNat : Nat) : Int) = 32 by omega), w1]
        case' neg => simp only [am, amo, amc, Nat.reduceAdd, Nat.reduceEqDiff, encs_length, List.length_map, decide_true, decide_false, Tree.rec_, Nd.rec_, Word.rec_, Got.rec_, decide_eq_false (show ¬ ((s[a].toNat : Nat) : Int) = 32 by omega), decide_eq_true (show ((s[a].toNat : Nat) : Int) = 9 by omega), w1]
        all_goals exact again (a + 1) acc _ _ hR (by omega) (by omega) (by omega) (by simp [inv16, List.replicate, am]) rfl
      · rw [if_neg hbl] at hR
        simp only [am, amo, amc, Nat.reduceAdd, Nat.reduceEqDiff, encs_length, List.length_map, decide_true, decide_false, Tree.rec_, Nd.rec_, Word.rec_, Got.rec_, decide_eq_false (show ¬ ((s[a].toNat : Nat) : Int) = 32 by omega), decide_eq_false (show ¬ ((s[a].toNat : Nat) : Int) = 9 by omega), hbox]
        refine (comment_calls s a _ hlt (by simp only [big]; omega)).mono ?_
        rintro v σ' ⟨rfl, rfl⟩
        by_cases hcm : s[a].toNat = 45 ∧ (s.drop (a + 1)).head?.map UInt8.toNat = some 45
        · rw [if_pos hcm] at hR
          simp only [am, amo, amc, Nat.reduceAdd, Nat.reduceEqDiff, encs_length, List.length_map, decide_true, decide_false, Tree.rec_, Nd.rec_, Word.rec_, Got.rec_, decide_eq_true hcm]
          refine retK_intro rfl (hsub τ _ hτ) ⟨?_, rfl⟩
          simp [V.erase, eraseL, ← hR, badL, badA]
        · rw [if_neg hcm] at hR
          simp only [am, amo, amc, Nat.reduceAdd, Nat.reduceEqDiff, encs_length, List.length_map, decide_true, decide_false, Tree.rec_, Nd.rec_, Word.rec_, Got.rec_, decide_eq_false hcm]
          refine (signP_calls (s[a].toNat : Nat) _).mono ?_
          rintro v σ' ⟨rfl, rfl⟩
          cases hsg : signZ (s[a].toNat : Nat)
          · rw [if_neg (by simp [hsg])] at hR
            simp only [am, amo, amc, Nat.reduceAdd, Nat.reduceEqDiff, encs_length, List.length_map, decide_true, decide_false, Tree.rec_, Nd.rec_, Word.rec_, Got.rec_]
            refine (end_calls (s := s) (hbox τ _) (by omega) (by simp only [big]; omega)).mono ?_
            rintro v σ' ⟨rfl, rfl⟩
            simp only [am, amo, amc, Nat.reduceAdd, Nat.reduceEqDiff, encs_length, List.length_map, decide_true, decide_false, Tree.rec_, Nd.rec_, Word.rec_, Got.rec_, hbox]
            refine slSL_intro (by omega) (by omega) ?_
            rw [cut_run]
            simp only [am, amo, amc, Nat.reduceAdd, Nat.reduceEqDiff, encs_length, List.length_map, decide_true, decide_false, Tree.rec_, Nd.rec_, Word.rec_, Got.rec_]
            refine (right_calls (runR (s.drop a)) _).mono ?_
            rintro v σ' ⟨rfl, rfl⟩
            cases hnr : nameR (runR (s.drop a))
            · rw [if_neg (by simp [hnr])] at hR
              simp only [am, amo, amc, Nat.reduceAdd, Nat.reduceEqDiff, encs_length, List.length_map, decide_true, decide_false, Tree.rec_, Nd.rec_, Word.rec_, Got.rec_]
              refine retK_intro rfl (hsub τ _ hτ) ⟨?_, rfl⟩
              simp [V.erase, eraseL, ← hR, badL, badA]
            · rw [if_pos hnr] at hR
              have hN : 0 < (runR (s.drop a)).length := by
                cases hq : runR (s.drop a) with
                | nil => rw [hq] at hnr; simp [nameR] at hnr
                | cons _ _ => simp
              simp only [am, amo, amc, Nat.reduceAdd, Nat.reduceEqDiff, encs_length, List.length_map, decide_true, decide_false, Tree.rec_, Nd.rec_, Word.rec_, Got.rec_, hbox]
              refine slSL_intro (by omega) (by omega) ?_
              rw [cut_run]
              simp only [am, amo, amc, Nat.reduceAdd, Nat.reduceEqDiff, encs_length, List.length_map, decide_true, decide_false, Tree.rec_, Nd.rec_, Word.rec_, Got.rec_]
              refine app_tk (by simp [big]; omega) (by rw [List.length_map, setTip_tip_same]) ?_
              simp only [am, amo, amc, Nat.reduceAdd, Nat.reduceEqDiff, encs_length, List.length_map, decide_true, decide_false, Tree.rec_, Nd.rec_, Word.rec_, Got.rec_, setTip_setTip]
              have e : acc.length + 1 = (acc ++ [(⟨97, runR (s.drop a), a⟩ : Tok)]).length := by simp
              rw [e]
              rw [List.drop_drop] at hR
              exact again (a + (runR (s.drop a)).length) _ _ _ hR (by simp; omega) (by omega) (by omega) (by simp [inv16, List.replicate, am, Tok.enc]) rfl
          · rw [if_pos hsg] at hR
            simp only [am, amo, amc, Nat.reduceAdd, Nat.reduceEqDiff, encs_length, List.length_map, decide_true, decide_false, Tree.rec_, Nd.rec_, Word.rec_, Got.rec_, w1, hbox]
            refine slSL_intro (by omega) (by omega) ?_
            rw [cut_one hlt]
            simp only [am, amo, amc, Nat.reduceAdd, Nat.reduceEqDiff, encs_length, List.length_map, decide_true, decide_false, Tree.rec_, Nd.rec_, Word.rec_, Got.rec_]
            refine app_tk (by simp [big]; omega) (by rw [List.length_map, setTip_tip_same]) ?_
            simp only [am, amo, amc, Nat.reduceAdd, Nat.reduceEqDiff, encs_length, List.length_map, decide_true, decide_false, Tree.rec_, Nd.rec_, Word.rec_, Got.rec_, setTip_setTip, w1]
            have e : acc.length + 1 = (acc ++ [(⟨(s[a].toNat : Nat), [s[a]], a⟩ : Tok)]).length := by simp
            rw [e]
            exact again (a + 1) _ _ _ hR (by simp; omega) (by omega) (by omega) (by simp [inv16, List.replicate, am, Tok.enc]) rfl
    · intro hlt
      have hlt : a = s.length := by simp at hlt; omega
      subst hlt
      rw [List.drop_length] at hR
      have hR' : (acc, none) = R := by cases n <;> simpa [lexF] using hR
      simp only [am, amo, amc, Nat.reduceAdd, Nat.reduceEqDiff, encs_length, List.length_map, decide_true, decide_false, Tree.rec_, Nd.rec_, Word.rec_, Got.rec_]
      refine retK_intro rfl (hsub τ _ hτ) ⟨?_, rfl⟩
      simp [V.erase, eraseL, ← hR', badL, badA]
end Go.Proofs.Tryd

namespace Go.Proofs.Tryd
open Go.Am
set_option maxRecDepth 4000
set_option maxHeartbeats 4000000
def ac42 : AC := .seq (.reg [xi 2 0])
 (.seq (.reg [⟨(some 3), .own .nil [], none⟩])
 (.seq (.seq (.reg [xi 4 0])
 (.block 0 (.loop (.seq (.seq (.reg [xm 6 4, xm 7 0, xL 8 7, xb .lss 9 6 8])
 (.cond (.s 9) (.skip)
 (.exit 0)))
 (.seq (.block 1 (.seq (.reg [xm 12 0, xm 13 4, xA 3 14 12 13, xf 0 15 14, xo 16 15, xm 5 16])
 (.seq (.seq (.reg [xm 17 5, xc 79 18 [.s 17], xu .neq 19 18 0])
 (.cond (.s 19) (.seq (.seq (.reg [xm 20 3, ⟨(some 21), .own .len [(.s 20)], none⟩, xB .geq 22 21 24])
 (.cond (.s 22) (.seq (.reg [xm 23 4, xm 2 23])
 (.ret))
 (.skip)))
 (.reg [xm 24 3, xm 25 4, ⟨(some 26), .bslice 1 [(.s 25)], none⟩, ⟨(some 27), .own (.app 1) [(.s 24), (.s 26)], none⟩, xm 3 27]))
 (.skip)))
 (.seq (.reg [xm 28 5, xc 80 29 [.s 28]])
 (.cond (.s 29) (.seq (.seq (.reg [xm 30 3, ⟨(some 31), .own .len [(.s 30)], none⟩, xB .eql 32 31 0, xm 33 32, xh 33 (xm 34 0), xh 33 (xm 35 3), xh 33 (xm 36 3), ⟨(some 37), .own .len [(.s 36)], (some (33, false))⟩, xh 33 (xB .sub 38 37 1), ⟨(some 39), .own (.idx 1) [(.s 35), (.s 38)], (some (33, false))⟩, xh 33 (xo 40 39), xh 33 (xA 3 41 34 40), xh 33 (xf 0 42 41), xh 33 (xo 43 42), xh 33 (xc 79 44 [.s 43]), xh 33 (xm 45 5), xh 33 (xb .neq 46 44 45), ⟨(some 47), .pick (.s 33) (.c (.bool true)) (.s 46), none⟩])
 (.cond (.s 47) (.seq (.reg [xm 48 4, xm 2 48])
 (.ret))
 (.skip)))
 (.reg [xm 49 3, xm 50 3, ⟨(some 51), .own .len [(.s 50)], none⟩, xB .sub 52 51 1, ⟨(some 53), .own (.slc 1 false true false) [(.s 49), (.s 52)], none⟩, xm 3 53]))
 (.skip))))))
 (.reg [xm 10 4, xB .add 11 10 1, xm 4 11]))))))
 (.seq (.seq (.reg [xm 54 3, ⟨(some 55), .own .len [(.s 54)], none⟩, xB .gtr 56 55 0])
 (.cond (.s 56) (.seq (.reg [xm 57 3, xm 58 3, ⟨(some 59), .own .len [(.s 58)], none⟩, xB .sub 60 59 1, ⟨(some 61), .own (.idx 1) [(.s 57), (.s 60)], none⟩, xo 62 61, xm 2 62])
 (.ret))
 (.skip)))
 (.seq (.reg [xi 2 (-1)])
 (.ret)))))
theorem fn42 : IsFn prog 42 ac42 [.tmp 2] 63 := ⟨f42, ⟨[3, 21, 27, 31, 37, 39, 51, 53, 55, 59, 61], []⟩, func42, by kernel_rfl, by kernel_rfl, by kernel_rfl, by kernel_rfl⟩
theorem tencs_at {l : List Tok} {j : Nat} (h : j < l.length) : (l.map Tok.enc)[((j : Nat) : Int).toNat]? = some (tokN l j).enc := by simp [tokN, h]
theorem kindAt_eq {l : List Tok} {j : Nat} (h : j < l.length) : kindAt l j = (tokN l j).kind := by simp [kindAt, tokN, h]
theorem posAt_eq {l : List Tok} {j : Nat} (h : j < l.length) : posAt l j = (tokN l j).pos := by simp [posAt, tokN, h]
def oRows (o : List Nat) : List (List V) := o.map fun (j : Nat) => [.int .i64 (j : Nat)]
theorem oRows_len (o : List Nat) : (oRows o).length = o.length := by simp [oRows]
def inv59 (l : List Tok) (i : Nat) (v : V) (σ : Store) : St :=
  ⟨[.sl .no 3 (l.map Tok.enc), .any, .any, v, .int .i64 (i : Nat)] ++ List.replicate 58 .any, [], σ⟩
structure F59 (l : List Tok) (σ : Store) (R : Int) where
  n : Nat
  i : Nat
  o : List Nat
  v : V
  s : Store
  own : Own s 1 v (oRows o)
  sub : OwnS σ s v
  res : faultF l n i o = R
  sum : i + n = l.length
  le : o.length ≤ i
  mem : ∀ j ∈ o, j < l.length
theorem lastIdx {o : List Nat} (h : o ≠ []) : ∃ j, o.getLast? = some j ∧ (oRows o)[((o.length : Int) - 1).toNat]? = some [.int .i64 (j : Nat)] ∧ j ∈ o := by
  have hp : 0 < o.length := List.length_pos_iff.2 h
  refine ⟨o[o.length - 1], ?_, ?_, List.getElem_mem _⟩
  · rw [List.getLast?_eq_getElem?, List.getElem?_eq_getElem]
  · rw [show ((o.length : Int) - 1).toNat = o.length - 1 by omega]
    simp [oRows, List.getElem?_eq_getElem (show o.length - 1 < o.length by omega)]
theorem fault_calls (l : List Tok) (σ : Store) (hb : l.length + 1 ≤ big) : PCalls prog 42 [.sl .no 3 (l.map Tok.enc)] σ fun v σ' => v = .int .i64 (faultF l l.length 0 []) ∧ σ' = σ := by
  simp only [big] at hb
  generalize hR : faultF l l.length 0 [] = R
  refine fn42.calls ?_
  simp only [slots, ac42, am, ams, amo]
  refine vc_loop (fun p : F59 l σ R => inv59 l p.i p.v p.s) (fun p => p.n) ?_ ?_
  · refine Upd.enter ⟨l.length, 0, [], _, σ, Own.none, OwnS.start, hR, by simp, by simp, by simp⟩ ?_ LLLe.rfl OLe.rfl
    simp [inv59, List.replicate, am, amo]
  · rintro ⟨n, i, o, v2, σ2, hO, hS, hR, hsum, hle, hmem⟩
    simp only [inv59, List.replicate, am, amo, List.length_map]
    refine vcIf_split ?_ ?_
    · intro hlt
      have hlt : i < l.length := by simpa using hlt
      obtain ⟨m, rfl⟩ : ∃ m, n = m + 1 := ⟨n - 1, by omega⟩
      simp only [faultF] at hR
      simp only [am, amo, amc, Nat.reduceAdd, Nat.reduceEqDiff, encs_length, List.length_map, decide_true, decide_false, Tree.rec_, Nd.rec_, Word.rec_, Got.rec_]
      refine idxL_intro (by omega) (tencs_at hlt) ?_
      simp only [am, amo, amc, Nat.reduceAdd, Nat.reduceEqDiff, encs_length, List.length_map, decide_true, decide_false, Tree.rec_, Nd.rec_, Word.rec_, Got.rec_, Tok.enc]
      rw [← kindAt_eq hlt]
      refine (closing_calls (kindAt l i) _).mono ?_
      rintro v σ2 ⟨rfl, rfl⟩
      simp only [am, amo, amc, Nat.reduceAdd, Nat.reduceEqDiff, encs_length, List.length_map, decide_true, decide_false, Tree.rec_, Nd.rec_, Word.rec_, Got.rec_]
      have again : ∀ (o : List Nat) (v : V) (s : Store) (t : List V), Own s 1 v (oRows o) → OwnS σ s v → faultF l m (i + 1) o = R → o.length ≤ i + 1 → (∀ j ∈ o, j < l.length) →
          LLe t ([.sl .no 3 (l.map Tok.enc), .any, .any, v, .int .i64 ((i : Int) + 1)] ++ List.replicate 58 .any) → Upd ⟨t, [], s⟩ fun st' => ∃ j : F59 l σ R, st' = inv59 l j.i j.v j.s ∧ j.n < m + 1 := fun o v s t e1 e2 e3 e4 e5 e6 =>
        Upd.again (I := fun p : F59 l σ R => inv59 l p.i p.v p.s) (μ := fun p : F59 l σ R => p.n) ⟨m, i + 1, o, v, s, e1, e2, e3, by omega, e4, e5⟩ (by simp) (by simpa [inv59] using e6) LLLe.rfl OLe.rfl
      by_cases hc : closing (kindAt l i) = 0
      case' neg =>
        simp only [am, amo, amc, Nat.reduceAdd, Nat.reduceEqDiff, encs_length, List.length_map, decide_true, decide_false, Tree.rec_, Nd.rec_, Word.rec_, Got.rec_, decide_eq_false hc]
        refine Own.len hO ?_
        simp only [am, amo, amc, Nat.reduceAdd, Nat.reduceEqDiff, encs_length, List.length_map, decide_true, decide_false, Tree.rec_, Nd.rec_, Word.rec_, Got.rec_, oRows_len]
        by_cases h24 : 24 ≤ o.length
        · simp only [ne_eq, hc, not_false_eq_true, true_and, h24, if_true] at hR
          simp only [am, amo, amc, Nat.reduceAdd, Nat.reduceEqDiff, encs_length, List.length_map, decide_true, decide_false, Tree.rec_, Nd.rec_, Word.rec_, Got.rec_, decide_eq_true (show (24 : Int) ≤ o.length by omega)]
          refine retK_intro rfl hS.sub ⟨?_, rfl⟩
          simp [V.erase, ← hR]
        simp only [ne_eq, hc, not_false_eq_true, true_and, h24, if_false, if_true] at hR
        simp only [am, amo, amc, Nat.reduceAdd, Nat.reduceEqDiff, encs_length, List.length_map, decide_true, decide_false, Tree.rec_, Nd.rec_, Word.rec_, Got.rec_, decide_eq_false (show ¬ (24 : Int) ≤ o.length by omega)]
        refine Own.app hO (by simp) rfl (by simp [oRows_len, big]; omega) ?_
        intro v2' σ2' hO' hF
        have hS := hS.step hF
        have e : oRows o ++ [[.int .i64 (i : Nat)]] = oRows (o ++ [i]) := by simp [oRows]
        rw [e] at hO'
        have hO := hO'
        have hle : (o ++ [i]).length ≤ i + 1 := by simp; omega
        have hmem : ∀ j ∈ o ++ [i], j < l.length := fun j hj => by
          rcases List.mem_append.1 hj with h | h
          · exact hmem j h
          · simp at h; omega
        generalize hq : o ++ [i] = o2 at hO hle hmem hR
        generalize hv : v2' = v3 at hO hS
        generalize hs : σ2' = σ3 at hO hS
        simp only [am, amo, amc, Nat.reduceAdd, Nat.reduceEqDiff, encs_length, List.length_map, decide_true, decide_false, Tree.rec_, Nd.rec_, Word.rec_, Got.rec_]
      case' pos =>
        simp only [ne_eq, hc, not_true_eq_false, false_and, if_false] at hR
        have hle : o.length ≤ i + 1 := by omega
        generalize hq : o = o2 at hO hle hmem hR
        generalize hv : v2 = v3 at hO hS
        generalize hs : σ2 = σ3 at hO hS
        simp only [am, amo, amc, Nat.reduceAdd, Nat.reduceEqDiff, encs_length, List.length_map, decide_true, decide_false, Tree.rec_, Nd.rec_, Word.rec_, Got.rec_, decide_eq_true hc]
      all_goals
        refine (closes_calls (kindAt l i) _).mono ?_
        rintro v σ3 ⟨rfl, rfl⟩
        cases hcl : closesZ (kindAt l i)
        · rw [hcl] at hR
          simp only [am, amo, amc, Nat.reduceAdd, Nat.reduceEqDiff, encs_length, List.length_map, decide_true, decide_false, Tree.rec_, Nd.rec_, Word.rec_, Got.rec_]
          rw [wrap_i64 (by omega) (by omega)]
          exact again o2 v3 σ3 _ hO hS hR hle hmem (by simp [List.replicate, am])
        · rw [hcl, if_pos rfl] at hR
          simp only [am, amo, amc, Nat.reduceAdd, Nat.reduceEqDiff, encs_length, List.length_map, decide_true, decide_false, Tree.rec_, Nd.rec_, Word.rec_, Got.rec_]
          refine Own.len hO ?_
          simp only [am, amo, amc, Nat.reduceAdd, Nat.reduceEqDiff, encs_length, List.length_map, decide_true, decide_false, Tree.rec_, Nd.rec_, Word.rec_, Got.rec_, oRows_len]
          by_cases ho : o2 = []
          · rw [ho] at hR
            simp only [List.getLast?_nil] at hR
            simp only [am, amo, amc, Nat.reduceAdd, Nat.reduceEqDiff, encs_length, List.length_map, decide_true, decide_false, Tree.rec_, Nd.rec_, Word.rec_, Got.rec_, ho, List.length_nil, Int.natCast_zero]
            refine retK_intro rfl hS.sub ⟨?_, rfl⟩
            simp [V.erase, ← hR]
          · have hpos : 0 < o2.length := List.length_pos_iff.2 ho
            obtain ⟨j, hj1, hj2, hj3⟩ := lastIdx ho
            rw [hj1] at hR
            simp only at hR
            have hjl := hmem j hj3
            simp only [am, amo, amc, Nat.reduceAdd, Nat.reduceEqDiff, encs_length, List.length_map, decide_true, decide_false, Tree.rec_, Nd.rec_, Word.rec_, Got.rec_, decide_eq_false (show ¬ (o2.length : Int) = 0 by omega)]
            refine Own.len hO ?_
            simp only [am, amo, amc, Nat.reduceAdd, Nat.reduceEqDiff, encs_length, List.length_map, decide_true, decide_false, Tree.rec_, Nd.rec_, Word.rec_, Got.rec_, oRows_len]
            rw [wrap_i64 (by omega) (by omega)]
            refine Own.idx hO (by omega) hj2 ?_
            intro b cs rest _ hb1 hb2
            simp only [am, amo, amc, Nat.reduceAdd, Nat.reduceEqDiff, encs_length, List.length_map, decide_true, decide_false, Tree.rec_, Nd.rec_, Word.rec_, Got.rec_, hb1, hb2]
            refine idxL_intro (by omega) (tencs_at hjl) ?_
            simp only [am, amo, amc, Nat.reduceAdd, Nat.reduceEqDiff, encs_length, List.length_map, decide_true, decide_false, Tree.rec_, Nd.rec_, Word.rec_, Got.rec_, Tok.enc]
            rw [← kindAt_eq hjl]
            refine (closing_calls (kindAt l j) _).mono ?_
            rintro v σ3 ⟨rfl, rfl⟩
            simp only [am, amo, amc, Nat.reduceAdd, Nat.reduceEqDiff, encs_length, List.length_map, decide_true, decide_false, Tree.rec_, Nd.rec_, Word.rec_, Got.rec_]
            by_cases hck : closing (kindAt l j) = kindAt l i
            · rw [if_pos hck] at hR
              simp only [am, amo, amc, Nat.reduceAdd, Nat.reduceEqDiff, encs_length, List.length_map, decide_true, decide_false, Tree.rec_, Nd.rec_, Word.rec_, Got.rec_, decide_eq_true hck]
              refine Own.len hO ?_
              simp only [am, amo, amc, Nat.reduceAdd, Nat.reduceEqDiff, encs_length, List.length_map, decide_true, decide_false, Tree.rec_, Nd.rec_, Word.rec_, Got.rec_, oRows_len]
              rw [wrap_i64 (by omega) (by omega)]
              refine Own.take hO (by omega) (m := o2.length - 1) (by omega) (by simp [oRows_len]) ?_
              intro v4 hO4 hB
              simp only [am, amo, amc, Nat.reduceAdd, Nat.reduceEqDiff, encs_length, List.length_map, decide_true, decide_false, Tree.rec_, Nd.rec_, Word.rec_, Got.rec_]
              rw [wrap_i64 (by omega) (by omega)]
              refine again o2.dropLast v4 σ3 _ ?_ ⟨hS.sub, fun b hb => hS.new b (by rw [← hB]; exact hb)⟩ hR (by simp; omega) (fun j hj => hmem j (List.dropLast_subset _ hj)) (by simp [List.replicate, am])
              have : (oRows o2).take (o2.length - 1) = oRows o2.dropLast := by simp [oRows, List.dropLast_eq_take, List.map_take]
              rw [← this]; exact hO4
            · rw [if_neg hck] at hR
              simp only [am, amo, amc, Nat.reduceAdd, Nat.reduceEqDiff, encs_length, List.length_map, decide_true, decide_false, Tree.rec_, Nd.rec_, Word.rec_, Got.rec_, decide_eq_false hck]
              refine retK_intro rfl hS.sub ⟨?_, rfl⟩
              simp [V.erase, ← hR]
    · intro hlt
      have hlt : i = l.length := by simp at hlt; omega
      have hn : n = 0 := by omega
      subst hn
      simp only [faultF] at hR
      simp only [am, amo, amc, Nat.reduceAdd, Nat.reduceEqDiff, encs_length, List.length_map, decide_true, decide_false, Tree.rec_, Nd.rec_, Word.rec_, Got.rec_]
      refine Own.len hO ?_
      simp only [am, amo, amc, Nat.reduceAdd, Nat.reduceEqDiff, encs_length, List.length_map, decide_true, decide_false, Tree.rec_, Nd.rec_, Word.rec_, Got.rec_, oRows_len]
      by_cases ho : o = []
      · rw [ho] at hR
        simp only [List.getLast?_nil] at hR
        simp only [am, amo, amc, Nat.reduceAdd, Nat.reduceEqDiff, encs_length, List.length_map, decide_true, decide_false, Tree.rec_, Nd.rec_, Word.rec_, Got.rec_, ho, List.length_nil, Int.natCast_zero, show decide ((0 : Int) < 0) = false from rfl]
        refine retK_intro rfl hS.sub ⟨?_, rfl⟩
        simp [V.erase, ← hR]
      · have hpos : 0 < o.length := List.length_pos_iff.2 ho
        obtain ⟨j, hj1, hj2, hj3⟩ := lastIdx ho
        rw [hj1] at hR
        simp only at hR
        simp only [am, amo, amc, Nat.reduceAdd, Nat.reduceEqDiff, encs_length, List.length_map, decide_true, decide_false, Tree.rec_, Nd.rec_, Word.rec_, Got.rec_, decide_eq_true (show (0 : Int) < o.length by omega)]
        refine Own.len hO ?_
        simp only [am, amo, amc, Nat.reduceAdd, Nat.reduceEqDiff, encs_length, List.length_map, decide_true, decide_false, Tree.rec_, Nd.rec_, Word.rec_, Got.rec_, oRows_len]
        rw [wrap_i64 (by omega) (by omega)]
        refine Own.idx hO (by omega) hj2 ?_
        intro b cs rest _ hb1 hb2
        simp only [am, amo, amc, Nat.reduceAdd, Nat.reduceEqDiff, encs_length, List.length_map, decide_true, decide_false, Tree.rec_, Nd.rec_, Word.rec_, Got.rec_, hb1, hb2]
        refine retK_intro rfl hS.sub ⟨?_, rfl⟩
        simp [V.erase, ← hR]
end Go.Proofs.Tryd

namespace Go.Proofs.Tryd
open Go.Am
set_option maxRecDepth 4000
set_option maxHeartbeats 4000000
def ac14 : AC := .seq (.reg [⟨(some 2), .mv (.c (.sl .full 5 [])), none⟩, ⟨(some 3), .alloc [(.int .i64 0), (.int .i64 0)], none⟩])
 (.seq (.reg [xm 5 0, xc 42 6 [.s 5], xm 4 6])
 (.seq (.seq (.reg [xm 7 4, xB .geq 8 7 0])
 (.cond (.s 8) (.seq (.draw [(xm 9 0, []), (xm 10 4, []), (xA 3 11 9 10, []), (xf 2 12 11, []), (xo 13 12, []), (⟨(some 14), .build [(.int .i64 0), (.int .i64 0)] [(0, 1, (.c (.int .i64 2))), (1, 1, (.s 13))], none⟩, []), (⟨(some 2), .mv (.c (.sl .full 5 [])), none⟩, []), (xs 2 3 14, [])])
 (.ret))
 (.skip)))
 (.seq (.reg [xm 15 0, xm 16 0, xL 17 16, xc 43 18 [.s 15, .c (.int .i64 0), .s 17], ⟨(some 19), .build [(.int .i64 0), (.int .i64 0)] [], none⟩, xm 2 18, xs 2 3 19])
 (.ret))))
theorem fn14 : IsFn prog 14 ac14 [.tmp 2, .cell 3 true 2] 20 := ⟨f14, ⟨[], []⟩, func14, by kernel_rfl, by kernel_rfl, by kernel_rfl, by kernel_rfl⟩
def ac43 : AC := .seq (.reg [⟨(some 6), .mv (.c (.sl .full 5 [])), none⟩])
 (.seq (.reg [⟨(some 7), .mv (.c (.sl .full 5 [])), none⟩])
 (.seq (.seq (.reg [xm 11 1, xm 8 11])
 (.block 0 (.loop (.seq (.seq (.reg [xm 12 8, xm 13 2, xb .lss 14 12 13])
 (.cond (.s 14) (.skip)
 (.exit 0)))
 (.seq (.block 1 (.seq (.draw [(xm 17 0, []), (xm 18 8, []), (xA 3 19 17 18, []), (xl 3 20 19, [1]), (xm 21 0, []), (xm 22 8, []), (xA 3 23 21 22, []), (xf 2 24 23, []), (xo 25 24, [1]), (⟨(some 26), .build [(.int .u8 0), (.str []), (.int .i64 0), (.sl .full 5 []), (.int .i64 0)] [(0, 3, (.s 20)), (4, 1, (.s 25))], none⟩, []), (⟨(some 9), .alloc [(.int .u8 0), (.str []), (.int .i64 0), (.sl .full 5 []), (.int .i64 0)], none⟩, []), (xs 5 9 26, [])])
 (.seq (.seq (.reg [xm 27 0, xm 28 8, xA 3 29 27 28, xf 0 30 29, xo 31 30, xc 79 32 [.s 31], xu .neq 33 32 0])
 (.cond (.s 33) (.seq (.reg [xm 34 0, xm 35 8, xc 81 36 [.s 34, .s 35], xm 10 36])
 (.seq (.reg [xm 37 0, xm 38 8, xB .add 39 38 1, xm 40 10, xc 43 41 [.s 37, .s 39, .s 40], xf 3 42 9, xs 1 42 41])
 (.seq (.reg [xm 43 0, xm 44 10, xA 3 45 43 44, xf 2 46 45, xo 47 46, xf 4 48 9, xs 1 48 47])
 (.reg [xm 49 10, xm 8 49]))))
 (.skip)))
 (.reg [xm 50 7, xl 5 51 9, ⟨(some 52), .bslice 5 [(.s 51)], none⟩, xa 5 53 50 52, xm 7 53]))))
 (.reg [xm 15 8, xB .add 16 15 1, xm 8 16]))))))
 (.seq (.reg [xm 54 7, xm 6 54])
 (.ret))))
theorem fn43 : IsFn prog 43 ac43 [.tmp 6] 55 := ⟨f43, ⟨[], []⟩, func43, by kernel_rfl, by kernel_rfl, by kernel_rfl, by kernel_rfl⟩
def ac81 : AC := .seq (.reg [xi 4 0])
 (.seq (.reg [xi 5 0])
 (.seq (.seq (.reg [xm 7 1, xm 6 7])
 (.block 0 (.loop (.seq (.seq (.reg [xm 8 6, xm 9 0, xL 10 9, xb .lss 11 8 10])
 (.cond (.s 11) (.skip)
 (.exit 0)))
 (.seq (.block 1 (.seq (.seq (.reg [xm 14 0, xm 15 6, xA 3 16 14 15, xf 0 17 16, xo 18 17, xc 79 19 [.s 18], xu .neq 20 19 0])
 (.cond (.s 20) (.reg [xm 21 5, xB .add 22 21 1, xm 5 22])
 (.skip)))
 (.seq (.seq (.reg [xm 23 0, xm 24 6, xA 3 25 23 24, xf 0 26 25, xo 27 26, xc 80 28 [.s 27]])
 (.cond (.s 28) (.reg [xm 29 5, xB .sub 30 29 1, xm 5 30])
 (.skip)))
 (.seq (.reg [xm 31 5, xB .eql 32 31 0])
 (.cond (.s 32) (.seq (.reg [xm 33 6, xm 4 33])
 (.ret))
 (.skip))))))
 (.reg [xm 12 6, xB .add 13 12 1, xm 6 13]))))))
 (.seq (.reg [xm 34 1, xm 4 34])
 (.ret))))
theorem fn81 : IsFn prog 81 ac81 [.tmp 4] 35 := ⟨f81, ⟨[], []⟩, func81, by kernel_rfl, by kernel_rfl, by kernel_rfl, by kernel_rfl⟩
def inv83 (l : List Tok) (a i : Nat) (d : Int) (σ : Store) : St :=
  ⟨[.sl .no 3 (l.map Tok.enc), .int .i64 (a : Nat), .any, .any, .any, .int .i64 d, .int .i64 (i : Nat)] ++ List.replicate 28 .any, [], σ⟩
theorem partner_calls (l : List Tok) (a : Nat) (σ : Store) (ha : a < l.length) (hb : l.length + 1 ≤ big) : PCalls prog 81 [.sl .no 3 (l.map Tok.enc), .int .i64 (a : Nat)] σ fun v σ' => v = .int .i64 (partner l a : Nat) ∧ σ' = σ := by
  simp only [big] at hb
  generalize hR : partner l a = R
  unfold partner at hR
  refine fn81.calls ?_
  simp only [slots, ac81, am, amo, amc, ams, Nat.reduceAdd, Nat.reduceEqDiff, decide_true, decide_false, Tree.rec_, Nd.rec_, Word.rec_, Got.rec_]
  refine vc_loop (fun p : { p : Nat × Nat × Int // partnerF l a p.1 p.2.1 p.2.2 = R ∧ p.2.1 + p.1 = l.length ∧ p.2.2 ≤ p.2.1 ∧ -(p.2.1 : Int) ≤ p.2.2 } => inv83 l a p.1.2.1 p.1.2.2 σ) (fun p => p.1.1) ?_ ?_
  · refine Upd.enter ⟨(l.length - a, a, 0), hR, by simp only; omega, by simp, by simp⟩ ?_ LLLe.rfl OLe.rfl
    simp [inv83, List.replicate, am]
  · rintro ⟨⟨n, i, d⟩, hR, hsum, hd1, hd2⟩
    simp only at hR hsum hd1 hd2
    simp only [inv83, List.replicate, am, List.length_map]
    refine vcIf_split ?_ ?_
    · intro hlt
      have hlt : i < l.length := by simpa using hlt
      obtain ⟨m, rfl⟩ : ∃ m, n = m + 1 := ⟨n - 1, by omega⟩
      simp only [partnerF] at hR
      simp only [am, amo, amc, Nat.reduceAdd, Nat.reduceEqDiff, encs_length, List.length_map, decide_true, decide_false, Tree.rec_, Nd.rec_, Word.rec_, Got.rec_]
      refine idxL_intro (by omega) (tencs_at hlt) ?_
      simp only [am, amo, amc, Nat.reduceAdd, Nat.reduceEqDiff, encs_length, List.length_map, decide_true, decide_false, Tree.rec_, Nd.rec_, Word.rec_, Got.rec_, Tok.enc]
      rw [← kindAt_eq hlt]
      refine (closing_calls (kindAt l i) _).mono ?_
      rintro v σ ⟨rfl, rfl⟩
      simp only [am, amo, amc, Nat.reduceAdd, Nat.reduceEqDiff, encs_length, List.length_map, decide_true, decide_false, Tree.rec_, Nd.rec_, Word.rec_, Got.rec_]
      have again : ∀ (d' : Int) (t : List V), (if d' = 0 then i else partnerF l a m (i + 1) d') = R → ¬ d' = 0 → d' ≤ (i : Int) + 1 → -((i : Int) + 1) ≤ d' →
          LLe t ([.sl .no 3 (l.map Tok.enc), .int .i64 (a : Nat), .any, .any, .any, .int .i64 d', .int .i64 ((i : Int) + 1)] ++ List.replicate 28 .any) →
          Upd ⟨t, [], σ⟩ fun st' => ∃ j : { p : Nat × Nat × Int // partnerF l a p.1 p.2.1 p.2.2 = R ∧ p.2.1 + p.1 = l.length ∧ p.2.2 ≤ p.2.1 ∧ -(p.2.1 : Int) ≤ p.2.2 }, st' = inv83 l a j.1.2.1 j.1.2.2 σ ∧ j.1.1 < m + 1 := fun d' t e1 e2 e3 e4 e5 =>
        Upd.again (I := fun p : { p : Nat × Nat × Int // partnerF l a p.1 p.2.1 p.2.2 = R ∧ p.2.1 + p.1 = l.length ∧ p.2.2 ≤ p.2.1 ∧ -(p.2.1 : Int) ≤ p.2.2 } => inv83 l a p.1.2.1 p.1.2.2 σ) (μ := fun p => p.1.1)
          ⟨(m, i + 1, d'), by rw [if_neg e2] at e1; exact e1, by simp only; omega, by simp only; omega, by simp only; omega⟩ (by simp) (by simpa [inv83] using e5) LLLe.rfl OLe.rfl
      have w1 : IntKind.i64.wrap (d + 1) = d + 1 := wrap_i64 (by omega) (by omega)
      have w2 : IntKind.i64.wrap (d - 1) = d - 1 := wrap_i64 (by omega) (by omega)
      have w3 : IntKind.i64.wrap (d + 1 - 1) = d + 1 - 1 := wrap_i64 (by omega) (by omega)
      have wi : IntKind.i64.wrap ((i : Int) + 1) = (i : Int) + 1 := wrap_i64 (by omega) (by omega)
      by_cases hc : closing (kindAt l i) = 0
      case' neg =>
        simp only [ne_eq, hc, not_false_eq_true, if_true] at hR
        simp only [am, amo, amc, Nat.reduceAdd, Nat.reduceEqDiff, encs_length, List.length_map, decide_true, decide_false, Tree.rec_, Nd.rec_, Word.rec_, Got.rec_, decide_eq_false hc, w1]
      case' pos =>
        simp only [ne_eq, hc, not_true_eq_false, if_false, Int.add_zero] at hR
        simp only [am, amo, amc, Nat.reduceAdd, Nat.reduceEqDiff, encs_length, List.length_map, decide_true, decide_false, Tree.rec_, Nd.rec_, Word.rec_, Got.rec_, decide_eq_true hc]
      all_goals
        refine idxL_intro (by omega) (tencs_at hlt) ?_
        simp only [am, amo, amc, Nat.reduceAdd, Nat.reduceEqDiff, encs_length, List.length_map, decide_true, decide_false, Tree.rec_, Nd.rec_, Word.rec_, Got.rec_, Tok.enc]
        rw [← kindAt_eq hlt]
        refine (closes_calls (kindAt l i) _).mono ?_
        rintro v σ ⟨rfl, rfl⟩
        cases hcl : closesZ (kindAt l i)
        all_goals rw [hcl] at hR
        all_goals simp only [Bool.false_eq_true, if_false, if_true, Int.sub_zero] at hR
        all_goals simp only [am, w2, w3]
        all_goals refine vcIf_split (fun h0 => ?_) (fun h0 => ?_)
        all_goals simp only [decide_eq_true_eq, decide_eq_false_iff_not] at h0
        all_goals simp only [am, wi]
        all_goals first
          | (rw [if_pos h0] at hR
             refine retK_intro rfl (Store.sub_refl _) ⟨?_, rfl⟩
             simp [V.erase, hR])
          | exact again d _ hR h0 (by omega) (by omega) (by simp [List.replicate, am])
          | exact again (d + 1) _ hR h0 (by omega) (by omega) (by simp [List.replicate, am])
          | exact again (d - 1) _ hR h0 (by omega) (by omega) (by simp [List.replicate, am])
          | exact again (d + 1 - 1) _ hR h0 (by omega) (by omega) (by simp [List.replicate, am])
    · intro hlt
      have hlt : i = l.length := by simp at hlt; omega
      have hn : n = 0 := by omega
      subst hn
      simp only [partnerF] at hR
      simp only [am, amo, amc, Nat.reduceAdd, Nat.reduceEqDiff, encs_length, List.length_map, decide_true, decide_false, Tree.rec_, Nd.rec_, Word.rec_, Got.rec_]
      refine retK_intro rfl (Store.sub_refl _) ⟨?_, rfl⟩
      simp [V.erase, eraseL, hR]
def inv60 (l : List Tok) (a : Nat) (to : Nat) (i τ : Nat) (out : List Tree) (σ : Store) : St :=
  ⟨[.sl .no 3 (l.map Tok.enc), .int .i64 (a : Nat), .int .i64 (to : Nat), .any, .any, .any, .any, .sl (.tk τ) 5 (encs out), .int .i64 (i : Nat)] ++ List.replicate 46 .any, [], σ.setTip τ out.length⟩
theorem encs_snoc (a : List Tree) (t : Tree) : encs (a ++ [t]) = encs a ++ [t.enc] := by simp [encs_map]
theorem Tree.enc_mk {t : Tok} {ks : List Tree} {e : Int} : (Tree.mk t ks e).enc = [.int .u8 t.kind, .str t.text, .int .i64 t.pos, .sl .no 5 (encs ks), .int .i64 e] := by simp [Tree.enc]
theorem trees_calls (l : List Tok) (hb : l.length + 1 ≤ big) : ∀ (n from_ to : Nat) (σ : Store), l.length ≤ n + from_ → from_ ≤ l.length → to ≤ l.length →
    PCalls prog 43 [.sl .no 3 (l.map Tok.enc), .int .i64 (from_ : Nat), .int .i64 (to : Nat)] σ fun v σ' => v = .sl .no 5 (encs (treesF l n from_ to)) ∧ σ' = σ := by
  have hb' := hb
  simp only [big] at hb'
  intro n
  induction n using Nat.strongRecOn with
  | ind n ih =>
  intro a to σ hn ha hto
  generalize hR : treesF l n a to = R
  refine fn43.calls ?_
  simp only [slots, ac43, am, amo, amc, ams, Nat.reduceAdd, Nat.reduceEqDiff, decide_true, decide_false, Tree.rec_, Nd.rec_, Word.rec_, Got.rec_]
  refine vc_loop (fun p : { p : Nat × Nat × Nat × List Tree // σ.tip p.2.2.1 = none ∧ p.2.2.2 ++ treesF l p.1 p.2.1 to = R ∧ p.1 ≤ n ∧ l.length ≤ p.1 + p.2.1 ∧ p.2.1 ≤ l.length ∧ p.2.2.2.length ≤ p.2.1 } => inv60 l a to p.1.2.1 p.1.2.2.1 p.1.2.2.2 σ) (fun p => l.length - p.1.2.1) ?_ ?_
  · refine Upd.tokEnter 0 fun τ hτ => ⟨⟨(n, a, τ, []), hτ, hR, by simp, hn, ha, by simp⟩, ?_, rfl, rfl⟩
    simp [inv60, List.replicate, lto, encs]
  · rintro ⟨⟨m, i, τ, out⟩, hτ, hR, hmn, hmi, hi, hol⟩
    simp only at hτ hR hmn hmi hi hol
    simp only [inv60, List.replicate, am]
    refine vcIf_split ?_ ?_
    · intro hlt
      have hlt : i < to := by simpa using hlt
      have hil : i < l.length := by omega
      obtain ⟨m, rfl⟩ : ∃ k, m = k + 1 := ⟨m - 1, by omega⟩
      simp only [treesF, hlt, if_true] at hR
      obtain ⟨hp1, hp2⟩ := partner_ge hil
      have wi : ∀ j : Nat, j < l.length → IntKind.i64.wrap ((j : Int) + 1) = ((j + 1 : Nat) : Int) := fun j hj => by rw [wrap_i64 (by omega) (by omega)]; simp
      simp only [am, amo, amc, Nat.reduceAdd, Nat.reduceEqDiff, encs_length, List.length_map, decide_true, decide_false, Tree.rec_, Nd.rec_, Word.rec_, Got.rec_]
      refine idxL_intro (by omega) (tencs_at hil) ?_
      simp only [am, amo, amc, Nat.reduceAdd, Nat.reduceEqDiff, encs_length, List.length_map, decide_true, decide_false, Tree.rec_, Nd.rec_, Word.rec_, Got.rec_, Tok.enc]
      refine idxL_intro (by omega) (tencs_at hil) ?_
      simp only [am, amo, amc, Nat.reduceAdd, Nat.reduceEqDiff, encs_length, List.length_map, decide_true, decide_false, Tree.rec_, Nd.rec_, Word.rec_, Got.rec_, Tok.enc]
      refine idxL_intro (by omega) (tencs_at hil) ?_
      simp only [am, amo, amc, Nat.reduceAdd, Nat.reduceEqDiff, encs_length, List.length_map, decide_true, decide_false, Tree.rec_, Nd.rec_, Word.rec_, Got.rec_, Tok.enc]
      rw [← kindAt_eq hil, ← posAt_eq hil]
      refine (closing_calls (kindAt l i) _).mono ?_
      rintro v σ2 ⟨rfl, rfl⟩
      have again : ∀ (b : Nat) (t : Tree) (st : List V) (ls : List (List V)), out ++ (t :: treesF l m b to) = R → i < b → b ≤ l.length →
          LLe st ([.sl .no 3 (l.map Tok.enc), .int .i64 (a : Nat), .int .i64 (to : Nat), .any, .any, .any, .any, .sl (.tk τ) 5 (encs (out ++ [t])), .int .i64 (b : Nat)] ++ List.replicate 46 .any) →
          Upd ⟨st, ls, σ.setTip τ (out.length + 1)⟩ fun st' => ∃ j : { p : Nat × Nat × Nat × List Tree // σ.tip p.2.2.1 = none ∧ p.2.2.2 ++ treesF l p.1 p.2.1 to = R ∧ p.1 ≤ n ∧ l.length ≤ p.1 + p.2.1 ∧ p.2.1 ≤ l.length ∧ p.2.2.2.length ≤ p.2.1 }, st' = inv60 l a to j.1.2.1 j.1.2.2.1 j.1.2.2.2 σ ∧ l.length - j.1.2.1 < l.length - i := fun b t st ls e1 e2 e3 e4 => by
        have e : out.length + 1 = (out ++ [t]).length := by simp
        rw [e]
        exact Upd.againD (I := fun p : { p : Nat × Nat × Nat × List Tree // σ.tip p.2.2.1 = none ∧ p.2.2.2 ++ treesF l p.1 p.2.1 to = R ∧ p.1 ≤ n ∧ l.length ≤ p.1 + p.2.1 ∧ p.2.1 ≤ l.length ∧ p.2.2.2.length ≤ p.2.1 } => inv60 l a to p.1.2.1 p.1.2.2.1 p.1.2.2.2 σ) (μ := fun p => l.length - p.1.2.1)
          ⟨(m, b, τ, out ++ [t]), hτ, by simpa using e1, by simp only; omega, by simp only; omega, e3, by simp; omega⟩ (by simp; omega) e4 (by simp [inv60, am]) OLe.rfl rfl rfl
      by_cases hc : closing (kindAt l i) = 0
      · simp only [ne_eq, hc, not_true_eq_false, if_false] at hR
        simp only [am, amo, amc, Nat.reduceAdd, Nat.reduceEqDiff, encs_length, List.length_map, decide_true, decide_false, Tree.rec_, Nd.rec_, Word.rec_, Got.rec_, decide_eq_true hc]
        refine app_tk (by simp [encs_length, big]; omega) (by rw [encs_length, setTip_tip_same]) ?_
        simp only [am, amo, amc, Nat.reduceAdd, Nat.reduceEqDiff, encs_length, List.length_map, decide_true, decide_false, Tree.rec_, Nd.rec_, Word.rec_, Got.rec_, setTip_setTip, wi i hil]
        exact again (i + 1) _ _ _ hR (by omega) (by omega) (by simp [List.replicate, am, encs_snoc, Tree.enc_mk, encs, kindAt_eq hil, posAt_eq hil])
      · simp only [ne_eq, hc, not_false_eq_true, if_true] at hR
        simp only [am, amo, amc, Nat.reduceAdd, Nat.reduceEqDiff, encs_length, List.length_map, decide_true, decide_false, Tree.rec_, Nd.rec_, Word.rec_, Got.rec_, decide_eq_false hc]
        refine (partner_calls l i _ hil hb).mono ?_
        rintro v σ2 ⟨rfl, rfl⟩
        simp only [am, amo, amc, Nat.reduceAdd, Nat.reduceEqDiff, encs_length, List.length_map, decide_true, decide_false, Tree.rec_, Nd.rec_, Word.rec_, Got.rec_, wi i hil]
        refine (ih m (by omega) (i + 1) (partner l i) _ (by omega) (by omega) (by omega)).mono ?_
        rintro v σ2 ⟨rfl, rfl⟩
        simp only [am, amo, amc, Nat.reduceAdd, Nat.reduceEqDiff, encs_length, List.length_map, decide_true, decide_false, Tree.rec_, Nd.rec_, Word.rec_, Got.rec_]
        refine idxL_intro (by omega) (tencs_at hp2) ?_
        simp only [am, amo, amc, Nat.reduceAdd, Nat.reduceEqDiff, encs_length, List.length_map, decide_true, decide_false, Tree.rec_, Nd.rec_, Word.rec_, Got.rec_, Tok.enc]
        rw [← posAt_eq hp2]
        refine app_tk (by simp [encs_length, big]; omega) (by rw [encs_length, setTip_tip_same]) ?_
        simp only [am, amo, amc, Nat.reduceAdd, Nat.reduceEqDiff, encs_length, List.length_map, decide_true, decide_false, Tree.rec_, Nd.rec_, Word.rec_, Got.rec_, setTip_setTip, wi _ hp2]
        exact again (partner l i + 1) _ _ _ hR (by omega) (by omega) (by simp [List.replicate, am, encs_snoc, Tree.enc_mk, encs, kindAt_eq hil, posAt_eq hil])
    · intro hlt
      have hlt : ¬ i < to := by simp at hlt; omega
      have hE : treesF l m i to = [] := by cases m <;> simp [treesF, hlt]
      rw [hE, List.append_nil] at hR
      simp only [am, amo, amc, Nat.reduceAdd, Nat.reduceEqDiff, encs_length, List.length_map, decide_true, decide_false, Tree.rec_, Nd.rec_, Word.rec_, Got.rec_]
      refine retK_intro rfl (sub_tip hτ) ⟨?_, rfl⟩
      simp [V.erase, ← hR]
theorem tree_calls (l : List Tok) (σ : Store) (hb : l.length + 1 ≤ big) : PCalls prog 14 [.sl .no 3 (l.map Tok.enc)] σ fun v σ' => v = .tup [.sl .no 5 (encs (treeR l).1), fenc (treeR l).2] ∧ σ' = σ := by
  refine fn14.calls ?_
  simp only [slots, ac14, am, amo, amc, ams, Nat.reduceAdd, Nat.reduceEqDiff, decide_true, decide_false, Tree.rec_, Nd.rec_, Word.rec_, Got.rec_]
  refine (fault_calls l σ hb).mono ?_
  rintro v σ ⟨rfl, rfl⟩
  have hf := faultF_lt l l.length 0 [] (by omega) (by simp)
  generalize hg : faultF l l.length 0 [] = f at hf ⊢
  by_cases h0 : 0 ≤ f
  · obtain ⟨j, rfl⟩ := Int.eq_ofNat_of_zero_le h0
    have hj : j < l.length := by omega
    simp only [am, amo, amc, Nat.reduceAdd, Nat.reduceEqDiff, encs_length, List.length_map, decide_true, decide_false, Tree.rec_, Nd.rec_, Word.rec_, Got.rec_, decide_eq_true h0]
    refine idxL_intro (by omega) (tencs_at hj) ?_
    simp only [am, amo, amc, Nat.reduceAdd, Nat.reduceEqDiff, encs_length, List.length_map, decide_true, decide_false, Tree.rec_, Nd.rec_, Word.rec_, Got.rec_, Tok.enc]
    rw [← posAt_eq hj]
    refine retK_intro rfl (Store.sub_refl _) ⟨?_, rfl⟩
    simp [V.erase, eraseL, treeR, hg, fenc, badC, badA, encs]
  · simp only [am, amo, amc, Nat.reduceAdd, Nat.reduceEqDiff, encs_length, List.length_map, decide_true, decide_false, Tree.rec_, Nd.rec_, Word.rec_, Got.rec_, decide_eq_false h0]
    refine (trees_calls l hb l.length 0 l.length σ (by omega) (by omega) (by omega)).mono ?_
    rintro v σ ⟨rfl, rfl⟩
    simp only [am, amo, amc, Nat.reduceAdd, Nat.reduceEqDiff, encs_length, List.length_map, decide_true, decide_false, Tree.rec_, Nd.rec_, Word.rec_, Got.rec_]
    refine retK_intro rfl (Store.sub_refl _) ⟨?_, rfl⟩
    simp [V.erase, eraseL, treeR, hg, h0, fenc, badC, badA]
end Go.Proofs.Tryd

namespace Go.Proofs.Tryd
open Go.Am
set_option maxRecDepth 4000
set_option maxHeartbeats 4000000
def ac17 : AC := .seq (.reg [⟨(some 2), .mv (.c (.sl .full 5 [])), none⟩, ⟨(some 3), .alloc [(.int .i64 0), (.int .i64 0)], none⟩])
 (.seq (.reg [⟨(some 4), .mv (.c (.sl .full 4 [])), none⟩])
 (.seq (.reg [⟨(some 5), .mv (.c (.sl .full 5 [])), none⟩])
 (.seq (.seq (.reg [xm 11 0, xL 12 11, xi 13 0])
 (.block 0 (.loop (.seq (.reg [xb .lss 14 13 12])
 (.seq (.cond (.s 14) (.skip)
 (.exit 0))
 (.seq (.block 1 (.seq (.reg [xA 3 15 11 13, xl 3 16 15, ⟨(some 7), .alloc [(.int .u8 0), (.str []), (.int .i64 0)], none⟩, xs 3 7 16])
 (.seq (.reg [xm 17 4, xL 18 17, xm 8 18])
 (.block 2 (.seq (.reg [xf 0 27 7, xo 28 27, xc 52 29 [.s 28], xu .neq 30 29 0, xm 26 30])
 (.cond (.s 26) (.seq (.seq (.reg [xm 31 8, xB .geq 32 31 24])
 (.cond (.s 32) (.seq (.reg [xl 3 33 7, xc 53 34 [.s 33], xe 35 34 0, xe 36 34 1, xm 2 35, xs 2 3 36])
 (.ret))
 (.skip)))
 (.seq (.reg [xm 37 4, xl 3 38 7, xm 39 5, ⟨(some 40), .build [(.int .u8 0), (.str []), (.int .i64 0), (.sl .full 5 [])] [(0, 3, (.s 38)), (3, 1, (.s 39))], none⟩, ⟨(some 41), .own (.keep 4) [(.s 40)], none⟩, xa 4 42 37 41, xm 4 42])
 (.reg [⟨(some 5), .mv (.c (.sl .full 5 [])), none⟩])))
 (.seq (.reg [xf 0 44 7, xo 45 44, xc 54 46 [.s 45], xm 43 46])
 (.cond (.s 43) (.seq (.seq (.draw [(xm 47 8, []), (xB .eql 48 47 0, []), (xm 49 48, []), (xh 49 (xm 50 4), []), (xh 49 (xm 51 8), []), (xh 49 (xB .sub 52 51 1), []), (xh 49 (xA 4 53 50 52), []), (xh 49 (xf 0 54 53), []), (xh 49 (xf 0 55 54), []), (xh 49 (xo 56 55), []), (xh 49 (xc 52 57 [.s 56]), []), (xh 49 (xf 0 58 7), []), (xh 49 (xo 59 58), [0]), (xh 49 (xb .neq 60 57 59), []), (⟨(some 61), .pick (.s 49) (.c (.bool true)) (.s 60), none⟩, [])])
 (.cond (.s 61) (.seq (.reg [xl 3 62 7, xc 53 63 [.s 62], xe 64 63 0, xe 65 63 1, xm 2 64, xs 2 3 65])
 (.ret))
 (.skip)))
 (.seq (.reg [xm 66 4, xm 67 8, xB .sub 68 67 1, xA 4 69 66 68, xl 4 70 69, ⟨(some 9), .alloc [(.int .u8 0), (.str []), (.int .i64 0), (.sl .full 5 [])], none⟩, xs 4 9 70])
 (.seq (.reg [xm 71 4, xm 72 8, xB .sub 73 72 1, xm 74 8, xB .sub 75 74 1, ⟨(some 76), .slc 4 (.s 71) none (some (.s 73)) (some (.s 75)), none⟩, xm 4 76])
 (.reg [xf 3 77 9, xo 78 77, xf 0 79 9, xl 3 80 79, xm 81 5, xf 2 82 7, xo 83 82, ⟨(some 84), .build [(.int .u8 0), (.str []), (.int .i64 0), (.sl .full 5 []), (.int .i64 0)] [(0, 3, (.s 80)), (3, 1, (.s 81)), (4, 1, (.s 83))], none⟩, ⟨(some 85), .bslice 5 [(.s 84)], none⟩, xa 5 86 78 85, xm 5 86]))))
 (.reg [xm 19 5, xl 3 20 7, xf 2 21 7, xo 22 21, ⟨(some 23), .build [(.int .u8 0), (.str []), (.int .i64 0), (.sl .full 5 []), (.int .i64 0)] [(0, 3, (.s 20)), (4, 1, (.s 22))], none⟩, ⟨(some 24), .bslice 5 [(.s 23)], none⟩, xa 5 25 19 24, xm 5 25])))))))))
 (.reg [xB .add 87 13 1, xm 13 87])))))))
 (.seq (.seq (.reg [xm 88 4, xL 89 88, xm 10 89])
 (.seq (.reg [xm 90 10, xB .gtr 91 90 0])
 (.cond (.s 91) (.seq (.reg [xm 92 4, xm 93 10, xB .sub 94 93 1, xA 4 95 92 94, xf 0 96 95, xl 3 97 96, xc 53 98 [.s 97], xe 99 98 0, xe 100 98 1, xm 2 99, xs 2 3 100])
 (.ret))
 (.skip))))
 (.seq (.reg [xm 101 5, ⟨(some 102), .build [(.int .i64 0), (.int .i64 0)] [], none⟩, xm 2 101, xs 2 3 102])
 (.ret))))))
theorem fn17 : IsFn prog 17 ac17 [.tmp 2, .cell 3 true 2] 103 := ⟨f17, ⟨[41], []⟩, func17, by kernel_rfl, by kernel_rfl, by kernel_rfl, by kernel_rfl⟩
def ac52 : AC := .seq (.reg [⟨(some 2), .mv (.c (.int .u8 0)), none⟩])
 (.seq (.reg [⟨(some 3), .mv (.c (.int .u8 0)), none⟩])
 (.seq (.seq (.reg [xm 4 0])
 (.block 0 (.seq (.block 2 (.seq (.block 1 (.seq (.seq (.seq (.seq (.reg [xu .eql 6 4 123, xm 5 6])
 (.cond (.s 5) (.skip)
 (.reg [xu .eql 7 4 91, xm 5 7])))
 (.cond (.s 5) (.exit 1)
 (.skip)))
 (.seq (.reg [xu .eql 9 4 40, xm 8 9])
 (.cond (.s 8) (.exit 2)
 (.skip))))
 (.exit 0)))
 (.reg [xm 10 3, xu .add 11 10 1, xm 3 11])))
 (.seq (.seq (.reg [xm 12 0, xu .add 13 12 1, xm 14 3, xb .add 15 13 14, xm 2 15])
 (.ret))
 (.exit 0)))))
 (.seq (.reg [⟨(some 2), .mv (.c (.int .u8 0)), none⟩])
 (.ret))))
theorem fn52 : IsFn prog 52 ac52 [.tmp 2] 16 := ⟨f52, ⟨[], []⟩, func52, by kernel_rfl, by kernel_rfl, by kernel_rfl, by kernel_rfl⟩
def ac53 : AC := .seq (.reg [⟨(some 1), .box 3 (.s 0), none⟩, ⟨(some 2), .mv (.c (.sl .full 5 [])), none⟩, ⟨(some 3), .alloc [(.int .i64 0), (.int .i64 0)], none⟩])
 (.seq (.draw [(xf 2 4 1, []), (xo 5 4, []), (⟨(some 6), .build [(.int .i64 0), (.int .i64 0)] [(0, 1, (.c (.int .i64 2))), (1, 1, (.s 5))], none⟩, []), (⟨(some 2), .mv (.c (.sl .full 5 [])), none⟩, []), (xs 2 3 6, [])])
 (.ret))
theorem fn53 : IsFn prog 53 ac53 [.tmp 2, .cell 3 true 2] 7 := ⟨f53, ⟨[], []⟩, func53, by kernel_rfl, by kernel_rfl, by kernel_rfl, by kernel_rfl⟩
def ac54 : AC := .seq (.reg [⟨(some 2), .mv (.c (.bool false)), none⟩])
 (.seq (.reg [xm 3 0, xu .eql 4 3 41, xm 5 4, xh 5 (xm 6 0), xh 5 (xu .eql 7 6 125), ⟨(some 8), .pick (.s 5) (.c (.bool true)) (.s 7), none⟩, xm 9 8, xh 9 (xm 10 0), xh 9 (xu .eql 11 10 93), ⟨(some 12), .pick (.s 9) (.c (.bool true)) (.s 11), none⟩, xm 2 12])
 (.ret))
theorem fn54 : IsFn prog 54 ac54 [.tmp 2] 13 := ⟨f54, ⟨[], []⟩, func54, by kernel_rfl, by kernel_rfl, by kernel_rfl, by kernel_rfl⟩
theorem closer_calls (c : Int) (σ : Store) : PCalls prog 52 [.int .u8 c] σ fun v σ' => v = .int .u8 (closing c) ∧ σ' = σ := by
  refine fn52.calls ?_
  simp only [slots, ac52, am, amo, amc, ams, Nat.reduceAdd, Nat.reduceEqDiff, decide_true, decide_false, Tree.rec_, Nd.rec_, Word.rec_, Got.rec_]
  by_cases h1 : c = 123
  · subst h1
    simp only [am, amo, amc, Nat.reduceAdd, Nat.reduceEqDiff, encs_length, List.length_map, decide_true, decide_false, Tree.rec_, Nd.rec_, Word.rec_, Got.rec_, show decide ((123 : Int) = 123) = true from rfl]
    refine retK_intro rfl (Store.sub_refl _) ⟨?_, rfl⟩
    simp [V.erase, eraseL]
    rfl
  · simp only [am, amo, amc, Nat.reduceAdd, Nat.reduceEqDiff, encs_length, List.length_map, decide_true, decide_false, Tree.rec_, Nd.rec_, Word.rec_, Got.rec_, decide_eq_false h1]
    by_cases h2 : c = 91
    · subst h2
      simp only [am, amo, amc, Nat.reduceAdd, Nat.reduceEqDiff, encs_length, List.length_map, decide_true, decide_false, Tree.rec_, Nd.rec_, Word.rec_, Got.rec_, show decide ((91 : Int) = 91) = true from rfl]
      refine retK_intro rfl (Store.sub_refl _) ⟨?_, rfl⟩
      simp [V.erase, eraseL]
      rfl
    · simp only [am, amo, amc, Nat.reduceAdd, Nat.reduceEqDiff, encs_length, List.length_map, decide_true, decide_false, Tree.rec_, Nd.rec_, Word.rec_, Got.rec_, decide_eq_false h2]
      by_cases h3 : c = 40
      · subst h3
        simp only [am, amo, amc, Nat.reduceAdd, Nat.reduceEqDiff, encs_length, List.length_map, decide_true, decide_false, Tree.rec_, Nd.rec_, Word.rec_, Got.rec_, show decide ((40 : Int) = 40) = true from rfl]
        refine retK_intro rfl (Store.sub_refl _) ⟨?_, rfl⟩
        simp [V.erase, eraseL]
        rfl
      · simp only [am, amo, amc, Nat.reduceAdd, Nat.reduceEqDiff, encs_length, List.length_map, decide_true, decide_false, Tree.rec_, Nd.rec_, Word.rec_, Got.rec_, decide_eq_false h3]
        refine retK_intro rfl (Store.sub_refl _) ⟨?_, rfl⟩
        simp [V.erase, eraseL, closing, h1, h2, h3]
theorem closesP_calls (c : Int) (σ : Store) : PCalls prog 54 [.int .u8 c] σ fun v σ' => v = .bool (closesZ c) ∧ σ' = σ := by
  refine fn54.calls ?_
  simp only [slots, ac54, am, amo, amc, ams, Nat.reduceAdd, Nat.reduceEqDiff, decide_true, decide_false, Tree.rec_, Nd.rec_, Word.rec_, Got.rec_]
  repeat' (first
    | (refine gL_split (fun h => ?_) (fun h => ?_) <;> simp only [am, amo, amc, h, Nat.reduceAdd, Nat.reduceEqDiff, encs_length, List.length_map, decide_true, decide_false, Tree.rec_, Nd.rec_, Word.rec_, Got.rec_])
    | (refine vcIf_split (fun h => ?_) (fun h => ?_) <;> simp only [am, amo, amc, h, Nat.reduceAdd, Nat.reduceEqDiff, encs_length, List.length_map, decide_true, decide_false, Tree.rec_, Nd.rec_, Word.rec_, Got.rec_])
    | (refine pickL_split (fun h => ?_) (fun h => ?_) <;> simp only [am, amo, amc, h, Nat.reduceAdd, Nat.reduceEqDiff, encs_length, List.length_map, decide_true, decide_false, Tree.rec_, Nd.rec_, Word.rec_, Got.rec_])
  )
  all_goals refine retK_intro rfl (Store.sub_refl _) ⟨?_, rfl⟩
  all_goals simp_all [V.erase, eraseL, closesZ]
  all_goals (try omega)
theorem bad_calls (t : Tok) (σ : Store) : PCalls prog 53 [.agg t.enc] σ fun v σ' => v = .tup [.sl .no 5 [], fenc (some t.pos)] ∧ σ' = σ := by
  refine fn53.calls ?_
  simp only [slots, ac53, am, ams, Tok.enc, am]
  refine retK_intro rfl (Store.sub_refl _) ⟨?_, rfl⟩
  simp [V.erase, eraseL, fenc, badC, badA]
structure Lvl where
  tok : Tok
  tk : Tk
  ahead : List Tree
def Lvl.enc (x : Lvl) : List V := [.int .u8 x.tok.kind, .str x.tok.text, .int .i64 x.tok.pos, .sl x.tk 5 (encs x.ahead)]
def Lvl.pair (x : Lvl) : Tok × List Tree := (x.tok, x.ahead)
def Lvl.tn (x : Lvl) : Tk × Nat := (x.tk, (encs x.ahead).length)
structure TrI where
  i : Nat
  tkO : Tk
  op : List Lvl
  tkR : Tk
  row : List Tree
  τ : Store
def inv17 (l : List Tok) (q : TrI) : St :=
  ⟨[.sl .no 3 (l.map Tok.enc), .any, .any, .ptr (.loc 0) 0, .sl q.tkO 4 (q.op.map Lvl.enc), .sl q.tkR 5 (encs q.row)] ++ List.replicate 5 .any ++ [.sl .no 3 (l.map Tok.enc), .int .i64 l.length, .int .i64 (q.i : Nat)] ++ List.replicate 89 .any, [[.int .i64 0, .int .i64 0]], q.τ⟩
def TreeOk (l : List Tok) (σ : Store) (R : List Tree × Option Int) (q : TrI) : Prop :=
  q.i ≤ l.length ∧ treeP (l.drop q.i) (q.op.map Lvl.pair) q.row = R ∧ Toks σ q.τ ((q.tkO, (q.op.map Lvl.enc).length) :: (q.tkR, (encs q.row).length) :: q.op.map Lvl.tn) ∧ q.op.length ≤ q.i ∧ q.row.length ≤ q.i ∧ ∀ x ∈ q.op, x.ahead.length + 1 ≤ q.i
theorem snoc_cases {α : Type} (l : List α) : l = [] ∨ ∃ ys x, l = ys ++ [x] := by
  rcases List.eq_nil_or_concat l with h | ⟨ys, x, h⟩
  · exact .inl h
  · exact .inr ⟨ys, x, by rw [h]; simp⟩
theorem treeP_calls (l : List Tok) (σ : Store) (hb : l.length + 1 ≤ big) : PCalls prog 17 [.sl .no 3 (l.map Tok.enc)] σ fun v σ' => v = .tup [.sl .no 5 (encs (treeP l [] []).1), fenc (treeP l [] []).2] ∧ σ' = σ := by
  simp only [big] at hb
  generalize hR : treeP l [] [] = R
  refine fn17.calls ?_
  simp only [slots, ac17, am, amo, amc, ams, Nat.reduceAdd, Nat.reduceEqDiff, decide_true, decide_false, Tree.rec_, Nd.rec_, Word.rec_, Got.rec_]
  refine vc_loop (fun q : { q : TrI // TreeOk l σ R q } => inv17 l q.1) (fun q => l.length - q.1.i) ?_ ?_
  · refine Upd.enter ⟨⟨0, .full, [], .full, [], σ⟩, by simp, hR, Toks.init (by simp), by simp, by simp, by simp⟩ ?_ LLLe.rfl OLe.rfl
    simp [inv17, List.replicate, am, encs]
  · rintro ⟨⟨i, tkO, op, tkR, row, τ⟩, h1, hR, hT, hb1, hb2, hb3⟩
    simp only at h1 hR hT hb1 hb2 hb3
    simp only [inv17, List.replicate, am, List.length_map]
    refine vcIf_split ?_ ?_
    · intro hlt
      have hlt : i < l.length := by simpa using hlt
      rw [List.drop_eq_getElem_cons hlt] at hR
      have htok : tokN l i = l[i] := by simp [tokN, hlt]
      rw [← htok] at hR
      generalize ht : tokN l i = t at hR
      have wi : IntKind.i64.wrap ((i : Int) + 1) = ((i + 1 : Nat) : Int) := by rw [wrap_i64 (by omega) (by omega)]; simp
      have again : ∀ (q : TrI) (t : List V) (m : List (List V)), TreeOk l σ R q → q.i = i + 1 → LLe t (inv17 l q).t → LLLe (m.take 1) [[.int .i64 0, .int .i64 0]] →
          Upd ⟨t, m, q.τ⟩ fun st' => ∃ j : { q : TrI // TreeOk l σ R q }, st' = inv17 l j.1 ∧ l.length - j.1.i < l.length - i := fun q t m hq hi ht hm => by
        refine Upd.againD (I := fun q : { q : TrI // TreeOk l σ R q } => inv17 l q.1) (μ := fun q => l.length - q.1.i) ⟨q, hq⟩ (by simp only; omega) ht hm OLe.rfl (by simp [inv17, List.replicate, loL, V.lo]) (by simp [inv17, loLL, loL, V.lo])
      simp only [am, amo, amc, Nat.reduceAdd, Nat.reduceEqDiff, encs_length, List.length_map, decide_true, decide_false, Tree.rec_, Nd.rec_, Word.rec_, Got.rec_]
      refine idxL_intro (by omega) (tencs_at hlt) ?_
      rw [ht]
      simp only [am, amo, amc, Nat.reduceAdd, Nat.reduceEqDiff, encs_length, List.length_map, decide_true, decide_false, Tree.rec_, Nd.rec_, Word.rec_, Got.rec_, Tok.enc]
      refine (closer_calls t.kind _).mono ?_
      rintro v σ' ⟨rfl, rfl⟩
      simp only [treeP] at hR
      by_cases hc : closing t.kind = 0
      · rw [if_neg (by simp [hc])] at hR
        simp only [am, amo, amc, Nat.reduceAdd, Nat.reduceEqDiff, encs_length, List.length_map, decide_true, decide_false, Tree.rec_, Nd.rec_, Word.rec_, Got.rec_, decide_eq_true hc]
        refine (closesP_calls t.kind _).mono ?_
        rintro v σ' ⟨rfl, rfl⟩
        cases hcl : closesZ t.kind
        · rw [hcl] at hR
          simp only [Bool.false_eq_true, if_false] at hR
          simp only [am, amo, amc, Nat.reduceAdd, Nat.reduceEqDiff, encs_length, List.length_map, decide_true, decide_false, Tree.rec_, Nd.rec_, Word.rec_, Got.rec_, Tok.enc]
          refine app_any (hT.perm (List.Perm.swap _ _ _)) (by rw [encs_length]; simp [big]; omega) fun υ hυ => ?_
          simp only [encs_length, List.length_map, List.length_cons, List.length_nil, Nat.zero_add] at hυ
          simp only [am, amo, amc, Nat.reduceAdd, Nat.reduceEqDiff, encs_length, List.length_map, decide_true, decide_false, Tree.rec_, Nd.rec_, Word.rec_, Got.rec_, wi]
          have e : encs row ++ [[V.int .u8 t.kind, .str t.text, .int .i64 t.pos, .sl .no 5 [], .int .i64 t.pos]] = encs (row ++ [.mk t [] t.pos]) := by simp [encs_map, Tree.enc, encs]
          rw [e]
          refine again ⟨i + 1, tkO, op, .tk υ, row ++ [.mk t [] t.pos], σ'.setTip υ (row.length + 1)⟩ _ _ ⟨hlt, hR, ?_, by simp only; omega, by simp; omega, fun x hx => by have := hb3 x hx; simp only; omega⟩ rfl (by simp [inv17, List.replicate, am]) (by simp [am])
          refine Toks.perm ?_ (List.Perm.swap _ _ _)
          simpa [encs_length] using hυ
        · rw [hcl] at hR
          simp only [if_true] at hR
          rcases snoc_cases op with rfl | ⟨ys, x, rfl⟩
          · simp only [List.map_nil, List.getLast?_nil] at hR
            simp only [am, amo, amc, Nat.reduceAdd, Nat.reduceEqDiff, encs_length, List.length_map, decide_true, decide_false, Tree.rec_, Nd.rec_, Word.rec_, Got.rec_, List.map_nil, List.length_nil, show decide (((0 : Nat) : Int) = 0) = true from rfl]
            refine (bad_calls t _).mono ?_
            rintro v σ' ⟨rfl, rfl⟩
            simp only [am, amo, amc, Nat.reduceAdd, Nat.reduceEqDiff, encs_length, List.length_map, decide_true, decide_false, Tree.rec_, Nd.rec_, Word.rec_, Got.rec_, fenc]
            refine retK_intro rfl hT.1 ⟨?_, rfl⟩
            simp [V.erase, eraseL, ← hR, fenc, badC, badA, encs]
          · have hne : ¬ (((ys ++ [x]).length : Nat) : Int) = 0 := by simp; omega
            have wn : IntKind.i64.wrap ((((ys ++ [x]).length : Nat) : Int) - 1) = (ys.length : Nat) := by rw [wrap_i64 (by simp <;> omega) (by simp at hb1 ⊢ <;> omega)]; simp
            have hat : ((ys ++ [x]).map Lvl.enc)[((ys.length : Nat) : Int).toNat]? = some x.enc := by simp
            simp only [List.map_append, List.map_cons, List.map_nil, List.getLast?_concat, List.dropLast_concat, Lvl.pair] at hR
            simp only [am, amo, amc, Nat.reduceAdd, Nat.reduceEqDiff, encs_length, List.length_map, decide_true, decide_false, Tree.rec_, Nd.rec_, Word.rec_, Got.rec_, decide_eq_false hne, wn]
            refine idxL_intro (by omega) (hat) ?_
            simp only [am, amo, amc, Nat.reduceAdd, Nat.reduceEqDiff, encs_length, List.length_map, decide_true, decide_false, Tree.rec_, Nd.rec_, Word.rec_, Got.rec_, Lvl.enc]
            refine CallD.intro (closer_calls x.tok.kind _) ?_
            simp only [am, amo, amc, Nat.reduceAdd, Nat.reduceEqDiff, encs_length, List.length_map, decide_true, decide_false, Tree.rec_, Nd.rec_, Word.rec_, Got.rec_]
            by_cases hk : closing x.tok.kind = t.kind
            · rw [if_pos hk] at hR
              simp only [am, amo, amc, Nat.reduceAdd, Nat.reduceEqDiff, encs_length, List.length_map, decide_true, decide_false, Tree.rec_, Nd.rec_, Word.rec_, Got.rec_, decide_eq_true hk, wn]
              refine idxL_intro (by omega) (hat) ?_
              simp only [am, amo, amc, Nat.reduceAdd, Nat.reduceEqDiff, encs_length, List.length_map, decide_true, decide_false, Tree.rec_, Nd.rec_, Word.rec_, Got.rec_, Lvl.enc, wn]
              refine slcL_full (by simp) ?_
              have hT2 : Toks σ σ' ((x.tk, (encs x.ahead).length) :: ys.map Lvl.tn) := by
                refine (hT.tail.tail).perm ?_
                simp only [List.map_append, List.map_cons, List.map_nil, Lvl.tn]
                exact List.perm_append_singleton _ _
              have hx3 := hb3 x (by simp)
              simp only [List.length_append, List.length_cons, List.length_nil] at hb1
              simp only [am, amo, amc, Nat.reduceAdd, Nat.reduceEqDiff, encs_length, List.length_map, decide_true, decide_false, Tree.rec_, Nd.rec_, Word.rec_, Got.rec_]
              refine app_any hT2 (by rw [encs_length]; simp [big]; omega) fun υ hυ => ?_
              simp only [encs_length, List.length_map, List.length_cons, List.length_nil, Nat.zero_add] at hυ
              simp only [am, amo, amc, Nat.reduceAdd, Nat.reduceEqDiff, encs_length, List.length_map, decide_true, decide_false, Tree.rec_, Nd.rec_, Word.rec_, Got.rec_, wi]
              have e : encs x.ahead ++ [[V.int .u8 x.tok.kind, .str x.tok.text, .int .i64 x.tok.pos, .sl .no 5 (encs row), .int .i64 t.pos]] = encs (x.ahead ++ [.mk x.tok row t.pos]) := by simp [encs_map, Tree.enc]
              have e2 : ((ys ++ [x]).map Lvl.enc).take ys.length = ys.map Lvl.enc := by simp
              rw [e, e2]
              refine again ⟨i + 1, .full, ys, .tk υ, x.ahead ++ [.mk x.tok row t.pos], σ'.setTip υ (x.ahead.length + 1)⟩ _ _ ⟨hlt, hR, ?_, by simp only; omega, by simp; omega, fun y hy => by have := hb3 y (by simp [hy]); simp only; omega⟩ rfl (by simp [inv17, List.replicate, am]) (by simp [am])
              refine Toks.full ?_
              simpa [encs_length] using hυ
            · rw [if_neg hk] at hR
              simp only [am, amo, amc, Nat.reduceAdd, Nat.reduceEqDiff, encs_length, List.length_map, decide_true, decide_false, Tree.rec_, Nd.rec_, Word.rec_, Got.rec_, decide_eq_false hk]
              refine (bad_calls t _).mono ?_
              rintro v σ' ⟨rfl, rfl⟩
              simp only [am, amo, amc, Nat.reduceAdd, Nat.reduceEqDiff, encs_length, List.length_map, decide_true, decide_false, Tree.rec_, Nd.rec_, Word.rec_, Got.rec_, fenc]
              refine retK_intro rfl hT.1 ⟨?_, rfl⟩
              simp [V.erase, eraseL, ← hR, fenc, badC, badA, encs]
      · rw [if_pos hc] at hR
        simp only [am, amo, amc, Nat.reduceAdd, Nat.reduceEqDiff, encs_length, List.length_map, decide_true, decide_false, Tree.rec_, Nd.rec_, Word.rec_, Got.rec_, decide_eq_false hc]
        rw [List.length_map] at hR
        by_cases h24 : 24 ≤ op.length
        · rw [if_pos h24] at hR
          simp only [am, amo, amc, Nat.reduceAdd, Nat.reduceEqDiff, encs_length, List.length_map, decide_true, decide_false, Tree.rec_, Nd.rec_, Word.rec_, Got.rec_, decide_eq_true (show (24 : Int) ≤ op.length by omega)]
          refine (bad_calls t _).mono ?_
          rintro v σ' ⟨rfl, rfl⟩
          simp only [am, amo, amc, Nat.reduceAdd, Nat.reduceEqDiff, encs_length, List.length_map, decide_true, decide_false, Tree.rec_, Nd.rec_, Word.rec_, Got.rec_, fenc]
          refine retK_intro rfl hT.1 ⟨?_, rfl⟩
          simp [V.erase, eraseL, ← hR, fenc, badC, badA, encs]
        · rw [if_neg h24] at hR
          simp only [am, amo, amc, Nat.reduceAdd, Nat.reduceEqDiff, encs_length, List.length_map, decide_true, decide_false, Tree.rec_, Nd.rec_, Word.rec_, Got.rec_, decide_eq_false (show ¬ (24 : Int) ≤ op.length by omega), own_keep]
          refine app_any hT (by simp [big]; omega) fun υ hυ => ?_
          simp only [List.length_map, List.length_cons, List.length_nil, Nat.zero_add] at hυ
          simp only [am, amo, amc, Nat.reduceAdd, Nat.reduceEqDiff, encs_length, List.length_map, decide_true, decide_false, Tree.rec_, Nd.rec_, Word.rec_, Got.rec_, wi]
          have e : op.map Lvl.enc ++ [[V.int .u8 t.kind, .str t.text, .int .i64 t.pos, .sl tkR 5 (encs row)]] = (op ++ [(⟨t, tkR, row⟩ : Lvl)]).map Lvl.enc := by simp [Lvl.enc]
          rw [e]
          refine again ⟨i + 1, .tk υ, op ++ [⟨t, tkR, row⟩], .full, [], σ'.setTip υ (op.length + 1)⟩ _ _ ⟨hlt, by simpa [Lvl.pair] using hR, ?_, by simp; omega, by simp, fun x hx => ?_⟩ rfl (by simp [inv17, List.replicate, am, encs]) (by simp [am])
          · simp only [List.length_map, List.length_append, List.length_cons, List.length_nil, Nat.zero_add, List.map_append, List.map_cons, List.map_nil, Lvl.tn]
            refine Toks.perm (Toks.full (n := (encs []).length) hυ) ?_
            refine (List.Perm.swap _ _ _).trans (List.Perm.cons _ (List.Perm.cons _ ?_))
            exact (List.perm_append_singleton _ _).symm
          · rcases List.mem_append.1 hx with hx | hx
            · have := hb3 x hx; simp only; omega
            · simp at hx; subst hx; simp only; omega
    · intro hlt
      have hlt : i = l.length := by simp at hlt; omega
      subst hlt
      rw [List.drop_length] at hR
      simp only [treeP] at hR
      simp only [am, amo, amc, Nat.reduceAdd, Nat.reduceEqDiff, encs_length, List.length_map, decide_true, decide_false, Tree.rec_, Nd.rec_, Word.rec_, Got.rec_]
      refine vcIf_split ?_ ?_
      · intro h0
        rcases snoc_cases op with rfl | ⟨ys, x, rfl⟩
        · simp at h0
        have wn : IntKind.i64.wrap ((((ys ++ [x]).length : Nat) : Int) - 1) = (ys.length : Nat) := by rw [wrap_i64 (by simp <;> omega) (by simp at hb1 ⊢ <;> omega)]; simp
        have hat : ((ys ++ [x]).map Lvl.enc)[((ys.length : Nat) : Int).toNat]? = some x.enc := by simp
        simp only [List.map_append, List.map_cons, List.map_nil, List.getLast?_concat, Lvl.pair] at hR
        simp only [am, amo, amc, Nat.reduceAdd, Nat.reduceEqDiff, encs_length, List.length_map, decide_true, decide_false, Tree.rec_, Nd.rec_, Word.rec_, Got.rec_, wn]
        refine idxL_intro (by omega) (hat) ?_
        simp only [am, amo, amc, Nat.reduceAdd, Nat.reduceEqDiff, encs_length, List.length_map, decide_true, decide_false, Tree.rec_, Nd.rec_, Word.rec_, Got.rec_, Lvl.enc]
        refine (bad_calls x.tok _).mono ?_
        rintro v σ' ⟨rfl, rfl⟩
        simp only [am, amo, amc, Nat.reduceAdd, Nat.reduceEqDiff, encs_length, List.length_map, decide_true, decide_false, Tree.rec_, Nd.rec_, Word.rec_, Got.rec_, fenc]
        refine retK_intro rfl hT.1 ⟨?_, rfl⟩
        simp [V.erase, eraseL, ← hR, fenc, badC, badA, encs]
      · intro h0
        have h0 : op = [] := by
          cases op with
          | nil => rfl
          | cons x xs => simp at h0 <;> omega
        subst h0
        simp only [List.map_nil, List.getLast?_nil] at hR
        simp only [am, amo, amc, Nat.reduceAdd, Nat.reduceEqDiff, encs_length, List.length_map, decide_true, decide_false, Tree.rec_, Nd.rec_, Word.rec_, Got.rec_]
        refine retK_intro rfl hT.1 ⟨?_, rfl⟩
        simp [V.erase, eraseL, ← hR, fenc, badC, badA, encs]
end Go.Proofs.Tryd

namespace Go.Proofs.Tryd
open Go.Am
set_option maxRecDepth 4000
set_option maxHeartbeats 4000000
def ac18 : AC := .seq (.reg [⟨(some 2), .alloc [(.str []), (.int .i64 0)], none⟩])
 (.seq (.reg [xm 4 0, xc 55 5 [.s 4, .c (.int .u8 97)], ⟨(some 3), .alloc [(.int .u8 0), (.str []), (.int .i64 0), (.sl .full 5 []), (.int .i64 0)], none⟩, xs 5 3 5])
 (.seq (.reg [xf 0 6 3, xf 1 7 6, xo 8 7, xf 0 9 3, xf 2 10 9, xo 11 10, ⟨(some 12), .build [(.str []), (.int .i64 0)] [(0, 1, (.s 8)), (1, 1, (.s 11))], none⟩, xs 2 2 12])
 (.ret)))
theorem fn18 : IsFn prog 18 ac18 [.cell 2 true 2] 13 := ⟨f18, ⟨[], []⟩, func18, by kernel_rfl, by kernel_rfl, by kernel_rfl, by kernel_rfl⟩
def ac22 : AC := .seq (.seq (.reg [xm 2 0, xk 3 2, xf 3 4 3, xf 0 5 4, xo 6 5, xB .neq 7 6 0])
 (.cond (.s 7) (.ret)
 (.skip)))
 (.seq (.reg [xm 8 0, xm 9 0, xk 10 9, xf 2 11 10, xo 12 11, ⟨(some 13), .build [(.int .i64 0), (.int .i64 0)] [(0, 1, (.c (.int .i64 2))), (1, 1, (.s 12))], none⟩, xk 14 8, xf 3 15 14, xs 2 15 13])
 (.seq (.draw [(xm 16 0, []), (xk 17 16, []), (xf 1 18 17, []), (xo 19 18, []), (xm 20 0, []), (xk 21 20, []), (xf 0 22 21, []), (xo 23 22, []), (xL 24 23, []), (xb .lss 25 19 24, [])])
 (.cond (.s 25) (.draw [(xm 26 0, []), (xm 27 0, []), (xk 28 27, []), (xf 0 29 28, []), (xo 30 29, []), (xm 31 0, []), (xk 32 31, []), (xf 1 33 32, []), (xo 34 33, []), (xA 5 35 30 34, []), (xf 0 36 35, []), (xf 2 37 36, []), (xo 38 37, []), (xk 39 26, []), (xf 3 40 39, []), (xf 1 41 40, []), (xs 1 41 38, [])])
 (.skip))))
theorem fn22 : IsFn prog 22 ac22 [] 42 := ⟨f22, ⟨[], []⟩, func22, by kernel_rfl, by kernel_rfl, by kernel_rfl, by kernel_rfl⟩
def ac55 : AC := .seq (.reg [⟨(some 4), .alloc [(.int .u8 0), (.str []), (.int .i64 0), (.sl .full 5 []), (.int .i64 0)], none⟩])
 (.seq (.seq (.draw [(xm 5 0, []), (xk 6 5, []), (xf 3 7 6, []), (xf 0 8 7, []), (xo 9 8, []), (xB .neq 10 9 0, []), (xm 11 10, []), (xh 11 (xm 12 0), []), (xh 11 (xk 13 12), []), (xh 11 (xf 1 14 13), []), (xh 11 (xo 15 14), []), (xh 11 (xm 16 0), []), (xh 11 (xk 17 16), []), (xh 11 (xf 0 18 17), []), (xh 11 (xo 19 18), []), (xh 11 (xL 20 19), []), (xh 11 (xb .geq 21 15 20), []), (⟨(some 22), .pick (.s 11) (.c (.bool true)) (.s 21), none⟩, []), (xm 23 22, []), (xh 23 (xm 24 0), []), (xh 23 (xk 25 24), []), (xh 23 (xf 0 26 25), []), (xh 23 (xo 27 26), []), (xh 23 (xm 28 0), []), (xh 23 (xk 29 28), []), (xh 23 (xf 1 30 29), []), (xh 23 (xo 31 30), []), (xh 23 (xA 5 32 27 31), []), (xh 23 (xf 0 33 32), []), (xh 23 (xf 0 34 33), []), (xh 23 (xo 35 34), []), (xh 23 (xm 36 1), []), (xh 23 (xb .neq 37 35 36), []), (⟨(some 38), .pick (.s 23) (.c (.bool true)) (.s 37), none⟩, [])])
 (.cond (.s 38) (.seq (.reg [xm 39 0, xc 22 40 [.s 39]])
 (.seq (.reg [⟨(some 41), .build [(.int .u8 0), (.str []), (.int .i64 0), (.sl .full 5 []), (.int .i64 0)] [], none⟩, xs 5 4 41])
 (.ret)))
 (.skip)))
 (.seq (.reg [xm 42 0, xk 43 42, xf 1 44 43, xo 45 44, xB .add 46 45 1, xk 47 42, xf 1 48 47, xs 1 48 46])
 (.seq (.draw [(xm 49 0, []), (xk 50 49, []), (xf 0 51 50, []), (xo 52 51, []), (xm 53 0, []), (xk 54 53, []), (xf 1 55 54, []), (xo 56 55, []), (xB .sub 57 56 1, []), (xA 5 58 52 57, []), (xl 5 59 58, []), (xs 5 4 59, [])])
 (.ret))))
theorem fn55 : IsFn prog 55 ac55 [.cell 4 true 5] 60 := ⟨f55, ⟨[], []⟩, func55, by kernel_rfl, by kernel_rfl, by kernel_rfl, by kernel_rfl⟩
def ac58 : AC := .seq (.reg [⟨(some 5), .box 5 (.s 1), none⟩, ⟨(some 7), .box 2 (.s 3), none⟩])
 (.seq (.seq (.reg [xf 0 8 7, xo 9 8, xB .neq 10 9 0])
 (.cond (.s 10) (.seq (.reg [xm 11 0, xl 2 12 7, xk 13 11, xf 3 14 13, xs 2 14 12])
 (.ret))
 (.skip)))
 (.seq (.reg [xm 15 0, xm 16 2, xk 17 15, xf 1 18 17, xs 1 18 16])
 (.seq (.seq (.reg [xm 19 0, xk 20 19, xf 5 21 20, xf 7 22 21, xf 0 23 22, xo 24 23, xB .eql 25 24 0])
 (.cond (.s 25) (.seq (.reg [xm 26 0, xl 5 27 5, xk 28 26, xf 5 29 28, xf 7 30 29, xs 5 30 27])
 (.ret))
 (.skip)))
 (.reg [xm 31 0, xl 5 32 5, xk 33 31, xf 5 34 33, xf 12 35 34, xs 5 35 32]))))
theorem fn58 : IsFn prog 58 ac58 [] 36 := ⟨f58, ⟨[], []⟩, func58, by kernel_rfl, by kernel_rfl, by kernel_rfl, by kernel_rfl⟩
theorem cfail_calls {r : Nat} {rd : Rdr} {cs : List V} {σ : Store} (h : σ.box r = some (rd.enc ++ cs)) (h0 : 0 ≤ rd.at_) : PCalls prog 22 [.ptr (.out r) 0] σ fun v σ' => v = .tup [] ∧ σ' = σ.set r (rd.fail.enc ++ cs) := by
  refine fn22.calls ?_
  simp only [slots, ac22, am, ams, am, h, Rdr.enc]
  cases hb : rd.bad with
  | some b =>
    simp only [am, amo, amc, Nat.reduceAdd, Nat.reduceEqDiff, encs_length, List.length_map, decide_true, decide_false, Tree.rec_, Nd.rec_, Word.rec_, Got.rec_, Int.reduceEq, Int.reduceLT, Int.reduceLE, badC]
    refine retK_intro rfl (Store.sub_refl _) ⟨rfl, ?_⟩
    rw [Rdr.fail, hb]; exact (Store.set_id h).symm
  | none =>
    simp only [am, amo, amc, Nat.reduceAdd, Nat.reduceEqDiff, encs_length, List.length_map, decide_true, decide_false, Tree.rec_, Nd.rec_, Word.rec_, Got.rec_, Int.reduceEq, Int.reduceLT, Int.reduceLE, badC, h, Rdr.enc]
    by_cases h1 : rd.at_ < rd.l.length
    · obtain ⟨j, hj⟩ := Int.eq_ofNat_of_zero_le h0
      have hj' : j < rd.l.length := by omega
      simp only [am, amo, amc, Nat.reduceAdd, Nat.reduceEqDiff, encs_length, List.length_map, decide_true, decide_false, Tree.rec_, Nd.rec_, Word.rec_, Got.rec_, Int.reduceEq, Int.reduceLT, Int.reduceLE, h1, decide_true]
      refine idxL_intro h0 (c := rd.l[j].enc) (by simp [encs_map, hj, hj']) ?_
      simp only [am, amo, amc, Nat.reduceAdd, Nat.reduceEqDiff, encs_length, List.length_map, decide_true, decide_false, Tree.rec_, Nd.rec_, Word.rec_, Got.rec_, Int.reduceEq, Int.reduceLT, Int.reduceLE, enc_eq]
      refine retK_intro rfl (Store.sub_refl _) ⟨rfl, ?_⟩
      simp [Rdr.fail, Rdr.spot, hb, hj, hj', Rdr.enc, badC, badA]
    · simp only [am, amo, amc, Nat.reduceAdd, Nat.reduceEqDiff, encs_length, List.length_map, decide_true, decide_false, Tree.rec_, Nd.rec_, Word.rec_, Got.rec_, Int.reduceEq, Int.reduceLT, Int.reduceLE, h1, decide_false]
      refine retK_intro rfl (Store.sub_refl _) ⟨rfl, ?_⟩
      have : rd.l[rd.at_.toNat]? = none := List.getElem?_eq_none (by omega)
      simp [Rdr.fail, Rdr.spot, hb, this, Rdr.enc, badC, badA]
theorem ctake_calls {r : Nat} {rd : Rdr} {k : Int} {cs : List V} {σ : Store} (h : σ.box r = some (rd.enc ++ cs)) (h0 : 0 ≤ rd.at_) (hb : rd.l.length ≤ big) : PCalls prog 55 [.ptr (.out r) 0, .int .u8 k] σ fun v σ' => v = .agg (rd.take k).1.enc ∧ σ' = σ.set r ((rd.take k).2.enc ++ cs) := by
  refine fn55.calls ?_
  simp only [slots, ac55, am, ams, am, h, Rdr.enc]
  have hno : rd.sees k = false → PCalls prog 22 [.ptr (.out r) 0] σ fun v σ' => v = .tup [] ∧ σ' = σ.set r (rd.fail.enc ++ cs) := fun _ => cfail_calls h h0
  cases hbad : rd.bad with
  | some b =>
    have hs : rd.sees k = false := by simp [Rdr.sees, Rdr.ok, hbad]
    simp only [am, amo, amc, Nat.reduceAdd, Nat.reduceEqDiff, encs_length, List.length_map, decide_true, decide_false, Tree.rec_, Nd.rec_, Word.rec_, Got.rec_, Int.reduceEq, Int.reduceLT, Int.reduceLE, badC]
    refine (hno hs).mono ?_
    rintro v σ' ⟨rfl, rfl⟩
    simp only [am, amo, amc, Nat.reduceAdd, Nat.reduceEqDiff, encs_length, List.length_map, decide_true, decide_false, Tree.rec_, Nd.rec_, Word.rec_, Got.rec_, Int.reduceEq, Int.reduceLT, Int.reduceLE]
    refine retK_intro rfl (Store.sub_refl _) ⟨?_, ?_⟩
    · simp [Rdr.take, hs, V.erase, eraseL, Tree.zero, Tree.enc, encs, Tree.tok, Tree.kids, Tree.fin]
    · simp [Rdr.take, hs, Rdr.enc, badC]
  | none =>
    simp only [am, amo, amc, Nat.reduceAdd, Nat.reduceEqDiff, encs_length, List.length_map, decide_true, decide_false, Tree.rec_, Nd.rec_, Word.rec_, Got.rec_, Int.reduceEq, Int.reduceLT, Int.reduceLE, badC, h, Rdr.enc]
    by_cases h1 : rd.at_ < rd.l.length
    · obtain ⟨j, hj⟩ := Int.eq_ofNat_of_zero_le h0
      have hj' : j < rd.l.length := by omega
      simp only [am, amo, amc, Nat.reduceAdd, Nat.reduceEqDiff, encs_length, List.length_map, decide_true, decide_false, Tree.rec_, Nd.rec_, Word.rec_, Got.rec_, Int.reduceEq, Int.reduceLT, Int.reduceLE, decide_eq_false (show ¬ (rd.l.length : Int) ≤ rd.at_ by omega), h, Rdr.enc]
      refine idxL_intro h0 (c := rd.l[j].enc) (by simp [encs_map, hj, hj']) ?_
      simp only [am, amo, amc, Nat.reduceAdd, Nat.reduceEqDiff, encs_length, List.length_map, decide_true, decide_false, Tree.rec_, Nd.rec_, Word.rec_, Got.rec_, Int.reduceEq, Int.reduceLT, Int.reduceLE, enc_eq]
      by_cases hk : rd.l[j].tok.kind = k
      · have hs : rd.sees k = true := by simp [Rdr.sees, Rdr.ok, hbad, isK, h0, hj, hj', hk]
        have w1 : IntKind.i64.wrap (rd.at_ + 1) = rd.at_ + 1 := by simp only [big] at hb; exact wrap_i64 (by omega) (by omega)
        have w2 : IntKind.i64.wrap (rd.at_ + 1 - 1) = rd.at_ := by rw [show rd.at_ + 1 - 1 = rd.at_ by omega]; simp only [big] at hb; exact wrap_i64 (by omega) (by omega)
        simp only [am, amo, amc, Nat.reduceAdd, Nat.reduceEqDiff, encs_length, List.length_map, decide_true, decide_false, Tree.rec_, Nd.rec_, Word.rec_, Got.rec_, Int.reduceEq, Int.reduceLT, Int.reduceLE, decide_eq_true hk, h, Rdr.enc, w1, w2]
        refine idxL_intro h0 (c := rd.l[j].enc) (by simp [encs_map, hj, hj']) ?_
        simp only [am, amo, amc, Nat.reduceAdd, Nat.reduceEqDiff, encs_length, List.length_map, decide_true, decide_false, Tree.rec_, Nd.rec_, Word.rec_, Got.rec_, Int.reduceEq, Int.reduceLT, Int.reduceLE]
        refine retK_intro Tree.r_nol (Store.sub_refl _) ⟨?_, ?_⟩
        · simp [Rdr.take, hs, V.erase, hj, hj', List.getD, Tree.rec_]
          exact enc_eq _
        · simp [Rdr.take, hs, Rdr.enc, badC]
      · have hs : rd.sees k = false := by simp [Rdr.sees, Rdr.ok, hbad, isK, h0, hj, hj', hk]
        simp only [am, amo, amc, Nat.reduceAdd, Nat.reduceEqDiff, encs_length, List.length_map, decide_true, decide_false, Tree.rec_, Nd.rec_, Word.rec_, Got.rec_, Int.reduceEq, Int.reduceLT, Int.reduceLE, decide_eq_false hk]
        refine (hno hs).mono ?_
        rintro v σ' ⟨rfl, rfl⟩
        simp only [am, amo, amc, Nat.reduceAdd, Nat.reduceEqDiff, encs_length, List.length_map, decide_true, decide_false, Tree.rec_, Nd.rec_, Word.rec_, Got.rec_, Int.reduceEq, Int.reduceLT, Int.reduceLE]
        refine retK_intro rfl (Store.sub_refl _) ⟨?_, ?_⟩
        · simp [Rdr.take, hs, V.erase, eraseL, Tree.zero, Tree.enc, encs, Tree.tok, Tree.kids, Tree.fin]
        · simp [Rdr.take, hs, Rdr.enc, badC]
    · have hs : rd.sees k = false := by
        have : rd.l[rd.at_.toNat]? = none := List.getElem?_eq_none (by omega)
        simp [Rdr.sees, Rdr.ok, hbad, isK, this]
      simp only [am, amo, amc, Nat.reduceAdd, Nat.reduceEqDiff, encs_length, List.length_map, decide_true, decide_false, Tree.rec_, Nd.rec_, Word.rec_, Got.rec_, Int.reduceEq, Int.reduceLT, Int.reduceLE, decide_eq_true (show (rd.l.length : Int) ≤ rd.at_ by omega)]
      refine (hno hs).mono ?_
      rintro v σ' ⟨rfl, rfl⟩
      simp only [am, amo, amc, Nat.reduceAdd, Nat.reduceEqDiff, encs_length, List.length_map, decide_true, decide_false, Tree.rec_, Nd.rec_, Word.rec_, Got.rec_, Int.reduceEq, Int.reduceLT, Int.reduceLE]
      refine retK_intro rfl (Store.sub_refl _) ⟨?_, ?_⟩
      · simp [Rdr.take, hs, V.erase, eraseL, Tree.zero, Tree.enc, encs, Tree.tok, Tree.kids, Tree.fin]
      · simp [Rdr.take, hs, Rdr.enc, badC]
theorem cword_calls {r : Nat} {rd : Rdr} {cs : List V} {σ : Store} (h : σ.box r = some (rd.enc ++ cs)) (h0 : 0 ≤ rd.at_) (hb : rd.l.length ≤ big) : PCalls prog 18 [.ptr (.out r) 0] σ fun v σ' => v = .agg rd.word.1.enc ∧ σ' = σ.set r (rd.word.2.enc ++ cs) := by
  refine fn18.calls ?_
  simp only [slots, ac18, am, amo, amc, ams, Nat.reduceAdd, Nat.reduceEqDiff, decide_true, decide_false, Tree.rec_, Nd.rec_, Word.rec_, Got.rec_, Int.reduceEq, Int.reduceLT, Int.reduceLE]
  refine (ctake_calls h h0 hb).mono ?_
  rintro v σ' ⟨rfl, rfl⟩
  simp only [am, amo, amc, Nat.reduceAdd, Nat.reduceEqDiff, encs_length, List.length_map, decide_true, decide_false, Tree.rec_, Nd.rec_, Word.rec_, Got.rec_, Int.reduceEq, Int.reduceLT, Int.reduceLE, Tree.fl]
  refine retK_intro rfl (Store.sub_refl _) ⟨?_, ?_⟩
  · simp [Rdr.word, V.erase, eraseL, Word.enc]
  · simp [Rdr.word]
theorem cnode_calls {r : Nat} {rd : Rdr} {c : Cmd} {pc : V} {g : Nd × Int × Option Int} {σ : Store} (h : σ.box r = some (rd.enc ++ c.encP pc)) (hb : rd.bad = none) : PCalls prog 58 [.ptr (.out r) 0, .agg g.1.enc, .int .i64 g.2.1, fenc g.2.2] σ fun v σ' => v = .tup [] ∧ σ' = σ.set r ((nodeP rd c g).1.enc ++ (nodeP rd c g).2.encP pc) := by
  refine fn58.calls ?_
  simp only [slots, ac58, am, amo, amc, ams, Nat.reduceAdd, Nat.reduceEqDiff, decide_true, decide_false, Tree.rec_, Nd.rec_, Word.rec_, Got.rec_, Int.reduceEq, Int.reduceLT, Int.reduceLE]
  simp only [am, amo, amc, Nat.reduceAdd, Nat.reduceEqDiff, encs_length, List.length_map, decide_true, decide_false, Tree.rec_, Nd.rec_, Word.rec_, Got.rec_, Int.reduceEq, Int.reduceLT, Int.reduceLE, fenc, h, Rdr.enc, Cmd.encP]
  cases hg : g.2.2 with
  | some a =>
    simp only [am, amo, amc, Nat.reduceAdd, Nat.reduceEqDiff, encs_length, List.length_map, decide_true, decide_false, Tree.rec_, Nd.rec_, Word.rec_, Got.rec_, Int.reduceEq, Int.reduceLT, Int.reduceLE, badC, h, Rdr.enc, Cmd.encP]
    refine retK_intro rfl (Store.sub_refl _) ⟨rfl, ?_⟩
    simp [nodeP, hg, Rdr.enc, Cmd.encP, badC]
  | none =>
    simp only [am, amo, amc, Nat.reduceAdd, Nat.reduceEqDiff, encs_length, List.length_map, decide_true, decide_false, Tree.rec_, Nd.rec_, Word.rec_, Got.rec_, Int.reduceEq, Int.reduceLT, Int.reduceLE, badC, h, Rdr.enc, Cmd.encP]
    by_cases hk : c.left.kind = 0
    · simp only [am, amo, amc, Nat.reduceAdd, Nat.reduceEqDiff, encs_length, List.length_map, decide_true, decide_false, Tree.rec_, Nd.rec_, Word.rec_, Got.rec_, Int.reduceEq, Int.reduceLT, Int.reduceLE, decide_eq_true hk, h, Rdr.enc, Cmd.encP, Nd.enc_eq]
      refine retK_intro rfl (Store.sub_refl _) ⟨rfl, ?_⟩
      simp [nodeP, hg, hk, Rdr.enc, Cmd.encP]
    · simp only [am, amo, amc, Nat.reduceAdd, Nat.reduceEqDiff, encs_length, List.length_map, decide_true, decide_false, Tree.rec_, Nd.rec_, Word.rec_, Got.rec_, Int.reduceEq, Int.reduceLT, Int.reduceLE, decide_eq_false hk, h, Rdr.enc, Cmd.encP, Nd.enc_eq]
      refine retK_intro rfl (Store.sub_refl _) ⟨rfl, ?_⟩
      simp [nodeP, hg, hk, Rdr.enc, Cmd.encP]
end Go.Proofs.Tryd

namespace Go.Proofs.Tryd
open Go.Am
set_option maxRecDepth 4000
set_option maxHeartbeats 4000000
def ac19 : AC := .seq (.reg [xi 2 0])
 (.seq (.seq (.reg [xi 4 0])
 (.block 0 (.loop (.seq (.reg [xB .lss 5 4 16])
 (.seq (.cond (.s 5) (.skip)
 (.exit 0))
 (.seq (.block 1 (.seq (.reg [xm 6 4, xm 3 6])
 (.seq (.reg [xm 7 3, xB .gtr 8 7 0, xm 9 8, xg 9 (xm 10 3), ⟨(some 11), .idxP 16 2 (.c (.ptr (.out 0) 0)) (.s 10), (some (9, true))⟩, xg 9 (xf 0 12 11), xg 9 (xo 13 12), xg 9 (xm 14 0), ⟨(some 15), .binS .eql (.s 13) (.s 14), (some (9, true))⟩, ⟨(some 16), .pick (.s 9) (.s 15) (.c (.bool false)), none⟩])
 (.cond (.s 16) (.seq (.reg [xm 17 3, xm 2 17])
 (.ret))
 (.skip)))))
 (.reg [xB .add 18 4 1, xm 4 18])))))))
 (.seq (.reg [xi 2 0])
 (.ret)))
theorem fn19 : IsFn prog 19 ac19 [.tmp 2] 19 := ⟨f19, ⟨[], []⟩, func19, by kernel_rfl, by kernel_rfl, by kernel_rfl, by kernel_rfl⟩
def ac20 : AC := .seq (.reg [⟨(some 2), .alloc [(.str []), (.str [])], none⟩])
 (.seq (.seq (.reg [xm 3 0, xB .lss 4 3 0, xm 5 4, xh 5 (xm 6 0), xh 5 (xB .geq 7 6 16), ⟨(some 8), .pick (.s 5) (.c (.bool true)) (.s 7), none⟩])
 (.cond (.s 8) (.seq (.reg [⟨(some 9), .build [(.str []), (.str [])] [], none⟩, xs 2 2 9])
 (.ret))
 (.skip)))
 (.seq (.reg [xm 10 0, ⟨(some 11), .idxP 16 2 (.c (.ptr (.out 0) 0)) (.s 10), none⟩, xl 2 12 11, xs 2 2 12])
 (.ret)))
theorem fn20 : IsFn prog 20 ac20 [.cell 2 true 2] 13 := ⟨f20, ⟨[], []⟩, func20, by kernel_rfl, by kernel_rfl, by kernel_rfl, by kernel_rfl⟩
theorem form_drop {i : Nat} (h : i < 16) : formCells.drop (i * 2) = [V.str (formT.getD i ([], [])).1, .str (formT.getD i ([], [])).2] ++ ((formT.map fun p => [V.str p.1, V.str p.2]).drop (i + 1)).flatten := by
  unfold formCells
  rw [flatten_drop (k := 2) (by intro r hr; simp only [List.mem_map] at hr; obtain ⟨p, _, rfl⟩ := hr; rfl), List.drop_eq_getElem_cons (by simpa [formT] using h)]
  have : i < formT.length := by simpa [formT] using h
  simp [List.getD, this]
theorem of_calls (op : Int) {σ : Store} (hg : σ.box 0 = some formCells) : PCalls prog 20 [.int .i64 op] σ fun v σ' => v = .agg [.str (formOf op).1, .str (formOf op).2] ∧ σ' = σ := by
  refine fn20.calls ?_
  simp only [slots, ac20, am, amo, amc, ams, Nat.reduceAdd, Nat.reduceEqDiff, decide_true, decide_false, Tree.rec_, Nd.rec_, Word.rec_, Got.rec_, Int.reduceEq, Int.reduceLT, Int.reduceLE]
  by_cases h0 : op < 0
  · simp only [am, amo, amc, Nat.reduceAdd, Nat.reduceEqDiff, encs_length, List.length_map, decide_true, decide_false, Tree.rec_, Nd.rec_, Word.rec_, Got.rec_, Int.reduceEq, Int.reduceLT, Int.reduceLE, decide_eq_true h0]
    refine retK_intro rfl (Store.sub_refl _) ⟨?_, rfl⟩
    have : ¬ (0 ≤ op ∧ op < 16) := by omega
    simp [V.erase, eraseL, formOf, this]
  · simp only [am, amo, amc, Nat.reduceAdd, Nat.reduceEqDiff, encs_length, List.length_map, decide_true, decide_false, Tree.rec_, Nd.rec_, Word.rec_, Got.rec_, Int.reduceEq, Int.reduceLT, Int.reduceLE, decide_eq_false h0]
    by_cases h1 : 16 ≤ op
    · simp only [am, amo, amc, Nat.reduceAdd, Nat.reduceEqDiff, encs_length, List.length_map, decide_true, decide_false, Tree.rec_, Nd.rec_, Word.rec_, Got.rec_, Int.reduceEq, Int.reduceLT, Int.reduceLE, decide_eq_true h1]
      refine retK_intro rfl (Store.sub_refl _) ⟨?_, rfl⟩
      have : ¬ (0 ≤ op ∧ op < 16) := by omega
      simp [V.erase, eraseL, formOf, this]
    · simp only [am, amo, amc, Nat.reduceAdd, Nat.reduceEqDiff, encs_length, List.length_map, decide_true, decide_false, Tree.rec_, Nd.rec_, Word.rec_, Got.rec_, Int.reduceEq, Int.reduceLT, Int.reduceLE, decide_eq_false h1]
      refine idxPL_ptr (by omega) (by omega) ?_
      simp only [am, amo, amc, Nat.reduceAdd, Nat.reduceEqDiff, encs_length, List.length_map, decide_true, decide_false, Tree.rec_, Nd.rec_, Word.rec_, Got.rec_, Int.reduceEq, Int.reduceLT, Int.reduceLE, hg, form_drop (show op.toNat < 16 by omega)]
      refine retK_intro rfl (Store.sub_refl _) ⟨?_, rfl⟩
      have : 0 ≤ op ∧ op < 16 := by omega
      simp [V.erase, eraseL, formOf, this]
def inv19 (w : List UInt8) (σ : Store) (i : Nat) : St := ⟨[.str w, .any, .any, .any, .int .i64 (i : Nat)] ++ List.replicate 14 .any, [], σ⟩
theorem number_calls (w : List UInt8) {σ : Store} (hg : σ.box 0 = some formCells) : PCalls prog 19 [.str w] σ fun v σ' => v = .int .i64 (numberP w) ∧ σ' = σ := by
  generalize hR : numberP w = R
  unfold numberP at hR
  refine fn19.calls ?_
  simp only [slots, ac19, am, amo, amc, ams, Nat.reduceAdd, Nat.reduceEqDiff, decide_true, decide_false, Tree.rec_, Nd.rec_, Word.rec_, Got.rec_, Int.reduceEq, Int.reduceLT, Int.reduceLE]
  refine vc_loop (fun p : { p : Nat × Nat // numF w p.1 p.2 = R ∧ p.2 + p.1 = 16 } => inv19 w σ p.1.2) (fun p => p.1.1) ?_ ?_
  · refine Upd.enter ⟨(16, 0), hR, rfl⟩ ?_ LLLe.rfl OLe.rfl
    simp [inv19, List.replicate, am]
  · rintro ⟨⟨n, i⟩, hR, hs⟩
    simp only at hR hs
    simp only [inv19, List.replicate, am]
    by_cases hlt : i < 16
    · obtain ⟨m, rfl⟩ : ∃ m, n = m + 1 := ⟨n - 1, by omega⟩
      simp only [numF] at hR
      have wi : IntKind.i64.wrap ((i : Int) + 1) = ((i + 1 : Nat) : Int) := by rw [wrap_i64 (by omega) (by omega)]; simp
      have hf : formOf (i : Nat) = formT.getD i ([], []) := by simp only [formOf]; rw [if_pos (by omega)]; simp
      have again : ∀ (t : List V), numF w m (i + 1) = R → LLe t (inv19 w σ (i + 1)).t → Upd ⟨t, [], σ⟩ fun st' => ∃ j : { p : Nat × Nat // numF w p.1 p.2 = R ∧ p.2 + p.1 = 16 }, st' = inv19 w σ j.1.2 ∧ j.1.1 < m + 1 := fun t h ht =>
        Upd.again (I := fun p : { p : Nat × Nat // numF w p.1 p.2 = R ∧ p.2 + p.1 = 16 } => inv19 w σ p.1.2) (μ := fun p => p.1.1) ⟨(m, i + 1), h, by simp only; omega⟩ (by simp) ht LLLe.rfl OLe.rfl
      simp only [am, amo, amc, Nat.reduceAdd, Nat.reduceEqDiff, encs_length, List.length_map, decide_true, decide_false, Tree.rec_, Nd.rec_, Word.rec_, Got.rec_, Int.reduceEq, Int.reduceLT, Int.reduceLE, decide_eq_true (show (i : Int) < 16 by omega)]
      by_cases h0 : 0 < i
      · simp only [am, amo, amc, Nat.reduceAdd, Nat.reduceEqDiff, encs_length, List.length_map, decide_true, decide_false, Tree.rec_, Nd.rec_, Word.rec_, Got.rec_, Int.reduceEq, Int.reduceLT, Int.reduceLE, decide_eq_true (show (0 : Int) < i by omega)]
        refine idxPL_ptr (by omega) (by omega) ?_
        simp only [am, amo, amc, Nat.reduceAdd, Nat.reduceEqDiff, encs_length, List.length_map, decide_true, decide_false, Tree.rec_, Nd.rec_, Word.rec_, Got.rec_, Int.reduceEq, Int.reduceLT, Int.reduceLE, hg, form_drop hlt, Int.toNat_natCast]
        by_cases hw : (formT.getD i ([], [])).1 = w
        · rw [if_pos ⟨h0, by rw [hf]; exact hw⟩] at hR
          simp only [am, amo, amc, Nat.reduceAdd, Nat.reduceEqDiff, encs_length, List.length_map, decide_true, decide_false, Tree.rec_, Nd.rec_, Word.rec_, Got.rec_, Int.reduceEq, Int.reduceLT, Int.reduceLE, decide_eq_true hw]
          refine retK_intro rfl (Store.sub_refl _) ⟨?_, rfl⟩
          simp [V.erase, eraseL, hR]
        · rw [if_neg (by rw [hf]; exact fun h => hw h.2)] at hR
          simp only [am, amo, amc, Nat.reduceAdd, Nat.reduceEqDiff, encs_length, List.length_map, decide_true, decide_false, Tree.rec_, Nd.rec_, Word.rec_, Got.rec_, Int.reduceEq, Int.reduceLT, Int.reduceLE, decide_eq_false hw, wi]
          exact again _ hR (by simp [inv19, List.replicate, am])
      · rw [if_neg (by simp [h0])] at hR
        simp only [am, amo, amc, Nat.reduceAdd, Nat.reduceEqDiff, encs_length, List.length_map, decide_true, decide_false, Tree.rec_, Nd.rec_, Word.rec_, Got.rec_, Int.reduceEq, Int.reduceLT, Int.reduceLE, decide_eq_false (show ¬ (0 : Int) < i by omega), wi]
        exact again _ hR (by simp [inv19, List.replicate, am])
    · obtain rfl : n = 0 := by omega
      simp only [numF] at hR
      simp only [am, amo, amc, Nat.reduceAdd, Nat.reduceEqDiff, encs_length, List.length_map, decide_true, decide_false, Tree.rec_, Nd.rec_, Word.rec_, Got.rec_, Int.reduceEq, Int.reduceLT, Int.reduceLE, decide_eq_false (show ¬ (i : Int) < 16 by omega)]
      refine retK_intro rfl (Store.sub_refl _) ⟨?_, rfl⟩
      simp [V.erase, eraseL, hR]
end Go.Proofs.Tryd

namespace Go.Proofs.Tryd
open Go.Am
set_option maxRecDepth 4000
set_option maxHeartbeats 4000000
def ac57 : AC := .seq (.reg [xm 6 0, xc 55 7 [.s 6, .c (.int .u8 123)], ⟨(some 2), .alloc [(.int .u8 0), (.str []), (.int .i64 0), (.sl .full 5 []), (.int .i64 0)], none⟩, xs 5 2 7])
 (.seq (.reg [xm 8 0, xf 0 9 2, xf 2 10 9, xo 11 10, xk 12 8, xf 5 13 12, xf 6 14 13, xs 1 14 11])
 (.seq (.seq (.reg [xm 15 0, xk 16 15, xf 3 17 16, xf 0 18 17, xo 19 18, xB .neq 20 19 0, xm 21 20, xh 21 (xf 3 22 2), xh 21 (xo 23 22), xh 21 (xL 24 23), xh 21 (xB .eql 25 24 0), ⟨(some 26), .pick (.s 21) (.c (.bool true)) (.s 25), none⟩])
 (.cond (.s 26) (.ret)
 (.skip)))
 (.seq (.reg [xf 3 27 2, xo 28 27, xf 4 29 2, xo 30 29, ⟨(some 31), .build [(.sl .full 5 []), (.int .i64 0), (.int .i64 0), (.int .i64 0), (.int .i64 0), (.int .i64 0), (.int .i64 0), (.str []), (.int .i64 0), (.sl .full 2 []), (.sl .full 4 []), (.int .i64 0), (.int .i64 0), (.int .i64 0), (.str []), (.sl .full 2 []), (.sl .full 5 []), (.int .i64 0), (.int .i64 0), (.str []), (.sl .full 2 []), (.sl .full 5 [])] [(0, 1, (.s 28)), (2, 1, (.s 30))], none⟩, ⟨(some 32), .boxO 22 (.s 31), none⟩, xm 3 32])
 (.seq (.block 0 (.loop (.seq (.seq (.reg [xm 33 3, xk 34 33, xf 3 35 34, xf 0 36 35, xo 37 36, xB .eql 38 37 0])
 (.cond (.s 38) (.skip)
 (.exit 0)))
 (.block 1 (.seq (.reg [xm 39 3, xc 18 40 [.s 39], ⟨(some 4), .alloc [(.str []), (.int .i64 0)], none⟩, xs 2 4 40])
 (.seq (.reg [xm 41 3, xc 55 42 [.s 41, .c (.int .u8 60)]])
 (.seq (.reg [xm 43 3, xc 18 44 [.s 43], ⟨(some 5), .alloc [(.str []), (.int .i64 0)], none⟩, xs 2 5 44])
 (.seq (.draw [(xm 45 0, []), (xm 46 0, []), (xk 47 46, []), (xf 5 48 47, []), (xf 5 49 48, []), (xo 50 49, []), (xl 2 51 4, []), (xl 2 52 5, []), (⟨(some 53), .build [(.str []), (.int .i64 0), (.str []), (.int .i64 0)] [(0, 2, (.s 51)), (2, 2, (.s 52))], none⟩, []), (⟨(some 54), .bslice 4 [(.s 53)], none⟩, []), (xa 4 55 50 54, []), (xk 56 45, []), (xf 5 57 56, []), (xf 5 58 57, []), (xs 1 58 55, [])])
 (.seq (.seq (.draw [(xm 59 3, []), (xk 60 59, []), (xf 1 61 60, []), (xo 62 61, []), (xm 63 3, []), (xk 64 63, []), (xf 0 65 64, []), (xo 66 65, []), (xL 67 66, []), (xb .eql 68 62 67, [])])
 (.cond (.s 68) (.exit 0)
 (.skip)))
 (.reg [xm 69 3, xc 55 70 [.s 69, .c (.int .u8 44)]]))))))))))
 (.seq (.upd (.reg [xm 71 3, xk 72 71, xf 3 73 72, xf 0 74 73, xo 75 74, xB .neq 76 75 0]))
 (.cond (.s 76) (.reg [xm 77 0, xm 78 3, xk 79 78, xf 3 80 79, xl 2 81 80, xk 82 77, xf 3 83 82, xs 2 83 81])
 (.skip)))))))
theorem fn57 : IsFn prog 57 ac57 [] 84 := ⟨f57, ⟨[32], [11]⟩, func57, by kernel_rfl, by kernel_rfl, by kernel_rfl, by kernel_rfl⟩
theorem take_kids {r : Rdr} {k : Int} : ((r.take k).1.kids.length : Int) ≤ manys r.l := by
  have := (r.take_many k).1
  have := manys_ge (r.take k).1.kids
  omega
theorem word_at (r : Rdr) : Goes r r.word.2 := goes_word r
def zero17 : List V := [.int .i64 0, .int .i64 0, .str [], .int .i64 0, .sl .full 2 [], .sl .full 4 [], .int .i64 0, .int .i64 0, .int .i64 0, .str [], .sl .full 2 [], .sl .full 5 [], .int .i64 0, .int .i64 0, .str [], .sl .full 2 [], .sl .full 5 []]
theorem ole_of_eq {σ σ' : Store} (h : σ = σ') : OLe σ σ' := h ▸ OLe.rfl
structure PrI where
  n : Nat
  i : Rdr
  acc : List (Word × Word)
  τ : Nat
def pStore (σ : Store) (r q τ : Nat) (i rd : Rdr) (c : Cmd) (acc : List (Word × Word)) : Store := ((σ.set q (i.enc ++ zero17)).set r (rd.enc ++ c.encP (.sl (.tk τ) 4 (acc.map penc)))).setTip τ acc.length
section
variable {σ : Store} {r q τ : Nat} {i i' rd : Rdr} {c : Cmd} {acc : List (Word × Word)}
theorem pS_q (h : q ≠ r) : (pStore σ r q τ i rd c acc).box q = some (i.enc ++ zero17) := by simp [pStore, Store.setTip, Store.set, h]
theorem pS_r : (pStore σ r q τ i rd c acc).box r = some (rd.enc ++ c.encP (.sl (.tk τ) 4 (acc.map penc))) := by simp [pStore, Store.setTip, Store.set]
theorem pS_tip : (pStore σ r q τ i rd c acc).tip τ = some acc.length := by simp [pStore, Store.setTip]
theorem pS_set (h : q ≠ r) : (pStore σ r q τ i rd c acc).set q (i'.enc ++ zero17) = pStore σ r q τ i' rd c acc := by
  have : ((σ.set q (i.enc ++ zero17)).set r (rd.enc ++ c.encP (.sl (.tk τ) 4 (acc.map penc)))).set q (i'.enc ++ zero17) = (σ.set q (i'.enc ++ zero17)).set r (rd.enc ++ c.encP (.sl (.tk τ) 4 (acc.map penc))) := by rw [Store.set_comm (Ne.symm h), Store.set_set]
  show (((σ.set q (i.enc ++ zero17)).set r (rd.enc ++ c.encP (.sl (.tk τ) 4 (acc.map penc)))).set q (i'.enc ++ zero17)).setTip τ acc.length = _
  rw [this]; rfl
theorem cr_pc {pc : V} : ldC false 1 ((rd.enc ++ c.encP pc).drop 10) = some pc := rfl
theorem cr_spc {pc x : V} : setAt (rd.enc ++ c.encP pc) 10 [x] = rd.enc ++ c.encP x := rfl
theorem cr_hpc {pc : V} : hasN 1 ((rd.enc ++ c.encP pc).drop 10) = true := rfl
theorem cr_l {cs : List V} : ldC false 1 (rd.enc ++ cs) = some (.sl .no 5 (encs rd.l)) := rfl
theorem cr_at {cs : List V} : ldC false 1 ((rd.enc ++ cs).drop 1) = some (.int .i64 rd.at_) := rfl
theorem cr_fin {cs : List V} : ldC false 1 ((rd.enc ++ cs).drop 2) = some (.int .i64 rd.fin) := rfl
theorem cr_bad {cs : List V} : ldC false 1 ((rd.enc ++ cs).drop 3) = some (.int .i64 (badC rd.bad)) := rfl
theorem cr_bb {cs : List V} : takeN 2 ((rd.enc ++ cs).drop 3) = some [.int .i64 (badC rd.bad), .int .i64 (badA rd.bad)] := rfl
theorem cr_hb {cs : List V} : hasN 2 ((rd.enc ++ cs).drop 3) = true := rfl
theorem cr_sb {cs : List V} {b : Option Int} : setAt (rd.enc ++ cs) 3 [.int .i64 (badC b), .int .i64 (badA b)] = ({ rd with bad := b } : Rdr).enc ++ cs := by cases cs <;> rfl
def crl := And.intro @cr_pc <| And.intro @cr_spc <| And.intro @cr_hpc <| And.intro @cr_l <| And.intro @cr_at <| And.intro @cr_fin <| And.intro @cr_bad <| And.intro @cr_bb <| And.intro @cr_hb @cr_sb
theorem pS_add {p : Word × Word} {n : Nat} (hn : n = acc.length + 1) : ((pStore σ r q τ i rd c acc).setTip τ n).set r (rd.enc ++ c.encP (.sl (.tk τ) 4 (acc.map penc ++ [penc p]))) = pStore σ r q τ i rd c (acc ++ [p]) := by
  subst hn
  unfold pStore
  rw [List.length_append, List.length_cons, List.length_nil, List.map_append, List.map_cons, List.map_nil]
  show ((((σ.set q (i.enc ++ zero17)).set r (rd.enc ++ c.encP (.sl (.tk τ) 4 (acc.map penc)))).set r (rd.enc ++ c.encP (.sl (.tk τ) 4 (acc.map penc ++ [penc p])))).setTip τ acc.length).setTip τ (acc.length + 1) = _
  rw [Store.set_set, setTip_setTip]
end
theorem Store.sub_setm {σ σ' : Store} {r : Nat} {X : List V} (h : σ.sub σ') : (σ.set r X).sub (σ'.set r X) := by
  refine ⟨fun b cs hb => ?_, h.2⟩
  simp only [Store.set] at hb ⊢
  by_cases e : b = r
  · rw [if_pos e] at hb ⊢; exact hb
  · rw [if_neg e] at hb ⊢; exact h.1 b cs hb
def SLp (r q : Nat) : List V := [.ptr (.out r) 0, .any, .any, .ptr (.out q) 0] ++ List.replicate 80 .any
theorem pairs_fin {σ : Store} {r q τ : Nat} {i rd : Rdr} {c : Cmd} {acc : List (Word × Word)} {t : List V} {l : List (List V)} {K : St → Prop} (hτ : σ.tip τ = none) (ht : LLe t (SLp r q))
    (hK : K ⟨SLp r q, [], (σ.set q (i.enc ++ zero17)).set r (rd.enc ++ c.encP (.sl .no 4 (acc.map penc)))⟩) : Upd ⟨t, l, pStore σ r q τ i rd c acc⟩ K := by
  refine Upd.drops (l' := []) ht (by simp [LLLe]) ?_ (by simp [SLp, List.replicate, loL, V.lo]) rfl hK
  refine ⟨fun b cs' hb => ?_, fun υ m hm => ?_⟩
  · simp only [pStore, Store.setTip, Store.set] at hb ⊢
    split at hb
    · rename_i h; subst h
      simp only [Option.some.injEq] at hb; subst hb
      exact ⟨_, by rw [if_pos rfl], by simp [Rdr.enc, Cmd.encP, am]⟩
    · rename_i h
      exact ⟨cs', by rw [if_neg h]; exact hb, LLe.rfl⟩
  · have hm : σ.tip υ = some m := hm
    have hne : υ ≠ τ := by rintro rfl; rw [hτ] at hm; simp at hm
    simp only [pStore, Store.setTip, Store.set, if_neg hne]
    exact hm
theorem pairsG_bad {n : Nat} {i : Rdr} {acc : List (Word × Word)} (h : i.bad ≠ none) : Rdr.pairsG n i acc = (i, acc) := by
  cases n <;> simp [Rdr.pairsG, h]
theorem pcell_ne {ps : List (Word × Word)} (h : ps ≠ []) : pcell ps = .sl .no 4 (ps.map penc) := by cases ps with | nil => exact absurd rfl h | cons _ _ => rfl
def invPairs (σ : Store) (r q : Nat) (rd : Rdr) (c : Cmd) (p : PrI) : St :=
  ⟨[.ptr (.out r) 0, .any, .any, .ptr (.out q) 0] ++ List.replicate 80 .any, [], pStore σ r q p.τ p.i rd c p.acc⟩
def PrOk (t : Tree) (σ : Store) (R : Rdr × List (Word × Word)) (p : PrI) : Prop :=
  Rdr.pairsG p.n p.i p.acc = R ∧ p.i.l = t.kids ∧ 0 ≤ p.i.at_ ∧ p.i.at_ ≤ p.i.l.length ∧ (p.i.bad = none → (t.kids.length : Int) + 1 ≤ p.i.at_ + p.n) ∧ (p.acc.length : Int) ≤ p.i.at_ + 1 ∧ (p.i.bad = none → (p.acc.length : Int) ≤ p.i.at_) ∧ σ.tip p.τ = none ∧ (p.i.bad = none ∨ p.acc ≠ [])
theorem pairs_calls {r : Nat} {rd : Rdr} {c : Cmd} {σ : Store} (h : σ.box r = some (rd.enc ++ c.encP (.sl .full 4 []))) (hc : c.pairs = []) (h0 : 0 ≤ rd.at_) (hm : manys rd.l + 1 ≤ big) :
    PCalls prog 57 [.ptr (.out r) 0] σ fun v σ' => v = .tup [] ∧ σ' = σ.set r ((pairsP rd c).1.enc ++ (pairsP rd c).2.encP (pcell (pairsP rd c).2.pairs)) := by
  have hlen := manys_ge rd.l
  refine fn57.calls ?_
  simp only [slots, ac57, am, amo, amc, ams, Nat.reduceAdd, Nat.reduceEqDiff, decide_true, decide_false, Tree.rec_, Nd.rec_, Word.rec_, Got.rec_, Int.reduceEq, Int.reduceLT, Int.reduceLE]
  refine (ctake_calls h h0 (by omega)).mono ?_
  rintro v σ' ⟨rfl, rfl⟩
  have hks := take_kids (r := rd) (k := 123)
  have hpp : pairsP rd c = if (rd.take 123).2.bad ≠ none ∨ (rd.take 123).1.kids.length = 0 then ((rd.take 123).2, { c with pairsAt := (rd.take 123).1.tok.pos })
    else ((rd.take 123).2.bads ((rd.take 123).1.inner.pairsG ((rd.take 123).1.kids.length + 1) []).1.bad, { c with pairsAt := (rd.take 123).1.tok.pos, pairs := ((rd.take 123).1.inner.pairsG ((rd.take 123).1.kids.length + 1) []).2 }) := rfl
  rw [hpp]
  generalize (rd.take 123).1 = t at hks ⊢
  generalize (rd.take 123).2 = r1
  simp only [am, amo, amc, Nat.reduceAdd, Nat.reduceEqDiff, encs_length, List.length_map, decide_true, decide_false, Tree.rec_, Nd.rec_, Word.rec_, Got.rec_, Int.reduceEq, Int.reduceLT, Int.reduceLE, Tree.fl, Rdr.enc, Cmd.encP]
  cases hb : r1.bad with
  | some b =>
    simp only [am, amo, amc, Nat.reduceAdd, Nat.reduceEqDiff, encs_length, List.length_map, decide_true, decide_false, Tree.rec_, Nd.rec_, Word.rec_, Got.rec_, Int.reduceEq, Int.reduceLT, Int.reduceLE, badC]
    refine retK_intro rfl (Store.sub_refl _) ⟨rfl, ?_⟩
    simp [Rdr.enc, Cmd.encP, badC, hc, pcell, hb]
  | none =>
    simp only [am, amo, amc, Nat.reduceAdd, Nat.reduceEqDiff, encs_length, List.length_map, decide_true, decide_false, Tree.rec_, Nd.rec_, Word.rec_, Got.rec_, Int.reduceEq, Int.reduceLT, Int.reduceLE, badC, Tree.fl]
    by_cases hk : t.kids.length = 0
    · simp only [am, amo, amc, Nat.reduceAdd, Nat.reduceEqDiff, encs_length, List.length_map, decide_true, decide_false, Tree.rec_, Nd.rec_, Word.rec_, Got.rec_, Int.reduceEq, Int.reduceLT, Int.reduceLE, decide_eq_true (show (t.kids.length : Int) = 0 by omega)]
      refine retK_intro rfl (Store.sub_refl _) ⟨rfl, ?_⟩
      simp [Rdr.enc, Cmd.encP, badC, hc, pcell, hb, hk]
    · simp only [am, amo, amc, Nat.reduceAdd, Nat.reduceEqDiff, encs_length, List.length_map, decide_true, decide_false, Tree.rec_, Nd.rec_, Word.rec_, Got.rec_, Int.reduceEq, Int.reduceLT, Int.reduceLE, decide_eq_false (show ¬ (t.kids.length : Int) = 0 by omega), Tree.fl]
      refine kO_intro fun q hq => ?_
      have hqr : q ≠ r := by rintro rfl; simp [Store.set] at hq
      have hqσ : σ.box q = none := by simpa [Store.set, hqr] using hq
      generalize hR : Rdr.pairsG (t.kids.length + 1) t.inner [] = R
      rw [if_neg (by simp [hk])]
      have hin : t.inner = (⟨t.kids, 0, t.fin, none⟩ : Rdr) := rfl
      generalize hc1 : ({ c with pairsAt := t.tok.pos } : Cmd) = c1
      have e1 : ∀ A B, (σ.set r A).set q B = (σ.set q B).set r A := fun A B => Store.set_comm (Ne.symm hqr)
      rw [e1]
      refine vc_loop (fun p : { p : PrI // PrOk t σ R p } => invPairs σ r q r1 c1 p.1) (fun p => p.1.n) ?_ ?_
      · refine (Upd.drops (t' := (invPairs σ r q r1 c1 ⟨0, t.inner, [], 0⟩).t) (l' := []) (σ' := (σ.set q (t.inner.enc ++ zero17)).set r (r1.enc ++ c1.encP (.sl .full 4 []))) ?_ trivial ?_ (by simp [invPairs, List.replicate, loL, V.lo]) rfl rfl).bind ?_
        · simp [invPairs, List.replicate, am]
        · refine ole_of_eq ?_
          simp [Rdr.enc, Cmd.encP, zero17, ← hc1, hin, hb, badC, badA]
          rfl
        · rintro _ rfl
          refine Upd.tok 0 fun τ hτ => ⟨_, [], (σ.set q (t.inner.enc ++ zero17)).set r (r1.enc ++ c1.encP (.sl (.tk τ) 4 [])), LTo.rfl, rfl, by simp, ?_, ⟨⟨t.kids.length + 1, t.inner, [], τ⟩, ?_⟩, ?_⟩
          · have := OTo.set (σ := (σ.set q (t.inner.enc ++ zero17)).set r (r1.enc ++ c1.encP (.sl .full 4 []))) (b := r) (τ := τ) (n := 0) (cs' := r1.enc ++ c1.encP (.sl (.tk τ) 4 [])) (Store.set_same _ _ _) (by simp [Rdr.enc, Cmd.encP, lto])
            rwa [Store.set_set] at this
          · exact ⟨hR, rfl, by simp [hin], by simp [hin], fun _ => by simp [hin], by simp [hin], fun _ => by simp [hin], hτ, .inl rfl⟩
          · rfl
      · rintro ⟨⟨n, i, acc, τ⟩, hR, hl, hi0, hi1, hn, ha1, ha2, hτ, hne⟩
        simp only at hR hl hi0 hi1 hn ha1 ha2 hτ hne
        simp only [invPairs, List.replicate, am, pS_q hqr, crl]
        have hl' : i.l.length = t.kids.length := by rw [hl]
        have hlb : i.l.length ≤ big := by rw [hl]; omega
        cases hbad : i.bad with
        | some b =>
          simp only [am, amo, amc, Nat.reduceAdd, Nat.reduceEqDiff, encs_length, List.length_map, decide_true, decide_false, Tree.rec_, Nd.rec_, Word.rec_, Got.rec_, Int.reduceEq, Int.reduceLT, Int.reduceLE, badC]
          rw [pairsG_bad (by simp [hbad])] at hR
          have hacc : acc ≠ [] := by rcases hne with h | h; rw [hbad] at h; simp at h; exact h
          refine pairs_fin hτ (by simp [SLp, List.replicate, am]) ?_
          have hbq : ∀ B, ((σ.set q (i.enc ++ zero17)).set r B).box q = some (i.enc ++ zero17) := fun B => by simp [Store.set, hqr]
          have hbr : ∀ A B, ((σ.set q A).set r B).box r = some B := fun A B => by simp [Store.set]
          simp only [SLp, List.replicate, am, hbq, hbr, crl, hbad, badC]
          simp only [am, amo, amc, Nat.reduceAdd, Nat.reduceEqDiff, encs_length, List.length_map, decide_true, decide_false, Tree.rec_, Nd.rec_, Word.rec_, Got.rec_, Int.reduceEq, Int.reduceLT, Int.reduceLE, hbr, hbq, crl, hbad, badC]
          refine retK_intro rfl (Store.sub_setm (sub_set hqσ)) ⟨rfl, ?_⟩
          simp [← hR, Rdr.bads, hbad, pcell_ne hacc, ← hc1, Rdr.enc, Cmd.encP, badC, badA]
          rfl
        | none =>
          have ha2 := ha2 hbad
          have hn := hn hbad
          obtain ⟨m, rfl⟩ : ∃ m, n = m + 1 := ⟨n - 1, by omega⟩
          simp only [Rdr.pairsG, hbad, ne_eq, not_true_eq_false, if_false] at hR
          simp only [am, amo, amc, Nat.reduceAdd, Nat.reduceEqDiff, encs_length, List.length_map, decide_true, decide_false, Tree.rec_, Nd.rec_, Word.rec_, Got.rec_, Int.reduceEq, Int.reduceLT, Int.reduceLE, badC]
          refine (cword_calls (pS_q hqr) hi0 hlb).mono ?_
          rintro v σ' ⟨rfl, rfl⟩
          rw [pS_set hqr]
          obtain ⟨g1, g2⟩ := word_at i
          have g2 := g2 hi0 hi1
          have e1 : i.word.2.l.length = i.l.length := by rw [g1]
          generalize i.word.2 = i1 at *
          generalize i.word.1 = lo at *
          simp only [am, amo, amc, Nat.reduceAdd, Nat.reduceEqDiff, encs_length, List.length_map, decide_true, decide_false, Tree.rec_, Nd.rec_, Word.rec_, Got.rec_, Int.reduceEq, Int.reduceLT, Int.reduceLE]
          refine (ctake_calls (pS_q hqr) (by omega) (by rw [g1]; exact hlb)).mono ?_
          rintro v σ' ⟨rfl, rfl⟩
          rw [pS_set hqr]
          obtain ⟨g3, g4⟩ := goes_take i1 60
          have g4 := g4 (by omega) (by omega)
          have e2 : (i1.take 60).2.l.length = i1.l.length := by rw [g3]
          generalize (i1.take 60).2 = i2 at *
          simp only [am, amo, amc, Nat.reduceAdd, Nat.reduceEqDiff, encs_length, List.length_map, decide_true, decide_false, Tree.rec_, Nd.rec_, Word.rec_, Got.rec_, Int.reduceEq, Int.reduceLT, Int.reduceLE]
          refine (cword_calls (pS_q hqr) (by omega) (by rw [g3, g1]; exact hlb)).mono ?_
          rintro v σ' ⟨rfl, rfl⟩
          rw [pS_set hqr]
          obtain ⟨g5, g6⟩ := word_at i2
          have g6 := g6 (by omega) (by omega)
          have e3 : i2.word.2.l.length = i2.l.length := by rw [g5]
          generalize i2.word.2 = i3 at *
          generalize i2.word.1 = hi at *
          simp only [am, amo, amc, Nat.reduceAdd, Nat.reduceEqDiff, encs_length, List.length_map, decide_true, decide_false, Tree.rec_, Nd.rec_, Word.rec_, Got.rec_, Int.reduceEq, Int.reduceLT, Int.reduceLE, pS_r, pS_q hqr, crl, Word.enc]
          refine appD_tk (by simp [big] at hm ⊢; omega) (by rw [List.length_map]; exact pS_tip) ?_
          simp only [am, amo, amc, Nat.reduceAdd, Nat.reduceEqDiff, encs_length, List.length_map, decide_true, decide_false, Tree.rec_, Nd.rec_, Word.rec_, Got.rec_, Int.reduceEq, Int.reduceLT, Int.reduceLE, pS_r, pS_q hqr, crl]
          rw [show [V.str lo.text, V.int .i64 lo.pos, .str hi.text, .int .i64 hi.pos] = penc (lo, hi) from rfl, pS_add rfl]
          simp only [am, amo, amc, Nat.reduceAdd, Nat.reduceEqDiff, encs_length, List.length_map, decide_true, decide_false, Tree.rec_, Nd.rec_, Word.rec_, Got.rec_, Int.reduceEq, Int.reduceLT, Int.reduceLE, pS_q hqr, crl]
          have hnc : acc ++ [(lo, hi)] ≠ [] := by simp
          by_cases hend : i3.at_ = i.l.length
          · rw [if_pos hend] at hR
            simp only [am, amo, amc, Nat.reduceAdd, Nat.reduceEqDiff, encs_length, List.length_map, decide_true, decide_false, Tree.rec_, Nd.rec_, Word.rec_, Got.rec_, Int.reduceEq, Int.reduceLT, Int.reduceLE, decide_eq_true (show i3.at_ = (i3.l.length : Int) by omega)]
            refine pairs_fin hτ (by simp [SLp, List.replicate, am]) ?_
            have hbq : ∀ B, ((σ.set q (i3.enc ++ zero17)).set r B).box q = some (i3.enc ++ zero17) := fun B => by simp [Store.set, hqr]
            have hbr : ∀ A B, ((σ.set q A).set r B).box r = some B := fun A B => by simp [Store.set]
            cases hb3 : i3.bad with
            | none =>
              simp only [SLp, List.replicate, am, hbq, hbr, crl, hb3, badC]
              simp only [am, amo, amc, Nat.reduceAdd, Nat.reduceEqDiff, encs_length, List.length_map, decide_true, decide_false, Tree.rec_, Nd.rec_, Word.rec_, Got.rec_, Int.reduceEq, Int.reduceLT, Int.reduceLE, hbr, hbq, crl, hb3, badC]
              refine retK_intro rfl (Store.sub_setm (sub_set hqσ)) ⟨rfl, ?_⟩
              simp [← hR, Rdr.bads, hb3, pcell_ne hnc, ← hc1, hb, Rdr.enc, Cmd.encP, badC, badA]
            | some b =>
              simp only [SLp, List.replicate, am, hbq, hbr, crl, hb3, badC]
              simp only [am, amo, amc, Nat.reduceAdd, Nat.reduceEqDiff, encs_length, List.length_map, decide_true, decide_false, Tree.rec_, Nd.rec_, Word.rec_, Got.rec_, Int.reduceEq, Int.reduceLT, Int.reduceLE, hbr, hbq, crl, hb3, badC]
              refine retK_intro rfl (Store.sub_setm (sub_set hqσ)) ⟨rfl, ?_⟩
              simp [← hR, Rdr.bads, hb3, pcell_ne hnc, ← hc1, Rdr.enc, Cmd.encP, badC, badA]
              rfl
          · rw [if_neg hend] at hR
            simp only [am, amo, amc, Nat.reduceAdd, Nat.reduceEqDiff, encs_length, List.length_map, decide_true, decide_false, Tree.rec_, Nd.rec_, Word.rec_, Got.rec_, Int.reduceEq, Int.reduceLT, Int.reduceLE, decide_eq_false (show ¬ i3.at_ = (i3.l.length : Int) by omega)]
            refine (ctake_calls (pS_q hqr) (by omega) (by omega)).mono ?_
            rintro v σ' ⟨rfl, rfl⟩
            rw [pS_set hqr]
            obtain ⟨g7, g8⟩ := goes_take i3 44
            have g8 := g8 (by omega) (by omega)
            have e4 : (i3.take 44).2.l.length = i3.l.length := by rw [g7]
            generalize (i3.take 44).2 = i4 at *
            simp only [am, amo, amc, Nat.reduceAdd, Nat.reduceEqDiff, encs_length, List.length_map, decide_true, decide_false, Tree.rec_, Nd.rec_, Word.rec_, Got.rec_, Int.reduceEq, Int.reduceLT, Int.reduceLE]
            refine Upd.againD (I := fun p : { p : PrI // PrOk t σ R p } => invPairs σ r q r1 c1 p.1) (μ := fun p => p.1.n) ⟨⟨m, i4, acc ++ [(lo, hi)], τ⟩, hR, by rw [← hl, g7, g5, g3, g1], by simp only; omega, by simp only; omega, fun hb4 => ?_, ?_, fun hb4 => ?_, hτ, .inr hnc⟩ (by simp) (by simp [invPairs, List.replicate, am]) (by simp [LLLe, invPairs]) OLe.rfl (by simp [invPairs, List.replicate, loL, V.lo]) rfl
            · have := g8.2.2 hb4; simp only; omega
            · simp; omega
            · have := g8.2.2 hb4; simp; omega
end Go.Proofs.Tryd

namespace Go.Proofs.Tryd
open Go.Am
set_option maxRecDepth 4000
set_option maxHeartbeats 4000000
def ac21 : AC := .seq (.seq (.reg [xm 6 0, xk 7 6, xf 3 8 7, xf 0 9 8, xo 10 9, xB .neq 11 10 0])
 (.cond (.s 11) (.ret)
 (.skip)))
 (.seq (.reg [xm 12 1])
 (.block 0 (.seq (.reg [⟨(some 14), .binI .eql (.s 12) (.c (.int .i32 110)), none⟩, xm 13 14])
 (.cond (.s 13) (.reg [xm 15 0, xm 16 0, xc 18 17 [.s 16], xk 18 15, xf 5 19 18, xf 2 20 19, xs 2 20 17])
 (.seq (.reg [⟨(some 22), .binI .eql (.s 12) (.c (.int .i32 102)), none⟩, xm 21 22])
 (.cond (.s 21) (.reg [xm 23 0, xm 24 0, xc 18 25 [.s 24], ⟨(some 26), .bslice 2 [(.s 25)], none⟩, xk 27 23, xf 5 28 27, xf 4 29 28, xs 1 29 26])
 (.seq (.reg [⟨(some 31), .binI .eql (.s 12) (.c (.int .i32 119)), none⟩, xm 30 31])
 (.cond (.s 30) (.seq (.drawA [5] [(xm 33 0, []), (xk 34 33, []), (xf 0 35 34, []), (xo 36 35, []), (xm 37 0, []), (xk 38 37, []), (xf 1 39 38, []), (xo 40 39, []), (xm 41 0, []), (xk 42 41, []), (xf 2 43 42, []), (xo 44 43, []), (xc 56 45 [.s 36, .s 40, .s 44], []), (xm 32 45, []), (xe 46 32 0, []), (xe 47 32 1, []), (⟨none, .mv (.c .any), none⟩, []), (xm 4 46, []), (⟨(some 5), .boxS 2 (.s 47), none⟩, [])])
 (.seq (.draw [(xm 48 0, []), (xm 49 0, []), (xm 50 4, []), (xl 2 51 5, [1]), (xk 52 48, []), (xf 5 53 52, []), (xf 4 54 53, []), (xs 1 54 50, []), (xk 55 49, []), (xf 3 56 55, []), (xs 2 56 51, [])])
 (.reg [xm 57 0, xk 58 57, xf 1 59 58, xo 60 59, xB .add 61 60 1, xk 62 57, xf 1 63 62, xs 1 63 61])))
 (.seq (.reg [⟨(some 65), .binI .eql (.s 12) (.c (.int .i32 112)), none⟩, xm 64 65])
 (.cond (.s 64) (.reg [xm 66 0, xc 57 67 [.s 66]])
 (.seq (.reg [⟨(some 69), .binI .eql (.s 12) (.c (.int .i32 116)), none⟩, xm 68 69])
 (.cond (.s 68) (.draw [(xm 70 0, []), (xm 71 0, []), (xk 72 71, []), (xf 0 73 72, []), (xo 74 73, []), (xm 75 0, []), (xk 76 75, []), (xf 1 77 76, []), (xo 78 77, []), (xm 79 0, []), (xk 80 79, []), (xf 2 81 80, []), (xo 82 81, []), (xc 59 83 [.s 74, .s 78, .s 82], []), (xe 84 83 0, []), (xe 85 83 1, []), (xe 86 83 2, []), (xc 58 87 [.s 70, .s 84, .s 85, .s 86], [])])
 (.seq (.reg [⟨(some 89), .binI .eql (.s 12) (.c (.int .i32 114)), none⟩, xm 88 89])
 (.cond (.s 88) (.draw [(xm 90 0, []), (xm 91 0, []), (xk 92 91, []), (xf 0 93 92, []), (xo 94 93, []), (xm 95 0, []), (xk 96 95, []), (xf 1 97 96, []), (xo 98 97, []), (xm 99 0, []), (xk 100 99, []), (xf 2 101 100, []), (xo 102 101, []), (xc 60 103 [.s 94, .s 98, .s 102], []), (xe 104 103 0, []), (xe 105 103 1, []), (xe 106 103 2, []), (xc 58 107 [.s 90, .s 104, .s 105, .s 106], [])])
 (.skip)))))))))))))))
theorem fn21 : IsFn prog 21 ac21 [] 108 := ⟨f21, ⟨[], []⟩, func21, by kernel_rfl, by kernel_rfl, by kernel_rfl, by kernel_rfl⟩
theorem fenc_nol {b : Option Int} : (fenc b).nol = true := rfl
section
variable {rd : Rdr} {c : Cmd} {pc : V} {cs : List V}
theorem cr_sname {w : Word} : setAt (rd.enc ++ c.encP pc) 7 w.enc = rd.enc ++ ({ c with name := w } : Cmd).encP pc := rfl
theorem cr_hname : hasN 2 ((rd.enc ++ c.encP pc).drop 7) = true := rfl
theorem cr_snames {ws : List Word} : setAt (rd.enc ++ c.encP pc) 9 [.sl .no 2 (ws.map Word.enc)] = rd.enc ++ ({ c with names := ws } : Cmd).encP pc := rfl
theorem cr_hnames : hasN 1 ((rd.enc ++ c.encP pc).drop 9) = true := rfl
theorem cr_sat {n : Int} : setAt (rd.enc ++ cs) 1 [.int .i64 n] = ({ rd with at_ := n } : Rdr).enc ++ cs := by cases cs <;> rfl
theorem cr_hat : hasN 1 ((rd.enc ++ cs).drop 1) = true := rfl
def crn := And.intro @cr_sname <| And.intro @cr_hname <| And.intro @cr_snames <| And.intro @cr_hnames <| And.intro @cr_sat @cr_hat
end
theorem part102_calls {r : Nat} {rd : Rdr} {c : Cmd} {pc : V} {σ : Store} (h : σ.box r = some (rd.enc ++ c.encP pc)) (hb : rd.bad = none) (h0 : 0 ≤ rd.at_) (hlen : rd.l.length ≤ big) :
    PCalls prog 21 [.ptr (.out r) 0, .int .i32 102] σ fun v σ' => v = .tup [] ∧ σ' = σ.set r (rd.word.2.enc ++ ({ c with names := [rd.word.1] } : Cmd).encP pc) := by
  refine PCalls.le (S := σ.set r (setAt (rd.word.2.enc ++ c.encP pc) 9 [.sl .full 2 [rd.word.1.enc]])) ?_ (OLe.set ?_)
  · refine fn21.calls ?_
    simp only [slots, ac21, am, amo, amc, ams, Nat.reduceAdd, Nat.reduceEqDiff, decide_true, decide_false, Tree.rec_, Nd.rec_, Word.rec_, Got.rec_, Int.reduceEq, Int.reduceLT, Int.reduceLE, Nat.reduceLT, fenc_nol]
    simp only [am, amo, amc, Nat.reduceAdd, Nat.reduceEqDiff, encs_length, List.length_map, decide_true, decide_false, Tree.rec_, Nd.rec_, Word.rec_, Got.rec_, Int.reduceEq, Int.reduceLT, Int.reduceLE, Nat.reduceLT, fenc_nol, h, crl, hb, badC]
    refine (cword_calls h h0 hlen).mono ?_
    rintro v σ' ⟨rfl, rfl⟩
    simp only [am, amo, amc, Nat.reduceAdd, Nat.reduceEqDiff, encs_length, List.length_map, decide_true, decide_false, Tree.rec_, Nd.rec_, Word.rec_, Got.rec_, Int.reduceEq, Int.reduceLT, Int.reduceLE, Nat.reduceLT, fenc_nol, crn]
    refine retK_intro rfl (Store.sub_refl _) ⟨rfl, rfl⟩
  · show LLe ([V.sl .no 5 (encs rd.word.2.l), .int .i64 rd.word.2.at_, .int .i64 rd.word.2.fin, .int .i64 (badC rd.word.2.bad), .int .i64 (badA rd.word.2.bad)] ++ _) ([V.sl .no 5 (encs rd.word.2.l), .int .i64 rd.word.2.at_, .int .i64 rd.word.2.fin, .int .i64 (badC rd.word.2.bad), .int .i64 (badA rd.word.2.bad)] ++ _)
    simp [am, Cmd.encP]
theorem part_calls {r : Nat} {x : Rdr × Cmd} {k : UInt8} {pc : V} {σ : Store} (h : σ.box r = some (x.1.enc ++ x.2.encP pc)) (hp : k = 112 → pc = .sl .full 4 [] ∧ x.2.pairs = []) (h0 : 0 ≤ x.1.at_) (hm : manys x.1.l + 1 ≤ big) (ha : x.1.at_ ≤ big) :
    PCalls prog 21 [.ptr (.out r) 0, .int .i32 (k.toNat : Nat)] σ fun v σ' => v = .tup [] ∧ σ' = σ.set r ((partP k x).1.enc ++ (partP k x).2.encP (if k = 112 ∧ x.1.bad = none then pcell (partP k x).2.pairs else pc)) := by
  obtain ⟨rd, c⟩ := x
  simp only at h hp h0 hm ha
  have hlen := manys_ge rd.l
  have hkk : ∀ n : UInt8, ((k.toNat : Nat) : Int) = (n.toNat : Nat) ↔ k = n := fun n => by
    constructor
    · intro h; exact UInt8.toNat_inj.1 (by omega)
    · rintro rfl; rfl
  by_cases k2 : k = 102 ∧ rd.bad = none
  · obtain ⟨k2, hb⟩ := k2
    subst k2
    have := part102_calls h hb h0 (by omega)
    simpa [partP, hb] using this
  refine fn21.calls ?_
  simp only [slots, ac21, am, amo, amc, ams, Nat.reduceAdd, Nat.reduceEqDiff, decide_true, decide_false, Tree.rec_, Nd.rec_, Word.rec_, Got.rec_, Int.reduceEq, Int.reduceLT, Int.reduceLE, Nat.reduceLT, fenc_nol]
  simp only [am, amo, amc, Nat.reduceAdd, Nat.reduceEqDiff, encs_length, List.length_map, decide_true, decide_false, Tree.rec_, Nd.rec_, Word.rec_, Got.rec_, Int.reduceEq, Int.reduceLT, Int.reduceLE, Nat.reduceLT, fenc_nol, h, crl]
  cases hb : rd.bad with
  | some b =>
    simp only [am, amo, amc, Nat.reduceAdd, Nat.reduceEqDiff, encs_length, List.length_map, decide_true, decide_false, Tree.rec_, Nd.rec_, Word.rec_, Got.rec_, Int.reduceEq, Int.reduceLT, Int.reduceLE, Nat.reduceLT, fenc_nol, badC]
    refine retK_intro rfl (Store.sub_refl _) ⟨rfl, ?_⟩
    rw [show partP k (rd, c) = (rd, c) by simp [partP, hb], if_neg (by simp [hb])]
    exact (Store.set_id h).symm
  | none =>
    have k2 : ¬ k = 102 := fun h => k2 ⟨h, hb⟩
    simp only [am, amo, amc, Nat.reduceAdd, Nat.reduceEqDiff, encs_length, List.length_map, decide_true, decide_false, Tree.rec_, Nd.rec_, Word.rec_, Got.rec_, Int.reduceEq, Int.reduceLT, Int.reduceLE, Nat.reduceLT, fenc_nol, badC]
    have hp0 : partP k (rd, c) = if k = 110 then (rd.word.2, { c with name := rd.word.1 })
        else if k = 119 then ({ rd with bad := (wordsAt rd.l rd.at_ rd.fin).2, at_ := rd.at_ + 1 }, { c with names := (wordsAt rd.l rd.at_ rd.fin).1 })
        else if k = 112 then pairsP rd c
        else if k = 116 then nodeP rd c (readAt (Rdr.label (manys rd.l)) rd.l rd.at_ rd.fin)
        else if k = 114 then nodeP rd c (readAt (Rdr.row (manys rd.l)) rd.l rd.at_ rd.fin)
        else (rd, c) := by simp [partP, hb, k2]
    have e110 : ((k.toNat : Nat) : Int) = 110 ↔ k = 110 := hkk 110
    have e102 : ((k.toNat : Nat) : Int) = 102 ↔ k = 102 := hkk 102
    have e119 : ((k.toNat : Nat) : Int) = 119 ↔ k = 119 := hkk 119
    have e112 : ((k.toNat : Nat) : Int) = 112 ↔ k = 112 := hkk 112
    have e116 : ((k.toNat : Nat) : Int) = 116 ↔ k = 116 := hkk 116
    have e114 : ((k.toNat : Nat) : Int) = 114 ↔ k = 114 := hkk 114
    by_cases k1 : k = 110
    · rw [if_pos k1] at hp0
      simp only [am, amo, amc, Nat.reduceAdd, Nat.reduceEqDiff, encs_length, List.length_map, decide_true, decide_false, Tree.rec_, Nd.rec_, Word.rec_, Got.rec_, Int.reduceEq, Int.reduceLT, Int.reduceLE, Nat.reduceLT, fenc_nol, decide_eq_true (e110.2 k1)]
      refine (cword_calls h h0 (by omega)).mono ?_
      rintro v σ' ⟨rfl, rfl⟩
      simp only [am, amo, amc, Nat.reduceAdd, Nat.reduceEqDiff, encs_length, List.length_map, decide_true, decide_false, Tree.rec_, Nd.rec_, Word.rec_, Got.rec_, Int.reduceEq, Int.reduceLT, Int.reduceLE, Nat.reduceLT, fenc_nol, crn]
      refine retK_intro rfl (Store.sub_refl _) ⟨rfl, ?_⟩
      rw [hp0, if_neg (by simp [k1])]
    rw [if_neg k1] at hp0
    simp only [am, amo, amc, Nat.reduceAdd, Nat.reduceEqDiff, encs_length, List.length_map, decide_true, decide_false, Tree.rec_, Nd.rec_, Word.rec_, Got.rec_, Int.reduceEq, Int.reduceLT, Int.reduceLE, Nat.reduceLT, fenc_nol, decide_eq_false (fun h => k1 (e110.1 h))]
    simp only [am, amo, amc, Nat.reduceAdd, Nat.reduceEqDiff, encs_length, List.length_map, decide_true, decide_false, Tree.rec_, Nd.rec_, Word.rec_, Got.rec_, Int.reduceEq, Int.reduceLT, Int.reduceLE, Nat.reduceLT, fenc_nol, decide_eq_false (fun h => k2 (e102.1 h))]
    by_cases k3 : k = 119
    · rw [if_pos k3] at hp0
      simp only [am, amo, amc, Nat.reduceAdd, Nat.reduceEqDiff, encs_length, List.length_map, decide_true, decide_false, Tree.rec_, Nd.rec_, Word.rec_, Got.rec_, Int.reduceEq, Int.reduceLT, Int.reduceLE, Nat.reduceLT, fenc_nol, decide_eq_true (e119.2 k3), h, crl]
      refine CallD.intro (Words_calls hm) ?_
      rw [hp0, if_neg (by simp [k3])]
      generalize wordsAt rd.l rd.at_ rd.fin = o
      have w1 : IntKind.i64.wrap (rd.at_ + 1) = rd.at_ + 1 := by simp only [big] at ha; exact wrap_i64 (by omega) (by omega)
      simp only [am, amo, amc, Nat.reduceAdd, Nat.reduceEqDiff, encs_length, List.length_map, decide_true, decide_false, Tree.rec_, Nd.rec_, Word.rec_, Got.rec_, Int.reduceEq, Int.reduceLT, Int.reduceLE, Nat.reduceLT, fenc_nol, fenc, h, crl, crn, w1]
      exact retK_intro rfl (Store.sub_refl _) ⟨rfl, rfl⟩
    rw [if_neg k3] at hp0
    simp only [am, amo, amc, Nat.reduceAdd, Nat.reduceEqDiff, encs_length, List.length_map, decide_true, decide_false, Tree.rec_, Nd.rec_, Word.rec_, Got.rec_, Int.reduceEq, Int.reduceLT, Int.reduceLE, Nat.reduceLT, fenc_nol, decide_eq_false (fun h => k3 (e119.1 h))]
    by_cases k4 : k = 112
    · rw [if_pos k4] at hp0
      obtain ⟨rfl, hc⟩ := hp k4
      simp only [am, amo, amc, Nat.reduceAdd, Nat.reduceEqDiff, encs_length, List.length_map, decide_true, decide_false, Tree.rec_, Nd.rec_, Word.rec_, Got.rec_, Int.reduceEq, Int.reduceLT, Int.reduceLE, Nat.reduceLT, fenc_nol, decide_eq_true (e112.2 k4)]
      refine (pairs_calls h hc h0 hm).mono ?_
      rintro v σ' ⟨rfl, rfl⟩
      simp only [am, amo, amc, Nat.reduceAdd, Nat.reduceEqDiff, encs_length, List.length_map, decide_true, decide_false, Tree.rec_, Nd.rec_, Word.rec_, Got.rec_, Int.reduceEq, Int.reduceLT, Int.reduceLE, Nat.reduceLT, fenc_nol]
      refine retK_intro rfl (Store.sub_refl _) ⟨rfl, ?_⟩
      rw [hp0, if_pos k4]
    rw [if_neg k4] at hp0
    simp only [am, amo, amc, Nat.reduceAdd, Nat.reduceEqDiff, encs_length, List.length_map, decide_true, decide_false, Tree.rec_, Nd.rec_, Word.rec_, Got.rec_, Int.reduceEq, Int.reduceLT, Int.reduceLE, Nat.reduceLT, fenc_nol, decide_eq_false (fun h => k4 (e112.1 h))]
    by_cases k5 : k = 116
    · rw [if_pos k5] at hp0
      simp only [am, amo, amc, Nat.reduceAdd, Nat.reduceEqDiff, encs_length, List.length_map, decide_true, decide_false, Tree.rec_, Nd.rec_, Word.rec_, Got.rec_, Int.reduceEq, Int.reduceLT, Int.reduceLE, Nat.reduceLT, fenc_nol, decide_eq_true (e116.2 k5), h, crl]
      refine CallD.intro (Label_calls (Nat.le_refl _) hm) ?_
      rw [hp0, if_neg (by simp [k4])]
      generalize readAt (Rdr.label (manys rd.l)) rd.l rd.at_ rd.fin = g
      simp only [am, amo, amc, Nat.reduceAdd, Nat.reduceEqDiff, encs_length, List.length_map, decide_true, decide_false, Tree.rec_, Nd.rec_, Word.rec_, Got.rec_, Int.reduceEq, Int.reduceLT, Int.reduceLE, Nat.reduceLT, fenc_nol]
      refine CallD.intro (cnode_calls h hb) ?_
      simp only [am, amo, amc, Nat.reduceAdd, Nat.reduceEqDiff, encs_length, List.length_map, decide_true, decide_false, Tree.rec_, Nd.rec_, Word.rec_, Got.rec_, Int.reduceEq, Int.reduceLT, Int.reduceLE, Nat.reduceLT, fenc_nol]
      refine retK_intro rfl (Store.sub_refl _) ⟨rfl, rfl⟩
    rw [if_neg k5] at hp0
    simp only [am, amo, amc, Nat.reduceAdd, Nat.reduceEqDiff, encs_length, List.length_map, decide_true, decide_false, Tree.rec_, Nd.rec_, Word.rec_, Got.rec_, Int.reduceEq, Int.reduceLT, Int.reduceLE, Nat.reduceLT, fenc_nol, decide_eq_false (fun h => k5 (e116.1 h))]
    by_cases k6 : k = 114
    · rw [if_pos k6] at hp0
      simp only [am, amo, amc, Nat.reduceAdd, Nat.reduceEqDiff, encs_length, List.length_map, decide_true, decide_false, Tree.rec_, Nd.rec_, Word.rec_, Got.rec_, Int.reduceEq, Int.reduceLT, Int.reduceLE, Nat.reduceLT, fenc_nol, decide_eq_true (e114.2 k6), h, crl]
      refine CallD.intro (Row_calls (Nat.le_refl _) hm) ?_
      rw [hp0, if_neg (by simp [k4])]
      generalize readAt (Rdr.row (manys rd.l)) rd.l rd.at_ rd.fin = g
      simp only [am, amo, amc, Nat.reduceAdd, Nat.reduceEqDiff, encs_length, List.length_map, decide_true, decide_false, Tree.rec_, Nd.rec_, Word.rec_, Got.rec_, Int.reduceEq, Int.reduceLT, Int.reduceLE, Nat.reduceLT, fenc_nol]
      refine CallD.intro (cnode_calls h hb) ?_
      simp only [am, amo, amc, Nat.reduceAdd, Nat.reduceEqDiff, encs_length, List.length_map, decide_true, decide_false, Tree.rec_, Nd.rec_, Word.rec_, Got.rec_, Int.reduceEq, Int.reduceLT, Int.reduceLE, Nat.reduceLT, fenc_nol]
      refine retK_intro rfl (Store.sub_refl _) ⟨rfl, rfl⟩
    rw [if_neg k6] at hp0
    simp only [am, amo, amc, Nat.reduceAdd, Nat.reduceEqDiff, encs_length, List.length_map, decide_true, decide_false, Tree.rec_, Nd.rec_, Word.rec_, Got.rec_, Int.reduceEq, Int.reduceLT, Int.reduceLE, Nat.reduceLT, fenc_nol, decide_eq_false (fun h => k6 (e114.1 h))]
    refine retK_intro rfl (Store.sub_refl _) ⟨rfl, ?_⟩
    rw [hp0, if_neg (by simp [k4])]
    exact (Store.set_id h).symm
end Go.Proofs.Tryd
