/-
  Part 6 of the proof of CommandAgainUptoCardSaid: a logic over the model, the forms of the functions that the law reaches, and what they compute.
-/
import Derived.Test.YthncngbmelgmaaaDoorProg
import Derived.ProofKit
import Derived.OpenShut
import Derived.JoinedCond
import Derived.ChangeStays
import Derived.ReadAgain
import Derived.Deep.DeepHandedRow
import Derived.Lib.LaidTab
import Derived.Test.YthncngbmelgmaaaDoorAgain5
set_option linter.unusedVariables false
set_option linter.unusedSimpArgs false
set_option linter.defProp false
set_option linter.unusedSectionVars false

namespace Go.Proofs.Tryd
open Go.Am
set_option maxRecDepth 4000
set_option maxHeartbeats 4000000
def ac7 : AC := .seq (.reg [⟨(some 2), .alloc [(.int .i64 0), (.int .i64 0), (.str []), (.int .i64 0), (.sl .full 2 []), (.sl .full 4 []), (.int .i64 0), (.int .i64 0), (.int .i64 0), (.str []), (.sl .full 2 []), (.sl .full 5 []), (.int .i64 0), (.int .i64 0), (.str []), (.sl .full 2 []), (.sl .full 5 [])], none⟩, ⟨(some 3), .alloc [(.int .i64 0), (.int .i64 0)], none⟩])
 (.seq (.reg [xm 12 0, xc 16 13 [.s 12], xm 11 13, xe 14 11 0, xe 15 11 1, ⟨(some 5), .alloc [(.int .i64 0), (.int .i64 0)], none⟩, xm 4 14, xs 2 5 15])
 (.seq (.seq (.reg [xf 0 16 5, xo 17 16, xB .neq 18 17 0])
 (.cond (.s 18) (.seq (.draw [(⟨(some 19), .build [(.int .i64 0), (.int .i64 0), (.str []), (.int .i64 0), (.sl .full 2 []), (.sl .full 4 []), (.int .i64 0), (.int .i64 0), (.int .i64 0), (.str []), (.sl .full 2 []), (.sl .full 5 []), (.int .i64 0), (.int .i64 0), (.str []), (.sl .full 2 []), (.sl .full 5 [])] [], none⟩, []), (xl 2 20 5, [1]), (xs 17 2 19, []), (xs 2 3 20, [])])
 (.ret))
 (.skip)))
 (.seq (.reg [xm 22 4, xc 17 23 [.s 22], xm 21 23, xe 24 21 0, xe 25 21 1, xm 6 24, xs 2 5 25])
 (.seq (.seq (.reg [xf 0 26 5, xo 27 26, xB .neq 28 27 0, xm 29 28, xh 29 (xm 30 6), xh 29 (xL 31 30), xh 29 (xB .eql 32 31 0), ⟨(some 33), .pick (.s 29) (.c (.bool true)) (.s 32), none⟩])
 (.cond (.s 33) (.seq (.draw [(⟨(some 34), .build [(.int .i64 0), (.int .i64 0), (.str []), (.int .i64 0), (.sl .full 2 []), (.sl .full 4 []), (.int .i64 0), (.int .i64 0), (.int .i64 0), (.str []), (.sl .full 2 []), (.sl .full 5 []), (.int .i64 0), (.int .i64 0), (.str []), (.sl .full 2 []), (.sl .full 5 [])] [], none⟩, []), (xl 2 35 5, [1]), (xs 17 2 34, []), (xs 2 3 35, [])])
 (.ret))
 (.skip)))
 (.seq (.reg [xm 36 6, xm 37 0, xT 38 37, ⟨(some 39), .build [(.sl .full 5 []), (.int .i64 0), (.int .i64 0), (.int .i64 0), (.int .i64 0), (.int .i64 0), (.int .i64 0), (.str []), (.int .i64 0), (.sl .full 2 []), (.sl .full 4 []), (.int .i64 0), (.int .i64 0), (.int .i64 0), (.str []), (.sl .full 2 []), (.sl .full 5 []), (.int .i64 0), (.int .i64 0), (.str []), (.sl .full 2 []), (.sl .full 5 [])] [(0, 1, (.s 36)), (2, 1, (.s 38))], none⟩, ⟨(some 40), .boxO 22 (.s 39), none⟩, xm 7 40])
 (.seq (.reg [xm 41 7, xc 18 42 [.s 41], ⟨(some 8), .alloc [(.str []), (.int .i64 0)], none⟩, xs 2 8 42])
 (.seq (.draw [(xm 43 7, []), (xf 0 44 8, []), (xo 45 44, []), (xc 19 46 [.s 45], []), (xf 1 47 8, []), (xo 48 47, [0]), (⟨(some 49), .build [(.int .i64 0), (.int .i64 0), (.str []), (.int .i64 0), (.sl .full 2 []), (.sl .full 4 []), (.int .i64 0), (.int .i64 0), (.int .i64 0), (.str []), (.sl .full 2 []), (.sl .full 5 []), (.int .i64 0), (.int .i64 0), (.str []), (.sl .full 2 []), (.sl .full 5 [])] [(0, 1, (.s 46)), (1, 1, (.s 48))], none⟩, []), (xk 50 43, []), (xf 5 51 50, []), (xs 17 51 49, [])])
 (.seq (.seq (.reg [xm 52 7, xk 53 52, xf 5 54 53, xf 0 55 54, xo 56 55, xB .eql 57 56 0])
 (.cond (.s 57) (.seq (.draw [(⟨(some 58), .build [(.int .i64 0), (.int .i64 0), (.str []), (.int .i64 0), (.sl .full 2 []), (.sl .full 4 []), (.int .i64 0), (.int .i64 0), (.int .i64 0), (.str []), (.sl .full 2 []), (.sl .full 5 []), (.int .i64 0), (.int .i64 0), (.str []), (.sl .full 2 []), (.sl .full 5 [])] [], none⟩, []), (xm 59 6, []), (⟨(some 60), .idxA 5 (.s 59) (.c (.int .i64 0)), none⟩, []), (xf 0 61 60, []), (xf 2 62 61, []), (xo 63 62, [1]), (⟨(some 64), .build [(.int .i64 0), (.int .i64 0)] [(0, 1, (.c (.int .i64 2))), (1, 1, (.s 63))], none⟩, []), (xs 17 2 58, []), (xs 2 3 64, [])])
 (.ret))
 (.skip)))
 (.seq (.rangeS [xm 65 7, xk 66 65, xf 5 67 66, xf 0 68 67, xo 69 68, xc 20 70 [.s 69], xw 1 71 70] (.s 71) 72 73 74 0 1
 (.seq (.reg [xe 75 73 2, xm 10 75])
 (.reg [xm 76 7, xm 77 10, xc 21 78 [.s 76, .s 77]])))
 (.seq (.seq (.reg [xm 79 7, xk 80 79, xf 3 81 80, xf 0 82 81, xo 83 82, xB .eql 84 83 0, xm 85 84, xg 85 (xm 86 7), xg 85 (xk 87 86), xg 85 (xf 1 88 87), xg 85 (xo 89 88), xg 85 (xm 90 6), xg 85 (xL 91 90), xg 85 (xb .lss 92 89 91), ⟨(some 93), .pick (.s 85) (.s 92) (.c (.bool false)), none⟩])
 (.cond (.s 93) (.reg [xm 94 7, xc 22 95 [.s 94]])
 (.skip)))
 (.seq (.seq (.reg [xm 96 7, xk 97 96, xf 3 98 97, xf 0 99 98, xo 100 99, xB .neq 101 100 0])
 (.cond (.s 101) (.seq (.draw [(⟨(some 102), .build [(.int .i64 0), (.int .i64 0), (.str []), (.int .i64 0), (.sl .full 2 []), (.sl .full 4 []), (.int .i64 0), (.int .i64 0), (.int .i64 0), (.str []), (.sl .full 2 []), (.sl .full 5 []), (.int .i64 0), (.int .i64 0), (.str []), (.sl .full 2 []), (.sl .full 5 [])] [], none⟩, []), (xm 103 7, []), (xk 104 103, []), (xf 3 105 104, []), (xl 2 106 105, [1]), (xs 17 2 102, []), (xs 2 3 106, [])])
 (.ret))
 (.skip)))
 (.seq (.reg [xm 107 7, xk 108 107, xf 5 109 108, xl 17 110 109, ⟨(some 111), .build [(.int .i64 0), (.int .i64 0)] [], none⟩, xs 17 2 110, xs 2 3 111])
 (.ret)))))))))))))
theorem fn7 : IsFn prog 7 ac7 [.cell 2 true 17, .cell 3 true 2] 112 := ⟨f7, ⟨[40], []⟩, func7, by kernel_rfl, by kernel_rfl, by kernel_rfl, by kernel_rfl⟩
def flt (f : Int × Int) : V := .agg [.int .i64 f.1, .int .i64 f.2]
def SLr (s : List UInt8) (L : List Tree) (b r : Nat) : List V := [.str s, .any, .ptr (.loc 0) 0, .ptr (.loc 1) 0, .any, .any, .sl .no 5 (encs L), .ptr (.out r) 0] ++ List.replicate 64 .any ++ [.raw (.pointer (some ⟨b, 0, none⟩))] ++ List.replicate 39 .any
theorem pcell_er {ps : List (Word × Word)} : (pcell ps).erase = .sl .no 4 (ps.map penc) := by cases ps <;> rfl
theorem cr17 {rd : Rdr} {c : Cmd} {pc : V} : takeN 17 ((rd.enc ++ c.encP pc).drop 5) = some (c.encP pc) := rfl
theorem ce_len {c : Cmd} {pc : V} : (c.encP pc).length = 17 := rfl
theorem ce_one {c : Cmd} {ps : List (Word × Word)} : oneL (c.encP (pcell ps)) = true := by cases ps <;> rfl
theorem ce_ov {z0 z1 z2 z3 z4 z5 z6 z7 z8 z9 z10 z11 z12 z13 z14 z15 z16 : V} {c : Cmd} {pc : V} : over [z0, z1, z2, z3, z4, z5, z6, z7, z8, z9, z10, z11, z12, z13, z14, z15, z16] (c.encP pc) = c.encP pc := rfl
theorem ce_tk {c : Cmd} {pc : V} : takeN 17 (c.encP pc) = some (c.encP pc) := rfl
theorem ce_nol {c : Cmd} {ps : List (Word × Word)} : nolL (c.encP (pcell ps)) = true := by cases ps <;> rfl
theorem ce_er {c : Cmd} : eraseL (c.encP (pcell c.pairs)) = c.enc := by simp only [Cmd.enc, Cmd.encP, eraseL, pcell_er]; rfl
def ce := And.intro @ce_len <| And.intro @ce_one <| And.intro @ce_ov @ce_tk
def LCr : List (List V) := [zero17, [.int .i64 0, .int .i64 0]]
theorem cread_calls (s : List UInt8) {σ : Store} (hg : σ.box 0 = some formCells) (hb : s.length + 1 ≤ big) (hm : manys (treeP (lexR s).1 [] []).1 + 8 ≤ big) :
    PCalls prog 7 [.str s] σ fun v σ' => v = .tup [.agg (readP s).1.enc, flt (readP s).2] ∧ σ' = σ := by
  have hll := lexR_len s
  refine fn7.calls ?_
  simp only [slots, ac7, am, amo, amc, ams, Nat.reduceAdd, Nat.reduceEqDiff, decide_true, decide_false, Tree.rec_, Nd.rec_, Word.rec_, Got.rec_, Int.reduceEq, Int.reduceLT, Int.reduceLE, Nat.reduceLT, fenc_nol]
  refine (lexP_calls s σ hb).mono ?_
  rintro v σ ⟨rfl, rfl⟩
  generalize hR : readP s = R
  unfold readP at hR
  simp only [am, amo, amc, Nat.reduceAdd, Nat.reduceEqDiff, encs_length, List.length_map, decide_true, decide_false, Tree.rec_, Nd.rec_, Word.rec_, Got.rec_, Int.reduceEq, Int.reduceLT, Int.reduceLE, Nat.reduceLT, fenc_nol, badL]
  cases hl : (lexR s).2 with
  | some a =>
    rw [hl] at hR
    simp only [am, amo, amc, Nat.reduceAdd, Nat.reduceEqDiff, encs_length, List.length_map, decide_true, decide_false, Tree.rec_, Nd.rec_, Word.rec_, Got.rec_, Int.reduceEq, Int.reduceLT, Int.reduceLE, Nat.reduceLT, fenc_nol]
    refine retK_intro rfl (Store.sub_refl _) ⟨?_, rfl⟩
    rw [← hR]; rfl
  | none =>
    rw [hl] at hR
    simp only [am, amo, amc, Nat.reduceAdd, Nat.reduceEqDiff, encs_length, List.length_map, decide_true, decide_false, Tree.rec_, Nd.rec_, Word.rec_, Got.rec_, Int.reduceEq, Int.reduceLT, Int.reduceLE, Nat.reduceLT, fenc_nol]
    refine (treeP_calls (lexR s).1 σ (by omega)).mono ?_
    rintro v σ ⟨rfl, rfl⟩
    simp only [am, amo, amc, Nat.reduceAdd, Nat.reduceEqDiff, encs_length, List.length_map, decide_true, decide_false, Tree.rec_, Nd.rec_, Word.rec_, Got.rec_, Int.reduceEq, Int.reduceLT, Int.reduceLE, Nat.reduceLT, fenc_nol, fenc]
    simp only at hR
    cases ht : (treeP (lexR s).1 [] []).2 with
    | some a =>
      rw [ht] at hR
      simp only [am, amo, amc, Nat.reduceAdd, Nat.reduceEqDiff, encs_length, List.length_map, decide_true, decide_false, Tree.rec_, Nd.rec_, Word.rec_, Got.rec_, Int.reduceEq, Int.reduceLT, Int.reduceLE, Nat.reduceLT, fenc_nol, badC]
      refine retK_intro rfl (Store.sub_refl _) ⟨?_, rfl⟩
      rw [← hR]; rfl
    | none =>
      rw [ht] at hR
      simp only at hR
      simp only [am, amo, amc, Nat.reduceAdd, Nat.reduceEqDiff, encs_length, List.length_map, decide_true, decide_false, Tree.rec_, Nd.rec_, Word.rec_, Got.rec_, Int.reduceEq, Int.reduceLT, Int.reduceLE, Nat.reduceLT, fenc_nol, badC]
      generalize (treeP (lexR s).1 [] []).1 = l at hm hR ⊢
      have hlen := manys_ge l
      cases l with
      | nil =>
        simp only [am, amo, amc, Nat.reduceAdd, Nat.reduceEqDiff, encs_length, List.length_map, decide_true, decide_false, Tree.rec_, Nd.rec_, Word.rec_, Got.rec_, Int.reduceEq, Int.reduceLT, Int.reduceLE, Nat.reduceLT, fenc_nol, List.length_nil, show (((0 : Nat) : Int) = 0) = True by simp]
        refine retK_intro rfl (Store.sub_refl _) ⟨?_, rfl⟩
        rw [← hR]; rfl
      | cons t ts =>
        generalize hL : t :: ts = L at *
        have hne : ¬ (L.length : Int) = 0 := by rw [← hL]; simp; omega
        simp only [am, amo, amc, Nat.reduceAdd, Nat.reduceEqDiff, encs_length, List.length_map, decide_true, decide_false, Tree.rec_, Nd.rec_, Word.rec_, Got.rec_, Int.reduceEq, Int.reduceLT, Int.reduceLE, Nat.reduceLT, fenc_nol, decide_eq_false hne]
        refine kO_intro fun r hr => ?_
        have hr0 : r ≠ 0 := by rintro rfl; rw [hg] at hr; simp at hr
        have hg' : ∀ X, (σ.set r X).box 0 = some formCells := fun X => by rw [Store.set_other _ _ (Ne.symm hr0)]; exact hg
        have hr' : ∀ X, (σ.set r X).box r = some X := fun X => Store.set_same _ _ _
        simp only [am, amo, amc, Nat.reduceAdd, Nat.reduceEqDiff, encs_length, List.length_map, decide_true, decide_false, Tree.rec_, Nd.rec_, Word.rec_, Got.rec_, Int.reduceEq, Int.reduceLT, Int.reduceLE, Nat.reduceLT, fenc_nol]
        change PCalls prog 18 [.ptr (.out r) 0] (σ.set r ((⟨L, 0, s.length, none⟩ : Rdr).enc ++ zero17)) _
        have hcmd : cmdP L s.length = if numberP (⟨L, 0, s.length, none⟩ : Rdr).word.1.text = 0 then (.zero, 2, t.tok.pos)
          else endP (partsP (formOf (numberP (⟨L, 0, s.length, none⟩ : Rdr).word.1.text)).2 ((⟨L, 0, s.length, none⟩ : Rdr).word.2, { Cmd.zero with op := numberP (⟨L, 0, s.length, none⟩ : Rdr).word.1.text, pos := (⟨L, 0, s.length, none⟩ : Rdr).word.1.pos })) := by rw [← hL]; rfl
        rw [hcmd] at hR
        refine (cword_calls (hr' _) (by simp) (show L.length ≤ big by omega)).mono ?_
        rintro v _ ⟨rfl, rfl⟩
        have hI : ∀ c, PInv L s.length ((⟨L, 0, s.length, none⟩ : Rdr).word.2, c) := fun c => PInv.goes (x := (⟨L, 0, s.length, none⟩, c)) ⟨rfl, rfl, by simp, by simp; omega, by simp⟩ rfl (goes_word _) (take_fin _ 97)
        generalize (⟨L, 0, s.length, none⟩ : Rdr).word.2 = r1 at hI hR ⊢
        generalize (⟨L, 0, s.length, none⟩ : Rdr).word.1 = w at hR ⊢
        simp only [am, amo, amc, Nat.reduceAdd, Nat.reduceEqDiff, encs_length, List.length_map, decide_true, decide_false, Tree.rec_, Nd.rec_, Word.rec_, Got.rec_, Int.reduceEq, Int.reduceLT, Int.reduceLE, Nat.reduceLT, fenc_nol, Word.enc]
        refine CallD.intro (number_calls w.text (hg' _)) ?_
        have e5 : ∀ X : List V, X.length = 17 → setAt (r1.enc ++ zero17) 5 X = r1.enc ++ X := fun X hX => by
          match X, hX with
          | [_, _, _, _, _, _, _, _, _, _, _, _, _, _, _, _, _], _ => rfl
        have h17 : hasN 17 zero17 = true := rfl
        have d5 : ∀ X : List V, (r1.enc ++ X).drop 5 = X := fun X => rfl
        generalize numberP w.text = op at hR ⊢
        simp only [am, amo, amc, Nat.reduceAdd, Nat.reduceEqDiff, encs_length, List.length_map, decide_true, decide_false, Tree.rec_, Nd.rec_, Word.rec_, Got.rec_, Int.reduceEq, Int.reduceLT, Int.reduceLE, Nat.reduceLT, fenc_nol, hr', e5, h17, d5]
        by_cases hop : op = 0
        · rw [if_pos hop] at hR
          simp only [am, amo, amc, Nat.reduceAdd, Nat.reduceEqDiff, encs_length, List.length_map, decide_true, decide_false, Tree.rec_, Nd.rec_, Word.rec_, Got.rec_, Int.reduceEq, Int.reduceLT, Int.reduceLE, Nat.reduceLT, fenc_nol, decide_eq_true hop]
          refine idxL_intro (by omega) (c := t.enc) (by rw [← hL]; simp [encs_map]) ?_
          simp only [am, amo, amc, Nat.reduceAdd, Nat.reduceEqDiff, encs_length, List.length_map, decide_true, decide_false, Tree.rec_, Nd.rec_, Word.rec_, Got.rec_, Int.reduceEq, Int.reduceLT, Int.reduceLE, Nat.reduceLT, fenc_nol, Tree.fl]
          refine retK_intro rfl (sub_set hr) ⟨?_, rfl⟩
          rw [← hR]; rfl
        · rw [if_neg hop] at hR
          simp only [am, amo, amc, Nat.reduceAdd, Nat.reduceEqDiff, encs_length, List.length_map, decide_true, decide_false, Tree.rec_, Nd.rec_, Word.rec_, Got.rec_, Int.reduceEq, Int.reduceLT, Int.reduceLE, Nat.reduceLT, fenc_nol, decide_eq_false hop]
          refine vc_rangeS ?_
          simp only [am, amo, amc, Nat.reduceAdd, Nat.reduceEqDiff, encs_length, List.length_map, decide_true, decide_false, Tree.rec_, Nd.rec_, Word.rec_, Got.rec_, Int.reduceEq, Int.reduceLT, Int.reduceLE, Nat.reduceLT, fenc_nol, hr', d5]
          refine (of_calls op (hg' _)).mono ?_
          rintro v σ' ⟨rfl, rfl⟩
          simp only [am, amo, amc, Nat.reduceAdd, Nat.reduceEqDiff, encs_length, List.length_map, decide_true, decide_false, Tree.rec_, Nd.rec_, Word.rec_, Got.rec_, Int.reduceEq, Int.reduceLT, Int.reduceLE, Nat.reduceLT, fenc_nol]
          generalize hks : (formOf op).2 = ks at hR ⊢
          generalize hx0 : ((r1, { Cmd.zero with op := op, pos := w.pos }) : Rdr × Cmd) = x0 at hR
          have hI0 : PInv L s.length x0 := by rw [← hx0]; exact hI _
          refine ⟨ks, rfl, by rw [← hks]; exact form_ascii op, fun b i st' => st' = ⟨SLr s L b r, LCr, σ.set r ((partsP (ks.take i) x0).1.enc ++ (partsP (ks.take i) x0).2.encP (pcell (partsP (ks.take i) x0).2.pairs))⟩, ?_, ?_, ?_, ?_⟩
          · intro b
            simp only [am, amo, amc, Nat.reduceAdd, Nat.reduceEqDiff, encs_length, List.length_map, decide_true, decide_false, Tree.rec_, Nd.rec_, Word.rec_, Got.rec_, Int.reduceEq, Int.reduceLT, Int.reduceLE, Nat.reduceLT, fenc_nol]
            refine Upd.drops (l' := LCr) ?_ ?_ ?_ (by simp [SLr, LCr, List.replicate, loL, V.lo]) (by simp [LCr, zero17, loLL, loL, V.lo]) rfl
            · simp [SLr, List.replicate, am]
            · simp [LCr, zero17, am]
            · rw [← hx0]
              exact OLe.set (by simp [Rdr.enc, Cmd.encP, Cmd.zero, Nd.zero, Nd.kind, Nd.pos, Nd.text, Nd.names, Nd.kids, partsP, pcell, am])
          · rintro b i _ rfl
            exact ⟨rfl, by simp [SLr], by simp [SLr]⟩
          · rintro b i c _ hc rfl
            simp only [SLr, List.replicate, am]
            have hIi := partsP_inv (ks.take i) hI0
            have hsn : partsP (ks.take (i + 1)) x0 = partP c (partsP (ks.take i) x0) := by rw [take_succ_of hc, partsP_snoc]
            have hpz : c = 112 → (partsP (ks.take i) x0).2.pairs = [] := fun h => by
              rw [partsP_pairs (ks.take i) (by rw [← hks]; exact form_once op i (by rw [hks, hc, h])), ← hx0]; rfl
            rw [hsn]
            generalize partsP (ks.take i) x0 = x at hIi hpz ⊢
            have hle := hIi.le
            refine (part_calls (k := c) (hr' _) (fun h => by rw [hpz h]; exact ⟨rfl, rfl⟩) hIi.ge (by rw [hIi.hl]; omega) (by omega)).mono ?_
            rintro v _ ⟨rfl, rfl⟩
            have hpc : (if c = 112 ∧ x.1.bad = none then pcell (partP c x).2.pairs else pcell x.2.pairs) = pcell (partP c x).2.pairs := by
              by_cases h : c = 112 ∧ x.1.bad = none
              · rw [if_pos h]
              · rw [if_neg h, partP_pairs]
                by_cases h1 : c = 112
                · exact .inr fun h2 => h ⟨h1, h2⟩
                · exact .inl h1
            rw [hpc]
            simp only [am, amo, amc, Nat.reduceAdd, Nat.reduceEqDiff, encs_length, List.length_map, decide_true, decide_false, Tree.rec_, Nd.rec_, Word.rec_, Got.rec_, Int.reduceEq, Int.reduceLT, Int.reduceLE, Nat.reduceLT, fenc_nol]
            exact Upd.drops (l' := LCr) (by simp [List.replicate, am]) (by simp [LCr, zero17, am]) OLe.rfl (by simp [LCr, List.replicate, loL, V.lo]) (by simp [LCr, zero17, loLL, loL, V.lo]) rfl
          · rintro b _ rfl
            simp only [SLr, LCr, List.replicate, am]
            rw [List.take_length]
            have hIe := partsP_inv ks hI0
            generalize partsP ks x0 = x at hIe hR ⊢
            obtain ⟨rd, c⟩ := x
            have h1 := hIe.hl
            have h2 := hIe.ge
            simp only at h1 h2
            unfold endP at hR
            simp only [h1] at hR
            simp only [am, amo, amc, Nat.reduceAdd, Nat.reduceEqDiff, encs_length, List.length_map, decide_true, decide_false, Tree.rec_, Nd.rec_, Word.rec_, Got.rec_, Int.reduceEq, Int.reduceLT, Int.reduceLE, Nat.reduceLT, fenc_nol, hr', crl]
            cases hbad : rd.bad with
            | some a =>
              simp only [hbad] at hR
              simp only [am, amo, amc, Nat.reduceAdd, Nat.reduceEqDiff, encs_length, List.length_map, decide_true, decide_false, Tree.rec_, Nd.rec_, Word.rec_, Got.rec_, Int.reduceEq, Int.reduceLT, Int.reduceLE, Nat.reduceLT, fenc_nol, badC, crl, hbad, hr', zero17]
              refine retK_intro rfl (sub_set hr) ⟨?_, rfl⟩
              have hR : (Cmd.zero, (2 : Int), a) = R := by simpa [hbad] using hR
              rw [← hR]; rfl
            | none =>
              simp only [hbad, true_and] at hR
              simp only [am, amo, amc, Nat.reduceAdd, Nat.reduceEqDiff, encs_length, List.length_map, decide_true, decide_false, Tree.rec_, Nd.rec_, Word.rec_, Got.rec_, Int.reduceEq, Int.reduceLT, Int.reduceLE, Nat.reduceLT, fenc_nol, badC, crl, hr']
              by_cases hend : rd.at_ < L.length
              · rw [if_pos hend] at hR
                simp only [am, amo, amc, Nat.reduceAdd, Nat.reduceEqDiff, encs_length, List.length_map, decide_true, decide_false, Tree.rec_, Nd.rec_, Word.rec_, Got.rec_, Int.reduceEq, Int.reduceLT, Int.reduceLE, Nat.reduceLT, fenc_nol, decide_eq_true hend]
                refine (cfail_calls (hr' _) h2).mono ?_
                rintro v _ ⟨rfl, rfl⟩
                obtain ⟨a, ha⟩ : ∃ a, rd.fail.bad = some a := by
                  have := Rdr.fail_ok rd
                  cases hq : rd.fail.bad with
                  | none => exact absurd hq this
                  | some a => exact ⟨a, rfl⟩
                rw [ha] at hR
                simp only [am, amo, amc, Nat.reduceAdd, Nat.reduceEqDiff, encs_length, List.length_map, decide_true, decide_false, Tree.rec_, Nd.rec_, Word.rec_, Got.rec_, Int.reduceEq, Int.reduceLT, Int.reduceLE, Nat.reduceLT, fenc_nol, hr', crl, ha, badC, zero17]
                refine retK_intro rfl (sub_set hr) ⟨?_, rfl⟩
                rw [← hR]; rfl
              · rw [if_neg hend, hbad] at hR
                simp only [am, amo, amc, Nat.reduceAdd, Nat.reduceEqDiff, encs_length, List.length_map, decide_true, decide_false, Tree.rec_, Nd.rec_, Word.rec_, Got.rec_, Int.reduceEq, Int.reduceLT, Int.reduceLE, Nat.reduceLT, fenc_nol, decide_eq_false hend, hr', crl, hbad, badC, zero17, cr17, ce]
                refine retK_intro ?_ (sub_set hr) ⟨?_, rfl⟩
                · simp [V.nol, nolL, ce_nol]
                rw [← hR]
                simp [V.erase, eraseL, ce_er, flt]
end Go.Proofs.Tryd

namespace Go.Proofs.Tryd
open Go.Am
set_option maxRecDepth 4000
set_option maxHeartbeats 4000000
section
variable {c : Cmd}
theorem c_lop : ldC false 1 c.enc = some (.int .i64 c.op) := rfl
theorem c_lop0 : ldC false 1 (c.enc.drop 0) = some (.int .i64 c.op) := rfl
theorem c_lp : ldC false 1 (c.enc.drop 1) = some (.int .i64 c.pos) := rfl
def cfo := And.intro @c_lop <| And.intro @c_lop0 @c_lp
end
theorem form_len (op : Int) : (formOf op).2.length ≤ 3 := by
  unfold formOf
  split
  · rename_i h1
    have hlt : op.toNat < 16 := by omega
    generalize op.toNat = n at hlt ⊢
    have key : ∀ n < 16, (formT.getD n ([], [])).2.length ≤ 3 := by decide
    exact key n hlt
  · simp
end Go.Proofs.Tryd

namespace Go.Proofs.Tryd
open Go.Am
set_option maxRecDepth 4000
set_option maxHeartbeats 4000000
def ac38 : AC := .seq (.reg [⟨(some 1), .box 5 (.s 0), none⟩, ⟨(some 2), .mv (.c (.str [])), none⟩])
 (.seq (.seq (.reg [xf 0 3 1, xo 4 3])
 (.block 0 (.seq (.seq (.reg [xB .eql 6 4 1, xm 5 6])
 (.cond (.s 5) (.skip)
 (.reg [xB .eql 7 4 2, xm 5 7])))
 (.cond (.s 5) (.seq (.reg [xf 2 8 1, xo 9 8, xm 2 9])
 (.ret))
 (.seq (.reg [xB .eql 11 4 3, xm 10 11])
 (.cond (.s 10) (.seq (.reg [xl 5 12 1, xc 73 13 [.s 12], ⟨(some 14), .cat (.c (.str [123])) (.s 13), none⟩, ⟨(some 15), .cat (.s 14) (.c (.str [125])), none⟩, xm 2 15])
 (.ret))
 (.seq (.reg [xB .eql 17 4 4, xm 16 17])
 (.cond (.s 16) (.seq (.reg [xl 5 18 1, xc 74 19 [.s 18], ⟨(some 20), .cat (.c (.str [40])) (.s 19), none⟩, ⟨(some 21), .cat (.s 20) (.c (.str [41])), none⟩, xm 2 21])
 (.ret))
 (.seq (.reg [xB .eql 23 4 5, xm 22 23])
 (.cond (.s 22) (.seq (.reg [xl 5 24 1, xc 74 25 [.s 24], ⟨(some 26), .cat (.c (.str [91])) (.s 25), none⟩, ⟨(some 27), .cat (.s 26) (.c (.str [93])), none⟩, xm 2 27])
 (.ret))
 (.seq (.reg [xB .eql 29 4 6, xm 28 29])
 (.cond (.s 28) (.seq (.draw [(xf 2 30 1, []), (xo 31 30, [1]), (⟨(some 32), .cat (.s 31) (.c (.str [58, 123])), none⟩, []), (xl 5 33 1, []), (xc 73 34 [.s 33], []), (⟨(some 35), .cat (.s 32) (.s 34), none⟩, []), (⟨(some 36), .cat (.s 35) (.c (.str [125])), none⟩, []), (xm 2 36, [])])
 (.ret))
 (.seq (.reg [xB .eql 38 4 7, xm 37 38])
 (.cond (.s 37) (.seq (.reg [xl 5 39 1, xc 75 40 [.s 39], ⟨(some 41), .cat (.c (.str [35])) (.s 40), none⟩, xm 2 41])
 (.ret))
 (.seq (.reg [xB .eql 43 4 8, xm 42 43])
 (.cond (.s 42) (.seq (.reg [xl 5 44 1, xc 74 45 [.s 44], ⟨(some 46), .cat (.c (.str [43, 40])) (.s 45), none⟩, ⟨(some 47), .cat (.s 46) (.c (.str [41])), none⟩, xm 2 47])
 (.ret))
 (.seq (.reg [xB .eql 49 4 9, xm 48 49])
 (.cond (.s 48) (.seq (.reg [xl 5 50 1, xc 74 51 [.s 50], ⟨(some 52), .cat (.c (.str [38, 40])) (.s 51), none⟩, ⟨(some 53), .cat (.s 52) (.c (.str [41])), none⟩, xm 2 53])
 (.ret))
 (.seq (.reg [xB .eql 55 4 10, xm 54 55])
 (.cond (.s 54) (.seq (.reg [xl 5 56 1, xc 76 57 [.s 56], xm 2 57])
 (.ret))
 (.seq (.reg [xB .eql 59 4 11, xm 58 59])
 (.cond (.s 58) (.seq (.draw [(xf 2 60 1, []), (xo 61 60, [1]), (⟨(some 62), .cat (.s 61) (.c (.str [61])), none⟩, []), (xl 5 63 1, []), (xc 75 64 [.s 63], []), (⟨(some 65), .cat (.s 62) (.s 64), none⟩, []), (xm 2 65, [])])
 (.ret))
 (.skip)))))))))))))))))))))))
 (.seq (.reg [⟨(some 2), .mv (.c (.str [])), none⟩])
 (.ret)))
theorem fn38 : IsFn prog 38 ac38 [.tmp 2] 66 := ⟨f38, ⟨[], []⟩, func38, by kernel_rfl, by kernel_rfl, by kernel_rfl, by kernel_rfl⟩
def ac73 : AC := .seq (.reg [⟨(some 1), .boxO 5 (.s 0), none⟩, ⟨(some 2), .mv (.c (.str [])), none⟩])
 (.seq (.reg [xf 3 3 1, xo 4 3, xL 5 4, ⟨(some 6), .mkfn (.func 105) [] [(.s 1)], none⟩, xc 104 7 [.s 5, .s 6], xm 2 7])
 (.ret))
theorem fn73 : IsFn prog 73 ac73 [.tmp 2] 8 := ⟨f73, ⟨[1], []⟩, func73, by kernel_rfl, by kernel_rfl, by kernel_rfl, by kernel_rfl⟩
def ac74 : AC := .seq (.reg [⟨(some 1), .boxO 5 (.s 0), none⟩, ⟨(some 2), .mv (.c (.str [])), none⟩])
 (.seq (.reg [xf 4 3 1, xo 4 3, xL 5 4, ⟨(some 6), .mkfn (.func 106) [] [(.s 1)], none⟩, xc 104 7 [.s 5, .s 6], xm 2 7])
 (.ret))
theorem fn74 : IsFn prog 74 ac74 [.tmp 2] 8 := ⟨f74, ⟨[1], []⟩, func74, by kernel_rfl, by kernel_rfl, by kernel_rfl, by kernel_rfl⟩
def ac75 : AC := .seq (.reg [⟨(some 1), .box 5 (.s 0), none⟩, ⟨(some 2), .mv (.c (.str [])), none⟩])
 (.seq (.seq (.reg [xf 4 3 1, xo 4 3, xL 5 4, xB .eql 6 5 0])
 (.cond (.s 6) (.seq (.reg [⟨(some 2), .mv (.c (.str [])), none⟩])
 (.ret))
 (.skip)))
 (.seq (.reg [xf 4 7 1, xo 8 7, ⟨(some 9), .idxA 5 (.s 8) (.c (.int .i64 0)), none⟩, xl 5 10 9, xc 38 11 [.s 10], xm 2 11])
 (.ret)))
theorem fn75 : IsFn prog 75 ac75 [.tmp 2] 12 := ⟨f75, ⟨[], []⟩, func75, by kernel_rfl, by kernel_rfl, by kernel_rfl, by kernel_rfl⟩
def ac76 : AC := .seq (.reg [⟨(some 1), .box 5 (.s 0), none⟩, ⟨(some 2), .mv (.c (.str [])), none⟩])
 (.seq (.reg [xl 5 4 1, xc 74 5 [.s 4], ⟨(some 6), .cat (.c (.str [91])) (.s 5), none⟩, xm 3 6])
 (.seq (.seq (.reg [xf 3 7 1, xo 8 7, xL 9 8, xB .gtr 10 9 0])
 (.cond (.s 10) (.reg [xm 11 3, xl 5 12 1, xc 73 13 [.s 12], ⟨(some 14), .cat (.c (.str [124])) (.s 13), none⟩, ⟨(some 15), .cat (.s 11) (.s 14), none⟩, xm 3 15])
 (.skip)))
 (.seq (.reg [xm 16 3, ⟨(some 17), .cat (.s 16) (.c (.str [93])), none⟩, xm 2 17])
 (.ret))))
theorem fn76 : IsFn prog 76 ac76 [.tmp 2] 18 := ⟨f76, ⟨[], []⟩, func76, by kernel_rfl, by kernel_rfl, by kernel_rfl, by kernel_rfl⟩
def ac104 : AC := .seq (.reg [⟨(some 4), .mv (.c (.str [])), none⟩])
 (.seq (.reg [⟨(some 5), .mv (.c (.sl .full 1 [])), none⟩])
 (.seq (.seq (.reg [xm 7 0, xi 8 0])
 (.block 0 (.loop (.seq (.reg [xb .lss 9 8 7])
 (.seq (.cond (.s 9) (.skip)
 (.exit 0))
 (.seq (.block 1 (.seq (.reg [xm 10 8, xm 6 10])
 (.seq (.seq (.reg [xm 11 6, xB .gtr 12 11 0])
 (.cond (.s 12) (.reg [xm 13 5, ⟨(some 14), .bslice 1 [(.c (.int .u8 44))], none⟩, xa 1 15 13 14, xm 5 15])
 (.skip)))
 (.reg [xm 16 5, xm 17 1, xm 18 6, ⟨(some 19), .callv (.s 17) [(.s 18)], none⟩, ⟨(some 20), .appS (.s 16) (.s 19), none⟩, xm 5 20]))))
 (.reg [xB .add 21 8 1, xm 8 21])))))))
 (.seq (.reg [xm 22 5, ⟨(some 23), .cvBS (.s 22), none⟩, xm 4 23])
 (.ret))))
theorem fn104 : IsFn prog 104 ac104 [.tmp 4] 24 := ⟨f104, ⟨[], []⟩, func104, by kernel_rfl, by kernel_rfl, by kernel_rfl, by kernel_rfl⟩
def ac105 : AC := .seq (.reg [⟨(some 3), .mv (.c (.str [])), none⟩])
 (.seq (.reg [xf 3 4 1, xo 5 4, xm 6 0, xA 2 7 5 6, xf 0 8 7, xo 9 8, xm 3 9])
 (.ret))
theorem fn105 : IsFn prog 105 ac105 [.tmp 3] 10 := ⟨f105, ⟨[], []⟩, func105, by kernel_rfl, by kernel_rfl, by kernel_rfl, by kernel_rfl⟩
def ac106 : AC := .seq (.reg [⟨(some 3), .mv (.c (.str [])), none⟩])
 (.seq (.reg [xf 4 4 1, xo 5 4, xm 6 0, xA 5 7 5 6, xl 5 8 7, xc 38 9 [.s 8], xm 3 9])
 (.ret))
theorem fn106 : IsFn prog 106 ac106 [.tmp 3] 10 := ⟨f106, ⟨[], []⟩, func106, by kernel_rfl, by kernel_rfl, by kernel_rfl, by kernel_rfl⟩
def inv77 (n : Nat) (g : FuncId) (cap : List V) (f : Nat → List UInt8) (σ : Store) (i τ : Nat) : St :=
  ⟨[.int .i64 (n : Nat), .fn (.func g) [] cap, .any, .any, .any, .sl (.tk τ) 1 (encB (joinC ((List.range i).map f))), .any, .int .i64 (n : Nat), .int .i64 (i : Nat)] ++ List.replicate 15 .any, [], σ.setTip τ (joinC ((List.range i).map f)).length⟩
theorem range_snoc (f : Nat → List UInt8) (i : Nat) : joinC ((List.range (i + 1)).map f) = joinC ((List.range i).map f) ++ (if 0 < i then [44] else []) ++ f i := by
  rw [List.range_succ, List.map_append, List.map_singleton, joinC_snoc]; simp
theorem range_mono (f : Nat → List UInt8) {i n : Nat} (h : i ≤ n) : (joinC ((List.range i).map f)).length ≤ (joinC ((List.range n).map f)).length := by
  induction n with
  | zero => have : i = 0 := by omega
            rw [this]; exact Nat.le_refl _
  | succ n ih =>
    by_cases hi : i = n + 1
    · rw [hi]; exact Nat.le_refl _
    · have := ih (by omega)
      rw [range_snoc]; simp only [List.length_append]; omega
theorem commas_calls {n : Nat} {g : FuncId} {cap : List V} {f : Nat → List UInt8} {σ : Store} (hnol : nolL cap = true) (hn : n ≤ big) (hb : (joinC ((List.range n).map f)).length ≤ big)
    (h : ∀ i, i < n → ∀ σ1 : Store, σ1.box = σ.box → PCalls prog g (.int .i64 (i : Nat) :: cap) σ1 fun v σ' => v = .str (f i) ∧ σ' = σ1) :
    PCalls prog 104 [.int .i64 (n : Nat), .fn (.func g) [] cap] σ fun v σ' => v = .str (joinC ((List.range n).map f)) ∧ σ' = σ := by
  refine fn104.calls ?_
  simp only [slots, ac104, am, amo, amc, ams, Nat.reduceAdd, Nat.reduceEqDiff, decide_true, decide_false, Tree.rec_, Nd.rec_, Word.rec_, Got.rec_]
  refine vc_loop (fun p : { p : Nat × Nat // σ.tip p.2 = none ∧ p.1 ≤ n } => inv77 n g cap f σ p.1.1 p.1.2) (fun p => n - p.1.1) ?_ ?_
  · refine Upd.tokEnter 0 fun τ hτ => ⟨⟨(0, τ), hτ, by simp⟩, ?_, rfl, rfl⟩
    simp [inv77, List.replicate, lto, joinC, encB]
  · rintro ⟨⟨i, τ⟩, hτ, hi⟩
    simp only at hτ hi
    simp only [inv77, List.replicate, am]
    refine vcIf_split ?_ ?_
    · intro hlt
      have hlt : i < n := by simpa using hlt
      have hs := range_snoc f i
      have hm := range_mono f (i := i + 1) (n := n) (by omega)
      simp only [big] at hn hb
      rw [hs] at hm
      simp only [List.length_append] at hm
      have wi : IntKind.i64.wrap ((i : Int) + 1) = (i : Int) + 1 := wrap_i64 (by omega) (by omega)
      simp only [am, amo, amc, Nat.reduceAdd, Nat.reduceEqDiff, encs_length, List.length_map, decide_true, decide_false, Tree.rec_, Nd.rec_, Word.rec_, Got.rec_]
      by_cases h0 : 0 < i
      case' pos =>
        rw [if_pos h0] at hs hm
        simp only [am, amo, amc, Nat.reduceAdd, Nat.reduceEqDiff, encs_length, List.length_map, decide_true, decide_false, Tree.rec_, Nd.rec_, Word.rec_, Got.rec_, decide_eq_true (show (0 : Int) < i by omega)]
        refine app_tk (by simp [encB_length, big]; simp at hm; omega) (by rw [encB_length, setTip_tip_same]) ?_
        simp only [am, amo, amc, Nat.reduceAdd, Nat.reduceEqDiff, encs_length, List.length_map, decide_true, decide_false, Tree.rec_, Nd.rec_, Word.rec_, Got.rec_, setTip_setTip]
        rw [show encB (joinC ((List.range i).map f)) ++ [[.int .u8 44]] = encB (joinC ((List.range i).map f) ++ [44]) by simp [encB], show (encB (joinC ((List.range i).map f))).length + 1 = (joinC ((List.range i).map f) ++ [44]).length by simp [encB]]
      case' neg =>
        rw [if_neg h0, List.append_nil] at hs
        rw [if_neg h0] at hm
        simp only [am, amo, amc, Nat.reduceAdd, Nat.reduceEqDiff, encs_length, List.length_map, decide_true, decide_false, Tree.rec_, Nd.rec_, Word.rec_, Got.rec_, decide_eq_false (show ¬ (0 : Int) < i by omega)]
      all_goals
        refine ⟨hnol, ?_⟩
        refine (h i hlt (σ.setTip τ _) rfl).mono ?_
        rintro v σ' ⟨rfl, rfl⟩
        simp only [am, amo, amc, Nat.reduceAdd, Nat.reduceEqDiff, encs_length, List.length_map, decide_true, decide_false, Tree.rec_, Nd.rec_, Word.rec_, Got.rec_]
        refine ⟨_, rfl, ?_⟩
        refine app_tk (by simp [encB_length, big]; simp at hm; omega) (by rw [encB_length, setTip_tip_same]) ?_
        simp only [am, amo, amc, Nat.reduceAdd, Nat.reduceEqDiff, encs_length, List.length_map, decide_true, decide_false, Tree.rec_, Nd.rec_, Word.rec_, Got.rec_, setTip_setTip, wi]
        rw [← encB_append, encB_length, encB_length, ← List.length_append, ← hs]
        exact Upd.again ⟨(i + 1, τ), hτ, hlt⟩ (by simp; omega) (by simp [am, List.replicate]) LLLe.rfl OLe.rfl
    · intro hlt
      have hlt : i = n := by simp at hlt; omega
      subst hlt
      simp only [am, amo, amc, Nat.reduceAdd, Nat.reduceEqDiff, encs_length, List.length_map, decide_true, decide_false, Tree.rec_, Nd.rec_, Word.rec_, Got.rec_]
      refine ⟨_, _, rfl, ?_⟩
      refine retK_intro rfl (sub_tip hτ) ⟨?_, rfl⟩
      simp [V.erase]
theorem names1_text {n : Nd} {i q : Nat} {σ : Store} (hi : i < n.names.length) (hq : σ.box q = some n.enc) : PCalls prog 105 [.int .i64 (i : Nat), .ptr (.out q) 0] σ fun v σ' => v = .str (n.names[i].text) ∧ σ' = σ := by
  refine fn105.calls ?_
  simp only [slots, ac105, am, amo, amc, ams, Nat.reduceAdd, Nat.reduceEqDiff, decide_true, decide_false, Tree.rec_, Nd.rec_, Word.rec_, Got.rec_]
  simp only [am, amo, amc, Nat.reduceAdd, Nat.reduceEqDiff, encs_length, List.length_map, decide_true, decide_false, Tree.rec_, Nd.rec_, Word.rec_, Got.rec_, hq, Nd.fl]
  refine idxL_intro (by omega) (wencs_at (show n.names[i]? = some n.names[i] by simp [hi])) ?_
  simp only [am, amo, amc, Nat.reduceAdd, Nat.reduceEqDiff, encs_length, List.length_map, decide_true, decide_false, Tree.rec_, Nd.rec_, Word.rec_, Got.rec_, Word.enc]
  refine retK_intro rfl (Store.sub_refl _) ⟨?_, rfl⟩
  simp [V.erase, eraseL]
theorem kids1_text {n : Nd} {i q : Nat} {σ : Store} (hi : i < n.kids.length) (hq : σ.box q = some n.enc) (ih : ∀ m ∈ n.kids, ∀ σ, PCalls prog 38 [.agg m.enc] σ fun v σ' => v = .str m.txt ∧ σ' = σ) :
    PCalls prog 106 [.int .i64 (i : Nat), .ptr (.out q) 0] σ fun v σ' => v = .str (n.kids[i].txt) ∧ σ' = σ := by
  refine fn106.calls ?_
  simp only [slots, ac106, am, amo, amc, ams, Nat.reduceAdd, Nat.reduceEqDiff, decide_true, decide_false, Tree.rec_, Nd.rec_, Word.rec_, Got.rec_]
  simp only [am, amo, amc, Nat.reduceAdd, Nat.reduceEqDiff, encs_length, List.length_map, decide_true, decide_false, Tree.rec_, Nd.rec_, Word.rec_, Got.rec_, hq, Nd.fl]
  refine idxL_intro (by omega) (nencs_at (show n.kids[i]? = some n.kids[i] by simp [hi])) ?_
  simp only [am, amo, amc, Nat.reduceAdd, Nat.reduceEqDiff, encs_length, List.length_map, decide_true, decide_false, Tree.rec_, Nd.rec_, Word.rec_, Got.rec_]
  refine (ih n.kids[i] (List.getElem_mem hi) σ).mono ?_
  rintro v σ ⟨rfl, rfl⟩
  simp only [am, amo, amc, Nat.reduceAdd, Nat.reduceEqDiff, encs_length, List.length_map, decide_true, decide_false, Tree.rec_, Nd.rec_, Word.rec_, Got.rec_]
  refine retK_intro rfl (Store.sub_refl _) ⟨?_, rfl⟩
  simp [V.erase, eraseL]
theorem range_map {α : Type} (l : List α) (f : α → List UInt8) (d : List UInt8) : (List.range l.length).map (fun i => if h : i < l.length then f l[i] else d) = l.map f := by
  apply List.ext_getElem?
  intro i
  by_cases h : i < l.length <;> simp [h]
theorem names_text {n : Nd} {σ : Store} (hw : n.wt ≤ big) : PCalls prog 73 [.agg n.enc] σ fun v σ' => v = .str (wtext n.names) ∧ σ' = σ := by
  have h1 := wtext_len n.names
  have h2 : n.names.length ≤ wsum n.names := by
    unfold wsum; generalize n.names = l
    induction l with
    | nil => simp
    | cons w ws ih => simp only [List.map_cons, List.sum_cons, List.length_cons]; omega
  have h3 : wsum n.names ≤ n.wt := by cases n; simp only [Nd.wt, Nd.names]; omega
  have e : joinC ((List.range n.names.length).map (fun i => if h : i < n.names.length then n.names[i].text else [])) = wtext n.names := by
    rw [range_map n.names (fun w => w.text) []]; rfl
  refine fn73.calls ?_
  simp only [slots, ac73, am, amo, amc, ams, Nat.reduceAdd, Nat.reduceEqDiff, decide_true, decide_false, Tree.rec_, Nd.rec_, Word.rec_, Got.rec_]
  refine kO_intro fun q hq => ?_
  simp only [am, amo, amc, Nat.reduceAdd, Nat.reduceEqDiff, encs_length, List.length_map, decide_true, decide_false, Tree.rec_, Nd.rec_, Word.rec_, Got.rec_, Nd.fl]
  refine (commas_calls (f := fun i => if h : i < n.names.length then n.names[i].text else []) rfl (by omega) (by rw [e]; omega) (fun i hi σ1 h1 => ?_)).mono ?_
  · rw [dif_pos hi]
    exact names1_text hi (by rw [h1]; exact Store.set_same _ _ _)
  rintro v σ' ⟨rfl, rfl⟩
  simp only [am, amo, amc, Nat.reduceAdd, Nat.reduceEqDiff, encs_length, List.length_map, decide_true, decide_false, Tree.rec_, Nd.rec_, Word.rec_, Got.rec_]
  refine retK_intro rfl (sub_set hq) ⟨?_, rfl⟩
  rw [e]; simp [V.erase]
theorem kids_text {n : Nd} {σ : Store} (hw : n.wt ≤ big) (ih : ∀ m ∈ n.kids, ∀ σ, PCalls prog 38 [.agg m.enc] σ fun v σ' => v = .str m.txt ∧ σ' = σ) : PCalls prog 74 [.agg n.enc] σ fun v σ' => v = .str (joinC (txts n.kids)) ∧ σ' = σ := by
  have h1 := ktext_len n.kids (txt_lens n.kids)
  have h2 : n.kids.length ≤ wts n.kids := by
    rw [wts_map]; generalize n.kids = l
    induction l with
    | nil => simp
    | cons w ws ih => simp only [List.map_cons, List.sum_cons, List.length_cons]; omega
  have h3 : wts n.kids ≤ n.wt := by cases n; simp only [Nd.wt, Nd.kids]; omega
  have e : joinC ((List.range n.kids.length).map (fun i => if h : i < n.kids.length then n.kids[i].txt else [])) = joinC (txts n.kids) := by
    rw [range_map n.kids (fun w => w.txt) [], txts_map]
  refine fn74.calls ?_
  simp only [slots, ac74, am, amo, amc, ams, Nat.reduceAdd, Nat.reduceEqDiff, decide_true, decide_false, Tree.rec_, Nd.rec_, Word.rec_, Got.rec_]
  refine kO_intro fun q hq => ?_
  simp only [am, amo, amc, Nat.reduceAdd, Nat.reduceEqDiff, encs_length, List.length_map, decide_true, decide_false, Tree.rec_, Nd.rec_, Word.rec_, Got.rec_, Nd.fl]
  refine (commas_calls (f := fun i => if h : i < n.kids.length then n.kids[i].txt else []) rfl (by omega) (by rw [e]; omega) (fun i hi σ1 h1 => ?_)).mono ?_
  · rw [dif_pos hi]
    exact kids1_text hi (by rw [h1]; exact Store.set_same _ _ _) ih
  rintro v σ' ⟨rfl, rfl⟩
  simp only [am, amo, amc, Nat.reduceAdd, Nat.reduceEqDiff, encs_length, List.length_map, decide_true, decide_false, Tree.rec_, Nd.rec_, Word.rec_, Got.rec_]
  refine retK_intro rfl (sub_set hq) ⟨?_, rfl⟩
  rw [e]; simp [V.erase]
theorem first_text {n : Nd} {σ : Store} (ih : ∀ m ∈ n.kids, ∀ σ, PCalls prog 38 [.agg m.enc] σ fun v σ' => v = .str m.txt ∧ σ' = σ) : PCalls prog 75 [.agg n.enc] σ fun v σ' => v = .str (headT (txts n.kids)) ∧ σ' = σ := by
  refine fn75.calls ?_
  simp only [slots, ac75, am, amo, amc, ams, Nat.reduceAdd, Nat.reduceEqDiff, decide_true, decide_false, Tree.rec_, Nd.rec_, Word.rec_, Got.rec_]
  simp only [am, amo, amc, Nat.reduceAdd, Nat.reduceEqDiff, encs_length, List.length_map, decide_true, decide_false, Tree.rec_, Nd.rec_, Word.rec_, Got.rec_, Nd.fl]
  cases hk : n.kids with
  | nil =>
    simp only [am, amo, amc, Nat.reduceAdd, Nat.reduceEqDiff, encs_length, List.length_map, decide_true, decide_false, Tree.rec_, Nd.rec_, Word.rec_, Got.rec_, List.map_nil, List.length_nil, Int.natCast_zero]
    refine retK_intro rfl (Store.sub_refl _) ⟨?_, rfl⟩
    simp [V.erase, eraseL, headT, txts]
  | cons m ms =>
    simp only [am, amo, amc, Nat.reduceAdd, Nat.reduceEqDiff, encs_length, List.length_map, decide_true, decide_false, Tree.rec_, Nd.rec_, Word.rec_, Got.rec_, decide_eq_false (show ¬ (((m :: ms).length : Nat) : Int) = 0 by simp; omega), Nd.fl, hk]
    refine idxL_intro (by omega) (c := m.enc) (by simp) ?_
    simp only [am, amo, amc, Nat.reduceAdd, Nat.reduceEqDiff, encs_length, List.length_map, decide_true, decide_false, Tree.rec_, Nd.rec_, Word.rec_, Got.rec_]
    refine (ih m (by rw [hk]; simp) σ).mono ?_
    rintro v σ ⟨rfl, rfl⟩
    simp only [am, amo, amc, Nat.reduceAdd, Nat.reduceEqDiff, encs_length, List.length_map, decide_true, decide_false, Tree.rec_, Nd.rec_, Word.rec_, Got.rec_]
    refine retK_intro rfl (Store.sub_refl _) ⟨?_, rfl⟩
    simp [V.erase, eraseL, headT, txts]
theorem row_text {n : Nd} {σ : Store} (hw : n.wt ≤ big) (ih : ∀ m ∈ n.kids, ∀ σ, PCalls prog 38 [.agg m.enc] σ fun v σ' => v = .str m.txt ∧ σ' = σ) :
    PCalls prog 76 [.agg n.enc] σ fun v σ' => v = .str (([91] ++ joinC (txts n.kids)) ++ (if 0 < n.names.length then [124] ++ wtext n.names else []) ++ [93]) ∧ σ' = σ := by
  have h1 := ktext_len n.kids (txt_lens n.kids)
  have h2 := wtext_len n.names
  have h3 : wts n.kids + wsum n.names + 4 ≤ n.wt := by cases n; simp only [Nd.wt, Nd.kids, Nd.names]; omega
  refine fn76.calls ?_
  simp only [slots, ac76, am, amo, amc, ams, Nat.reduceAdd, Nat.reduceEqDiff, decide_true, decide_false, Tree.rec_, Nd.rec_, Word.rec_, Got.rec_]
  refine (kids_text hw ih).mono ?_
  rintro v σ ⟨rfl, rfl⟩
  simp only [am, amo, amc, Nat.reduceAdd, Nat.reduceEqDiff, encs_length, List.length_map, decide_true, decide_false, Tree.rec_, Nd.rec_, Word.rec_, Got.rec_]
  refine ⟨by simp; omega, ?_⟩
  simp only [am, amo, amc, Nat.reduceAdd, Nat.reduceEqDiff, encs_length, List.length_map, decide_true, decide_false, Tree.rec_, Nd.rec_, Word.rec_, Got.rec_, Nd.fl]
  by_cases h0 : 0 < n.names.length
  · simp only [am, amo, amc, Nat.reduceAdd, Nat.reduceEqDiff, encs_length, List.length_map, decide_true, decide_false, Tree.rec_, Nd.rec_, Word.rec_, Got.rec_, decide_eq_true (show (0 : Int) < n.names.length by omega)]
    refine (names_text hw).mono ?_
    rintro v σ ⟨rfl, rfl⟩
    simp only [am, amo, amc, Nat.reduceAdd, Nat.reduceEqDiff, encs_length, List.length_map, decide_true, decide_false, Tree.rec_, Nd.rec_, Word.rec_, Got.rec_, catL_str]
    refine ⟨by simp; omega, by simp; omega, by simp; omega, ?_⟩
    refine retK_intro rfl (Store.sub_refl _) ⟨?_, rfl⟩
    simp [V.erase, eraseL, h0]
  · simp only [am, amo, amc, Nat.reduceAdd, Nat.reduceEqDiff, encs_length, List.length_map, decide_true, decide_false, Tree.rec_, Nd.rec_, Word.rec_, Got.rec_, decide_eq_false (show ¬ (0 : Int) < n.names.length by omega)]
    refine ⟨by simp; omega, ?_⟩
    refine retK_intro rfl (Store.sub_refl _) ⟨?_, rfl⟩
    simp [V.erase, eraseL, h0]
theorem text_calls : ∀ (k : Nat) (n : Nd) (σ : Store), n.wt ≤ k → n.wt ≤ big → PCalls prog 38 [.agg n.enc] σ fun v σ' => v = .str n.txt ∧ σ' = σ := by
  intro k
  induction k with
  | zero => intro n σ h _; cases n; simp only [Nd.wt] at h; omega
  | succ k ihk =>
    intro n σ hk hw
    have ih : ∀ m ∈ n.kids, ∀ σ, PCalls prog 38 [.agg m.enc] σ fun v σ' => v = .str m.txt ∧ σ' = σ := fun m hm σ => by
      have h1 := wt_mem hm
      have h2 : wts n.kids + 4 ≤ n.wt := by cases n; simp only [Nd.wt, Nd.kids]; omega
      exact ihk m σ (by omega) (by omega)
    have h1 := ktext_len n.kids (txt_lens n.kids)
    have h2 := wtext_len n.names
    have h3 : n.text.length + wts n.kids + wsum n.names + 4 ≤ n.wt := by cases n; simp only [Nd.wt, Nd.kids, Nd.names, Nd.text]; omega
    have h4 := head_len n.kids (txt_lens n.kids)
    have e : n.txt = if n.kind = 1 ∨ n.kind = 2 then n.text else if n.kind = 3 then [123] ++ wtext n.names ++ [125] else if n.kind = 4 then [40] ++ joinC (txts n.kids) ++ [41] else if n.kind = 5 then [91] ++ joinC (txts n.kids) ++ [93]
        else if n.kind = 6 then n.text ++ [58, 123] ++ wtext n.names ++ [125] else if n.kind = 7 then [35] ++ headT (txts n.kids) else if n.kind = 8 then [43, 40] ++ joinC (txts n.kids) ++ [41] else if n.kind = 9 then [38, 40] ++ joinC (txts n.kids) ++ [41]
        else if n.kind = 10 then ([91] ++ joinC (txts n.kids)) ++ (if 0 < n.names.length then [124] ++ wtext n.names else []) ++ [93] else if n.kind = 11 then n.text ++ [61] ++ headT (txts n.kids) else [] := by cases n; rw [Nd.txt]; rfl
    rw [e]
    refine fn38.calls ?_
    simp only [slots, ac38, am, amo, amc, ams, Nat.reduceAdd, Nat.reduceEqDiff, decide_true, decide_false, Tree.rec_, Nd.rec_, Word.rec_, Got.rec_]
    simp only [am, amo, amc, Nat.reduceAdd, Nat.reduceEqDiff, encs_length, List.length_map, decide_true, decide_false, Tree.rec_, Nd.rec_, Word.rec_, Got.rec_, Nd.fl]
    by_cases k1 : n.kind = 1
    · simp only [am, amo, amc, Nat.reduceAdd, Nat.reduceEqDiff, encs_length, List.length_map, decide_true, decide_false, Tree.rec_, Nd.rec_, Word.rec_, Got.rec_, decide_eq_true k1, Nd.fl]
      refine retK_intro rfl (Store.sub_refl _) ⟨?_, rfl⟩
      simp [V.erase, eraseL, k1]
    simp only [am, amo, amc, Nat.reduceAdd, Nat.reduceEqDiff, encs_length, List.length_map, decide_true, decide_false, Tree.rec_, Nd.rec_, Word.rec_, Got.rec_, decide_eq_false k1]
    by_cases k2 : n.kind = 2
    · simp only [am, amo, amc, Nat.reduceAdd, Nat.reduceEqDiff, encs_length, List.length_map, decide_true, decide_false, Tree.rec_, Nd.rec_, Word.rec_, Got.rec_, decide_eq_true k2, Nd.fl]
      refine retK_intro rfl (Store.sub_refl _) ⟨?_, rfl⟩
      simp [V.erase, eraseL, k2]
    simp only [am, amo, amc, Nat.reduceAdd, Nat.reduceEqDiff, encs_length, List.length_map, decide_true, decide_false, Tree.rec_, Nd.rec_, Word.rec_, Got.rec_, decide_eq_false k2]
    by_cases k3 : n.kind = 3
    · simp only [am, amo, amc, Nat.reduceAdd, Nat.reduceEqDiff, encs_length, List.length_map, decide_true, decide_false, Tree.rec_, Nd.rec_, Word.rec_, Got.rec_, decide_eq_true k3]
      refine (names_text hw).mono ?_
      rintro v σ ⟨rfl, rfl⟩
      simp only [am, amo, amc, Nat.reduceAdd, Nat.reduceEqDiff, encs_length, List.length_map, decide_true, decide_false, Tree.rec_, Nd.rec_, Word.rec_, Got.rec_]
      refine ⟨by simp; omega, by simp; omega, ?_⟩
      refine retK_intro rfl (Store.sub_refl _) ⟨?_, rfl⟩
      simp [V.erase, eraseL, k3]
    simp only [am, amo, amc, Nat.reduceAdd, Nat.reduceEqDiff, encs_length, List.length_map, decide_true, decide_false, Tree.rec_, Nd.rec_, Word.rec_, Got.rec_, decide_eq_false k3]
    by_cases k4 : n.kind = 4
    · simp only [am, amo, amc, Nat.reduceAdd, Nat.reduceEqDiff, encs_length, List.length_map, decide_true, decide_false, Tree.rec_, Nd.rec_, Word.rec_, Got.rec_, decide_eq_true k4]
      refine (kids_text hw ih).mono ?_
      rintro v σ ⟨rfl, rfl⟩
      simp only [am, amo, amc, Nat.reduceAdd, Nat.reduceEqDiff, encs_length, List.length_map, decide_true, decide_false, Tree.rec_, Nd.rec_, Word.rec_, Got.rec_]
      refine ⟨by simp; omega, by simp; omega, ?_⟩
      refine retK_intro rfl (Store.sub_refl _) ⟨?_, rfl⟩
      simp [V.erase, eraseL, k4]
    simp only [am, amo, amc, Nat.reduceAdd, Nat.reduceEqDiff, encs_length, List.length_map, decide_true, decide_false, Tree.rec_, Nd.rec_, Word.rec_, Got.rec_, decide_eq_false k4]
    by_cases k5 : n.kind = 5
    · simp only [am, amo, amc, Nat.reduceAdd, Nat.reduceEqDiff, encs_length, List.length_map, decide_true, decide_false, Tree.rec_, Nd.rec_, Word.rec_, Got.rec_, decide_eq_true k5]
      refine (kids_text hw ih).mono ?_
      rintro v σ ⟨rfl, rfl⟩
      simp only [am, amo, amc, Nat.reduceAdd, Nat.reduceEqDiff, encs_length, List.length_map, decide_true, decide_false, Tree.rec_, Nd.rec_, Word.rec_, Got.rec_]
      refine ⟨by simp; omega, by simp; omega, ?_⟩
      refine retK_intro rfl (Store.sub_refl _) ⟨?_, rfl⟩
      simp [V.erase, eraseL, k5]
    simp only [am, amo, amc, Nat.reduceAdd, Nat.reduceEqDiff, encs_length, List.length_map, decide_true, decide_false, Tree.rec_, Nd.rec_, Word.rec_, Got.rec_, decide_eq_false k5]
    by_cases k6 : n.kind = 6
    · simp only [am, amo, amc, Nat.reduceAdd, Nat.reduceEqDiff, encs_length, List.length_map, decide_true, decide_false, Tree.rec_, Nd.rec_, Word.rec_, Got.rec_, decide_eq_true k6, Nd.fl]
      refine ⟨by simp; omega, ?_⟩
      refine CallD.intro (names_text hw) ?_
      simp only [am, amo, amc, Nat.reduceAdd, Nat.reduceEqDiff, encs_length, List.length_map, decide_true, decide_false, Tree.rec_, Nd.rec_, Word.rec_, Got.rec_, Nd.fl]
      refine ⟨by simp; omega, by simp; omega, ?_⟩
      refine retK_intro rfl (Store.sub_refl _) ⟨?_, rfl⟩
      simp [V.erase, eraseL, k6]
    simp only [am, amo, amc, Nat.reduceAdd, Nat.reduceEqDiff, encs_length, List.length_map, decide_true, decide_false, Tree.rec_, Nd.rec_, Word.rec_, Got.rec_, decide_eq_false k6]
    by_cases k7 : n.kind = 7
    · simp only [am, amo, amc, Nat.reduceAdd, Nat.reduceEqDiff, encs_length, List.length_map, decide_true, decide_false, Tree.rec_, Nd.rec_, Word.rec_, Got.rec_, decide_eq_true k7]
      refine (first_text ih).mono ?_
      rintro v σ ⟨rfl, rfl⟩
      simp only [am, amo, amc, Nat.reduceAdd, Nat.reduceEqDiff, encs_length, List.length_map, decide_true, decide_false, Tree.rec_, Nd.rec_, Word.rec_, Got.rec_]
      refine ⟨by simp; omega, ?_⟩
      refine retK_intro rfl (Store.sub_refl _) ⟨?_, rfl⟩
      simp [V.erase, eraseL, k7]
    simp only [am, amo, amc, Nat.reduceAdd, Nat.reduceEqDiff, encs_length, List.length_map, decide_true, decide_false, Tree.rec_, Nd.rec_, Word.rec_, Got.rec_, decide_eq_false k7]
    by_cases k8 : n.kind = 8
    · simp only [am, amo, amc, Nat.reduceAdd, Nat.reduceEqDiff, encs_length, List.length_map, decide_true, decide_false, Tree.rec_, Nd.rec_, Word.rec_, Got.rec_, decide_eq_true k8]
      refine (kids_text hw ih).mono ?_
      rintro v σ ⟨rfl, rfl⟩
      simp only [am, amo, amc, Nat.reduceAdd, Nat.reduceEqDiff, encs_length, List.length_map, decide_true, decide_false, Tree.rec_, Nd.rec_, Word.rec_, Got.rec_]
      refine ⟨by simp; omega, by simp; omega, ?_⟩
      refine retK_intro rfl (Store.sub_refl _) ⟨?_, rfl⟩
      simp [V.erase, eraseL, k8]
    simp only [am, amo, amc, Nat.reduceAdd, Nat.reduceEqDiff, encs_length, List.length_map, decide_true, decide_false, Tree.rec_, Nd.rec_, Word.rec_, Got.rec_, decide_eq_false k8]
    by_cases k9 : n.kind = 9
    · simp only [am, amo, amc, Nat.reduceAdd, Nat.reduceEqDiff, encs_length, List.length_map, decide_true, decide_false, Tree.rec_, Nd.rec_, Word.rec_, Got.rec_, decide_eq_true k9]
      refine (kids_text hw ih).mono ?_
      rintro v σ ⟨rfl, rfl⟩
      simp only [am, amo, amc, Nat.reduceAdd, Nat.reduceEqDiff, encs_length, List.length_map, decide_true, decide_false, Tree.rec_, Nd.rec_, Word.rec_, Got.rec_]
      refine ⟨by simp; omega, by simp; omega, ?_⟩
      refine retK_intro rfl (Store.sub_refl _) ⟨?_, rfl⟩
      simp [V.erase, eraseL, k9]
    simp only [am, amo, amc, Nat.reduceAdd, Nat.reduceEqDiff, encs_length, List.length_map, decide_true, decide_false, Tree.rec_, Nd.rec_, Word.rec_, Got.rec_, decide_eq_false k9]
    by_cases k10 : n.kind = 10
    · simp only [am, amo, amc, Nat.reduceAdd, Nat.reduceEqDiff, encs_length, List.length_map, decide_true, decide_false, Tree.rec_, Nd.rec_, Word.rec_, Got.rec_, decide_eq_true k10]
      refine (row_text hw ih).mono ?_
      rintro v σ ⟨rfl, rfl⟩
      simp only [am, amo, amc, Nat.reduceAdd, Nat.reduceEqDiff, encs_length, List.length_map, decide_true, decide_false, Tree.rec_, Nd.rec_, Word.rec_, Got.rec_]
      refine retK_intro rfl (Store.sub_refl _) ⟨?_, rfl⟩
      simp [V.erase, eraseL, k10]
    simp only [am, amo, amc, Nat.reduceAdd, Nat.reduceEqDiff, encs_length, List.length_map, decide_true, decide_false, Tree.rec_, Nd.rec_, Word.rec_, Got.rec_, decide_eq_false k10]
    by_cases k11 : n.kind = 11
    · simp only [am, amo, amc, Nat.reduceAdd, Nat.reduceEqDiff, encs_length, List.length_map, decide_true, decide_false, Tree.rec_, Nd.rec_, Word.rec_, Got.rec_, decide_eq_true k11, Nd.fl]
      refine ⟨by simp; omega, ?_⟩
      refine CallD.intro (first_text ih) ?_
      simp only [am, amo, amc, Nat.reduceAdd, Nat.reduceEqDiff, encs_length, List.length_map, decide_true, decide_false, Tree.rec_, Nd.rec_, Word.rec_, Got.rec_, Nd.fl]
      refine ⟨by simp; omega, ?_⟩
      refine retK_intro rfl (Store.sub_refl _) ⟨?_, rfl⟩
      simp [V.erase, eraseL, k11]
    simp only [am, amo, amc, Nat.reduceAdd, Nat.reduceEqDiff, encs_length, List.length_map, decide_true, decide_false, Tree.rec_, Nd.rec_, Word.rec_, Got.rec_, decide_eq_false k11]
    refine retK_intro rfl (Store.sub_refl _) ⟨?_, rfl⟩
    simp [V.erase, eraseL, k1, k2, k3, k4, k5, k6, k7, k8, k9, k10, k11]
end Go.Proofs.Tryd

namespace Go.Proofs.Tryd
open Go.Am
set_option maxRecDepth 4000
set_option maxHeartbeats 4000000
def ac71 : AC := .seq (.reg [⟨(some 1), .box 5 (.s 0), none⟩, ⟨(some 2), .mv (.c (.bool false)), none⟩])
 (.seq (.seq (.reg [xf 0 3 1, xo 4 3])
 (.block 0 (.seq (.reg [xB .eql 6 4 1, xm 5 6])
 (.cond (.s 5) (.seq (.reg [xl 5 7 1, xc 98 8 [.s 7], xm 2 8])
 (.ret))
 (.seq (.reg [xB .eql 10 4 7, xm 9 10])
 (.cond (.s 9) (.seq (.reg [xl 5 11 1, xc 99 12 [.s 11], xm 13 12, xg 13 (xf 4 14 1), xg 13 (xo 15 14), xg 13 (xL 16 15), xg 13 (xB .eql 17 16 1), ⟨(some 18), .pick (.s 13) (.s 17) (.c (.bool false)), none⟩, xm 19 18, xg 19 (xf 4 20 1), xg 19 (xo 21 20), ⟨(some 22), .idxA 5 (.s 21) (.c (.int .i64 0)), (some (19, true))⟩, xg 19 (xl 5 23 22), xg 19 (xc 100 24 [.s 23]), ⟨(some 25), .pick (.s 19) (.s 24) (.c (.bool false)), none⟩, xm 2 25])
 (.ret))
 (.seq (.seq (.reg [xB .eql 27 4 8, xm 26 27])
 (.cond (.s 26) (.skip)
 (.reg [xB .eql 28 4 9, xm 26 28])))
 (.cond (.s 26) (.seq (.reg [xl 5 29 1, xc 99 30 [.s 29], xm 31 30, xg 31 (xf 4 32 1), xg 31 (xo 33 32), xg 31 (xL 34 33), xg 31 (xB .gtr 35 34 0), ⟨(some 36), .pick (.s 31) (.s 35) (.c (.bool false)), none⟩, xm 37 36, xg 37 (xf 4 38 1), xg 37 (xo 39 38), xg 37 (xc 101 40 [.s 39, .c (.fn (.func 71) [] [])]), ⟨(some 41), .pick (.s 37) (.s 40) (.c (.bool false)), none⟩, xm 2 41])
 (.ret))
 (.skip)))))))))
 (.seq (.reg [⟨(some 2), .mv (.c (.bool false)), none⟩])
 (.ret)))
theorem fn71 : IsFn prog 71 ac71 [.tmp 2] 42 := ⟨f71, ⟨[], []⟩, func71, by kernel_rfl, by kernel_rfl, by kernel_rfl, by kernel_rfl⟩
def ac72 : AC := .seq (.reg [⟨(some 1), .box 5 (.s 0), none⟩, ⟨(some 2), .mv (.c (.bool false)), none⟩])
 (.seq (.seq (.reg [xf 0 3 1, xo 4 3, xB .eql 5 4 10])
 (.cond (.s 5) (.seq (.reg [xf 2 6 1, xo 7 6, ⟨(some 8), .binS .eql (.s 7) (.c (.str [])), none⟩, xm 9 8, xg 9 (xf 3 10 1), xg 9 (xo 11 10), xg 9 (xL 12 11), xg 9 (xB .leq 13 12 1), ⟨(some 14), .pick (.s 9) (.s 13) (.c (.bool false)), none⟩, xm 15 14, xg 15 (xf 3 16 1), xg 15 (xo 17 16), xg 15 (xc 102 18 [.s 17]), ⟨(some 19), .pick (.s 15) (.s 18) (.c (.bool false)), none⟩, xm 20 19, xg 20 (xf 4 21 1), xg 20 (xo 22 21), xg 20 (xc 101 23 [.s 22, .c (.fn (.func 103) [] [])]), ⟨(some 24), .pick (.s 20) (.s 23) (.c (.bool false)), none⟩, xm 2 24])
 (.ret))
 (.skip)))
 (.seq (.reg [xf 0 25 1, xo 26 25, xB .eql 27 26 1, xm 28 27, xg 28 (xl 5 29 1), xg 28 (xc 71 30 [.s 29]), ⟨(some 31), .pick (.s 28) (.s 30) (.c (.bool false)), none⟩, xm 2 31])
 (.ret)))
theorem fn72 : IsFn prog 72 ac72 [.tmp 2] 32 := ⟨f72, ⟨[], []⟩, func72, by kernel_rfl, by kernel_rfl, by kernel_rfl, by kernel_rfl⟩
def ac98 : AC := .seq (.reg [⟨(some 1), .box 5 (.s 0), none⟩, ⟨(some 2), .mv (.c (.bool false)), none⟩])
 (.seq (.reg [xf 2 3 1, xo 4 3, xc 51 5 [.s 4], xm 6 5, xg 6 (xf 3 7 1), xg 6 (xo 8 7), xg 6 (xL 9 8), xg 6 (xf 4 10 1), xg 6 (xo 11 10), xg 6 (xL 12 11), xg 6 (xb .add 13 9 12), xg 6 (xB .eql 14 13 0), ⟨(some 15), .pick (.s 6) (.s 14) (.c (.bool false)), none⟩, xm 2 15])
 (.ret))
theorem fn98 : IsFn prog 98 ac98 [.tmp 2] 16 := ⟨f98, ⟨[], []⟩, func98, by kernel_rfl, by kernel_rfl, by kernel_rfl, by kernel_rfl⟩
def ac99 : AC := .seq (.reg [⟨(some 1), .box 5 (.s 0), none⟩, ⟨(some 2), .mv (.c (.bool false)), none⟩])
 (.seq (.reg [xf 2 3 1, xo 4 3, ⟨(some 5), .binS .eql (.s 4) (.c (.str [])), none⟩, xm 6 5, xg 6 (xf 3 7 1), xg 6 (xo 8 7), xg 6 (xL 9 8), xg 6 (xB .eql 10 9 0), ⟨(some 11), .pick (.s 6) (.s 10) (.c (.bool false)), none⟩, xm 2 11])
 (.ret))
theorem fn99 : IsFn prog 99 ac99 [.tmp 2] 12 := ⟨f99, ⟨[], []⟩, func99, by kernel_rfl, by kernel_rfl, by kernel_rfl, by kernel_rfl⟩
def ac100 : AC := .seq (.reg [⟨(some 1), .box 5 (.s 0), none⟩, ⟨(some 2), .mv (.c (.bool false)), none⟩])
 (.seq (.seq (.reg [xf 0 3 1, xo 4 3])
 (.block 0 (.seq (.reg [xB .eql 6 4 2, xm 5 6])
 (.cond (.s 5) (.seq (.reg [xl 5 7 1, xc 98 8 [.s 7], xm 2 8])
 (.ret))
 (.seq (.reg [xB .eql 10 4 3, xm 9 10])
 (.cond (.s 9) (.seq (.reg [xf 2 11 1, xo 12 11, ⟨(some 13), .binS .eql (.s 12) (.c (.str [])), none⟩, xm 14 13, xg 14 (xf 3 15 1), xg 14 (xo 16 15), xg 14 (xc 102 17 [.s 16]), ⟨(some 18), .pick (.s 14) (.s 17) (.c (.bool false)), none⟩, xm 19 18, xg 19 (xf 4 20 1), xg 19 (xo 21 20), xg 19 (xL 22 21), xg 19 (xB .eql 23 22 0), ⟨(some 24), .pick (.s 19) (.s 23) (.c (.bool false)), none⟩, xm 2 24])
 (.ret))
 (.seq (.reg [xB .eql 26 4 4, xm 25 26])
 (.cond (.s 25) (.seq (.reg [xl 5 27 1, xc 99 28 [.s 27], xm 29 28, xg 29 (xf 4 30 1), xg 29 (xo 31 30), xg 29 (xL 32 31), xg 29 (xB .gtr 33 32 0), ⟨(some 34), .pick (.s 29) (.s 33) (.c (.bool false)), none⟩, xm 35 34, xg 35 (xf 4 36 1), xg 35 (xo 37 36), xg 35 (xc 101 38 [.s 37, .c (.fn (.func 100) [] [])]), ⟨(some 39), .pick (.s 35) (.s 38) (.c (.bool false)), none⟩, xm 2 39])
 (.ret))
 (.seq (.reg [xB .eql 41 4 5, xm 40 41])
 (.cond (.s 40) (.seq (.reg [xl 5 42 1, xc 99 43 [.s 42], xm 44 43, xg 44 (xf 4 45 1), xg 44 (xo 46 45), xg 44 (xc 101 47 [.s 46, .c (.fn (.func 121) [] [])]), ⟨(some 48), .pick (.s 44) (.s 47) (.c (.bool false)), none⟩, xm 2 48])
 (.ret))
 (.skip)))))))))))
 (.seq (.reg [⟨(some 2), .mv (.c (.bool false)), none⟩])
 (.ret)))
theorem fn100 : IsFn prog 100 ac100 [.tmp 2] 49 := ⟨f100, ⟨[], []⟩, func100, by kernel_rfl, by kernel_rfl, by kernel_rfl, by kernel_rfl⟩
def ac101 : AC := .seq (.reg [⟨(some 4), .mv (.c (.bool false)), none⟩])
 (.seq (.seq (.reg [xm 7 0, xL 8 7, xi 9 0])
 (.block 0 (.loop (.seq (.reg [xb .lss 10 9 8])
 (.seq (.cond (.s 10) (.skip)
 (.exit 0))
 (.seq (.block 1 (.seq (.reg [xA 5 11 7 9, xl 5 12 11, ⟨(some 6), .alloc [(.int .i64 0), (.int .i64 0), (.str []), (.sl .full 2 []), (.sl .full 5 [])], none⟩, xs 5 6 12])
 (.seq (.reg [xm 13 1, xl 5 14 6, ⟨(some 15), .callv (.s 13) [(.s 14)], none⟩, ⟨(some 16), .not (.s 15), none⟩])
 (.cond (.s 16) (.seq (.reg [⟨(some 4), .mv (.c (.bool false)), none⟩])
 (.ret))
 (.skip)))))
 (.reg [xB .add 17 9 1, xm 9 17])))))))
 (.seq (.reg [⟨(some 4), .mv (.c (.bool true)), none⟩])
 (.ret)))
theorem fn101 : IsFn prog 101 ac101 [.tmp 4] 18 := ⟨f101, ⟨[], []⟩, func101, by kernel_rfl, by kernel_rfl, by kernel_rfl, by kernel_rfl⟩
def ac102 : AC := .seq (.reg [⟨(some 2), .mv (.c (.bool false)), none⟩])
 (.seq (.seq (.reg [xm 5 0, xL 6 5, xi 7 0])
 (.block 0 (.loop (.seq (.reg [xb .lss 8 7 6])
 (.seq (.cond (.s 8) (.skip)
 (.exit 0))
 (.seq (.block 1 (.seq (.reg [xA 2 9 5 7, xl 2 10 9, ⟨(some 4), .alloc [(.str []), (.int .i64 0)], none⟩, xs 2 4 10])
 (.seq (.reg [xf 0 11 4, xo 12 11, xc 51 13 [.s 12], ⟨(some 14), .not (.s 13), none⟩])
 (.cond (.s 14) (.seq (.reg [⟨(some 2), .mv (.c (.bool false)), none⟩])
 (.ret))
 (.skip)))))
 (.reg [xB .add 15 7 1, xm 7 15])))))))
 (.seq (.reg [⟨(some 2), .mv (.c (.bool true)), none⟩])
 (.ret)))
theorem fn102 : IsFn prog 102 ac102 [.tmp 2] 16 := ⟨f102, ⟨[], []⟩, func102, by kernel_rfl, by kernel_rfl, by kernel_rfl, by kernel_rfl⟩
def ac103 : AC := .seq (.reg [⟨(some 1), .box 5 (.s 0), none⟩, ⟨(some 2), .mv (.c (.bool false)), none⟩])
 (.seq (.reg [xf 0 3 1, xo 4 3, xB .eql 5 4 11, xm 6 5, xg 6 (xf 2 7 1), xg 6 (xo 8 7), xg 6 (xc 51 9 [.s 8]), ⟨(some 10), .pick (.s 6) (.s 9) (.c (.bool false)), none⟩, xm 11 10, xg 11 (xf 3 12 1), xg 11 (xo 13 12), xg 11 (xL 14 13), xg 11 (xB .eql 15 14 0), ⟨(some 16), .pick (.s 11) (.s 15) (.c (.bool false)), none⟩, xm 17 16, xg 17 (xf 4 18 1), xg 17 (xo 19 18), xg 17 (xL 20 19), xg 17 (xB .eql 21 20 1), ⟨(some 22), .pick (.s 17) (.s 21) (.c (.bool false)), none⟩, xm 23 22, xg 23 (xf 4 24 1), xg 23 (xo 25 24), ⟨(some 26), .idxA 5 (.s 25) (.c (.int .i64 0)), (some (23, true))⟩, xg 23 (xl 5 27 26), xg 23 (xc 122 28 [.s 27]), ⟨(some 29), .pick (.s 23) (.s 28) (.c (.bool false)), none⟩, xm 2 29])
 (.ret))
theorem fn103 : IsFn prog 103 ac103 [.tmp 2] 30 := ⟨f103, ⟨[], []⟩, func103, by kernel_rfl, by kernel_rfl, by kernel_rfl, by kernel_rfl⟩
def ac121 : AC := .seq (.reg [⟨(some 1), .box 5 (.s 0), none⟩, ⟨(some 2), .mv (.c (.bool false)), none⟩])
 (.seq (.reg [xf 0 3 1, xo 4 3, xB .eql 5 4 6, xm 6 5, xg 6 (xf 2 7 1), xg 6 (xo 8 7), xg 6 (xc 51 9 [.s 8]), ⟨(some 10), .pick (.s 6) (.s 9) (.c (.bool false)), none⟩, xm 11 10, xg 11 (xf 3 12 1), xg 11 (xo 13 12), xg 11 (xc 102 14 [.s 13]), ⟨(some 15), .pick (.s 11) (.s 14) (.c (.bool false)), none⟩, xm 16 15, xg 16 (xf 4 17 1), xg 16 (xo 18 17), xg 16 (xL 19 18), xg 16 (xB .eql 20 19 0), ⟨(some 21), .pick (.s 16) (.s 20) (.c (.bool false)), none⟩, xm 2 21])
 (.ret))
theorem fn121 : IsFn prog 121 ac121 [.tmp 2] 22 := ⟨f121, ⟨[], []⟩, func121, by kernel_rfl, by kernel_rfl, by kernel_rfl, by kernel_rfl⟩
def ac122 : AC := .seq (.reg [⟨(some 1), .box 5 (.s 0), none⟩, ⟨(some 2), .mv (.c (.bool false)), none⟩])
 (.seq (.reg [xf 0 3 1, xo 4 3, xB .eql 5 4 1, xm 6 5, xh 6 (xf 0 7 1), xh 6 (xo 8 7), xh 6 (xB .eql 9 8 7), ⟨(some 10), .pick (.s 6) (.c (.bool true)) (.s 9), none⟩, xm 11 10, xg 11 (xl 5 12 1), xg 11 (xc 71 13 [.s 12]), ⟨(some 14), .pick (.s 11) (.s 13) (.c (.bool false)), none⟩, xm 2 14])
 (.ret))
theorem fn122 : IsFn prog 122 ac122 [.tmp 2] 15 := ⟨f122, ⟨[], []⟩, func122, by kernel_rfl, by kernel_rfl, by kernel_rfl, by kernel_rfl⟩
theorem all_take {α : Type} {l : List α} {i : Nat} {f : α → Bool} (h : i < l.length) : (l.take (i + 1)).all f = ((l.take i).all f && f l[i]) := by
  rw [take_succ_of (List.getElem?_eq_getElem h), List.all_append]; simp only [List.all_cons, List.all_nil, Bool.and_true]
theorem all_no {α : Type} {l : List α} {i : Nat} {f : α → Bool} (h : i < l.length) (hf : f l[i] = false) : l.all f = false := by
  rw [List.all_eq_false]; exact ⟨l[i], List.getElem_mem h, by simp [hf]⟩
def inv40 (l : List Word) (σ : Store) (i : Nat) : St :=
  ⟨[.sl .no 2 (l.map Word.enc)] ++ List.replicate 4 .any ++ [.sl .no 2 (l.map Word.enc), .int .i64 l.length, .int .i64 (i : Nat)] ++ List.replicate 8 .any, [], σ⟩
theorem rightW_calls (l : List Word) (σ : Store) (hb : l.length ≤ big) : PCalls prog 102 [.sl .no 2 (l.map Word.enc)] σ fun v σ' => v = .bool (rightW l) ∧ σ' = σ := by
  simp only [big] at hb
  refine fn102.calls ?_
  simp only [slots, ac102, am, amo, amc, ams, Nat.reduceAdd, Nat.reduceEqDiff, decide_true, decide_false, Tree.rec_, Nd.rec_, Word.rec_, Got.rec_, Nd.fl]
  refine vc_loop (fun p : { i : Nat // i ≤ l.length ∧ (l.take i).all (fun w => nameR w.text) = true } => inv40 l σ p.1) (fun p => l.length - p.1) ?_ ?_
  · refine Upd.enter ⟨0, by simp, by simp⟩ ?_ LLLe.rfl OLe.rfl
    simp [inv40, List.replicate, am]
  · rintro ⟨i, hi, ha⟩
    simp only [inv40, List.replicate, am]
    refine vcIf_split ?_ ?_
    · intro hlt
      have hlt : i < l.length := by simpa using hlt
      simp only [am, amo, amc, Nat.reduceAdd, Nat.reduceEqDiff, encs_length, List.length_map, decide_true, decide_false, Tree.rec_, Nd.rec_, Word.rec_, Got.rec_, Nd.fl]
      refine idxL_intro (by omega) (wencs_at (List.getElem?_eq_getElem hlt)) ?_
      simp only [am, amo, amc, Nat.reduceAdd, Nat.reduceEqDiff, encs_length, List.length_map, decide_true, decide_false, Tree.rec_, Nd.rec_, Word.rec_, Got.rec_, Nd.fl, Word.enc]
      refine (right_calls l[i].text σ).mono ?_
      rintro v σ ⟨rfl, rfl⟩
      cases hg : nameR l[i].text
      · simp only [am, amo, amc, Nat.reduceAdd, Nat.reduceEqDiff, encs_length, List.length_map, decide_true, decide_false, Tree.rec_, Nd.rec_, Word.rec_, Got.rec_, Nd.fl]
        refine retK_intro rfl (Store.sub_refl _) ⟨?_, rfl⟩
        rw [show rightW l = false from all_no (f := fun (w : Word) => nameR w.text) hlt hg]; rfl
      · simp only [am, amo, amc, Nat.reduceAdd, Nat.reduceEqDiff, encs_length, List.length_map, decide_true, decide_false, Tree.rec_, Nd.rec_, Word.rec_, Got.rec_, Nd.fl]
        rw [wrap_i64 (by omega) (by omega)]
        exact Upd.againD ⟨i + 1, hlt, by rw [all_take hlt, ha, hg]; rfl⟩ (by simp; omega) (by simp [List.replicate, am]) (by simp [am]) OLe.rfl rfl rfl
    · intro hlt
      have hlt : i = l.length := by simp at hlt; omega
      subst hlt
      rw [List.take_length] at ha
      simp only [am, amo, amc, Nat.reduceAdd, Nat.reduceEqDiff, encs_length, List.length_map, decide_true, decide_false, Tree.rec_, Nd.rec_, Word.rec_, Got.rec_, Nd.fl]
      refine retK_intro rfl (Store.sub_refl _) ⟨?_, rfl⟩
      simp [V.erase, eraseL, rightW, ha]
def inv42 (g : FuncId) (l : List Nd) (σ : Store) (i : Nat) : St :=
  ⟨[.sl .no 5 (l.map Nd.enc), .fn (.func g) [] []] ++ List.replicate 5 .any ++ [.sl .no 5 (l.map Nd.enc), .int .i64 l.length, .int .i64 (i : Nat)] ++ List.replicate 8 .any, [], σ⟩
theorem all_calls {g : FuncId} {f : Nd → Bool} (l : List Nd) (σ : Store) (hb : l.length ≤ big) (h : ∀ n ∈ l, PCalls prog g [.agg n.enc] σ fun v σ' => v = .bool (f n) ∧ σ' = σ) : PCalls prog 101 [.sl .no 5 (l.map Nd.enc), .fn (.func g) [] []] σ fun v σ' => v = .bool (l.all f) ∧ σ' = σ := by
  simp only [big] at hb
  refine fn101.calls ?_
  simp only [slots, ac101, am, amo, amc, ams, Nat.reduceAdd, Nat.reduceEqDiff, decide_true, decide_false, Tree.rec_, Nd.rec_, Word.rec_, Got.rec_, Nd.fl]
  refine vc_loop (fun p : { i : Nat // i ≤ l.length ∧ (l.take i).all f = true } => inv42 g l σ p.1) (fun p => l.length - p.1) ?_ ?_
  · refine Upd.enter ⟨0, by simp, by simp⟩ ?_ LLLe.rfl OLe.rfl
    simp [inv42, List.replicate, am]
  · rintro ⟨i, hi, ha⟩
    simp only [inv42, List.replicate, am]
    refine vcIf_split ?_ ?_
    · intro hlt
      have hlt : i < l.length := by simpa using hlt
      simp only [am, amo, amc, Nat.reduceAdd, Nat.reduceEqDiff, encs_length, List.length_map, decide_true, decide_false, Tree.rec_, Nd.rec_, Word.rec_, Got.rec_, Nd.fl]
      refine idxL_intro (by omega) (nencs_at (List.getElem?_eq_getElem hlt)) ?_
      simp only [am, amo, amc, Nat.reduceAdd, Nat.reduceEqDiff, encs_length, List.length_map, decide_true, decide_false, Tree.rec_, Nd.rec_, Word.rec_, Got.rec_, Nd.fl, Nd.r_ov]
      refine (h l[i] (List.getElem_mem hlt)).mono ?_
      rintro v σ ⟨rfl, rfl⟩
      cases hg : f l[i]
      · simp only [am, amo, amc, Nat.reduceAdd, Nat.reduceEqDiff, encs_length, List.length_map, decide_true, decide_false, Tree.rec_, Nd.rec_, Word.rec_, Got.rec_, Nd.fl]
        refine retK_intro rfl (Store.sub_refl _) ⟨?_, rfl⟩
        simp [V.erase, eraseL, all_no hlt hg]
      · simp only [am, amo, amc, Nat.reduceAdd, Nat.reduceEqDiff, encs_length, List.length_map, decide_true, decide_false, Tree.rec_, Nd.rec_, Word.rec_, Got.rec_, Nd.fl]
        rw [wrap_i64 (by omega) (by omega)]
        exact Upd.againD ⟨i + 1, hlt, by rw [all_take hlt, ha, hg]; rfl⟩ (by simp; omega) (by simp [List.replicate, am]) (by simp [am]) OLe.rfl rfl rfl
    · intro hlt
      have hlt : i = l.length := by simp at hlt; omega
      subst hlt
      rw [List.take_length] at ha
      simp only [am, amo, amc, Nat.reduceAdd, Nat.reduceEqDiff, encs_length, List.length_map, decide_true, decide_false, Tree.rec_, Nd.rec_, Word.rec_, Got.rec_, Nd.fl]
      refine retK_intro rfl (Store.sub_refl _) ⟨?_, rfl⟩
      simp [V.erase, eraseL, ha]
theorem leaf_calls (n : Nd) (σ : Store) (hb : n.names.length + n.kids.length ≤ big) : PCalls prog 98 [.agg n.enc] σ fun v σ' => v = .bool n.leafQ ∧ σ' = σ := by
  simp only [big] at hb
  refine fn98.calls ?_
  simp only [slots, ac98, am, amo, amc, ams, Nat.reduceAdd, Nat.reduceEqDiff, decide_true, decide_false, Tree.rec_, Nd.rec_, Word.rec_, Got.rec_, Nd.fl]
  refine (right_calls n.text σ).mono ?_
  rintro v σ ⟨rfl, rfl⟩
  simp only [am, amo, amc, Nat.reduceAdd, Nat.reduceEqDiff, encs_length, List.length_map, decide_true, decide_false, Tree.rec_, Nd.rec_, Word.rec_, Got.rec_, Nd.fl, wrap_i64 (x := (n.names.length : Int) + n.kids.length) (by omega) (by omega)]
  repeat' (first
    | (refine gL_split (fun h => ?_) (fun h => ?_) <;> simp only [am, amo, amc, h, Nat.reduceAdd, Nat.reduceEqDiff, encs_length, List.length_map, decide_true, decide_false, Tree.rec_, Nd.rec_, Word.rec_, Got.rec_, Nd.fl, wrap_i64 (x := (n.names.length : Int) + n.kids.length) (by omega) (by omega)])
    | (refine vcIf_split (fun h => ?_) (fun h => ?_) <;> simp only [am, amo, amc, h, Nat.reduceAdd, Nat.reduceEqDiff, encs_length, List.length_map, decide_true, decide_false, Tree.rec_, Nd.rec_, Word.rec_, Got.rec_, Nd.fl, wrap_i64 (x := (n.names.length : Int) + n.kids.length) (by omega) (by omega)])
    | (refine pickL_split (fun h => ?_) (fun h => ?_) <;> simp only [am, amo, amc, h, Nat.reduceAdd, Nat.reduceEqDiff, encs_length, List.length_map, decide_true, decide_false, Tree.rec_, Nd.rec_, Word.rec_, Got.rec_, Nd.fl, wrap_i64 (x := (n.names.length : Int) + n.kids.length) (by omega) (by omega)])
  )
  all_goals refine retK_intro rfl (Store.sub_refl _) ⟨?_, rfl⟩
  all_goals simp_all [V.erase, eraseL, Nd.leafQ]
  all_goals (try omega)
theorem bare_calls (n : Nd) (σ : Store) : PCalls prog 99 [.agg n.enc] σ fun v σ' => v = .bool n.bareQ ∧ σ' = σ := by
  refine fn99.calls ?_
  simp only [slots, ac99, am, amo, amc, ams, Nat.reduceAdd, Nat.reduceEqDiff, decide_true, decide_false, Tree.rec_, Nd.rec_, Word.rec_, Got.rec_, Nd.fl]
  repeat' (first
    | (refine gL_split (fun h => ?_) (fun h => ?_) <;> simp only [am, amo, amc, h, Nat.reduceAdd, Nat.reduceEqDiff, encs_length, List.length_map, decide_true, decide_false, Tree.rec_, Nd.rec_, Word.rec_, Got.rec_, Nd.fl])
    | (refine vcIf_split (fun h => ?_) (fun h => ?_) <;> simp only [am, amo, amc, h, Nat.reduceAdd, Nat.reduceEqDiff, encs_length, List.length_map, decide_true, decide_false, Tree.rec_, Nd.rec_, Word.rec_, Got.rec_, Nd.fl])
    | (refine pickL_split (fun h => ?_) (fun h => ?_) <;> simp only [am, amo, amc, h, Nat.reduceAdd, Nat.reduceEqDiff, encs_length, List.length_map, decide_true, decide_false, Tree.rec_, Nd.rec_, Word.rec_, Got.rec_, Nd.fl])
  )
  all_goals refine retK_intro rfl (Store.sub_refl _) ⟨?_, rfl⟩
  all_goals simp_all [V.erase, eraseL, Nd.bareQ]
  all_goals (try omega)
theorem wt_names (n : Nd) : n.names.length + n.kids.length + 4 ≤ n.wt := by
  have h2 : n.names.length ≤ wsum n.names := by
    unfold wsum; generalize n.names = l
    induction l with
    | nil => simp
    | cons w ws ih => simp only [List.map_cons, List.sum_cons, List.length_cons]; omega
  have h3 : n.kids.length ≤ wts n.kids := by
    rw [wts_map]; generalize n.kids = l
    induction l with
    | nil => simp
    | cons w ws ih => simp only [List.map_cons, List.sum_cons, List.length_cons]; omega
  have h1 : wts n.kids + wsum n.names + 4 ≤ n.wt := by cases n; simp only [Nd.wt, Nd.kids, Nd.names]; omega
  omega
theorem rule_is_calls (n : Nd) (σ : Store) (hw : n.wt ≤ big) : PCalls prog 121 [.agg n.enc] σ fun v σ' => v = .bool n.ruleQ ∧ σ' = σ := by
  have hn := wt_names n
  refine fn121.calls ?_
  simp only [slots, ac121, am, amo, amc, ams, Nat.reduceAdd, Nat.reduceEqDiff, decide_true, decide_false, Tree.rec_, Nd.rec_, Word.rec_, Got.rec_, Nd.fl]
  repeat' (first
    | (refine gL_split (fun h => ?_) (fun h => ?_) <;> simp only [am, amo, amc, h, Nat.reduceAdd, Nat.reduceEqDiff, encs_length, List.length_map, decide_true, decide_false, Tree.rec_, Nd.rec_, Word.rec_, Got.rec_, Nd.fl])
    | (refine vcIf_split (fun h => ?_) (fun h => ?_) <;> simp only [am, amo, amc, h, Nat.reduceAdd, Nat.reduceEqDiff, encs_length, List.length_map, decide_true, decide_false, Tree.rec_, Nd.rec_, Word.rec_, Got.rec_, Nd.fl])
    | (refine pickL_split (fun h => ?_) (fun h => ?_) <;> simp only [am, amo, amc, h, Nat.reduceAdd, Nat.reduceEqDiff, encs_length, List.length_map, decide_true, decide_false, Tree.rec_, Nd.rec_, Word.rec_, Got.rec_, Nd.fl])
    | (refine (right_calls n.text σ).mono ?_; rintro v _ ⟨rfl, rfl⟩; simp only [am])
    | (refine (rightW_calls n.names _ (by omega)).mono ?_; rintro v _ ⟨rfl, rfl⟩; simp only [am])
  )
  all_goals refine retK_intro rfl (Store.sub_refl _) ⟨?_, rfl⟩
  all_goals simp_all [V.erase, eraseL, Nd.ruleQ]
  all_goals (try omega)
theorem const_is_calls : ∀ (k : Nat) (n : Nd) (σ : Store), n.wt ≤ k → n.wt ≤ big → PCalls prog 100 [.agg n.enc] σ fun v σ' => v = .bool n.constQ ∧ σ' = σ := by
  intro k
  induction k with
  | zero => intro n σ h _; cases n; simp only [Nd.wt] at h; omega
  | succ k ihk =>
    intro n σ hk hw
    have hn := wt_names n
    have hkid : ∀ m ∈ n.kids, m.wt + 5 ≤ n.wt := fun m hm => by
      have h1 := wt_mem hm
      have h2 : wts n.kids + 4 ≤ n.wt := by cases n; simp only [Nd.wt, Nd.kids]; omega
      omega
    have hall : PCalls prog 101 [.sl .no 5 (n.kids.map Nd.enc), .fn (.func 100) [] []] σ fun v σ' => v = .bool (n.kids.all Nd.constQ) ∧ σ' = σ :=
      all_calls n.kids σ (by omega) fun m hm => ihk m σ (by have := hkid m hm; omega) (by have := hkid m hm; omega)
    have hrule : PCalls prog 101 [.sl .no 5 (n.kids.map Nd.enc), .fn (.func 121) [] []] σ fun v σ' => v = .bool (n.kids.all Nd.ruleQ) ∧ σ' = σ :=
      all_calls n.kids σ (by omega) fun m hm => rule_is_calls m σ (by have := hkid m hm; omega)
    rw [Nd.constQ_eq]
    refine fn100.calls ?_
    simp only [slots, ac100, am, amo, amc, ams, Nat.reduceAdd, Nat.reduceEqDiff, decide_true, decide_false, Tree.rec_, Nd.rec_, Word.rec_, Got.rec_, Nd.fl]
    by_cases k2 : n.kind = 2
    · simp only [am, amo, amc, Nat.reduceAdd, Nat.reduceEqDiff, encs_length, List.length_map, decide_true, decide_false, Tree.rec_, Nd.rec_, Word.rec_, Got.rec_, Nd.fl, decide_eq_true k2]
      refine (leaf_calls n σ (by omega)).mono ?_
      rintro v σ ⟨rfl, rfl⟩
      simp only [am, amo, amc, Nat.reduceAdd, Nat.reduceEqDiff, encs_length, List.length_map, decide_true, decide_false, Tree.rec_, Nd.rec_, Word.rec_, Got.rec_, Nd.fl]
      refine retK_intro rfl (Store.sub_refl _) ⟨?_, rfl⟩
      simp [V.erase, eraseL, k2]
    simp only [am, amo, amc, Nat.reduceAdd, Nat.reduceEqDiff, encs_length, List.length_map, decide_true, decide_false, Tree.rec_, Nd.rec_, Word.rec_, Got.rec_, Nd.fl, decide_eq_false k2]
    by_cases k3 : n.kind = 3
    · simp only [am, amo, amc, Nat.reduceAdd, Nat.reduceEqDiff, encs_length, List.length_map, decide_true, decide_false, Tree.rec_, Nd.rec_, Word.rec_, Got.rec_, Nd.fl, decide_eq_true k3]
      repeat' (first
        | (refine gL_split (fun h => ?_) (fun h => ?_) <;> simp only [am, amo, amc, h, Nat.reduceAdd, Nat.reduceEqDiff, encs_length, List.length_map, decide_true, decide_false, Tree.rec_, Nd.rec_, Word.rec_, Got.rec_, Nd.fl])
        | (refine vcIf_split (fun h => ?_) (fun h => ?_) <;> simp only [am, amo, amc, h, Nat.reduceAdd, Nat.reduceEqDiff, encs_length, List.length_map, decide_true, decide_false, Tree.rec_, Nd.rec_, Word.rec_, Got.rec_, Nd.fl])
        | (refine pickL_split (fun h => ?_) (fun h => ?_) <;> simp only [am, amo, amc, h, Nat.reduceAdd, Nat.reduceEqDiff, encs_length, List.length_map, decide_true, decide_false, Tree.rec_, Nd.rec_, Word.rec_, Got.rec_, Nd.fl])
        | (refine (rightW_calls n.names _ (by omega)).mono ?_; rintro v _ ⟨rfl, rfl⟩; simp only [am])
      )
      all_goals refine retK_intro rfl (Store.sub_refl _) ⟨?_, rfl⟩
      all_goals simp_all [V.erase, eraseL]
      all_goals (try omega)
    simp only [am, amo, amc, Nat.reduceAdd, Nat.reduceEqDiff, encs_length, List.length_map, decide_true, decide_false, Tree.rec_, Nd.rec_, Word.rec_, Got.rec_, Nd.fl, decide_eq_false k3]
    by_cases k4 : n.kind = 4
    · simp only [am, amo, amc, Nat.reduceAdd, Nat.reduceEqDiff, encs_length, List.length_map, decide_true, decide_false, Tree.rec_, Nd.rec_, Word.rec_, Got.rec_, Nd.fl, decide_eq_true k4]
      refine (bare_calls n σ).mono ?_
      rintro v σ ⟨rfl, rfl⟩
      simp only [am, amo, amc, Nat.reduceAdd, Nat.reduceEqDiff, encs_length, List.length_map, decide_true, decide_false, Tree.rec_, Nd.rec_, Word.rec_, Got.rec_, Nd.fl]
      repeat' (first
        | (refine gL_split (fun h => ?_) (fun h => ?_) <;> simp only [am, amo, amc, h, Nat.reduceAdd, Nat.reduceEqDiff, encs_length, List.length_map, decide_true, decide_false, Tree.rec_, Nd.rec_, Word.rec_, Got.rec_, Nd.fl])
        | (refine vcIf_split (fun h => ?_) (fun h => ?_) <;> simp only [am, amo, amc, h, Nat.reduceAdd, Nat.reduceEqDiff, encs_length, List.length_map, decide_true, decide_false, Tree.rec_, Nd.rec_, Word.rec_, Got.rec_, Nd.fl])
        | (refine pickL_split (fun h => ?_) (fun h => ?_) <;> simp only [am, amo, amc, h, Nat.reduceAdd, Nat.reduceEqDiff, encs_length, List.length_map, decide_true, decide_false, Tree.rec_, Nd.rec_, Word.rec_, Got.rec_, Nd.fl])
        | (refine hall.mono ?_; rintro v _ ⟨rfl, rfl⟩; simp only [am])
      )
      all_goals refine retK_intro rfl (Store.sub_refl _) ⟨?_, rfl⟩
      all_goals simp_all [V.erase, eraseL]
      all_goals (try omega)
    simp only [am, amo, amc, Nat.reduceAdd, Nat.reduceEqDiff, encs_length, List.length_map, decide_true, decide_false, Tree.rec_, Nd.rec_, Word.rec_, Got.rec_, Nd.fl, decide_eq_false k4]
    by_cases k5 : n.kind = 5
    · simp only [am, amo, amc, Nat.reduceAdd, Nat.reduceEqDiff, encs_length, List.length_map, decide_true, decide_false, Tree.rec_, Nd.rec_, Word.rec_, Got.rec_, Nd.fl, decide_eq_true k5]
      refine (bare_calls n σ).mono ?_
      rintro v σ ⟨rfl, rfl⟩
      simp only [am, amo, amc, Nat.reduceAdd, Nat.reduceEqDiff, encs_length, List.length_map, decide_true, decide_false, Tree.rec_, Nd.rec_, Word.rec_, Got.rec_, Nd.fl]
      repeat' (first
        | (refine gL_split (fun h => ?_) (fun h => ?_) <;> simp only [am, amo, amc, h, Nat.reduceAdd, Nat.reduceEqDiff, encs_length, List.length_map, decide_true, decide_false, Tree.rec_, Nd.rec_, Word.rec_, Got.rec_, Nd.fl])
        | (refine vcIf_split (fun h => ?_) (fun h => ?_) <;> simp only [am, amo, amc, h, Nat.reduceAdd, Nat.reduceEqDiff, encs_length, List.length_map, decide_true, decide_false, Tree.rec_, Nd.rec_, Word.rec_, Got.rec_, Nd.fl])
        | (refine pickL_split (fun h => ?_) (fun h => ?_) <;> simp only [am, amo, amc, h, Nat.reduceAdd, Nat.reduceEqDiff, encs_length, List.length_map, decide_true, decide_false, Tree.rec_, Nd.rec_, Word.rec_, Got.rec_, Nd.fl])
        | (refine hrule.mono ?_; rintro v _ ⟨rfl, rfl⟩; simp only [am])
      )
      all_goals refine retK_intro rfl (Store.sub_refl _) ⟨?_, rfl⟩
      all_goals simp_all [V.erase, eraseL]
      all_goals (try omega)
    simp only [am, amo, amc, Nat.reduceAdd, Nat.reduceEqDiff, encs_length, List.length_map, decide_true, decide_false, Tree.rec_, Nd.rec_, Word.rec_, Got.rec_, Nd.fl, decide_eq_false k5]
    refine retK_intro rfl (Store.sub_refl _) ⟨?_, rfl⟩
    simp [V.erase, eraseL, k2, k3, k4, k5]
theorem kid_wt {n m : Nd} (hm : m ∈ n.kids) : m.wt + 5 ≤ n.wt := by
  have h1 := wt_mem hm
  have h2 : wts n.kids + 4 ≤ n.wt := by cases n; simp only [Nd.wt, Nd.kids]; omega
  omega
theorem label_is_calls : ∀ (k : Nat) (n : Nd) (σ : Store), n.wt ≤ k → n.wt ≤ big → PCalls prog 71 [.agg n.enc] σ fun v σ' => v = .bool n.labelQ ∧ σ' = σ := by
  intro k
  induction k with
  | zero => intro n σ h _; cases n; simp only [Nd.wt] at h; omega
  | succ k ihk =>
    intro n σ hk hw
    have hn := wt_names n
    have hall : PCalls prog 101 [.sl .no 5 (n.kids.map Nd.enc), .fn (.func 71) [] []] σ fun v σ' => v = .bool (n.kids.all Nd.labelQ) ∧ σ' = σ :=
      all_calls n.kids σ (by omega) fun m hm => ihk m σ (by have := kid_wt hm; omega) (by have := kid_wt hm; omega)
    rw [Nd.labelQ_eq]
    refine fn71.calls ?_
    simp only [slots, ac71, am, amo, amc, ams, Nat.reduceAdd, Nat.reduceEqDiff, decide_true, decide_false, Tree.rec_, Nd.rec_, Word.rec_, Got.rec_, Nd.fl]
    by_cases k1 : n.kind = 1
    · simp only [am, amo, amc, Nat.reduceAdd, Nat.reduceEqDiff, encs_length, List.length_map, decide_true, decide_false, Tree.rec_, Nd.rec_, Word.rec_, Got.rec_, Nd.fl, decide_eq_true k1]
      refine (leaf_calls n σ (by omega)).mono ?_
      rintro v σ ⟨rfl, rfl⟩
      simp only [am, amo, amc, Nat.reduceAdd, Nat.reduceEqDiff, encs_length, List.length_map, decide_true, decide_false, Tree.rec_, Nd.rec_, Word.rec_, Got.rec_, Nd.fl]
      refine retK_intro rfl (Store.sub_refl _) ⟨?_, rfl⟩
      simp [V.erase, eraseL, k1]
    simp only [am, amo, amc, Nat.reduceAdd, Nat.reduceEqDiff, encs_length, List.length_map, decide_true, decide_false, Tree.rec_, Nd.rec_, Word.rec_, Got.rec_, Nd.fl, decide_eq_false k1]
    by_cases k7 : n.kind = 7
    · simp only [am, amo, amc, Nat.reduceAdd, Nat.reduceEqDiff, encs_length, List.length_map, decide_true, decide_false, Tree.rec_, Nd.rec_, Word.rec_, Got.rec_, Nd.fl, decide_eq_true k7]
      refine (bare_calls n σ).mono ?_
      rintro v σ ⟨rfl, rfl⟩
      simp only [am, amo, amc, Nat.reduceAdd, Nat.reduceEqDiff, encs_length, List.length_map, decide_true, decide_false, Tree.rec_, Nd.rec_, Word.rec_, Got.rec_, Nd.fl]
      cases hks : n.kids with
      | nil =>
        simp only [am, amo, amc, Nat.reduceAdd, Nat.reduceEqDiff, encs_length, List.length_map, decide_true, decide_false, Tree.rec_, Nd.rec_, Word.rec_, Got.rec_, Nd.fl, List.map_nil, List.length_nil, hks, Int.natCast_zero, show decide ((0 : Int) = 1) = false from rfl]
        repeat' (first
          | (refine gL_split (fun h => ?_) (fun h => ?_) <;> simp only [am, amo, amc, h, Nat.reduceAdd, Nat.reduceEqDiff, encs_length, List.length_map, decide_true, decide_false, Tree.rec_, Nd.rec_, Word.rec_, Got.rec_, Nd.fl, hks, List.map_nil, List.length_nil, Int.natCast_zero, show decide ((0 : Int) = 1) = false from rfl])
          | (refine vcIf_split (fun h => ?_) (fun h => ?_) <;> simp only [am, amo, amc, h, Nat.reduceAdd, Nat.reduceEqDiff, encs_length, List.length_map, decide_true, decide_false, Tree.rec_, Nd.rec_, Word.rec_, Got.rec_, Nd.fl, hks, List.map_nil, List.length_nil, Int.natCast_zero, show decide ((0 : Int) = 1) = false from rfl])
          | (refine pickL_split (fun h => ?_) (fun h => ?_) <;> simp only [am, amo, amc, h, Nat.reduceAdd, Nat.reduceEqDiff, encs_length, List.length_map, decide_true, decide_false, Tree.rec_, Nd.rec_, Word.rec_, Got.rec_, Nd.fl, hks, List.map_nil, List.length_nil, Int.natCast_zero, show decide ((0 : Int) = 1) = false from rfl])
        )
        all_goals refine retK_intro rfl (Store.sub_refl _) ⟨?_, rfl⟩
        all_goals simp_all [V.erase, eraseL, k7]
        all_goals (try omega)
      | cons m ms =>
        have hc : PCalls prog 100 [.agg m.enc] σ fun v σ' => v = .bool m.constQ ∧ σ' = σ := const_is_calls _ m σ (Nat.le_refl _) (by have := kid_wt (n := n) (m := m) (by rw [hks]; simp); omega)
        repeat' (first
          | (refine gL_split (fun h => ?_) (fun h => ?_) <;> simp only [am, amo, amc, h, Nat.reduceAdd, Nat.reduceEqDiff, encs_length, List.length_map, decide_true, decide_false, Tree.rec_, Nd.rec_, Word.rec_, Got.rec_, Nd.fl, hks])
          | (refine vcIf_split (fun h => ?_) (fun h => ?_) <;> simp only [am, amo, amc, h, Nat.reduceAdd, Nat.reduceEqDiff, encs_length, List.length_map, decide_true, decide_false, Tree.rec_, Nd.rec_, Word.rec_, Got.rec_, Nd.fl, hks])
          | (refine pickL_split (fun h => ?_) (fun h => ?_) <;> simp only [am, amo, amc, h, Nat.reduceAdd, Nat.reduceEqDiff, encs_length, List.length_map, decide_true, decide_false, Tree.rec_, Nd.rec_, Word.rec_, Got.rec_, Nd.fl, hks])
          | (refine idxL_intro (by omega) (c := m.enc) (by simp) ?_; simp only [am, Nd.rec_])
          | (refine hc.mono ?_; rintro v _ ⟨rfl, rfl⟩; simp only [am])
        )
        all_goals refine retK_intro rfl (Store.sub_refl _) ⟨?_, rfl⟩
        all_goals simp_all [V.erase, eraseL, k7, headQ]
        all_goals (try omega)
    simp only [am, amo, amc, Nat.reduceAdd, Nat.reduceEqDiff, encs_length, List.length_map, decide_true, decide_false, Tree.rec_, Nd.rec_, Word.rec_, Got.rec_, Nd.fl, decide_eq_false k7]
    by_cases k8 : n.kind = 8
    case' pos =>
      simp only [am, amo, amc, Nat.reduceAdd, Nat.reduceEqDiff, encs_length, List.length_map, decide_true, decide_false, Tree.rec_, Nd.rec_, Word.rec_, Got.rec_, Nd.fl, decide_eq_true k8]
    case' neg =>
      simp only [am, amo, amc, Nat.reduceAdd, Nat.reduceEqDiff, encs_length, List.length_map, decide_true, decide_false, Tree.rec_, Nd.rec_, Word.rec_, Got.rec_, Nd.fl, decide_eq_false k8]
      by_cases k9 : n.kind = 9
      case' pos =>
        simp only [am, amo, amc, Nat.reduceAdd, Nat.reduceEqDiff, encs_length, List.length_map, decide_true, decide_false, Tree.rec_, Nd.rec_, Word.rec_, Got.rec_, Nd.fl, decide_eq_true k9]
      case' neg =>
        simp only [am, amo, amc, Nat.reduceAdd, Nat.reduceEqDiff, encs_length, List.length_map, decide_true, decide_false, Tree.rec_, Nd.rec_, Word.rec_, Got.rec_, Nd.fl, decide_eq_false k9]
        refine retK_intro rfl (Store.sub_refl _) ⟨?_, rfl⟩
        simp [V.erase, eraseL, k1, k7, k8, k9]
    all_goals
      refine (bare_calls n σ).mono ?_
      rintro v σ ⟨rfl, rfl⟩
      simp only [am, amo, amc, Nat.reduceAdd, Nat.reduceEqDiff, encs_length, List.length_map, decide_true, decide_false, Tree.rec_, Nd.rec_, Word.rec_, Got.rec_, Nd.fl]
      repeat' (first
        | (refine gL_split (fun h => ?_) (fun h => ?_) <;> simp only [am, amo, amc, h, Nat.reduceAdd, Nat.reduceEqDiff, encs_length, List.length_map, decide_true, decide_false, Tree.rec_, Nd.rec_, Word.rec_, Got.rec_, Nd.fl])
        | (refine vcIf_split (fun h => ?_) (fun h => ?_) <;> simp only [am, amo, amc, h, Nat.reduceAdd, Nat.reduceEqDiff, encs_length, List.length_map, decide_true, decide_false, Tree.rec_, Nd.rec_, Word.rec_, Got.rec_, Nd.fl])
        | (refine pickL_split (fun h => ?_) (fun h => ?_) <;> simp only [am, amo, amc, h, Nat.reduceAdd, Nat.reduceEqDiff, encs_length, List.length_map, decide_true, decide_false, Tree.rec_, Nd.rec_, Word.rec_, Got.rec_, Nd.fl])
        | (refine hall.mono ?_; rintro v _ ⟨rfl, rfl⟩; simp only [am])
      )
      all_goals refine retK_intro rfl (Store.sub_refl _) ⟨?_, rfl⟩
      all_goals simp_all [V.erase, eraseL]
      all_goals (try omega)
theorem atom_is_calls (n : Nd) (σ : Store) (hw : n.wt ≤ big) : PCalls prog 122 [.agg n.enc] σ fun v σ' => v = .bool n.atomQ ∧ σ' = σ := by
  refine fn122.calls ?_
  simp only [slots, ac122, am, amo, amc, ams, Nat.reduceAdd, Nat.reduceEqDiff, decide_true, decide_false, Tree.rec_, Nd.rec_, Word.rec_, Got.rec_, Nd.fl]
  repeat' (first
    | (refine gL_split (fun h => ?_) (fun h => ?_) <;> simp only [am, amo, amc, h, Nat.reduceAdd, Nat.reduceEqDiff, encs_length, List.length_map, decide_true, decide_false, Tree.rec_, Nd.rec_, Word.rec_, Got.rec_, Nd.fl])
    | (refine vcIf_split (fun h => ?_) (fun h => ?_) <;> simp only [am, amo, amc, h, Nat.reduceAdd, Nat.reduceEqDiff, encs_length, List.length_map, decide_true, decide_false, Tree.rec_, Nd.rec_, Word.rec_, Got.rec_, Nd.fl])
    | (refine pickL_split (fun h => ?_) (fun h => ?_) <;> simp only [am, amo, amc, h, Nat.reduceAdd, Nat.reduceEqDiff, encs_length, List.length_map, decide_true, decide_false, Tree.rec_, Nd.rec_, Word.rec_, Got.rec_, Nd.fl])
    | (refine (label_is_calls _ n _ (Nat.le_refl _) hw).mono ?_; rintro v _ ⟨rfl, rfl⟩; simp only [am])
  )
  all_goals refine retK_intro rfl (Store.sub_refl _) ⟨?_, rfl⟩
  all_goals simp_all [V.erase, eraseL, Nd.atomQ]
  all_goals (try omega)
theorem field_is_calls (n : Nd) (σ : Store) (hw : n.wt ≤ big) : PCalls prog 103 [.agg n.enc] σ fun v σ' => v = .bool n.fieldQ ∧ σ' = σ := by
  refine fn103.calls ?_
  simp only [slots, ac103, am, amo, amc, ams, Nat.reduceAdd, Nat.reduceEqDiff, decide_true, decide_false, Tree.rec_, Nd.rec_, Word.rec_, Got.rec_, Nd.fl]
  cases hks : n.kids with
  | nil =>
    repeat' (first
      | (refine gL_split (fun h => ?_) (fun h => ?_) <;> simp only [am, amo, amc, h, Nat.reduceAdd, Nat.reduceEqDiff, encs_length, List.length_map, decide_true, decide_false, Tree.rec_, Nd.rec_, Word.rec_, Got.rec_, Nd.fl, hks, List.map_nil, List.length_nil, Int.natCast_zero, show decide ((0 : Int) = 1) = false from rfl])
      | (refine vcIf_split (fun h => ?_) (fun h => ?_) <;> simp only [am, amo, amc, h, Nat.reduceAdd, Nat.reduceEqDiff, encs_length, List.length_map, decide_true, decide_false, Tree.rec_, Nd.rec_, Word.rec_, Got.rec_, Nd.fl, hks, List.map_nil, List.length_nil, Int.natCast_zero, show decide ((0 : Int) = 1) = false from rfl])
      | (refine pickL_split (fun h => ?_) (fun h => ?_) <;> simp only [am, amo, amc, h, Nat.reduceAdd, Nat.reduceEqDiff, encs_length, List.length_map, decide_true, decide_false, Tree.rec_, Nd.rec_, Word.rec_, Got.rec_, Nd.fl, hks, List.map_nil, List.length_nil, Int.natCast_zero, show decide ((0 : Int) = 1) = false from rfl])
      | (refine (right_calls n.text _).mono ?_; rintro v _ ⟨rfl, rfl⟩; simp only [am])
    )
    all_goals refine retK_intro rfl (Store.sub_refl _) ⟨?_, rfl⟩
    all_goals simp_all [V.erase, eraseL, Nd.fieldQ, headQ]
    all_goals (try omega)
  | cons m ms =>
    have hc : PCalls prog 122 [.agg m.enc] σ fun v σ' => v = .bool m.atomQ ∧ σ' = σ := atom_is_calls m σ (by have := kid_wt (n := n) (m := m) (by rw [hks]; simp); omega)
    repeat' (first
      | (refine gL_split (fun h => ?_) (fun h => ?_) <;> simp only [am, amo, amc, h, Nat.reduceAdd, Nat.reduceEqDiff, encs_length, List.length_map, decide_true, decide_false, Tree.rec_, Nd.rec_, Word.rec_, Got.rec_, Nd.fl, hks])
      | (refine vcIf_split (fun h => ?_) (fun h => ?_) <;> simp only [am, amo, amc, h, Nat.reduceAdd, Nat.reduceEqDiff, encs_length, List.length_map, decide_true, decide_false, Tree.rec_, Nd.rec_, Word.rec_, Got.rec_, Nd.fl, hks])
      | (refine pickL_split (fun h => ?_) (fun h => ?_) <;> simp only [am, amo, amc, h, Nat.reduceAdd, Nat.reduceEqDiff, encs_length, List.length_map, decide_true, decide_false, Tree.rec_, Nd.rec_, Word.rec_, Got.rec_, Nd.fl, hks])
      | (refine (right_calls n.text _).mono ?_; rintro v _ ⟨rfl, rfl⟩; simp only [am])
      | (refine idxL_intro (by omega) (c := m.enc) (by simp) ?_; simp only [am, Nd.rec_])
      | (refine hc.mono ?_; rintro v _ ⟨rfl, rfl⟩; simp only [am])
    )
    all_goals refine retK_intro rfl (Store.sub_refl _) ⟨?_, rfl⟩
    all_goals simp_all [V.erase, eraseL, Nd.fieldQ, headQ]
    all_goals (try omega)
theorem row_is_calls (n : Nd) (σ : Store) (hw : n.wt ≤ big) : PCalls prog 72 [.agg n.enc] σ fun v σ' => v = .bool n.rowQ ∧ σ' = σ := by
  have hn := wt_names n
  have hall : PCalls prog 101 [.sl .no 5 (n.kids.map Nd.enc), .fn (.func 103) [] []] σ fun v σ' => v = .bool (n.kids.all Nd.fieldQ) ∧ σ' = σ :=
    all_calls n.kids σ (by omega) fun m hm => field_is_calls m σ (by have := kid_wt hm; omega)
  refine fn72.calls ?_
  simp only [slots, ac72, am, amo, amc, ams, Nat.reduceAdd, Nat.reduceEqDiff, decide_true, decide_false, Tree.rec_, Nd.rec_, Word.rec_, Got.rec_, Nd.fl]
  by_cases k10 : n.kind = 10
  · simp only [am, amo, amc, Nat.reduceAdd, Nat.reduceEqDiff, encs_length, List.length_map, decide_true, decide_false, Tree.rec_, Nd.rec_, Word.rec_, Got.rec_, Nd.fl, decide_eq_true k10]
    repeat' (first
      | (refine gL_split (fun h => ?_) (fun h => ?_) <;> simp only [am, amo, amc, h, Nat.reduceAdd, Nat.reduceEqDiff, encs_length, List.length_map, decide_true, decide_false, Tree.rec_, Nd.rec_, Word.rec_, Got.rec_, Nd.fl])
      | (refine vcIf_split (fun h => ?_) (fun h => ?_) <;> simp only [am, amo, amc, h, Nat.reduceAdd, Nat.reduceEqDiff, encs_length, List.length_map, decide_true, decide_false, Tree.rec_, Nd.rec_, Word.rec_, Got.rec_, Nd.fl])
      | (refine pickL_split (fun h => ?_) (fun h => ?_) <;> simp only [am, amo, amc, h, Nat.reduceAdd, Nat.reduceEqDiff, encs_length, List.length_map, decide_true, decide_false, Tree.rec_, Nd.rec_, Word.rec_, Got.rec_, Nd.fl])
      | (refine (rightW_calls n.names _ (by omega)).mono ?_; rintro v _ ⟨rfl, rfl⟩; simp only [am])
      | (refine hall.mono ?_; rintro v _ ⟨rfl, rfl⟩; simp only [am])
    )
    all_goals refine retK_intro rfl (Store.sub_refl _) ⟨?_, rfl⟩
    all_goals simp_all [V.erase, eraseL, Nd.rowQ]
    all_goals (try omega)
  · simp only [am, amo, amc, Nat.reduceAdd, Nat.reduceEqDiff, encs_length, List.length_map, decide_true, decide_false, Tree.rec_, Nd.rec_, Word.rec_, Got.rec_, Nd.fl, decide_eq_false k10]
    repeat' (first
      | (refine gL_split (fun h => ?_) (fun h => ?_) <;> simp only [am, amo, amc, h, Nat.reduceAdd, Nat.reduceEqDiff, encs_length, List.length_map, decide_true, decide_false, Tree.rec_, Nd.rec_, Word.rec_, Got.rec_, Nd.fl])
      | (refine vcIf_split (fun h => ?_) (fun h => ?_) <;> simp only [am, amo, amc, h, Nat.reduceAdd, Nat.reduceEqDiff, encs_length, List.length_map, decide_true, decide_false, Tree.rec_, Nd.rec_, Word.rec_, Got.rec_, Nd.fl])
      | (refine pickL_split (fun h => ?_) (fun h => ?_) <;> simp only [am, amo, amc, h, Nat.reduceAdd, Nat.reduceEqDiff, encs_length, List.length_map, decide_true, decide_false, Tree.rec_, Nd.rec_, Word.rec_, Got.rec_, Nd.fl])
      | (refine (label_is_calls _ n _ (Nat.le_refl _) hw).mono ?_; rintro v _ ⟨rfl, rfl⟩; simp only [am])
    )
    all_goals refine retK_intro rfl (Store.sub_refl _) ⟨?_, rfl⟩
    all_goals simp_all [V.erase, eraseL, Nd.rowQ]
    all_goals (try omega)
end Go.Proofs.Tryd

namespace Go.Proofs.Tryd
open Go.Am
set_option maxRecDepth 4000
set_option maxHeartbeats 4000000
def ac46 : AC := .seq (.reg [⟨(some 2), .box 5 (.s 0), none⟩, ⟨(some 3), .box 5 (.s 1), none⟩, ⟨(some 4), .mv (.c (.bool false)), none⟩])
 (.seq (.seq (.reg [xf 0 7 2, xo 8 7, xf 0 9 3, xo 10 9, xb .neq 11 8 10, xm 12 11, xh 12 (xf 2 13 2), xh 12 (xo 14 13), xh 12 (xf 2 15 3), xh 12 (xo 16 15), ⟨(some 17), .binS .neq (.s 14) (.s 16), (some (12, false))⟩, ⟨(some 18), .pick (.s 12) (.c (.bool true)) (.s 17), none⟩, xm 19 18, xh 19 (xf 3 20 2), xh 19 (xo 21 20), xh 19 (xL 22 21), xh 19 (xf 3 23 3), xh 19 (xo 24 23), xh 19 (xL 25 24), xh 19 (xb .neq 26 22 25), ⟨(some 27), .pick (.s 19) (.c (.bool true)) (.s 26), none⟩, xm 28 27, xh 28 (xf 4 29 2), xh 28 (xo 30 29), xh 28 (xL 31 30), xh 28 (xf 4 32 3), xh 28 (xo 33 32), xh 28 (xL 34 33), xh 28 (xb .neq 35 31 34), ⟨(some 36), .pick (.s 28) (.c (.bool true)) (.s 35), none⟩])
 (.cond (.s 36) (.seq (.reg [⟨(some 4), .mv (.c (.bool false)), none⟩])
 (.ret))
 (.skip)))
 (.seq (.seq (.reg [xf 3 37 2, xo 38 37, xL 39 38, xi 40 0])
 (.block 0 (.loop (.seq (.reg [xb .lss 41 40 39])
 (.seq (.cond (.s 41) (.skip)
 (.exit 0))
 (.seq (.block 1 (.seq (.reg [xm 42 40, xm 5 42])
 (.seq (.draw [(xf 3 43 2, []), (xo 44 43, []), (xm 45 5, []), (xA 2 46 44 45, []), (xf 0 47 46, []), (xo 48 47, []), (xf 3 49 3, []), (xo 50 49, []), (xm 51 5, []), (xA 2 52 50 51, []), (xf 0 53 52, []), (xo 54 53, []), (⟨(some 55), .binS .neq (.s 48) (.s 54), none⟩, [])])
 (.cond (.s 55) (.seq (.reg [⟨(some 4), .mv (.c (.bool false)), none⟩])
 (.ret))
 (.skip)))))
 (.reg [xB .add 56 40 1, xm 40 56])))))))
 (.seq (.seq (.reg [xf 4 57 2, xo 58 57, xL 59 58, xi 60 0])
 (.block 2 (.loop (.seq (.reg [xb .lss 61 60 59])
 (.seq (.cond (.s 61) (.skip)
 (.exit 2))
 (.seq (.block 3 (.seq (.reg [xm 62 60, xm 6 62])
 (.seq (.draw [(xf 4 63 2, []), (xo 64 63, []), (xm 65 6, []), (xA 5 66 64 65, []), (xl 5 67 66, []), (xf 4 68 3, []), (xo 69 68, []), (xm 70 6, []), (xA 5 71 69 70, []), (xl 5 72 71, []), (xc 46 73 [.s 67, .s 72], []), (⟨(some 74), .not (.s 73), none⟩, [])])
 (.cond (.s 74) (.seq (.reg [⟨(some 4), .mv (.c (.bool false)), none⟩])
 (.ret))
 (.skip)))))
 (.reg [xB .add 75 60 1, xm 60 75])))))))
 (.seq (.reg [⟨(some 4), .mv (.c (.bool true)), none⟩])
 (.ret)))))
theorem fn46 : IsFn prog 46 ac46 [.tmp 4] 76 := ⟨f46, ⟨[], []⟩, func46, by kernel_rfl, by kernel_rfl, by kernel_rfl, by kernel_rfl⟩
def inv24w (n m : Nd) (σ : Store) (i : Nat) : St :=
  ⟨[.any, .any, .ptr (.loc 0) 0, .ptr (.loc 1) 0] ++ List.replicate 35 .any ++ [.int .i64 n.names.length, .int .i64 (i : Nat)] ++ List.replicate 35 .any, [n.enc, m.enc], σ⟩
def inv24k (n m : Nd) (σ : Store) (i : Nat) : St :=
  ⟨[.any, .any, .ptr (.loc 0) 0, .ptr (.loc 1) 0] ++ List.replicate 55 .any ++ [.int .i64 n.kids.length, .int .i64 (i : Nat)] ++ List.replicate 15 .any, [n.enc, m.enc], σ⟩
theorem same24_calls : ∀ (k : Nat) (n m : Nd) (σ : Store), n.wt ≤ k → n.wt ≤ big → PCalls prog 46 [.agg n.enc, .agg m.enc] σ fun v σ' => v = .bool (n.sameQ m) ∧ σ' = σ := by
  intro k
  induction k with
  | zero => intro n m σ h _; cases n; simp only [Nd.wt] at h; omega
  | succ k ihk =>
    intro n m σ hk hw
    have hn := wt_names n
    have hbig : n.wt < 2 ^ 62 := by simp only [big] at hw; omega
    rw [Nd.sameQ_eq]
    refine fn46.calls ?_
    simp only [slots, ac46, am, amo, amc, ams, Nat.reduceAdd, Nat.reduceEqDiff, decide_true, decide_false, Tree.rec_, Nd.rec_, Word.rec_, Got.rec_, Nd.fl]
    by_cases k1 : n.kind = m.kind
    case' neg =>
      simp only [am, amo, amc, Nat.reduceAdd, Nat.reduceEqDiff, encs_length, List.length_map, decide_true, decide_false, Tree.rec_, Nd.rec_, Word.rec_, Got.rec_, Nd.fl, decide_eq_false k1]
      refine retK_intro rfl (Store.sub_refl _) ⟨?_, rfl⟩
      simp [V.erase, eraseL, k1]
    simp only [am, amo, amc, Nat.reduceAdd, Nat.reduceEqDiff, encs_length, List.length_map, decide_true, decide_false, Tree.rec_, Nd.rec_, Word.rec_, Got.rec_, Nd.fl, k1]
    by_cases k2 : n.text = m.text
    case' neg =>
      simp only [am, amo, amc, Nat.reduceAdd, Nat.reduceEqDiff, encs_length, List.length_map, decide_true, decide_false, Tree.rec_, Nd.rec_, Word.rec_, Got.rec_, Nd.fl, decide_eq_false k2]
      refine retK_intro rfl (Store.sub_refl _) ⟨?_, rfl⟩
      simp [V.erase, eraseL, k2]
    simp only [am, amo, amc, Nat.reduceAdd, Nat.reduceEqDiff, encs_length, List.length_map, decide_true, decide_false, Tree.rec_, Nd.rec_, Word.rec_, Got.rec_, Nd.fl, k2]
    by_cases k3 : n.names.length = m.names.length
    case' neg =>
      have k3' : ¬ (n.names.length : Int) = m.names.length := by omega
      simp only [am, amo, amc, Nat.reduceAdd, Nat.reduceEqDiff, encs_length, List.length_map, decide_true, decide_false, Tree.rec_, Nd.rec_, Word.rec_, Got.rec_, Nd.fl, decide_eq_false k3']
      have : sameW n.names m.names = false := by cases hs : sameW n.names m.names with
        | false => rfl
        | true => exact absurd (sameW_len hs) k3
      refine retK_intro rfl (Store.sub_refl _) ⟨?_, rfl⟩
      simp [V.erase, eraseL, this]
    simp only [am, amo, amc, Nat.reduceAdd, Nat.reduceEqDiff, encs_length, List.length_map, decide_true, decide_false, Tree.rec_, Nd.rec_, Word.rec_, Got.rec_, Nd.fl, k3]
    by_cases k4 : n.kids.length = m.kids.length
    case' neg =>
      have k4' : ¬ (n.kids.length : Int) = m.kids.length := by omega
      simp only [am, amo, amc, Nat.reduceAdd, Nat.reduceEqDiff, encs_length, List.length_map, decide_true, decide_false, Tree.rec_, Nd.rec_, Word.rec_, Got.rec_, Nd.fl, decide_eq_false k4']
      have : samesQ n.kids m.kids = false := by cases hs : samesQ n.kids m.kids with
        | false => rfl
        | true => exact absurd (samesQ_len hs) k4
      refine retK_intro rfl (Store.sub_refl _) ⟨?_, rfl⟩
      simp [V.erase, eraseL, this]
    simp only [am, amo, amc, Nat.reduceAdd, Nat.reduceEqDiff, encs_length, List.length_map, decide_true, decide_false, Tree.rec_, Nd.rec_, Word.rec_, Got.rec_, Nd.fl, k4]
    refine vc_loop (fun p : { i : Nat // i ≤ n.names.length ∧ sameW (n.names.take i) (m.names.take i) = true } => inv24w n m σ p.1) (fun p => n.names.length - p.1) ?_ ?_
    · refine Upd.enter ⟨0, by simp, by simp [sameW]⟩ ?_ LLLe.rfl OLe.rfl
      simp [inv24w, List.replicate, am, k3]
    rintro ⟨i, hi, ha⟩
    simp only [inv24w, List.replicate, am, and_true]
    refine vcIf_split ?_ ?_
    · intro hlt
      have hlt : i < n.names.length := by simpa using hlt
      obtain ⟨hat, hno⟩ := sameW_at hlt (by omega) k3 ha
      simp only [am, amo, amc, Nat.reduceAdd, Nat.reduceEqDiff, encs_length, List.length_map, decide_true, decide_false, Tree.rec_, Nd.rec_, Word.rec_, Got.rec_, Nd.fl]
      refine idxL_intro (by omega) (wencs_at (List.getElem?_eq_getElem hlt)) ?_
      simp only [am, amo, amc, Nat.reduceAdd, Nat.reduceEqDiff, encs_length, List.length_map, decide_true, decide_false, Tree.rec_, Nd.rec_, Word.rec_, Got.rec_, Nd.fl, Word.enc]
      refine idxL_intro (by omega) (wencs_at (List.getElem?_eq_getElem (show i < m.names.length by omega))) ?_
      simp only [am, amo, amc, Nat.reduceAdd, Nat.reduceEqDiff, encs_length, List.length_map, decide_true, decide_false, Tree.rec_, Nd.rec_, Word.rec_, Got.rec_, Nd.fl, Word.enc]
      by_cases he : n.names[i].text = m.names[i].text
      · simp only [am, amo, amc, Nat.reduceAdd, Nat.reduceEqDiff, encs_length, List.length_map, decide_true, decide_false, Tree.rec_, Nd.rec_, Word.rec_, Got.rec_, Nd.fl, he]
        rw [wrap_i64 (by omega) (by omega)]
        exact Upd.again ⟨i + 1, hlt, by rw [hat]; exact decide_eq_true he⟩ (by simp; omega) (by simp [List.replicate, am]) LLLe.rfl OLe.rfl
      · simp only [am, amo, amc, Nat.reduceAdd, Nat.reduceEqDiff, encs_length, List.length_map, decide_true, decide_false, Tree.rec_, Nd.rec_, Word.rec_, Got.rec_, Nd.fl, decide_eq_false he]
        refine retK_intro rfl (Store.sub_refl _) ⟨?_, rfl⟩
        simp [V.erase, eraseL, hno (decide_eq_false he)]
    intro hlt
    have hlt : i = n.names.length := by simp at hlt; omega
    subst hlt
    rw [List.take_length, k3, List.take_length] at ha
    simp only [am, amo, amc, Nat.reduceAdd, Nat.reduceEqDiff, encs_length, List.length_map, decide_true, decide_false, Tree.rec_, Nd.rec_, Word.rec_, Got.rec_, Nd.fl]
    refine vc_loop (fun p : { i : Nat // i ≤ n.kids.length ∧ samesQ (n.kids.take i) (m.kids.take i) = true } => inv24k n m σ p.1) (fun p => n.kids.length - p.1) ?_ ?_
    · refine Upd.enter ⟨0, by simp, by simp [samesQ]⟩ ?_ LLLe.rfl OLe.rfl
      simp [inv24k, List.replicate, am, k4]
    rintro ⟨i, hi, hb⟩
    simp only [inv24k, List.replicate, am, and_true]
    refine vcIf_split ?_ ?_
    · intro hlt
      have hlt : i < n.kids.length := by simpa using hlt
      have hki := kid_wt (n := n) (List.getElem_mem hlt)
      obtain ⟨hat, hno⟩ := samesQ_at hlt (by omega) k4 hb
      simp only [am, amo, amc, Nat.reduceAdd, Nat.reduceEqDiff, encs_length, List.length_map, decide_true, decide_false, Tree.rec_, Nd.rec_, Word.rec_, Got.rec_, Nd.fl]
      refine idxL_intro (by omega) (nencs_at (List.getElem?_eq_getElem hlt)) ?_
      simp only [am, amo, amc, Nat.reduceAdd, Nat.reduceEqDiff, encs_length, List.length_map, decide_true, decide_false, Tree.rec_, Nd.rec_, Word.rec_, Got.rec_, Nd.fl]
      refine idxL_intro (by omega) (nencs_at (List.getElem?_eq_getElem (show i < m.kids.length by omega))) ?_
      simp only [am, amo, amc, Nat.reduceAdd, Nat.reduceEqDiff, encs_length, List.length_map, decide_true, decide_false, Tree.rec_, Nd.rec_, Word.rec_, Got.rec_, Nd.fl]
      refine CallD.intro (ihk n.kids[i] m.kids[i] _ (by omega) (by omega)) ?_
      cases he : n.kids[i].sameQ m.kids[i]
      · simp only [am, amo, amc, Nat.reduceAdd, Nat.reduceEqDiff, encs_length, List.length_map, decide_true, decide_false, Tree.rec_, Nd.rec_, Word.rec_, Got.rec_, Nd.fl]
        refine retK_intro rfl (Store.sub_refl _) ⟨?_, rfl⟩
        simp [V.erase, eraseL, hno he]
      · simp only [am, amo, amc, Nat.reduceAdd, Nat.reduceEqDiff, encs_length, List.length_map, decide_true, decide_false, Tree.rec_, Nd.rec_, Word.rec_, Got.rec_, Nd.fl]
        rw [wrap_i64 (by omega) (by omega)]
        exact Upd.again ⟨i + 1, hlt, by rw [hat]; exact he⟩ (by simp; omega) (by simp [List.replicate, am]) LLLe.rfl OLe.rfl
    intro hlt
    have hlt : i = n.kids.length := by simp at hlt; omega
    subst hlt
    rw [List.take_length, k4, List.take_length] at hb
    simp only [am, amo, amc, Nat.reduceAdd, Nat.reduceEqDiff, encs_length, List.length_map, decide_true, decide_false, Tree.rec_, Nd.rec_, Word.rec_, Got.rec_, Nd.fl]
    refine retK_intro rfl (Store.sub_refl _) ⟨?_, rfl⟩
    simp [V.erase, eraseL, ha, hb]
end Go.Proofs.Tryd

namespace Go.Proofs.Tryd
open Go.Am
set_option maxRecDepth 4000
set_option maxHeartbeats 4000000
theorem word_tk2 {w : Word} : takeN 2 w.enc = some w.enc := rfl
end Go.Proofs.Tryd

namespace Go.Proofs.Tryd
open Go.Am
set_option maxRecDepth 4000
set_option maxHeartbeats 4000000
section
variable {c : Cmd}
theorem c_l2 : ldC false 1 (c.enc.drop 2) = some (.str c.name.text) := rfl
theorem c_t2 : takeN 2 (c.enc.drop 2) = some [.str c.name.text, .int .i64 c.name.pos] := rfl
theorem c_l4 : ldC false 1 (c.enc.drop 4) = some (.sl .no 2 (c.names.map Word.enc)) := rfl
theorem c_l5 : ldC false 1 (c.enc.drop 5) = some (.sl .no 4 (c.pairs.map penc)) := rfl
theorem c_l6 : ldC false 1 (c.enc.drop 6) = some (.int .i64 c.pairsAt) := rfl
theorem c_t7 : takeN 5 (c.enc.drop 7) = some c.left.enc := by rw [Nd.enc_eq]; rfl
theorem c_t12 : takeN 5 (c.enc.drop 12) = some c.right.enc := by rw [Nd.enc_eq]; rfl
def cfv := And.intro @c_l2 <| And.intro @c_t2 <| And.intro @c_l4 <| And.intro @c_l5 <| And.intro @c_l6 <| And.intro @c_t7 @c_t12
end
theorem penc_tk {p : Word × Word} : takeN 4 (penc p) = some (penc p) := rfl
theorem pencs_at {l : List (Word × Word)} {j : Nat} {p : Word × Word} (h : l[j]? = some p) : (l.map penc)[(j : Int).toNat]? = some (penc p) := by simp [h]
end Go.Proofs.Tryd

namespace Go.Proofs.Tryd
open Go.Am
set_option maxRecDepth 4000
set_option maxHeartbeats 4000000
def ac34 : AC := .seq (.reg [⟨(some 4), .mv (.c (.str [])), none⟩])
 (.seq (.reg [⟨(some 5), .mv (.c (.sl .full 1 [])), none⟩])
 (.seq (.seq (.reg [xm 7 0, xL 8 7, xi 9 0])
 (.block 0 (.loop (.seq (.reg [xb .lss 10 9 8])
 (.seq (.cond (.s 10) (.skip)
 (.exit 0))
 (.seq (.block 1 (.seq (.reg [xm 11 9, xm 6 11])
 (.seq (.seq (.reg [xm 12 6, xB .gtr 13 12 0])
 (.cond (.s 13) (.reg [xm 14 5, xm 15 1, ⟨(some 16), .appS (.s 14) (.s 15), none⟩, xm 5 16])
 (.skip)))
 (.reg [xm 17 5, xm 18 0, xm 19 6, xA 1 20 18 19, xo 21 20, ⟨(some 22), .appS (.s 17) (.s 21), none⟩, xm 5 22]))))
 (.reg [xB .add 23 9 1, xm 9 23])))))))
 (.seq (.reg [xm 24 5, ⟨(some 25), .cvBS (.s 24), none⟩, xm 4 25])
 (.ret))))
theorem fn34 : IsFn prog 34 ac34 [.tmp 4] 26 := ⟨f34, ⟨[], []⟩, func34, by kernel_rfl, by kernel_rfl, by kernel_rfl, by kernel_rfl⟩
def ac35 : AC := .seq (.reg [⟨(some 2), .mv (.c (.sl .full 1 [])), none⟩])
 (.seq (.reg [⟨(some 3), .mv (.c (.sl .full 1 [])), none⟩])
 (.seq (.seq (.reg [xm 6 0, xL 7 6, xi 8 0])
 (.block 0 (.loop (.seq (.reg [xb .lss 9 8 7])
 (.seq (.cond (.s 9) (.skip)
 (.exit 0))
 (.seq (.block 1 (.seq (.reg [xA 2 10 6 8, xl 2 11 10, ⟨(some 5), .alloc [(.str []), (.int .i64 0)], none⟩, xs 2 5 11])
 (.reg [xm 12 3, xf 0 13 5, xo 14 13, ⟨(some 15), .bslice 1 [(.s 14)], none⟩, xa 1 16 12 15, xm 3 16])))
 (.reg [xB .add 17 8 1, xm 8 17])))))))
 (.seq (.reg [xm 18 3, xm 2 18])
 (.ret))))
theorem fn35 : IsFn prog 35 ac35 [.tmp 2] 19 := ⟨f35, ⟨[], []⟩, func35, by kernel_rfl, by kernel_rfl, by kernel_rfl, by kernel_rfl⟩
def ac36 : AC := .seq (.reg [⟨(some 2), .mv (.c (.str [])), none⟩])
 (.seq (.reg [xm 3 0, xc 34 4 [.s 3, .c (.str [44])], ⟨(some 5), .cat (.c (.str [123])) (.s 4), none⟩, ⟨(some 6), .cat (.s 5) (.c (.str [125])), none⟩, xm 2 6])
 (.ret))
theorem fn36 : IsFn prog 36 ac36 [.tmp 2] 7 := ⟨f36, ⟨[], []⟩, func36, by kernel_rfl, by kernel_rfl, by kernel_rfl, by kernel_rfl⟩
def ac37 : AC := .seq (.reg [⟨(some 2), .mv (.c (.sl .full 1 [])), none⟩])
 (.seq (.reg [⟨(some 3), .mv (.c (.sl .full 1 [])), none⟩])
 (.seq (.seq (.reg [xm 6 0, xL 7 6, xi 8 0])
 (.block 0 (.loop (.seq (.reg [xb .lss 9 8 7])
 (.seq (.cond (.s 9) (.skip)
 (.exit 0))
 (.seq (.block 1 (.seq (.reg [xA 4 10 6 8, xl 4 11 10, ⟨(some 5), .alloc [(.str []), (.int .i64 0), (.str []), (.int .i64 0)], none⟩, xs 4 5 11])
 (.reg [xm 12 3, ⟨(some 13), .idxP 2 2 (.s 5) (.c (.int .i64 0)), none⟩, xf 0 14 13, xo 15 14, ⟨(some 16), .cat (.s 15) (.c (.str [60])), none⟩, ⟨(some 17), .idxP 2 2 (.s 5) (.c (.int .i64 1)), none⟩, xf 0 18 17, xo 19 18, ⟨(some 20), .cat (.s 16) (.s 19), none⟩, ⟨(some 21), .bslice 1 [(.s 20)], none⟩, xa 1 22 12 21, xm 3 22])))
 (.reg [xB .add 23 8 1, xm 8 23])))))))
 (.seq (.reg [xm 24 3, xm 2 24])
 (.ret))))
theorem fn37 : IsFn prog 37 ac37 [.tmp 2] 25 := ⟨f37, ⟨[], []⟩, func37, by kernel_rfl, by kernel_rfl, by kernel_rfl, by kernel_rfl⟩
def encT (l : List (List UInt8)) : List (List V) := l.map fun s => [V.str s]
theorem encT_length {l : List (List UInt8)} : (encT l).length = l.length := List.length_map ..
theorem encT_at {l : List (List UInt8)} {j : Nat} {s : List UInt8} (h : l[j]? = some s) : (encT l)[(j : Int).toNat]? = some [.str s] := by simp [encT, h]
def inv34 (l : List (List UInt8)) (sep : List UInt8) (σ : Store) (i τ : Nat) : St :=
  ⟨[.sl .no 1 (encT l), .str sep, .any, .any, .any, .sl (.tk τ) 1 (encB (joinS sep (l.take i))), .any, .any, .int .i64 l.length, .int .i64 (i : Nat)] ++ List.replicate 16 .any, [], σ.setTip τ (joinS sep (l.take i)).length⟩
theorem join_calls (l : List (List UInt8)) (sep : List UInt8) (σ : Store) (hl : l.length ≤ big) (hb : (joinS sep l).length ≤ big) :
    PCalls prog 34 [.sl .no 1 (encT l), .str sep] σ fun v σ' => v = .str (joinS sep l) ∧ σ' = σ := by
  refine fn34.calls ?_
  simp only [slots, ac34, am, amo, amc, ams, Nat.reduceAdd, Nat.reduceEqDiff, decide_true, decide_false, Word.rec_, Nd.fl, Int.reduceEq, Int.reduceLT, Int.reduceLE, Nat.reduceLT, Int.reduceToNat, Nat.reduceMul, encT_length]
  refine vc_loop (fun p : { p : Nat × Nat // σ.tip p.2 = none ∧ p.1 ≤ l.length } => inv34 l sep σ p.1.1 p.1.2) (fun p => l.length - p.1.1) ?_ ?_
  · refine Upd.tokEnter 0 fun τ hτ => ⟨⟨(0, τ), hτ, by simp⟩, ?_, rfl, rfl⟩
    simp [inv34, List.replicate, lto, joinS, encB]
  · rintro ⟨⟨i, τ⟩, hτ, hi⟩
    simp only at hτ hi
    simp only [inv34, List.replicate, am]
    have wi : IntKind.i64.wrap ((i : Int) + 1) = ((i + 1 : Nat) : Int) := by simp only [big] at hl; rw [wrap_i64 (by omega) (by omega)]; simp
    by_cases hlt : i < l.length
    · have hs := joinS_take (sep := sep) hlt
      have hm := joinS_le (sep := sep) (l := l) (i := i + 1)
      rw [hs] at hm
      simp only [List.length_append] at hm
      simp only [am, amo, amc, Nat.reduceAdd, Nat.reduceEqDiff, encs_length, List.length_map, decide_true, decide_false, Word.rec_, Nd.fl, Int.reduceEq, Int.reduceLT, Int.reduceLE, Nat.reduceLT, Int.reduceToNat, Nat.reduceMul, encT_length, decide_eq_true (show (i : Int) < l.length by omega)]
      by_cases h0 : 0 < i
      case' pos =>
        rw [if_pos h0] at hs hm
        simp only [am, amo, amc, Nat.reduceAdd, Nat.reduceEqDiff, encs_length, List.length_map, decide_true, decide_false, Word.rec_, Nd.fl, Int.reduceEq, Int.reduceLT, Int.reduceLE, Nat.reduceLT, Int.reduceToNat, Nat.reduceMul, encT_length, decide_eq_true (show (0 : Int) < i by omega)]
        refine ⟨_, rfl, ?_⟩
        refine app_tk (by rw [encB_length, encB_length]; omega) (by rw [encB_length, setTip_tip_same]) ?_
        simp only [am, amo, amc, Nat.reduceAdd, Nat.reduceEqDiff, encs_length, List.length_map, decide_true, decide_false, Word.rec_, Nd.fl, Int.reduceEq, Int.reduceLT, Int.reduceLE, Nat.reduceLT, Int.reduceToNat, Nat.reduceMul, encT_length, setTip_setTip]
        rw [← encB_append, encB_length, encB_length, ← List.length_append]
      case' neg =>
        rw [if_neg h0, List.append_nil] at hs
        rw [if_neg h0] at hm
        simp only [am, amo, amc, Nat.reduceAdd, Nat.reduceEqDiff, encs_length, List.length_map, decide_true, decide_false, Word.rec_, Nd.fl, Int.reduceEq, Int.reduceLT, Int.reduceLE, Nat.reduceLT, Int.reduceToNat, Nat.reduceMul, encT_length, decide_eq_false (show ¬ (0 : Int) < i by omega)]
      all_goals
        refine idxL_intro (by omega) (encT_at (List.getElem?_eq_getElem hlt)) ?_
        simp only [am, amo, amc, Nat.reduceAdd, Nat.reduceEqDiff, encs_length, List.length_map, decide_true, decide_false, Word.rec_, Nd.fl, Int.reduceEq, Int.reduceLT, Int.reduceLE, Nat.reduceLT, Int.reduceToNat, Nat.reduceMul, encT_length]
        refine ⟨_, rfl, ?_⟩
        refine app_tk (by rw [encB_length, encB_length]; simp at hm ⊢; omega) (by rw [encB_length, setTip_tip_same]) ?_
        simp only [am, amo, amc, Nat.reduceAdd, Nat.reduceEqDiff, encs_length, List.length_map, decide_true, decide_false, Word.rec_, Nd.fl, Int.reduceEq, Int.reduceLT, Int.reduceLE, Nat.reduceLT, Int.reduceToNat, Nat.reduceMul, encT_length, setTip_setTip, wi]
        rw [← encB_append, encB_length, encB_length, ← List.length_append, ← hs]
        exact Upd.again (I := fun p : { p : Nat × Nat // σ.tip p.2 = none ∧ p.1 ≤ l.length } => inv34 l sep σ p.1.1 p.1.2) (μ := fun p => l.length - p.1.1) ⟨(i + 1, τ), hτ, hlt⟩ (by simp; omega) (by simp [inv34, am, List.replicate]) LLLe.rfl OLe.rfl
    · have hlt : i = l.length := by omega
      subst hlt
      simp only [am, amo, amc, Nat.reduceAdd, Nat.reduceEqDiff, encs_length, List.length_map, decide_true, decide_false, Word.rec_, Nd.fl, Int.reduceEq, Int.reduceLT, Int.reduceLE, Nat.reduceLT, Int.reduceToNat, Nat.reduceMul, encT_length, decide_eq_false (show ¬ (l.length : Int) < l.length by omega), List.take_length]
      refine ⟨_, _, rfl, ?_⟩
      refine retK_intro rfl (sub_tip hτ) ⟨?_, rfl⟩
      simp [V.erase]
def inv35 (l : List Word) (σ : Store) (i τ : Nat) (loc : List (List V)) : St :=
  ⟨[.any, .any, .any, .sl (.tk τ) 1 (encT ((l.take i).map Word.text)), .any, .any, .sl .no 2 (l.map Word.enc), .int .i64 l.length, .int .i64 (i : Nat)] ++ List.replicate 10 .any, loc, σ.setTip τ i⟩
theorem encT_snoc {l : List (List UInt8)} {s : List UInt8} : encT l ++ [[.str s]] = encT (l ++ [s]) := by simp [encT]
theorem texts_calls (l : List Word) (σ : Store) (hl : l.length + 1 ≤ big) : PCalls prog 35 [.sl .no 2 (l.map Word.enc)] σ fun v σ' => v = .sl .no 1 (encT (l.map Word.text)) ∧ σ' = σ := by
  refine fn35.calls ?_
  simp only [slots, ac35, am, amo, amc, ams, Nat.reduceAdd, Nat.reduceEqDiff, decide_true, decide_false, Word.rec_, Nd.fl, Int.reduceEq, Int.reduceLT, Int.reduceLE, Nat.reduceLT, Int.reduceToNat, Nat.reduceMul, encT_length]
  refine vc_loop (fun p : { p : Nat × Nat // σ.tip p.2 = none ∧ p.1 ≤ l.length } => inv35 l σ p.1.1 p.1.2 []) (fun p => l.length - p.1.1) ?_ ?_
  · refine Upd.tokEnter 0 fun τ hτ => ⟨⟨(0, τ), hτ, by simp⟩, ?_, rfl, rfl⟩
    simp [inv35, List.replicate, lto, encT]
  · rintro ⟨⟨i, τ⟩, hτ, hi⟩
    simp only at hτ hi
    simp only [inv35, List.replicate, am]
    have wi : IntKind.i64.wrap ((i : Int) + 1) = ((i + 1 : Nat) : Int) := by simp only [big] at hl; rw [wrap_i64 (by omega) (by omega)]; simp
    by_cases hlt : i < l.length
    · have htl : ((l.take i).map Word.text).length = i := by simp; omega
      have hsn : (l.take i).map Word.text ++ [l[i].text] = (l.take (i + 1)).map Word.text := by rw [List.take_succ_eq_append_getElem hlt, List.map_append, List.map_singleton]
      simp only [am, amo, amc, Nat.reduceAdd, Nat.reduceEqDiff, encs_length, List.length_map, decide_true, decide_false, Word.rec_, Nd.fl, Int.reduceEq, Int.reduceLT, Int.reduceLE, Nat.reduceLT, Int.reduceToNat, Nat.reduceMul, encT_length, decide_eq_true (show (i : Int) < l.length by omega)]
      refine idxL_intro (by omega) (wencs_at (List.getElem?_eq_getElem hlt)) ?_
      simp only [am, amo, amc, Nat.reduceAdd, Nat.reduceEqDiff, encs_length, List.length_map, decide_true, decide_false, Word.rec_, Nd.fl, Int.reduceEq, Int.reduceLT, Int.reduceLE, Nat.reduceLT, Int.reduceToNat, Nat.reduceMul, encT_length, word_tk2, Word.enc]
      refine app_tk (by rw [encT_length, htl]; simp; omega) (by rw [encT_length, htl, setTip_tip_same]) ?_
      simp only [am, amo, amc, Nat.reduceAdd, Nat.reduceEqDiff, encs_length, List.length_map, decide_true, decide_false, Word.rec_, Nd.fl, Int.reduceEq, Int.reduceLT, Int.reduceLE, Nat.reduceLT, Int.reduceToNat, Nat.reduceMul, encT_length, setTip_setTip, wi, htl]
      rw [encT_snoc, hsn]
      exact Upd.againD (I := fun p : { p : Nat × Nat // σ.tip p.2 = none ∧ p.1 ≤ l.length } => inv35 l σ p.1.1 p.1.2 []) (μ := fun p => l.length - p.1.1) ⟨(i + 1, τ), hτ, hlt⟩ (by simp; omega) (by simp [inv35, am, List.replicate]) (by simp [inv35, am]) OLe.rfl (by simp [inv35, List.replicate, loL, V.lo]) (by simp [inv35, loLL])
    · have hlt : i = l.length := by omega
      subst hlt
      simp only [am, amo, amc, Nat.reduceAdd, Nat.reduceEqDiff, encs_length, List.length_map, decide_true, decide_false, Word.rec_, Nd.fl, Int.reduceEq, Int.reduceLT, Int.reduceLE, Nat.reduceLT, Int.reduceToNat, Nat.reduceMul, encT_length, decide_eq_false (show ¬ (l.length : Int) < l.length by omega), List.take_length]
      refine retK_intro rfl (sub_tip hτ) ⟨?_, rfl⟩
      simp [V.erase]
def inv37 (l : List (Word × Word)) (σ : Store) (i τ : Nat) (loc : List (List V)) : St :=
  ⟨[.any, .any, .any, .sl (.tk τ) 1 (encT ((l.take i).map pairT)), .any, .any, .sl .no 4 (l.map penc), .int .i64 l.length, .int .i64 (i : Nat)] ++ List.replicate 16 .any, loc, σ.setTip τ i⟩
theorem pairsT_calls (l : List (Word × Word)) (σ : Store) (hl : l.length + 1 ≤ big) (hp : psum l ≤ big) : PCalls prog 37 [.sl .no 4 (l.map penc)] σ fun v σ' => v = .sl .no 1 (encT (l.map pairT)) ∧ σ' = σ := by
  refine fn37.calls ?_
  simp only [slots, ac37, am, amo, amc, ams, Nat.reduceAdd, Nat.reduceEqDiff, decide_true, decide_false, Word.rec_, Nd.fl, Int.reduceEq, Int.reduceLT, Int.reduceLE, Nat.reduceLT, Int.reduceToNat, Nat.reduceMul, encT_length]
  refine vc_loop (fun p : { p : Nat × Nat // σ.tip p.2 = none ∧ p.1 ≤ l.length } => inv37 l σ p.1.1 p.1.2 []) (fun p => l.length - p.1.1) ?_ ?_
  · refine Upd.tokEnter 0 fun τ hτ => ⟨⟨(0, τ), hτ, by simp⟩, ?_, rfl, rfl⟩
    simp [inv37, List.replicate, lto, encT]
  · rintro ⟨⟨i, τ⟩, hτ, hi⟩
    simp only at hτ hi
    simp only [inv37, List.replicate, am]
    have wi : IntKind.i64.wrap ((i : Int) + 1) = ((i + 1 : Nat) : Int) := by simp only [big] at hl; rw [wrap_i64 (by omega) (by omega)]; simp
    by_cases hlt : i < l.length
    · have htl : ((l.take i).map pairT).length = i := by simp; omega
      have hsn : (l.take i).map pairT ++ [pairT l[i]] = (l.take (i + 1)).map pairT := by rw [List.take_succ_eq_append_getElem hlt, List.map_append, List.map_singleton]
      simp only [am, amo, amc, Nat.reduceAdd, Nat.reduceEqDiff, encs_length, List.length_map, decide_true, decide_false, Word.rec_, Nd.fl, Int.reduceEq, Int.reduceLT, Int.reduceLE, Nat.reduceLT, Int.reduceToNat, Nat.reduceMul, encT_length, decide_eq_true (show (i : Int) < l.length by omega)]
      refine idxL_intro (by omega) (pencs_at (List.getElem?_eq_getElem hlt)) ?_
      simp only [am, amo, amc, Nat.reduceAdd, Nat.reduceEqDiff, encs_length, List.length_map, decide_true, decide_false, Word.rec_, Nd.fl, Int.reduceEq, Int.reduceLT, Int.reduceLE, Nat.reduceLT, Int.reduceToNat, Nat.reduceMul, encT_length, penc_tk, penc]
      have hpl := psum_at hlt
      refine idxPL_ptr (by omega) (by omega) ?_
      simp only [am, amo, amc, Nat.reduceAdd, Nat.reduceEqDiff, encs_length, List.length_map, decide_true, decide_false, Word.rec_, Nd.fl, Int.reduceEq, Int.reduceLT, Int.reduceLE, Nat.reduceLT, Int.reduceToNat, Nat.reduceMul, encT_length]
      refine ⟨by simp; omega, ?_⟩
      refine idxPL_ptr (by omega) (by omega) ?_
      simp only [am, amo, amc, Nat.reduceAdd, Nat.reduceEqDiff, encs_length, List.length_map, decide_true, decide_false, Word.rec_, Nd.fl, Int.reduceEq, Int.reduceLT, Int.reduceLE, Nat.reduceLT, Int.reduceToNat, Nat.reduceMul, encT_length]
      refine ⟨by simp; omega, ?_⟩
      refine app_tk (by rw [encT_length, htl]; simp; omega) (by rw [encT_length, htl, setTip_tip_same]) ?_
      simp only [am, amo, amc, Nat.reduceAdd, Nat.reduceEqDiff, encs_length, List.length_map, decide_true, decide_false, Word.rec_, Nd.fl, Int.reduceEq, Int.reduceLT, Int.reduceLE, Nat.reduceLT, Int.reduceToNat, Nat.reduceMul, encT_length, setTip_setTip, wi, htl]
      rw [show l[i].1.text ++ [60] ++ l[i].2.text = pairT l[i] from rfl, encT_snoc, hsn]
      exact Upd.againD (I := fun p : { p : Nat × Nat // σ.tip p.2 = none ∧ p.1 ≤ l.length } => inv37 l σ p.1.1 p.1.2 []) (μ := fun p => l.length - p.1.1) ⟨(i + 1, τ), hτ, hlt⟩ (by simp; omega) (by simp [inv37, am, List.replicate]) (by simp [inv37, am]) OLe.rfl (by simp [inv37, List.replicate, loL, V.lo]) (by simp [inv37, loLL])
    · have hlt : i = l.length := by omega
      subst hlt
      simp only [am, amo, amc, Nat.reduceAdd, Nat.reduceEqDiff, encs_length, List.length_map, decide_true, decide_false, Word.rec_, Nd.fl, Int.reduceEq, Int.reduceLT, Int.reduceLE, Nat.reduceLT, Int.reduceToNat, Nat.reduceMul, encT_length, decide_eq_false (show ¬ (l.length : Int) < l.length by omega), List.take_length]
      refine retK_intro rfl (sub_tip hτ) ⟨?_, rfl⟩
      simp [V.erase]
theorem braces_calls (l : List (List UInt8)) (σ : Store) (hl : l.length ≤ big) (hb : (joinC l).length + 2 ≤ big) : PCalls prog 36 [.sl .no 1 (encT l)] σ fun v σ' => v = .str (braceT l) ∧ σ' = σ := by
  refine fn36.calls ?_
  simp only [slots, ac36, am, amo, amc, ams, Nat.reduceAdd, Nat.reduceEqDiff, decide_true, decide_false, Word.rec_, Nd.fl, Int.reduceEq, Int.reduceLT, Int.reduceLE, Nat.reduceLT, Int.reduceToNat, Nat.reduceMul, encT_length]
  refine (join_calls l [44] σ hl (by rw [joinS_C]; omega)).mono ?_
  rintro v σ ⟨rfl, rfl⟩
  simp only [am, amo, amc, Nat.reduceAdd, Nat.reduceEqDiff, encs_length, List.length_map, decide_true, decide_false, Word.rec_, Nd.fl, Int.reduceEq, Int.reduceLT, Int.reduceLE, Nat.reduceLT, Int.reduceToNat, Nat.reduceMul, encT_length, joinS_C]
  refine ⟨by simp; omega, by simp; omega, ?_⟩
  refine retK_intro rfl (Store.sub_refl _) ⟨?_, rfl⟩
  simp [V.erase, eraseL, braceT]
end Go.Proofs.Tryd

namespace Go.Proofs.Tryd
open Go.Am
set_option maxRecDepth 4000
set_option maxHeartbeats 4000000
def ac12 : AC := .seq (.reg [⟨(some 1), .box 17 (.s 0), none⟩, ⟨(some 2), .mv (.c (.str [])), none⟩])
 (.seq (.reg [xf 0 8 1, xo 9 8, xc 20 10 [.s 9], ⟨(some 3), .alloc [(.str []), (.str [])], none⟩, xs 2 3 10])
 (.seq (.reg [xf 0 11 3, xo 12 11, ⟨(some 13), .bslice 1 [(.s 12)], none⟩, xm 4 13])
 (.seq (.reg [xf 7 14 1, xl 5 15 14, xf 12 16 1, xl 5 17 16, ⟨(some 18), .bslice 5 [(.s 15), (.s 17)], none⟩, xm 5 18])
 (.seq (.rangeS [xf 1 19 3, xo 20 19] (.s 20) 21 22 23 0 1
 (.seq (.reg [xe 24 22 2, xm 7 24])
 (.seq (.reg [xm 25 7])
 (.block 2 (.seq (.reg [⟨(some 36), .binI .eql (.s 25) (.c (.int .i32 110)), none⟩, xm 35 36])
 (.cond (.s 35) (.reg [xm 37 4, xf 2 38 1, xf 0 39 38, xo 40 39, ⟨(some 41), .bslice 1 [(.s 40)], none⟩, xa 1 42 37 41, xm 4 42])
 (.seq (.reg [⟨(some 44), .binI .eql (.s 25) (.c (.int .i32 102)), none⟩, xm 43 44])
 (.cond (.s 43) (.reg [xm 45 4, xf 4 46 1, xo 47 46, xc 35 48 [.s 47], xc 34 49 [.s 48, .c (.str [44])], ⟨(some 50), .bslice 1 [(.s 49)], none⟩, xa 1 51 45 50, xm 4 51])
 (.seq (.reg [⟨(some 53), .binI .eql (.s 25) (.c (.int .i32 119)), none⟩, xm 52 53])
 (.cond (.s 52) (.reg [xm 54 4, xf 4 55 1, xo 56 55, xc 35 57 [.s 56], xc 36 58 [.s 57], ⟨(some 59), .bslice 1 [(.s 58)], none⟩, xa 1 60 54 59, xm 4 60])
 (.seq (.reg [⟨(some 62), .binI .eql (.s 25) (.c (.int .i32 112)), none⟩, xm 61 62])
 (.cond (.s 61) (.reg [xm 63 4, xf 5 64 1, xo 65 64, xc 37 66 [.s 65], xc 36 67 [.s 66], ⟨(some 68), .bslice 1 [(.s 67)], none⟩, xa 1 69 63 68, xm 4 69])
 (.seq (.reg [xm 26 4, xm 27 5, ⟨(some 28), .idxA 5 (.s 27) (.c (.int .i64 0)), none⟩, xl 5 29 28, xc 38 30 [.s 29], ⟨(some 31), .bslice 1 [(.s 30)], none⟩, xa 1 32 26 31, xm 4 32])
 (.reg [xm 33 5, ⟨(some 34), .slc 5 (.s 33) (some (.c (.int .i64 1))) none none, none⟩, xm 5 34]))))))))))))))
 (.seq (.reg [xm 70 4, xc 34 71 [.s 70, .c (.str [32])], xm 2 71])
 (.ret))))))
theorem fn12 : IsFn prog 12 ac12 [.tmp 2] 72 := ⟨f12, ⟨[], []⟩, func12, by kernel_rfl, by kernel_rfl, by kernel_rfl, by kernel_rfl⟩
theorem nd_len {n : Nd} : n.enc.length = 5 := by rw [Nd.enc_eq]; rfl
theorem nd_one {n : Nd} : oneL n.enc = true := by rw [Nd.enc_eq]; rfl
def stT (c : Cmd) (σ : Store) (ks : List UInt8) (b i τ : Nat) : St :=
  ⟨[.any, .ptr (.loc 0) 0, .any, .any, .sl (.tk τ) 1 (encT (piecesT c (ks.take i)).1), .sl .no 5 ((piecesT c (ks.take i)).2.map Nd.enc)] ++ List.replicate 15 .any ++ [.raw (.pointer (some ⟨b, 0, none⟩))] ++ List.replicate 50 .any, [c.enc, [.str (formOf c.op).1, .str ks]], σ.setTip τ (i + 1)⟩
theorem ctext_calls (c : Cmd) {σ : Store} (hg : σ.box 0 = some formCells) (hw : 16 * c.wt + 64 ≤ big) : PCalls prog 12 [.agg c.enc] σ fun v σ' => v = .str (textC c) ∧ σ' = σ := by
  have hcw : c.wt = c.name.text.length + wsum c.names + psum c.pairs + c.left.wt + c.right.wt := rfl
  have hn1 := psum_word c.names
  have hp1 := psum_len c.pairs
  refine fn12.calls ?_
  simp only [slots, ac12, am, amo, amc, ams, Nat.reduceAdd, Nat.reduceEqDiff, decide_true, decide_false, Tree.rec_, Nd.rec_, Word.rec_, nd_len, nd_one, Int.reduceEq, Int.reduceLT, Int.reduceLE, Nat.reduceLT, Int.reduceToNat, Nat.reduceMul, encT_length, cfl, cfo, cfv]
  refine (of_calls c.op hg).mono ?_
  rintro v σ ⟨rfl, rfl⟩
  simp only [am, amo, amc, Nat.reduceAdd, Nat.reduceEqDiff, encs_length, List.length_map, decide_true, decide_false, Tree.rec_, Nd.rec_, Word.rec_, nd_len, nd_one, Int.reduceEq, Int.reduceLT, Int.reduceLE, Nat.reduceLT, Int.reduceToNat, Nat.reduceMul, encT_length, cfl, cfo, cfv]
  refine vc_rangeS ?_
  simp only [am, amo, amc, Nat.reduceAdd, Nat.reduceEqDiff, encs_length, List.length_map, decide_true, decide_false, Tree.rec_, Nd.rec_, Word.rec_, nd_len, nd_one, Int.reduceEq, Int.reduceLT, Int.reduceLE, Nat.reduceLT, Int.reduceToNat, Nat.reduceMul, encT_length, cfl, cfo, cfv]
  have hft := form_terms c.op
  have htx : textC c = joinS [32] (piecesT c (formOf c.op).2).1 := rfl
  have hkl := form_len c.op
  generalize hks : (formOf c.op).2 = ks at hft htx hkl
  refine ⟨ks, rfl, by rw [← hks]; exact form_ascii c.op, fun b i st' => ∃ τ : { τ : Nat // σ.tip τ = none }, st' = stT c σ ks b i τ.1, ?_, ?_, ?_, ?_⟩
  · intro b
    refine Upd.tokEnter 1 fun τ hτ => ⟨⟨τ, hτ⟩, ?_, ?_, rfl⟩
    · simp [stT, List.replicate, lto, encT, piecesT]
      exact ⟨VTo.tok rfl, VTo.le VLe.no⟩
    · simp [stT]
  · rintro b i _ ⟨τ, rfl⟩
    exact ⟨rfl, by simp [stT], by simp [stT]⟩
  · rintro b i k _ hk ⟨⟨τ, hτ⟩, rfl⟩
    have hi : i < ks.length := (List.getElem?_eq_some_iff.1 hk).1
    have hki : ks.take (i + 1) = ks.take i ++ [k] := by rw [take_succ_of hk]
    obtain ⟨o1, o2, o3, o4⟩ := pieces_ok c (ks.take i)
    have hsn := piecesT_snoc c (ks.take i) k
    rw [← hki] at hsn
    have ho3 : (encT (piecesT c (ks.take i)).1).length = i + 1 := by rw [encT_length, o3, List.length_take]; omega
    have hkk : ∀ n : UInt8, ((k.toNat : Nat) : Int) = (n.toNat : Nat) ↔ k = n := fun n => by
      constructor
      · intro h; exact UInt8.toNat_inj.1 (by omega)
      · rintro rfl; rfl
    have e110 : ((k.toNat : Nat) : Int) = 110 ↔ k = 110 := hkk 110
    have e102 : ((k.toNat : Nat) : Int) = 102 ↔ k = 102 := hkk 102
    have e119 : ((k.toNat : Nat) : Int) = 119 ↔ k = 119 := hkk 119
    have e112 : ((k.toNat : Nat) : Int) = 112 ↔ k = 112 := hkk 112
    have ht := hft i hi k hk
    simp only [stT, List.replicate, am]
    generalize hX : piecesT c (ks.take i) = X at *
    obtain ⟨rows, ts⟩ := X
    simp only at o1 o2 o3 o4 ho3
    simp only
    rw [hsn]
    simp only [stepC]
    have hlb : rows.length + 1 ≤ big := by
      have : (List.take i ks).length ≤ 3 := by rw [List.length_take]; omega
      simp only [big]; omega
    by_cases k1 : k = 110
    · have hp : pieceT k c (ts.headD .zero) = c.name.text := by subst k1; rfl
      have hq : isTerm k = false := by subst k1; rfl
      simp only [am, amo, amc, Nat.reduceAdd, Nat.reduceEqDiff, encs_length, List.length_map, decide_true, decide_false, Tree.rec_, Nd.rec_, Word.rec_, nd_len, nd_one, Int.reduceEq, Int.reduceLT, Int.reduceLE, Nat.reduceLT, Int.reduceToNat, Nat.reduceMul, encT_length, cfl, cfo, cfv, decide_eq_true (e110.2 k1), hp, hq]
      refine app_tk (by rw [ho3]; simp only [List.length_singleton, big] at *; omega) (by rw [ho3, setTip_tip_same]) ?_
      simp only [am, amo, amc, Nat.reduceAdd, Nat.reduceEqDiff, encs_length, List.length_map, decide_true, decide_false, Tree.rec_, Nd.rec_, Word.rec_, nd_len, nd_one, Int.reduceEq, Int.reduceLT, Int.reduceLE, Nat.reduceLT, Int.reduceToNat, Nat.reduceMul, encT_length, cfl, cfo, cfv, setTip_setTip, ho3]
      rw [encT_snoc]
      exact Upd.weak (by simp [am]) (by simp [am]) OLe.rfl ⟨⟨τ, hτ⟩, rfl⟩
    simp only [am, amo, amc, Nat.reduceAdd, Nat.reduceEqDiff, encs_length, List.length_map, decide_true, decide_false, Tree.rec_, Nd.rec_, Word.rec_, nd_len, nd_one, Int.reduceEq, Int.reduceLT, Int.reduceLE, Nat.reduceLT, Int.reduceToNat, Nat.reduceMul, encT_length, cfl, cfo, cfv, decide_eq_false (fun h => k1 (e110.1 h))]
    by_cases k2 : k = 102
    · have hp : pieceT k c (ts.headD .zero) = joinC (c.names.map Word.text) := by subst k2; rfl
      have hq : isTerm k = false := by subst k2; rfl
      simp only [am, amo, amc, Nat.reduceAdd, Nat.reduceEqDiff, encs_length, List.length_map, decide_true, decide_false, Tree.rec_, Nd.rec_, Word.rec_, nd_len, nd_one, Int.reduceEq, Int.reduceLT, Int.reduceLE, Nat.reduceLT, Int.reduceToNat, Nat.reduceMul, encT_length, cfl, cfo, cfv, decide_eq_true (e102.2 k2), hp, hq]
      refine (texts_calls c.names _ (by omega)).mono ?_
      rintro v σ ⟨rfl, rfl⟩
      simp only [am, amo, amc, Nat.reduceAdd, Nat.reduceEqDiff, encs_length, List.length_map, decide_true, decide_false, Tree.rec_, Nd.rec_, Word.rec_, nd_len, nd_one, Int.reduceEq, Int.reduceLT, Int.reduceLE, Nat.reduceLT, Int.reduceToNat, Nat.reduceMul, encT_length, cfl, cfo, cfv]
      refine (join_calls (c.names.map Word.text) [44] _ (by rw [List.length_map]; omega) (by rw [joinS_C]; omega)).mono ?_
      rintro v σ ⟨rfl, rfl⟩
      simp only [am, amo, amc, Nat.reduceAdd, Nat.reduceEqDiff, encs_length, List.length_map, decide_true, decide_false, Tree.rec_, Nd.rec_, Word.rec_, nd_len, nd_one, Int.reduceEq, Int.reduceLT, Int.reduceLE, Nat.reduceLT, Int.reduceToNat, Nat.reduceMul, encT_length, cfl, cfo, cfv, joinS_C]
      refine app_tk (by rw [ho3]; simp only [List.length_singleton, big] at *; omega) (by rw [ho3, setTip_tip_same]) ?_
      simp only [am, amo, amc, Nat.reduceAdd, Nat.reduceEqDiff, encs_length, List.length_map, decide_true, decide_false, Tree.rec_, Nd.rec_, Word.rec_, nd_len, nd_one, Int.reduceEq, Int.reduceLT, Int.reduceLE, Nat.reduceLT, Int.reduceToNat, Nat.reduceMul, encT_length, cfl, cfo, cfv, setTip_setTip, ho3]
      rw [encT_snoc]
      exact Upd.weak (by simp [am]) (by simp [am]) OLe.rfl ⟨⟨τ, hτ⟩, rfl⟩
    simp only [am, amo, amc, Nat.reduceAdd, Nat.reduceEqDiff, encs_length, List.length_map, decide_true, decide_false, Tree.rec_, Nd.rec_, Word.rec_, nd_len, nd_one, Int.reduceEq, Int.reduceLT, Int.reduceLE, Nat.reduceLT, Int.reduceToNat, Nat.reduceMul, encT_length, cfl, cfo, cfv, decide_eq_false (fun h => k2 (e102.1 h))]
    by_cases k3 : k = 119
    · have hp : pieceT k c (ts.headD .zero) = braceT (c.names.map Word.text) := by subst k3; rfl
      have hq : isTerm k = false := by subst k3; rfl
      simp only [am, amo, amc, Nat.reduceAdd, Nat.reduceEqDiff, encs_length, List.length_map, decide_true, decide_false, Tree.rec_, Nd.rec_, Word.rec_, nd_len, nd_one, Int.reduceEq, Int.reduceLT, Int.reduceLE, Nat.reduceLT, Int.reduceToNat, Nat.reduceMul, encT_length, cfl, cfo, cfv, decide_eq_true (e119.2 k3), hp, hq]
      refine (texts_calls c.names _ (by omega)).mono ?_
      rintro v σ ⟨rfl, rfl⟩
      simp only [am, amo, amc, Nat.reduceAdd, Nat.reduceEqDiff, encs_length, List.length_map, decide_true, decide_false, Tree.rec_, Nd.rec_, Word.rec_, nd_len, nd_one, Int.reduceEq, Int.reduceLT, Int.reduceLE, Nat.reduceLT, Int.reduceToNat, Nat.reduceMul, encT_length, cfl, cfo, cfv]
      refine (braces_calls (c.names.map Word.text) _ (by rw [List.length_map]; omega) (by omega)).mono ?_
      rintro v σ ⟨rfl, rfl⟩
      simp only [am, amo, amc, Nat.reduceAdd, Nat.reduceEqDiff, encs_length, List.length_map, decide_true, decide_false, Tree.rec_, Nd.rec_, Word.rec_, nd_len, nd_one, Int.reduceEq, Int.reduceLT, Int.reduceLE, Nat.reduceLT, Int.reduceToNat, Nat.reduceMul, encT_length, cfl, cfo, cfv]
      refine app_tk (by rw [ho3]; simp only [List.length_singleton, big] at *; omega) (by rw [ho3, setTip_tip_same]) ?_
      simp only [am, amo, amc, Nat.reduceAdd, Nat.reduceEqDiff, encs_length, List.length_map, decide_true, decide_false, Tree.rec_, Nd.rec_, Word.rec_, nd_len, nd_one, Int.reduceEq, Int.reduceLT, Int.reduceLE, Nat.reduceLT, Int.reduceToNat, Nat.reduceMul, encT_length, cfl, cfo, cfv, setTip_setTip, ho3]
      rw [encT_snoc]
      exact Upd.weak (by simp [am]) (by simp [am]) OLe.rfl ⟨⟨τ, hτ⟩, rfl⟩
    simp only [am, amo, amc, Nat.reduceAdd, Nat.reduceEqDiff, encs_length, List.length_map, decide_true, decide_false, Tree.rec_, Nd.rec_, Word.rec_, nd_len, nd_one, Int.reduceEq, Int.reduceLT, Int.reduceLE, Nat.reduceLT, Int.reduceToNat, Nat.reduceMul, encT_length, cfl, cfo, cfv, decide_eq_false (fun h => k3 (e119.1 h))]
    by_cases k4 : k = 112
    · have hp : pieceT k c (ts.headD .zero) = braceT (c.pairs.map pairT) := by subst k4; rfl
      have hq : isTerm k = false := by subst k4; rfl
      simp only [am, amo, amc, Nat.reduceAdd, Nat.reduceEqDiff, encs_length, List.length_map, decide_true, decide_false, Tree.rec_, Nd.rec_, Word.rec_, nd_len, nd_one, Int.reduceEq, Int.reduceLT, Int.reduceLE, Nat.reduceLT, Int.reduceToNat, Nat.reduceMul, encT_length, cfl, cfo, cfv, decide_eq_true (e112.2 k4), hp, hq]
      refine (pairsT_calls c.pairs _ (by omega) (by omega)).mono ?_
      rintro v σ ⟨rfl, rfl⟩
      simp only [am, amo, amc, Nat.reduceAdd, Nat.reduceEqDiff, encs_length, List.length_map, decide_true, decide_false, Tree.rec_, Nd.rec_, Word.rec_, nd_len, nd_one, Int.reduceEq, Int.reduceLT, Int.reduceLE, Nat.reduceLT, Int.reduceToNat, Nat.reduceMul, encT_length, cfl, cfo, cfv]
      refine (braces_calls (c.pairs.map pairT) _ (by rw [List.length_map]; omega) (by omega)).mono ?_
      rintro v σ ⟨rfl, rfl⟩
      simp only [am, amo, amc, Nat.reduceAdd, Nat.reduceEqDiff, encs_length, List.length_map, decide_true, decide_false, Tree.rec_, Nd.rec_, Word.rec_, nd_len, nd_one, Int.reduceEq, Int.reduceLT, Int.reduceLE, Nat.reduceLT, Int.reduceToNat, Nat.reduceMul, encT_length, cfl, cfo, cfv]
      refine app_tk (by rw [ho3]; simp only [List.length_singleton, big] at *; omega) (by rw [ho3, setTip_tip_same]) ?_
      simp only [am, amo, amc, Nat.reduceAdd, Nat.reduceEqDiff, encs_length, List.length_map, decide_true, decide_false, Tree.rec_, Nd.rec_, Word.rec_, nd_len, nd_one, Int.reduceEq, Int.reduceLT, Int.reduceLE, Nat.reduceLT, Int.reduceToNat, Nat.reduceMul, encT_length, cfl, cfo, cfv, setTip_setTip, ho3]
      rw [encT_snoc]
      exact Upd.weak (by simp [am]) (by simp [am]) OLe.rfl ⟨⟨τ, hτ⟩, rfl⟩
    simp only [am, amo, amc, Nat.reduceAdd, Nat.reduceEqDiff, encs_length, List.length_map, decide_true, decide_false, Tree.rec_, Nd.rec_, Word.rec_, nd_len, nd_one, Int.reduceEq, Int.reduceLT, Int.reduceLE, Nat.reduceLT, Int.reduceToNat, Nat.reduceMul, encT_length, cfl, cfo, cfv, decide_eq_false (fun h => k4 (e112.1 h))]
    have hq : isTerm k = true := by simp [isTerm, k1, k2, k3, k4]
    have ht2 := ht hq
    obtain ⟨n, ns, hts⟩ : ∃ n ns, ts = n :: ns := by
      rw [o4]
      match (List.filter isTerm (List.take i ks)).length, ht2 with
      | 0, _ => exact ⟨_, _, rfl⟩
      | 1, _ => exact ⟨_, _, rfl⟩
    have hnw : n.wt ≤ c.wt := o2 n (by rw [hts]; simp)
    have hp : pieceT k c (ts.headD .zero) = n.txt := by rw [hts]; simp [pieceT, k1, k2, k3, k4]
    have htt : ts.map Nd.enc = n.enc :: ns.map Nd.enc := by rw [hts]; rfl
    have htl : ts.tail = ns := by rw [hts]; rfl
    simp only [am, amo, amc, Nat.reduceAdd, Nat.reduceEqDiff, encs_length, List.length_map, decide_true, decide_false, Tree.rec_, Nd.rec_, Word.rec_, nd_len, nd_one, Int.reduceEq, Int.reduceLT, Int.reduceLE, Nat.reduceLT, Int.reduceToNat, Nat.reduceMul, encT_length, cfl, cfo, cfv, hp, hq, htl, htt]
    refine idxL_intro (by omega) (c := n.enc) (by simp) ?_
    simp only [am, amo, amc, Nat.reduceAdd, Nat.reduceEqDiff, encs_length, List.length_map, decide_true, decide_false, Tree.rec_, Nd.rec_, Word.rec_, nd_len, nd_one, Int.reduceEq, Int.reduceLT, Int.reduceLE, Nat.reduceLT, Int.reduceToNat, Nat.reduceMul, encT_length, cfl, cfo, cfv]
    refine (text_calls _ n _ (Nat.le_refl _) (by omega)).mono ?_
    rintro v σ ⟨rfl, rfl⟩
    simp only [am, amo, amc, Nat.reduceAdd, Nat.reduceEqDiff, encs_length, List.length_map, decide_true, decide_false, Tree.rec_, Nd.rec_, Word.rec_, nd_len, nd_one, Int.reduceEq, Int.reduceLT, Int.reduceLE, Nat.reduceLT, Int.reduceToNat, Nat.reduceMul, encT_length, cfl, cfo, cfv]
    refine app_tk (by rw [ho3]; simp only [List.length_singleton, big] at *; omega) (by rw [ho3, setTip_tip_same]) ?_
    simp only [am, amo, amc, Nat.reduceAdd, Nat.reduceEqDiff, encs_length, List.length_map, decide_true, decide_false, Tree.rec_, Nd.rec_, Word.rec_, nd_len, nd_one, Int.reduceEq, Int.reduceLT, Int.reduceLE, Nat.reduceLT, Int.reduceToNat, Nat.reduceMul, encT_length, cfl, cfo, cfv, setTip_setTip, ho3]
    refine slcL_from (a := 1) (by simp) ?_
    simp only [am, amo, amc, Nat.reduceAdd, Nat.reduceEqDiff, encs_length, List.length_map, decide_true, decide_false, Tree.rec_, Nd.rec_, Word.rec_, nd_len, nd_one, Int.reduceEq, Int.reduceLT, Int.reduceLE, Nat.reduceLT, Int.reduceToNat, Nat.reduceMul, encT_length, cfl, cfo, cfv]
    rw [encT_snoc]
    exact Upd.weak (by simp [am]) (by simp [am]) OLe.rfl ⟨⟨τ, hτ⟩, rfl⟩
  · rintro b _ ⟨⟨τ, hτ⟩, rfl⟩
    simp only [stT, List.replicate, am]
    rw [List.take_length]
    obtain ⟨o1, o2, o3, o4⟩ := pieces_ok c ks
    have hjl := joinS_len _ o1
    rw [o3] at hjl
    have hjb : (joinS [32] (piecesT c ks).1).length ≤ big := by
      have : (ks.length + 1) * (c.wt + 8 + 1) ≤ 4 * (c.wt + 8 + 1) := Nat.mul_le_mul_right _ (by omega)
      omega
    refine (PCalls.weak (join_calls (piecesT c ks).1 [32] (σ.setTip τ (ks.length + 1)) (by rw [o3]; simp only [big]; omega) hjb) ?_ OLe.rfl).mono ?_
    · simp [am]
    rintro v _ ⟨rfl, rfl⟩
    simp only [am, amo, amc, Nat.reduceAdd, Nat.reduceEqDiff, encs_length, List.length_map, decide_true, decide_false, Tree.rec_, Nd.rec_, Word.rec_, nd_len, nd_one, Int.reduceEq, Int.reduceLT, Int.reduceLE, Nat.reduceLT, Int.reduceToNat, Nat.reduceMul, encT_length, cfl, cfo, cfv]
    refine retK_intro rfl (sub_tip hτ) ⟨?_, rfl⟩
    rw [htx]; rfl
end Go.Proofs.Tryd

namespace Go.Proofs.Tryd
open Go.Am
set_option maxRecDepth 4000
set_option maxHeartbeats 4000000
def ac6 : AC := .seq (.reg [⟨(some 0), .mv (.c (.bool false)), none⟩])
 (.seq (.reg [xc 7 6 [.c (.str [116, 97, 98, 108, 101, 32, 32, 116, 32, 123, 97, 44, 32, 98, 125, 123, 97, 60, 98, 125])], xm 5 6, xe 7 5 0, xe 8 5 1, ⟨(some 1), .alloc [(.int .i64 0), (.int .i64 0), (.str []), (.int .i64 0), (.sl .full 2 []), (.sl .full 4 []), (.int .i64 0), (.int .i64 0), (.int .i64 0), (.str []), (.sl .full 2 []), (.sl .full 5 []), (.int .i64 0), (.int .i64 0), (.str []), (.sl .full 2 []), (.sl .full 5 [])], none⟩, ⟨(some 2), .alloc [(.int .i64 0), (.int .i64 0)], none⟩, xs 17 1 7, xs 2 2 8])
 (.seq (.reg [xc 7 10 [.c (.str [108, 101, 113, 32, 107, 32, 120])], xm 9 10, xe 11 9 0, xe 12 9 1, ⟨(some 3), .alloc [(.int .i64 0), (.int .i64 0), (.str []), (.int .i64 0), (.sl .full 2 []), (.sl .full 4 []), (.int .i64 0), (.int .i64 0), (.int .i64 0), (.str []), (.sl .full 2 []), (.sl .full 5 []), (.int .i64 0), (.int .i64 0), (.str []), (.sl .full 2 []), (.sl .full 5 [])], none⟩, ⟨(some 4), .alloc [(.int .i64 0), (.int .i64 0)], none⟩, xs 17 3 11, xs 2 4 12])
 (.seq (.reg [xl 2 13 2, ⟨(some 14), .build [(.int .i64 0), (.int .i64 0)] [], none⟩, ⟨(some 15), .eqA false [1, 1] (.s 13) (.s 14), none⟩, xm 16 15, xg 16 (xl 17 17 1), xg 16 (xc 12 18 [.s 17]), ⟨(some 19), .binS .eql (.s 18) (.c (.str [116, 97, 98, 108, 101, 32, 116, 32, 123, 97, 44, 98, 125, 32, 123, 97, 60, 98, 125])), (some (16, true))⟩, ⟨(some 20), .pick (.s 16) (.s 19) (.c (.bool false)), none⟩, xm 21 20, xg 21 (xf 6 22 1), xg 21 (xo 23 22), xg 21 (xB .eql 24 23 15), ⟨(some 25), .pick (.s 21) (.s 24) (.c (.bool false)), none⟩, xm 26 25, xg 26 (xl 2 27 4), ⟨(some 28), .build [(.int .i64 0), (.int .i64 0)] [(0, 1, (.c (.int .i64 2))), (1, 1, (.c (.int .i64 7)))], (some (26, true))⟩, ⟨(some 29), .eqA false [1, 1] (.s 27) (.s 28), (some (26, true))⟩, ⟨(some 30), .pick (.s 26) (.s 29) (.c (.bool false)), none⟩, xm 0 30])
 (.ret))))
theorem fn6 : IsFn prog 6 ac6 [.tmp 0] 31 := ⟨f6, ⟨[], []⟩, func6, by kernel_rfl, by kernel_rfl, by kernel_rfl, by kernel_rfl⟩
def a1 : List UInt8 := [116, 97, 98, 108, 101, 32, 32, 116, 32, 123, 97, 44, 32, 98, 125, 123, 97, 60, 98, 125]
def a2 : List UInt8 := [108, 101, 113, 32, 107, 32, 120]
def a3 : List UInt8 := [116, 97, 98, 108, 101, 32, 116, 32, 123, 97, 44, 98, 125, 32, 123, 97, 60, 98, 125]
theorem fa1 : (readP a1).2 = (0, 0) := by decide +kernel
theorem fa2 : (readP a2).2 = (2, 7) := by decide +kernel
theorem fa3 : textC (readP a1).1 = a3 := by decide +kernel
theorem fa4 : (readP a1).1.pairsAt = 15 := by decide +kernel
theorem fa5 : 16 * (readP a1).1.wt + 64 ≤ big := by decide +kernel
theorem fa6 : manys (treeP (lexR a1).1 [] []).1 + 8 ≤ big := by decide +kernel
theorem fa7 : manys (treeP (lexR a2).1 [] []).1 + 8 ≤ big := by decide +kernel
theorem alive12_calls {σ : Store} (hg : σ.box 0 = some formCells) : PCalls prog 6 [] σ fun v σ' => v = .bool true ∧ σ' = σ := by
  refine fn6.calls ?_
  simp only [slots, ac6, am, amo, amc, ams, Nat.reduceAdd, Nat.reduceEqDiff, decide_true, decide_false, Tree.rec_, Nd.rec_, Word.rec_, Int.reduceEq, Int.reduceLT, Int.reduceLE, Nat.reduceLT, cfl, cfo, cfv]
  refine (cread_calls a1 hg (by decide) fa6).mono ?_
  rintro v σ ⟨rfl, rfl⟩
  have f1 := fa1; have f3 := fa3; have f4 := fa4; have f5 := fa5
  generalize readP a1 = o1 at f1 f3 f4 f5 ⊢
  simp only [am, amo, amc, Nat.reduceAdd, Nat.reduceEqDiff, encs_length, List.length_map, decide_true, decide_false, Tree.rec_, Nd.rec_, Word.rec_, Int.reduceEq, Int.reduceLT, Int.reduceLE, Nat.reduceLT, cfl, cfo, cfv, flt, f1]
  refine (cread_calls a2 hg (by decide) fa7).mono ?_
  rintro v σ ⟨rfl, rfl⟩
  have f2 := fa2
  generalize readP a2 = o2 at f2 ⊢
  simp only [am, amo, amc, Nat.reduceAdd, Nat.reduceEqDiff, encs_length, List.length_map, decide_true, decide_false, Tree.rec_, Nd.rec_, Word.rec_, Int.reduceEq, Int.reduceLT, Int.reduceLE, Nat.reduceLT, cfl, cfo, cfv, flt, f2]
  refine (ctext_calls o1.1 hg f5).mono ?_
  rintro v σ ⟨rfl, rfl⟩
  simp only [am, amo, amc, Nat.reduceAdd, Nat.reduceEqDiff, encs_length, List.length_map, decide_true, decide_false, Tree.rec_, Nd.rec_, Word.rec_, Int.reduceEq, Int.reduceLT, Int.reduceLE, Nat.reduceLT, cfl, cfo, cfv, f3, a3, f4]
  refine retK_intro rfl (Store.sub_refl _) ⟨?_, rfl⟩
  simp [V.erase, eraseL]
end Go.Proofs.Tryd

namespace Go.Proofs.Tryd
open Go.Am
set_option maxRecDepth 4000
set_option maxHeartbeats 4000000
def ac30 : AC := .seq (.reg [⟨(some 1), .box 17 (.s 0), none⟩, ⟨(some 2), .mv (.c (.bool false)), none⟩])
 (.seq (.seq (.reg [xf 0 3 1, xo 4 3, xc 69 5 [.s 4, .c (.int .i32 110)], xB .eql 6 5 0])
 (.cond (.s 6) (.seq (.reg [xf 2 7 1, xf 0 8 7, xo 9 8, ⟨(some 10), .binS .eql (.s 9) (.c (.str [])), none⟩, xm 2 10])
 (.ret))
 (.skip)))
 (.seq (.reg [xf 2 11 1, xf 0 12 11, xo 13 12, xc 51 14 [.s 13], xm 2 14])
 (.ret)))
theorem fn30 : IsFn prog 30 ac30 [.tmp 2] 15 := ⟨f30, ⟨[], []⟩, func30, by kernel_rfl, by kernel_rfl, by kernel_rfl, by kernel_rfl⟩
def ac31 : AC := .seq (.reg [⟨(some 1), .box 17 (.s 0), none⟩, ⟨(some 2), .mv (.c (.bool false)), none⟩])
 (.seq (.block 0 (.seq (.reg [xf 0 4 1, xo 5 4, xc 69 6 [.s 5, .c (.int .i32 119)], xB .gtr 7 6 0, xm 3 7])
 (.cond (.s 3) (.seq (.reg [xf 4 8 1, xo 9 8, xL 10 9, xB .gtr 11 10 0, xm 12 11, xg 12 (xf 4 13 1), xg 12 (xo 14 13), xg 12 (xc 35 15 [.s 14]), xg 12 (xc 70 16 [.s 15]), ⟨(some 17), .pick (.s 12) (.s 16) (.c (.bool false)), none⟩, xm 2 17])
 (.ret))
 (.seq (.reg [xf 0 19 1, xo 20 19, xc 69 21 [.s 20, .c (.int .i32 102)], xB .gtr 22 21 0, xm 18 22])
 (.cond (.s 18) (.seq (.reg [xf 4 23 1, xo 24 23, xL 25 24, xB .eql 26 25 1, xm 27 26, xg 27 (xf 4 28 1), xg 27 (xo 29 28), xg 27 (xc 35 30 [.s 29]), xg 27 (xc 70 31 [.s 30]), ⟨(some 32), .pick (.s 27) (.s 31) (.c (.bool false)), none⟩, xm 2 32])
 (.ret))
 (.skip))))))
 (.seq (.reg [xf 4 33 1, xo 34 33, xL 35 34, xB .eql 36 35 0, xm 2 36])
 (.ret)))
theorem fn31 : IsFn prog 31 ac31 [.tmp 2] 37 := ⟨f31, ⟨[], []⟩, func31, by kernel_rfl, by kernel_rfl, by kernel_rfl, by kernel_rfl⟩
def ac69 : AC := .seq (.reg [xi 4 0])
 (.seq (.reg [xi 5 0])
 (.seq (.rangeS [xm 8 0, xc 20 9 [.s 8], xw 1 10 9] (.s 10) 11 12 13 0 1
 (.seq (.reg [xe 14 12 2, xm 7 14])
 (.seq (.reg [xm 15 7, xm 16 1, xb .eql 17 15 16])
 (.cond (.s 17) (.reg [xm 18 5, xB .add 19 18 1, xm 5 19])
 (.skip)))))
 (.seq (.reg [xm 20 5, xm 4 20])
 (.ret))))
theorem fn69 : IsFn prog 69 ac69 [.tmp 4] 21 := ⟨f69, ⟨[], []⟩, func69, by kernel_rfl, by kernel_rfl, by kernel_rfl, by kernel_rfl⟩
def ac70 : AC := .seq (.reg [⟨(some 2), .mv (.c (.bool false)), none⟩])
 (.seq (.seq (.reg [xm 5 0, xL 6 5, xi 7 0])
 (.block 0 (.loop (.seq (.reg [xb .lss 8 7 6])
 (.seq (.cond (.s 8) (.skip)
 (.exit 0))
 (.seq (.block 1 (.seq (.reg [xA 1 9 5 7, xo 10 9, xm 4 10])
 (.seq (.reg [xm 11 4, xc 51 12 [.s 11], ⟨(some 13), .not (.s 12), none⟩])
 (.cond (.s 13) (.seq (.reg [⟨(some 2), .mv (.c (.bool false)), none⟩])
 (.ret))
 (.skip)))))
 (.reg [xB .add 14 7 1, xm 7 14])))))))
 (.seq (.reg [⟨(some 2), .mv (.c (.bool true)), none⟩])
 (.ret)))
theorem fn70 : IsFn prog 70 ac70 [.tmp 2] 15 := ⟨f70, ⟨[], []⟩, func70, by kernel_rfl, by kernel_rfl, by kernel_rfl, by kernel_rfl⟩
def stC (ks : List UInt8) (k : UInt8) (σ : Store) (b i : Nat) : St :=
  ⟨[.any, .int .i32 (k.toNat : Nat), .any, .any, .any, .int .i64 ((ks.take i).count k : Nat)] ++ List.replicate 5 .any ++ [.raw (.pointer (some ⟨b, 0, none⟩))] ++ List.replicate 9 .any, [], σ⟩
theorem count_calls (op : Int) (k : UInt8) {σ : Store} (hg : σ.box 0 = some formCells) : PCalls prog 69 [.int .i64 op, .int .i32 (k.toNat : Nat)] σ fun v σ' => v = .int .i64 (cntN op k : Nat) ∧ σ' = σ := by
  refine fn69.calls ?_
  simp only [slots, ac69, am, amo, amc, ams, Nat.reduceAdd, Nat.reduceEqDiff, decide_true, decide_false, Tree.rec_, Nd.rec_, Word.rec_, nd_len, nd_one, Int.reduceEq, Int.reduceLT, Int.reduceLE, Nat.reduceLT, Int.reduceToNat, Nat.reduceMul, encT_length, cfl, cfo, cfv]
  refine vc_rangeS ?_
  simp only [am, amo, amc, Nat.reduceAdd, Nat.reduceEqDiff, encs_length, List.length_map, decide_true, decide_false, Tree.rec_, Nd.rec_, Word.rec_, nd_len, nd_one, Int.reduceEq, Int.reduceLT, Int.reduceLE, Nat.reduceLT, Int.reduceToNat, Nat.reduceMul, encT_length, cfl, cfo, cfv]
  refine (of_calls op hg).mono ?_
  rintro v σ ⟨rfl, rfl⟩
  simp only [am, amo, amc, Nat.reduceAdd, Nat.reduceEqDiff, encs_length, List.length_map, decide_true, decide_false, Tree.rec_, Nd.rec_, Word.rec_, nd_len, nd_one, Int.reduceEq, Int.reduceLT, Int.reduceLE, Nat.reduceLT, Int.reduceToNat, Nat.reduceMul, encT_length, cfl, cfo, cfv]
  have hkl := form_len op
  have hcn : cntN op k = (formOf op).2.count k := rfl
  generalize hks : (formOf op).2 = ks at hkl hcn
  refine ⟨ks, rfl, by rw [← hks]; exact form_ascii op, fun b i st' => st' = stC ks k σ b i, ?_, ?_, ?_, ?_⟩
  · intro b
    refine Upd.weak (t' := (stC ks k σ b 0).t) ?_ LLLe.rfl OLe.rfl rfl
    simp [stC, List.replicate, am]
  · rintro b i _ rfl
    exact ⟨rfl, by simp [stC], by simp [stC]⟩
  · rintro b i c _ hc rfl
    have hi : i < ks.length := (List.getElem?_eq_some_iff.1 hc).1
    have hsn : (ks.take (i + 1)).count k = (ks.take i).count k + (if c = k then 1 else 0) := by
      rw [take_succ_of hc, List.count_append, List.count_singleton]; simp
    have hle : (ks.take i).count k ≤ 3 := Nat.le_trans List.count_le_length (by rw [List.length_take]; omega)
    have hkk : ((c.toNat : Nat) : Int) = (k.toNat : Nat) ↔ c = k := by
      constructor
      · intro h; exact UInt8.toNat_inj.1 (by omega)
      · rintro rfl; rfl
    simp only [stC, List.replicate, am]
    by_cases e : c = k
    · rw [if_pos e] at hsn
      simp only [am, amo, amc, Nat.reduceAdd, Nat.reduceEqDiff, encs_length, List.length_map, decide_true, decide_false, Tree.rec_, Nd.rec_, Word.rec_, nd_len, nd_one, Int.reduceEq, Int.reduceLT, Int.reduceLE, Nat.reduceLT, Int.reduceToNat, Nat.reduceMul, encT_length, cfl, cfo, cfv, decide_eq_true (hkk.2 e)]
      rw [wrap_i64 (by omega) (by omega)]
      exact Upd.weak (by simp [am, hsn]) LLLe.rfl OLe.rfl rfl
    · rw [if_neg e] at hsn
      simp only [am, amo, amc, Nat.reduceAdd, Nat.reduceEqDiff, encs_length, List.length_map, decide_true, decide_false, Tree.rec_, Nd.rec_, Word.rec_, nd_len, nd_one, Int.reduceEq, Int.reduceLT, Int.reduceLE, Nat.reduceLT, Int.reduceToNat, Nat.reduceMul, encT_length, cfl, cfo, cfv, decide_eq_false (fun h => e (hkk.1 h))]
      exact Upd.weak (by simp [am, hsn]) LLLe.rfl OLe.rfl rfl
  · rintro b _ rfl
    simp only [stC, List.replicate, am]
    rw [List.take_length]
    refine retK_intro rfl (Store.sub_refl _) ⟨?_, rfl⟩
    simp [V.erase, eraseL, hcn]
def invNm (l : List (List UInt8)) (σ : Store) (i : Nat) : St :=
  ⟨[.any, .any, .any, .any, .any, .sl .no 1 (encT l), .int .i64 l.length, .int .i64 (i : Nat)] ++ List.replicate 7 .any, [], σ⟩
theorem named_calls (l : List (List UInt8)) (σ : Store) (hl : l.length ≤ big) : PCalls prog 70 [.sl .no 1 (encT l)] σ fun v σ' => v = .bool (namedQ l) ∧ σ' = σ := by
  simp only [big] at hl
  refine fn70.calls ?_
  simp only [slots, ac70, am, amo, amc, ams, Nat.reduceAdd, Nat.reduceEqDiff, decide_true, decide_false, Tree.rec_, Nd.rec_, Word.rec_, nd_len, nd_one, Int.reduceEq, Int.reduceLT, Int.reduceLE, Nat.reduceLT, Int.reduceToNat, Nat.reduceMul, encT_length, cfl, cfo, cfv]
  refine vc_loop (fun p : { i : Nat // i ≤ l.length ∧ namedQ (l.take i) = true } => invNm l σ p.1) (fun p => l.length - p.1) ?_ ?_
  · refine Upd.enter ⟨0, by simp, by simp [namedQ]⟩ ?_ LLLe.rfl OLe.rfl
    simp [invNm, List.replicate, am]
  rintro ⟨i, hi, ha⟩
  simp only [invNm, List.replicate, am]
  by_cases hlt : i < l.length
  · simp only [am, amo, amc, Nat.reduceAdd, Nat.reduceEqDiff, encs_length, List.length_map, decide_true, decide_false, Tree.rec_, Nd.rec_, Word.rec_, nd_len, nd_one, Int.reduceEq, Int.reduceLT, Int.reduceLE, Nat.reduceLT, Int.reduceToNat, Nat.reduceMul, encT_length, cfl, cfo, cfv, decide_eq_true (show (i : Int) < l.length by omega)]
    refine idxL_intro (by omega) (encT_at (List.getElem?_eq_getElem hlt)) ?_
    simp only [am, amo, amc, Nat.reduceAdd, Nat.reduceEqDiff, encs_length, List.length_map, decide_true, decide_false, Tree.rec_, Nd.rec_, Word.rec_, nd_len, nd_one, Int.reduceEq, Int.reduceLT, Int.reduceLE, Nat.reduceLT, Int.reduceToNat, Nat.reduceMul, encT_length, cfl, cfo, cfv]
    refine (right_calls l[i] σ).mono ?_
    rintro v σ ⟨rfl, rfl⟩
    cases hr : nameR l[i]
    · simp only [am, amo, amc, Nat.reduceAdd, Nat.reduceEqDiff, encs_length, List.length_map, decide_true, decide_false, Tree.rec_, Nd.rec_, Word.rec_, nd_len, nd_one, Int.reduceEq, Int.reduceLT, Int.reduceLE, Nat.reduceLT, Int.reduceToNat, Nat.reduceMul, encT_length, cfl, cfo, cfv]
      have : namedQ l = false := by
        rw [namedQ, List.all_eq_false]
        exact ⟨l[i], List.getElem_mem hlt, by simp [hr]⟩
      refine retK_intro rfl (Store.sub_refl _) ⟨?_, rfl⟩
      simp [V.erase, eraseL, this]
    · simp only [am, amo, amc, Nat.reduceAdd, Nat.reduceEqDiff, encs_length, List.length_map, decide_true, decide_false, Tree.rec_, Nd.rec_, Word.rec_, nd_len, nd_one, Int.reduceEq, Int.reduceLT, Int.reduceLE, Nat.reduceLT, Int.reduceToNat, Nat.reduceMul, encT_length, cfl, cfo, cfv]
      rw [wrap_i64 (by omega) (by omega)]
      refine Upd.again (I := fun p : { i : Nat // i ≤ l.length ∧ namedQ (l.take i) = true } => invNm l σ p.1) (μ := fun p => l.length - p.1) ⟨i + 1, hlt, ?_⟩ (by simp; omega) (by simp [invNm, am, List.replicate]) LLLe.rfl OLe.rfl
      simp only [namedQ, List.take_succ_eq_append_getElem hlt, List.all_append, Bool.and_eq_true] at ha ⊢
      exact ⟨ha, by simp [hr]⟩
  · have : i = l.length := by omega
    subst this
    rw [List.take_length] at ha
    simp only [am, amo, amc, Nat.reduceAdd, Nat.reduceEqDiff, encs_length, List.length_map, decide_true, decide_false, Tree.rec_, Nd.rec_, Word.rec_, nd_len, nd_one, Int.reduceEq, Int.reduceLT, Int.reduceLE, Nat.reduceLT, Int.reduceToNat, Nat.reduceMul, encT_length, cfl, cfo, cfv, decide_eq_false (show ¬ (l.length : Int) < l.length by omega)]
    refine retK_intro rfl (Store.sub_refl _) ⟨?_, rfl⟩
    simp [V.erase, eraseL, ha]
theorem nameQ_calls (c : Cmd) {σ : Store} (hg : σ.box 0 = some formCells) : PCalls prog 30 [.agg c.enc] σ fun v σ' => v = .bool c.nameQ ∧ σ' = σ := by
  refine fn30.calls ?_
  simp only [slots, ac30, am, amo, amc, ams, Nat.reduceAdd, Nat.reduceEqDiff, decide_true, decide_false, Tree.rec_, Nd.rec_, Word.rec_, nd_len, nd_one, Int.reduceEq, Int.reduceLT, Int.reduceLE, Nat.reduceLT, Int.reduceToNat, Nat.reduceMul, encT_length, cfl, cfo, cfv]
  have h := fun (σ : Store) (hg : σ.box 0 = some formCells) => count_calls c.op 110 hg
  refine (h σ hg).mono ?_
  rintro v σ ⟨rfl, rfl⟩
  simp only [am, amo, amc, Nat.reduceAdd, Nat.reduceEqDiff, encs_length, List.length_map, decide_true, decide_false, Tree.rec_, Nd.rec_, Word.rec_, nd_len, nd_one, Int.reduceEq, Int.reduceLT, Int.reduceLE, Nat.reduceLT, Int.reduceToNat, Nat.reduceMul, encT_length, cfl, cfo, cfv]
  by_cases h0 : cntN c.op 110 = 0
  · simp only [am, amo, amc, Nat.reduceAdd, Nat.reduceEqDiff, encs_length, List.length_map, decide_true, decide_false, Tree.rec_, Nd.rec_, Word.rec_, nd_len, nd_one, Int.reduceEq, Int.reduceLT, Int.reduceLE, Nat.reduceLT, Int.reduceToNat, Nat.reduceMul, encT_length, cfl, cfo, cfv, decide_eq_true (show ((cntN c.op 110 : Nat) : Int) = 0 by omega)]
    refine retK_intro rfl (Store.sub_refl _) ⟨?_, rfl⟩
    simp [V.erase, eraseL, Cmd.nameQ, h0]
  · simp only [am, amo, amc, Nat.reduceAdd, Nat.reduceEqDiff, encs_length, List.length_map, decide_true, decide_false, Tree.rec_, Nd.rec_, Word.rec_, nd_len, nd_one, Int.reduceEq, Int.reduceLT, Int.reduceLE, Nat.reduceLT, Int.reduceToNat, Nat.reduceMul, encT_length, cfl, cfo, cfv, decide_eq_false (show ¬ ((cntN c.op 110 : Nat) : Int) = 0 by omega)]
    refine (right_calls c.name.text σ).mono ?_
    rintro v σ ⟨rfl, rfl⟩
    simp only [am, amo, amc, Nat.reduceAdd, Nat.reduceEqDiff, encs_length, List.length_map, decide_true, decide_false, Tree.rec_, Nd.rec_, Word.rec_, nd_len, nd_one, Int.reduceEq, Int.reduceLT, Int.reduceLE, Nat.reduceLT, Int.reduceToNat, Nat.reduceMul, encT_length, cfl, cfo, cfv]
    refine retK_intro rfl (Store.sub_refl _) ⟨?_, rfl⟩
    simp [V.erase, eraseL, Cmd.nameQ, h0]
theorem namesQ_calls (c : Cmd) {σ : Store} (hg : σ.box 0 = some formCells) (hn : c.names.length + 1 ≤ big) : PCalls prog 31 [.agg c.enc] σ fun v σ' => v = .bool c.namesQ ∧ σ' = σ := by
  have hnl : (c.names.map Word.text).length ≤ big := by rw [List.length_map]; omega
  have h := fun (σ : Store) (hg : σ.box 0 = some formCells) => count_calls c.op 119 hg
  have h' := fun (σ : Store) (hg : σ.box 0 = some formCells) => count_calls c.op 102 hg
  refine fn31.calls ?_
  simp only [slots, ac31, am, amo, amc, ams, Nat.reduceAdd, Nat.reduceEqDiff, decide_true, decide_false, Tree.rec_, Nd.rec_, Word.rec_, nd_len, nd_one, Int.reduceEq, Int.reduceLT, Int.reduceLE, Nat.reduceLT, Int.reduceToNat, Nat.reduceMul, encT_length, cfl, cfo, cfv]
  refine (h σ hg).mono ?_
  rintro v σ ⟨rfl, rfl⟩
  simp only [am, amo, amc, Nat.reduceAdd, Nat.reduceEqDiff, encs_length, List.length_map, decide_true, decide_false, Tree.rec_, Nd.rec_, Word.rec_, nd_len, nd_one, Int.reduceEq, Int.reduceLT, Int.reduceLE, Nat.reduceLT, Int.reduceToNat, Nat.reduceMul, encT_length, cfl, cfo, cfv]
  by_cases h0 : 0 < cntN c.op 119
  · simp only [am, amo, amc, Nat.reduceAdd, Nat.reduceEqDiff, encs_length, List.length_map, decide_true, decide_false, Tree.rec_, Nd.rec_, Word.rec_, nd_len, nd_one, Int.reduceEq, Int.reduceLT, Int.reduceLE, Nat.reduceLT, Int.reduceToNat, Nat.reduceMul, encT_length, cfl, cfo, cfv, decide_eq_true (show (0 : Int) < ((cntN c.op 119 : Nat) : Int) by omega), List.length_map]
    by_cases h1 : 0 < c.names.length
    · simp only [am, amo, amc, Nat.reduceAdd, Nat.reduceEqDiff, encs_length, List.length_map, decide_true, decide_false, Tree.rec_, Nd.rec_, Word.rec_, nd_len, nd_one, Int.reduceEq, Int.reduceLT, Int.reduceLE, Nat.reduceLT, Int.reduceToNat, Nat.reduceMul, encT_length, cfl, cfo, cfv, decide_eq_true (show (0 : Int) < ((c.names.length : Nat) : Int) by omega)]
      refine (texts_calls c.names σ hn).mono ?_
      rintro v σ ⟨rfl, rfl⟩
      simp only [am, amo, amc, Nat.reduceAdd, Nat.reduceEqDiff, encs_length, List.length_map, decide_true, decide_false, Tree.rec_, Nd.rec_, Word.rec_, nd_len, nd_one, Int.reduceEq, Int.reduceLT, Int.reduceLE, Nat.reduceLT, Int.reduceToNat, Nat.reduceMul, encT_length, cfl, cfo, cfv]
      refine (named_calls (c.names.map Word.text) σ hnl).mono ?_
      rintro v σ ⟨rfl, rfl⟩
      simp only [am, amo, amc, Nat.reduceAdd, Nat.reduceEqDiff, encs_length, List.length_map, decide_true, decide_false, Tree.rec_, Nd.rec_, Word.rec_, nd_len, nd_one, Int.reduceEq, Int.reduceLT, Int.reduceLE, Nat.reduceLT, Int.reduceToNat, Nat.reduceMul, encT_length, cfl, cfo, cfv]
      refine retK_intro rfl (Store.sub_refl _) ⟨?_, rfl⟩
      simp [V.erase, eraseL, Cmd.namesQ, h0, h1]
    · simp only [am, amo, amc, Nat.reduceAdd, Nat.reduceEqDiff, encs_length, List.length_map, decide_true, decide_false, Tree.rec_, Nd.rec_, Word.rec_, nd_len, nd_one, Int.reduceEq, Int.reduceLT, Int.reduceLE, Nat.reduceLT, Int.reduceToNat, Nat.reduceMul, encT_length, cfl, cfo, cfv, decide_eq_false (show ¬ (0 : Int) < ((c.names.length : Nat) : Int) by omega)]
      refine retK_intro rfl (Store.sub_refl _) ⟨?_, rfl⟩
      simp [V.erase, eraseL, Cmd.namesQ, h0, h1]
  · simp only [am, amo, amc, Nat.reduceAdd, Nat.reduceEqDiff, encs_length, List.length_map, decide_true, decide_false, Tree.rec_, Nd.rec_, Word.rec_, nd_len, nd_one, Int.reduceEq, Int.reduceLT, Int.reduceLE, Nat.reduceLT, Int.reduceToNat, Nat.reduceMul, encT_length, cfl, cfo, cfv, decide_eq_false (show ¬ (0 : Int) < ((cntN c.op 119 : Nat) : Int) by omega)]
    refine (h' σ hg).mono ?_
    rintro v σ ⟨rfl, rfl⟩
    simp only [am, amo, amc, Nat.reduceAdd, Nat.reduceEqDiff, encs_length, List.length_map, decide_true, decide_false, Tree.rec_, Nd.rec_, Word.rec_, nd_len, nd_one, Int.reduceEq, Int.reduceLT, Int.reduceLE, Nat.reduceLT, Int.reduceToNat, Nat.reduceMul, encT_length, cfl, cfo, cfv]
    by_cases h2 : 0 < cntN c.op 102
    · simp only [am, amo, amc, Nat.reduceAdd, Nat.reduceEqDiff, encs_length, List.length_map, decide_true, decide_false, Tree.rec_, Nd.rec_, Word.rec_, nd_len, nd_one, Int.reduceEq, Int.reduceLT, Int.reduceLE, Nat.reduceLT, Int.reduceToNat, Nat.reduceMul, encT_length, cfl, cfo, cfv, decide_eq_true (show (0 : Int) < ((cntN c.op 102 : Nat) : Int) by omega), List.length_map]
      by_cases h1 : c.names.length = 1
      · simp only [am, amo, amc, Nat.reduceAdd, Nat.reduceEqDiff, encs_length, List.length_map, decide_true, decide_false, Tree.rec_, Nd.rec_, Word.rec_, nd_len, nd_one, Int.reduceEq, Int.reduceLT, Int.reduceLE, Nat.reduceLT, Int.reduceToNat, Nat.reduceMul, encT_length, cfl, cfo, cfv, decide_eq_true (show ((c.names.length : Nat) : Int) = 1 by omega)]
        refine (texts_calls c.names σ hn).mono ?_
        rintro v σ ⟨rfl, rfl⟩
        simp only [am, amo, amc, Nat.reduceAdd, Nat.reduceEqDiff, encs_length, List.length_map, decide_true, decide_false, Tree.rec_, Nd.rec_, Word.rec_, nd_len, nd_one, Int.reduceEq, Int.reduceLT, Int.reduceLE, Nat.reduceLT, Int.reduceToNat, Nat.reduceMul, encT_length, cfl, cfo, cfv]
        refine (named_calls (c.names.map Word.text) σ hnl).mono ?_
        rintro v σ ⟨rfl, rfl⟩
        simp only [am, amo, amc, Nat.reduceAdd, Nat.reduceEqDiff, encs_length, List.length_map, decide_true, decide_false, Tree.rec_, Nd.rec_, Word.rec_, nd_len, nd_one, Int.reduceEq, Int.reduceLT, Int.reduceLE, Nat.reduceLT, Int.reduceToNat, Nat.reduceMul, encT_length, cfl, cfo, cfv]
        refine retK_intro rfl (Store.sub_refl _) ⟨?_, rfl⟩
        simp [V.erase, eraseL, Cmd.namesQ, h0, h1, h2]
      · simp only [am, amo, amc, Nat.reduceAdd, Nat.reduceEqDiff, encs_length, List.length_map, decide_true, decide_false, Tree.rec_, Nd.rec_, Word.rec_, nd_len, nd_one, Int.reduceEq, Int.reduceLT, Int.reduceLE, Nat.reduceLT, Int.reduceToNat, Nat.reduceMul, encT_length, cfl, cfo, cfv, decide_eq_false (show ¬ ((c.names.length : Nat) : Int) = 1 by omega)]
        refine retK_intro rfl (Store.sub_refl _) ⟨?_, rfl⟩
        simp [V.erase, eraseL, Cmd.namesQ, h0, h1, h2]
    · simp only [am, amo, amc, Nat.reduceAdd, Nat.reduceEqDiff, encs_length, List.length_map, decide_true, decide_false, Tree.rec_, Nd.rec_, Word.rec_, nd_len, nd_one, Int.reduceEq, Int.reduceLT, Int.reduceLE, Nat.reduceLT, Int.reduceToNat, Nat.reduceMul, encT_length, cfl, cfo, cfv, decide_eq_false (show ¬ (0 : Int) < ((cntN c.op 102 : Nat) : Int) by omega), List.length_map]
      have he : decide (((c.names.length : Nat) : Int) = 0) = decide (c.names.length = 0) := by simp
      refine retK_intro rfl (Store.sub_refl _) ⟨?_, rfl⟩
      simp [V.erase, eraseL, Cmd.namesQ, h0, h2, he]
end Go.Proofs.Tryd

namespace Go.Proofs.Tryd
open Go.Am
set_option maxRecDepth 4000
set_option maxHeartbeats 4000000
def ac11 : AC := .seq (.reg [⟨(some 1), .box 17 (.s 0), none⟩, ⟨(some 2), .mv (.c (.bool false)), none⟩])
 (.seq (.seq (.reg [xf 0 3 1, xo 4 3, xB .lss 5 4 0, xm 6 5, xh 6 (xf 0 7 1), xh 6 (xo 8 7), xh 6 (xB .gtr 9 8 15), ⟨(some 10), .pick (.s 6) (.c (.bool true)) (.s 9), none⟩])
 (.cond (.s 10) (.seq (.reg [⟨(some 2), .mv (.c (.bool false)), none⟩])
 (.ret))
 (.skip)))
 (.seq (.reg [xl 17 11 1, xc 30 12 [.s 11], xm 13 12, xg 13 (xl 17 14 1), xg 13 (xc 31 15 [.s 14]), ⟨(some 16), .pick (.s 13) (.s 15) (.c (.bool false)), none⟩, xm 17 16, xg 17 (xl 17 18 1), xg 17 (xc 32 19 [.s 18]), ⟨(some 20), .pick (.s 17) (.s 19) (.c (.bool false)), none⟩, xm 21 20, xg 21 (xl 17 22 1), xg 21 (xc 33 23 [.s 22]), ⟨(some 24), .pick (.s 21) (.s 23) (.c (.bool false)), none⟩, xm 2 24])
 (.ret)))
theorem fn11 : IsFn prog 11 ac11 [.tmp 2] 25 := ⟨f11, ⟨[], []⟩, func11, by kernel_rfl, by kernel_rfl, by kernel_rfl, by kernel_rfl⟩
def ac32 : AC := .seq (.reg [⟨(some 1), .box 17 (.s 0), none⟩, ⟨(some 2), .mv (.c (.bool false)), none⟩])
 (.seq (.seq (.reg [xf 0 5 1, xo 6 5, xc 69 7 [.s 6, .c (.int .i32 112)], xB .eql 8 7 0])
 (.cond (.s 8) (.seq (.reg [xf 5 9 1, xo 10 9, xL 11 10, xB .eql 12 11 0, xm 2 12])
 (.ret))
 (.skip)))
 (.seq (.seq (.reg [xf 5 13 1, xo 14 13, xL 15 14, xi 16 0])
 (.block 0 (.loop (.seq (.reg [xb .lss 17 16 15])
 (.seq (.cond (.s 17) (.skip)
 (.exit 0))
 (.seq (.block 1 (.seq (.reg [xA 4 18 14 16, xl 4 19 18, ⟨(some 4), .alloc [(.str []), (.int .i64 0), (.str []), (.int .i64 0)], none⟩, xs 4 4 19])
 (.seq (.reg [⟨(some 20), .idxP 2 2 (.s 4) (.c (.int .i64 0)), none⟩, xf 0 21 20, xo 22 21, xc 51 23 [.s 22], ⟨(some 24), .not (.s 23), none⟩, xm 25 24, ⟨(some 26), .idxP 2 2 (.s 4) (.c (.int .i64 1)), (some (25, false))⟩, xh 25 (xf 0 27 26), xh 25 (xo 28 27), xh 25 (xc 51 29 [.s 28]), ⟨(some 30), .not (.s 29), (some (25, false))⟩, ⟨(some 31), .pick (.s 25) (.c (.bool true)) (.s 30), none⟩])
 (.cond (.s 31) (.seq (.reg [⟨(some 2), .mv (.c (.bool false)), none⟩])
 (.ret))
 (.skip)))))
 (.reg [xB .add 32 16 1, xm 16 32])))))))
 (.seq (.reg [⟨(some 2), .mv (.c (.bool true)), none⟩])
 (.ret))))
theorem fn32 : IsFn prog 32 ac32 [.tmp 2] 33 := ⟨f32, ⟨[], []⟩, func32, by kernel_rfl, by kernel_rfl, by kernel_rfl, by kernel_rfl⟩
def ac33 : AC := .seq (.reg [⟨(some 1), .box 17 (.s 0), none⟩, ⟨(some 2), .mv (.c (.bool false)), none⟩])
 (.seq (.seq (.reg [xf 0 3 1, xo 4 3, xc 69 5 [.s 4, .c (.int .i32 116)], xB .gtr 6 5 0])
 (.cond (.s 6) (.seq (.reg [xf 7 7 1, xl 5 8 7, xc 71 9 [.s 8], xm 10 9, xg 10 (xf 12 11 1), xg 10 (xl 5 12 11), xg 10 (xc 71 13 [.s 12]), ⟨(some 14), .pick (.s 10) (.s 13) (.c (.bool false)), none⟩, xm 2 14])
 (.ret))
 (.skip)))
 (.seq (.seq (.reg [xf 0 15 1, xo 16 15, xc 69 17 [.s 16, .c (.int .i32 114)], xB .gtr 18 17 0])
 (.cond (.s 18) (.seq (.reg [xf 7 19 1, xl 5 20 19, xc 72 21 [.s 20], xm 22 21, xg 22 (xf 12 23 1), xg 22 (xl 5 24 23), xg 22 (xc 72 25 [.s 24]), ⟨(some 26), .pick (.s 22) (.s 25) (.c (.bool false)), none⟩, xm 2 26])
 (.ret))
 (.skip)))
 (.seq (.reg [xf 7 27 1, xl 5 28 27, ⟨(some 29), .build [(.int .i64 0), (.int .i64 0), (.str []), (.sl .full 2 []), (.sl .full 5 [])] [], none⟩, xc 46 30 [.s 28, .s 29], xm 31 30, xg 31 (xf 12 32 1), xg 31 (xl 5 33 32), ⟨(some 34), .build [(.int .i64 0), (.int .i64 0), (.str []), (.sl .full 2 []), (.sl .full 5 [])] [], (some (31, true))⟩, xg 31 (xc 46 35 [.s 33, .s 34]), ⟨(some 36), .pick (.s 31) (.s 35) (.c (.bool false)), none⟩, xm 2 36])
 (.ret))))
theorem fn33 : IsFn prog 33 ac33 [.tmp 2] 37 := ⟨f33, ⟨[], []⟩, func33, by kernel_rfl, by kernel_rfl, by kernel_rfl, by kernel_rfl⟩
def invPq (c : Cmd) (σ : Store) (i : Nat) : St :=
  ⟨[.any, .ptr (.loc 0) 0] ++ List.replicate 12 .any ++ [.sl .no 4 (c.pairs.map penc), .int .i64 c.pairs.length, .int .i64 (i : Nat)] ++ List.replicate 16 .any, [c.enc], σ⟩
theorem pairsQ_calls (c : Cmd) {σ : Store} (hg : σ.box 0 = some formCells) (hn : c.pairs.length + 1 ≤ big) : PCalls prog 32 [.agg c.enc] σ fun v σ' => v = .bool c.pairsQ ∧ σ' = σ := by
  have h := fun (σ : Store) (hg : σ.box 0 = some formCells) => count_calls c.op 112 hg
  simp only [big] at hn
  refine fn32.calls ?_
  simp only [slots, ac32, am, amo, amc, ams, Nat.reduceAdd, Nat.reduceEqDiff, decide_true, decide_false, Tree.rec_, Nd.rec_, Word.rec_, nd_len, nd_one, Int.reduceEq, Int.reduceLT, Int.reduceLE, Nat.reduceLT, Int.reduceToNat, Nat.reduceMul, encT_length, cfl, cfo, cfv, List.length_map, penc_tk]
  refine (h σ hg).mono ?_
  rintro v σ ⟨rfl, rfl⟩
  simp only [am, amo, amc, Nat.reduceAdd, Nat.reduceEqDiff, encs_length, List.length_map, decide_true, decide_false, Tree.rec_, Nd.rec_, Word.rec_, nd_len, nd_one, Int.reduceEq, Int.reduceLT, Int.reduceLE, Nat.reduceLT, Int.reduceToNat, Nat.reduceMul, encT_length, cfl, cfo, cfv, List.length_map, penc_tk]
  by_cases h0 : cntN c.op 112 = 0
  · simp only [am, amo, amc, Nat.reduceAdd, Nat.reduceEqDiff, encs_length, List.length_map, decide_true, decide_false, Tree.rec_, Nd.rec_, Word.rec_, nd_len, nd_one, Int.reduceEq, Int.reduceLT, Int.reduceLE, Nat.reduceLT, Int.reduceToNat, Nat.reduceMul, encT_length, cfl, cfo, cfv, List.length_map, penc_tk, decide_eq_true (show ((cntN c.op 112 : Nat) : Int) = 0 by omega)]
    have he : decide (((c.pairs.length : Nat) : Int) = 0) = decide (c.pairs.length = 0) := by simp
    refine retK_intro rfl (Store.sub_refl _) ⟨?_, rfl⟩
    simp [V.erase, eraseL, Cmd.pairsQ, h0, he]
  simp only [am, amo, amc, Nat.reduceAdd, Nat.reduceEqDiff, encs_length, List.length_map, decide_true, decide_false, Tree.rec_, Nd.rec_, Word.rec_, nd_len, nd_one, Int.reduceEq, Int.reduceLT, Int.reduceLE, Nat.reduceLT, Int.reduceToNat, Nat.reduceMul, encT_length, cfl, cfo, cfv, List.length_map, penc_tk, decide_eq_false (show ¬ ((cntN c.op 112 : Nat) : Int) = 0 by omega)]
  have hq : c.pairsQ = c.pairs.all pairQ := by unfold Cmd.pairsQ; rw [if_neg h0]
  refine vc_loop (fun p : { i : Nat // i ≤ c.pairs.length ∧ (c.pairs.take i).all pairQ = true } => invPq c σ p.1) (fun p => c.pairs.length - p.1) ?_ ?_
  · refine Upd.enter ⟨0, by simp, by simp⟩ ?_ LLLe.rfl OLe.rfl
    simp [invPq, List.replicate, am]
  rintro ⟨i, hi, ha⟩
  simp only [invPq, List.replicate, am]
  by_cases hlt : i < c.pairs.length
  · simp only [am, amo, amc, Nat.reduceAdd, Nat.reduceEqDiff, encs_length, List.length_map, decide_true, decide_false, Tree.rec_, Nd.rec_, Word.rec_, nd_len, nd_one, Int.reduceEq, Int.reduceLT, Int.reduceLE, Nat.reduceLT, Int.reduceToNat, Nat.reduceMul, encT_length, cfl, cfo, cfv, List.length_map, penc_tk, decide_eq_true (show (i : Int) < c.pairs.length by omega)]
    refine idxL_intro (by omega) (pencs_at (List.getElem?_eq_getElem hlt)) ?_
    simp only [am, amo, amc, Nat.reduceAdd, Nat.reduceEqDiff, encs_length, List.length_map, decide_true, decide_false, Tree.rec_, Nd.rec_, Word.rec_, nd_len, nd_one, Int.reduceEq, Int.reduceLT, Int.reduceLE, Nat.reduceLT, Int.reduceToNat, Nat.reduceMul, encT_length, cfl, cfo, cfv, List.length_map, penc_tk, penc]
    refine idxPL_ptr (by omega) (by omega) ?_
    simp only [am, amo, amc, Nat.reduceAdd, Nat.reduceEqDiff, encs_length, List.length_map, decide_true, decide_false, Tree.rec_, Nd.rec_, Word.rec_, nd_len, nd_one, Int.reduceEq, Int.reduceLT, Int.reduceLE, Nat.reduceLT, Int.reduceToNat, Nat.reduceMul, encT_length, cfl, cfo, cfv, List.length_map, penc_tk]
    refine (right_calls c.pairs[i].1.text σ).mono ?_
    rintro v σ ⟨rfl, rfl⟩
    have hno : pairQ c.pairs[i] = false → c.pairsQ = false := fun hf => by
      rw [hq, List.all_eq_false]
      exact ⟨c.pairs[i], List.getElem_mem hlt, by simp [hf]⟩
    cases hr : nameR c.pairs[i].1.text
    · simp only [am, amo, amc, Nat.reduceAdd, Nat.reduceEqDiff, encs_length, List.length_map, decide_true, decide_false, Tree.rec_, Nd.rec_, Word.rec_, nd_len, nd_one, Int.reduceEq, Int.reduceLT, Int.reduceLE, Nat.reduceLT, Int.reduceToNat, Nat.reduceMul, encT_length, cfl, cfo, cfv, List.length_map, penc_tk]
      refine retK_intro rfl (Store.sub_refl _) ⟨?_, rfl⟩
      simp [V.erase, eraseL, hno (by simp [pairQ, hr])]
    · simp only [am, amo, amc, Nat.reduceAdd, Nat.reduceEqDiff, encs_length, List.length_map, decide_true, decide_false, Tree.rec_, Nd.rec_, Word.rec_, nd_len, nd_one, Int.reduceEq, Int.reduceLT, Int.reduceLE, Nat.reduceLT, Int.reduceToNat, Nat.reduceMul, encT_length, cfl, cfo, cfv, List.length_map, penc_tk]
      refine idxPL_ptr (by omega) (by omega) ?_
      simp only [am, amo, amc, Nat.reduceAdd, Nat.reduceEqDiff, encs_length, List.length_map, decide_true, decide_false, Tree.rec_, Nd.rec_, Word.rec_, nd_len, nd_one, Int.reduceEq, Int.reduceLT, Int.reduceLE, Nat.reduceLT, Int.reduceToNat, Nat.reduceMul, encT_length, cfl, cfo, cfv, List.length_map, penc_tk]
      refine (right_calls c.pairs[i].2.text σ).mono ?_
      rintro v σ ⟨rfl, rfl⟩
      cases hr2 : nameR c.pairs[i].2.text
      · simp only [am, amo, amc, Nat.reduceAdd, Nat.reduceEqDiff, encs_length, List.length_map, decide_true, decide_false, Tree.rec_, Nd.rec_, Word.rec_, nd_len, nd_one, Int.reduceEq, Int.reduceLT, Int.reduceLE, Nat.reduceLT, Int.reduceToNat, Nat.reduceMul, encT_length, cfl, cfo, cfv, List.length_map, penc_tk]
        refine retK_intro rfl (Store.sub_refl _) ⟨?_, rfl⟩
        simp [V.erase, eraseL, hno (by simp [pairQ, hr2])]
      · simp only [am, amo, amc, Nat.reduceAdd, Nat.reduceEqDiff, encs_length, List.length_map, decide_true, decide_false, Tree.rec_, Nd.rec_, Word.rec_, nd_len, nd_one, Int.reduceEq, Int.reduceLT, Int.reduceLE, Nat.reduceLT, Int.reduceToNat, Nat.reduceMul, encT_length, cfl, cfo, cfv, List.length_map, penc_tk]
        rw [wrap_i64 (by omega) (by omega)]
        refine Upd.againD (I := fun p : { i : Nat // i ≤ c.pairs.length ∧ (c.pairs.take i).all pairQ = true } => invPq c σ p.1) (μ := fun p => c.pairs.length - p.1) ⟨i + 1, hlt, ?_⟩ (by simp; omega) (by simp [invPq, am, List.replicate]) (by simp [invPq, am]) OLe.rfl (by simp [invPq, List.replicate, loL, V.lo]) (by simp [invPq, Cmd.enc, Cmd.encP, Nd.enc_eq, loLL, loL, V.lo])
        rw [List.take_succ_eq_append_getElem hlt, List.all_append, ha]
        simp [pairQ, hr, hr2]
  · have : i = c.pairs.length := by omega
    subst this
    rw [List.take_length] at ha
    simp only [am, amo, amc, Nat.reduceAdd, Nat.reduceEqDiff, encs_length, List.length_map, decide_true, decide_false, Tree.rec_, Nd.rec_, Word.rec_, nd_len, nd_one, Int.reduceEq, Int.reduceLT, Int.reduceLE, Nat.reduceLT, Int.reduceToNat, Nat.reduceMul, encT_length, cfl, cfo, cfv, List.length_map, penc_tk, decide_eq_false (show ¬ (c.pairs.length : Int) < c.pairs.length by omega)]
    refine retK_intro rfl (Store.sub_refl _) ⟨?_, rfl⟩
    simp [V.erase, eraseL, hq, ha]
theorem zero_nd_enc : [V.int .i64 0, .int .i64 0, .str [], .sl .full 2 [], .sl .full 5 []].map V.erase = Nd.zero.enc := by rw [Nd.enc_eq]; rfl
theorem same_zero (n : Nd) (σ : Store) (hw : n.wt ≤ big) : PCalls prog 46 [.agg n.enc, .agg [.int .i64 0, .int .i64 0, .str [], .sl .full 2 [], .sl .full 5 []]] σ fun v σ' => v = .bool (n.sameQ .zero) ∧ σ' = σ := by
  refine PCalls.weak (same24_calls _ n .zero σ (Nat.le_refl _) hw) ?_ OLe.rfl
  simp only [LLe, VLe.rfl, and_true, true_and]
  rw [← zero_nd_enc]
  exact VLe.erase (v := .agg [.int .i64 0, .int .i64 0, .str [], .sl .full 2 [], .sl .full 5 []])
theorem termsQ_calls (c : Cmd) {σ : Store} (hg : σ.box 0 = some formCells) (hl : c.left.wt ≤ big) (hr : c.right.wt ≤ big) : PCalls prog 33 [.agg c.enc] σ fun v σ' => v = .bool c.termsQ ∧ σ' = σ := by
  have h := fun (σ : Store) (hg : σ.box 0 = some formCells) => count_calls c.op 116 hg
  have h' := fun (σ : Store) (hg : σ.box 0 = some formCells) => count_calls c.op 114 hg
  refine fn33.calls ?_
  simp only [slots, ac33, am, amo, amc, ams, Nat.reduceAdd, Nat.reduceEqDiff, decide_true, decide_false, Tree.rec_, Nd.rec_, Word.rec_, nd_len, nd_one, Int.reduceEq, Int.reduceLT, Int.reduceLE, Nat.reduceLT, Int.reduceToNat, Nat.reduceMul, encT_length, cfl, cfo, cfv, List.length_map, penc_tk]
  refine (h σ hg).mono ?_
  rintro v σ ⟨rfl, rfl⟩
  simp only [am, amo, amc, Nat.reduceAdd, Nat.reduceEqDiff, encs_length, List.length_map, decide_true, decide_false, Tree.rec_, Nd.rec_, Word.rec_, nd_len, nd_one, Int.reduceEq, Int.reduceLT, Int.reduceLE, Nat.reduceLT, Int.reduceToNat, Nat.reduceMul, encT_length, cfl, cfo, cfv, List.length_map, penc_tk]
  by_cases h0 : 0 < cntN c.op 116
  · simp only [am, amo, amc, Nat.reduceAdd, Nat.reduceEqDiff, encs_length, List.length_map, decide_true, decide_false, Tree.rec_, Nd.rec_, Word.rec_, nd_len, nd_one, Int.reduceEq, Int.reduceLT, Int.reduceLE, Nat.reduceLT, Int.reduceToNat, Nat.reduceMul, encT_length, cfl, cfo, cfv, List.length_map, penc_tk, decide_eq_true (show (0 : Int) < ((cntN c.op 116 : Nat) : Int) by omega)]
    refine (label_is_calls _ c.left σ (Nat.le_refl _) hl).mono ?_
    rintro v σ ⟨rfl, rfl⟩
    cases hq : c.left.labelQ
    · simp only [am, amo, amc, Nat.reduceAdd, Nat.reduceEqDiff, encs_length, List.length_map, decide_true, decide_false, Tree.rec_, Nd.rec_, Word.rec_, nd_len, nd_one, Int.reduceEq, Int.reduceLT, Int.reduceLE, Nat.reduceLT, Int.reduceToNat, Nat.reduceMul, encT_length, cfl, cfo, cfv, List.length_map, penc_tk]
      refine retK_intro rfl (Store.sub_refl _) ⟨?_, rfl⟩
      simp [V.erase, eraseL, Cmd.termsQ, h0, hq]
    · simp only [am, amo, amc, Nat.reduceAdd, Nat.reduceEqDiff, encs_length, List.length_map, decide_true, decide_false, Tree.rec_, Nd.rec_, Word.rec_, nd_len, nd_one, Int.reduceEq, Int.reduceLT, Int.reduceLE, Nat.reduceLT, Int.reduceToNat, Nat.reduceMul, encT_length, cfl, cfo, cfv, List.length_map, penc_tk]
      refine (label_is_calls _ c.right σ (Nat.le_refl _) hr).mono ?_
      rintro v σ ⟨rfl, rfl⟩
      simp only [am, amo, amc, Nat.reduceAdd, Nat.reduceEqDiff, encs_length, List.length_map, decide_true, decide_false, Tree.rec_, Nd.rec_, Word.rec_, nd_len, nd_one, Int.reduceEq, Int.reduceLT, Int.reduceLE, Nat.reduceLT, Int.reduceToNat, Nat.reduceMul, encT_length, cfl, cfo, cfv, List.length_map, penc_tk]
      refine retK_intro rfl (Store.sub_refl _) ⟨?_, rfl⟩
      simp [V.erase, eraseL, Cmd.termsQ, h0, hq]
  simp only [am, amo, amc, Nat.reduceAdd, Nat.reduceEqDiff, encs_length, List.length_map, decide_true, decide_false, Tree.rec_, Nd.rec_, Word.rec_, nd_len, nd_one, Int.reduceEq, Int.reduceLT, Int.reduceLE, Nat.reduceLT, Int.reduceToNat, Nat.reduceMul, encT_length, cfl, cfo, cfv, List.length_map, penc_tk, decide_eq_false (show ¬ (0 : Int) < ((cntN c.op 116 : Nat) : Int) by omega)]
  refine (h' σ hg).mono ?_
  rintro v σ ⟨rfl, rfl⟩
  simp only [am, amo, amc, Nat.reduceAdd, Nat.reduceEqDiff, encs_length, List.length_map, decide_true, decide_false, Tree.rec_, Nd.rec_, Word.rec_, nd_len, nd_one, Int.reduceEq, Int.reduceLT, Int.reduceLE, Nat.reduceLT, Int.reduceToNat, Nat.reduceMul, encT_length, cfl, cfo, cfv, List.length_map, penc_tk]
  by_cases h2 : 0 < cntN c.op 114
  · simp only [am, amo, amc, Nat.reduceAdd, Nat.reduceEqDiff, encs_length, List.length_map, decide_true, decide_false, Tree.rec_, Nd.rec_, Word.rec_, nd_len, nd_one, Int.reduceEq, Int.reduceLT, Int.reduceLE, Nat.reduceLT, Int.reduceToNat, Nat.reduceMul, encT_length, cfl, cfo, cfv, List.length_map, penc_tk, decide_eq_true (show (0 : Int) < ((cntN c.op 114 : Nat) : Int) by omega)]
    refine (row_is_calls c.left σ hl).mono ?_
    rintro v σ ⟨rfl, rfl⟩
    cases hq : c.left.rowQ
    · simp only [am, amo, amc, Nat.reduceAdd, Nat.reduceEqDiff, encs_length, List.length_map, decide_true, decide_false, Tree.rec_, Nd.rec_, Word.rec_, nd_len, nd_one, Int.reduceEq, Int.reduceLT, Int.reduceLE, Nat.reduceLT, Int.reduceToNat, Nat.reduceMul, encT_length, cfl, cfo, cfv, List.length_map, penc_tk]
      refine retK_intro rfl (Store.sub_refl _) ⟨?_, rfl⟩
      simp [V.erase, eraseL, Cmd.termsQ, h0, h2, hq]
    · simp only [am, amo, amc, Nat.reduceAdd, Nat.reduceEqDiff, encs_length, List.length_map, decide_true, decide_false, Tree.rec_, Nd.rec_, Word.rec_, nd_len, nd_one, Int.reduceEq, Int.reduceLT, Int.reduceLE, Nat.reduceLT, Int.reduceToNat, Nat.reduceMul, encT_length, cfl, cfo, cfv, List.length_map, penc_tk]
      refine (row_is_calls c.right σ hr).mono ?_
      rintro v σ ⟨rfl, rfl⟩
      simp only [am, amo, amc, Nat.reduceAdd, Nat.reduceEqDiff, encs_length, List.length_map, decide_true, decide_false, Tree.rec_, Nd.rec_, Word.rec_, nd_len, nd_one, Int.reduceEq, Int.reduceLT, Int.reduceLE, Nat.reduceLT, Int.reduceToNat, Nat.reduceMul, encT_length, cfl, cfo, cfv, List.length_map, penc_tk]
      refine retK_intro rfl (Store.sub_refl _) ⟨?_, rfl⟩
      simp [V.erase, eraseL, Cmd.termsQ, h0, h2, hq]
  simp only [am, amo, amc, Nat.reduceAdd, Nat.reduceEqDiff, encs_length, List.length_map, decide_true, decide_false, Tree.rec_, Nd.rec_, Word.rec_, nd_len, nd_one, Int.reduceEq, Int.reduceLT, Int.reduceLE, Nat.reduceLT, Int.reduceToNat, Nat.reduceMul, encT_length, cfl, cfo, cfv, List.length_map, penc_tk, decide_eq_false (show ¬ (0 : Int) < ((cntN c.op 114 : Nat) : Int) by omega)]
  refine (same_zero c.left σ hl).mono ?_
  rintro v σ ⟨rfl, rfl⟩
  cases hq : c.left.sameQ .zero
  · simp only [am, amo, amc, Nat.reduceAdd, Nat.reduceEqDiff, encs_length, List.length_map, decide_true, decide_false, Tree.rec_, Nd.rec_, Word.rec_, nd_len, nd_one, Int.reduceEq, Int.reduceLT, Int.reduceLE, Nat.reduceLT, Int.reduceToNat, Nat.reduceMul, encT_length, cfl, cfo, cfv, List.length_map, penc_tk]
    refine retK_intro rfl (Store.sub_refl _) ⟨?_, rfl⟩
    simp [V.erase, eraseL, Cmd.termsQ, h0, h2, hq]
  · simp only [am, amo, amc, Nat.reduceAdd, Nat.reduceEqDiff, encs_length, List.length_map, decide_true, decide_false, Tree.rec_, Nd.rec_, Word.rec_, nd_len, nd_one, Int.reduceEq, Int.reduceLT, Int.reduceLE, Nat.reduceLT, Int.reduceToNat, Nat.reduceMul, encT_length, cfl, cfo, cfv, List.length_map, penc_tk]
    refine (same_zero c.right σ hr).mono ?_
    rintro v σ ⟨rfl, rfl⟩
    simp only [am, amo, amc, Nat.reduceAdd, Nat.reduceEqDiff, encs_length, List.length_map, decide_true, decide_false, Tree.rec_, Nd.rec_, Word.rec_, nd_len, nd_one, Int.reduceEq, Int.reduceLT, Int.reduceLE, Nat.reduceLT, Int.reduceToNat, Nat.reduceMul, encT_length, cfl, cfo, cfv, List.length_map, penc_tk]
    refine retK_intro rfl (Store.sub_refl _) ⟨?_, rfl⟩
    simp [V.erase, eraseL, Cmd.termsQ, h0, h2, hq]
theorem cright_calls (c : Cmd) {σ : Store} (hg : σ.box 0 = some formCells) (hn : c.names.length + 1 ≤ big) (hp : c.pairs.length + 1 ≤ big) (hl : c.left.wt ≤ big) (hr : c.right.wt ≤ big) : PCalls prog 11 [.agg c.enc] σ fun v σ' => v = .bool c.rightQ ∧ σ' = σ := by
  have h1 := fun (σ : Store) (hg : σ.box 0 = some formCells) => nameQ_calls c hg
  have h2 := fun (σ : Store) (hg : σ.box 0 = some formCells) => namesQ_calls c hg hn
  have h3 := fun (σ : Store) (hg : σ.box 0 = some formCells) => pairsQ_calls c hg hp
  have h4 := fun (σ : Store) (hg : σ.box 0 = some formCells) => termsQ_calls c hg hl hr
  refine fn11.calls ?_
  simp only [slots, ac11, am, amo, amc, ams, Nat.reduceAdd, Nat.reduceEqDiff, decide_true, decide_false, Tree.rec_, Nd.rec_, Word.rec_, nd_len, nd_one, Int.reduceEq, Int.reduceLT, Int.reduceLE, Nat.reduceLT, Int.reduceToNat, Nat.reduceMul, encT_length, cfl, cfo, cfv, List.length_map, penc_tk]
  by_cases k1 : c.op < 0
  · simp only [am, amo, amc, Nat.reduceAdd, Nat.reduceEqDiff, encs_length, List.length_map, decide_true, decide_false, Tree.rec_, Nd.rec_, Word.rec_, nd_len, nd_one, Int.reduceEq, Int.reduceLT, Int.reduceLE, Nat.reduceLT, Int.reduceToNat, Nat.reduceMul, encT_length, cfl, cfo, cfv, List.length_map, penc_tk, decide_eq_true k1]
    refine retK_intro rfl (Store.sub_refl _) ⟨?_, rfl⟩
    simp [V.erase, eraseL, Cmd.rightQ, show ¬ (0 ≤ c.op ∧ c.op ≤ 15) by omega]
  simp only [am, amo, amc, Nat.reduceAdd, Nat.reduceEqDiff, encs_length, List.length_map, decide_true, decide_false, Tree.rec_, Nd.rec_, Word.rec_, nd_len, nd_one, Int.reduceEq, Int.reduceLT, Int.reduceLE, Nat.reduceLT, Int.reduceToNat, Nat.reduceMul, encT_length, cfl, cfo, cfv, List.length_map, penc_tk, decide_eq_false k1]
  by_cases k2 : 15 < c.op
  · simp only [am, amo, amc, Nat.reduceAdd, Nat.reduceEqDiff, encs_length, List.length_map, decide_true, decide_false, Tree.rec_, Nd.rec_, Word.rec_, nd_len, nd_one, Int.reduceEq, Int.reduceLT, Int.reduceLE, Nat.reduceLT, Int.reduceToNat, Nat.reduceMul, encT_length, cfl, cfo, cfv, List.length_map, penc_tk, decide_eq_true k2]
    refine retK_intro rfl (Store.sub_refl _) ⟨?_, rfl⟩
    simp [V.erase, eraseL, Cmd.rightQ, show ¬ (0 ≤ c.op ∧ c.op ≤ 15) by omega]
  have k3 : 0 ≤ c.op ∧ c.op ≤ 15 := by omega
  simp only [am, amo, amc, Nat.reduceAdd, Nat.reduceEqDiff, encs_length, List.length_map, decide_true, decide_false, Tree.rec_, Nd.rec_, Word.rec_, nd_len, nd_one, Int.reduceEq, Int.reduceLT, Int.reduceLE, Nat.reduceLT, Int.reduceToNat, Nat.reduceMul, encT_length, cfl, cfo, cfv, List.length_map, penc_tk, decide_eq_false k2]
  refine (h1 σ hg).mono ?_
  rintro v σ ⟨rfl, rfl⟩
  cases q1 : c.nameQ
  · simp only [am, amo, amc, Nat.reduceAdd, Nat.reduceEqDiff, encs_length, List.length_map, decide_true, decide_false, Tree.rec_, Nd.rec_, Word.rec_, nd_len, nd_one, Int.reduceEq, Int.reduceLT, Int.reduceLE, Nat.reduceLT, Int.reduceToNat, Nat.reduceMul, encT_length, cfl, cfo, cfv, List.length_map, penc_tk]
    refine retK_intro rfl (Store.sub_refl _) ⟨?_, rfl⟩
    simp [V.erase, eraseL, Cmd.rightQ, q1]
  simp only [am, amo, amc, Nat.reduceAdd, Nat.reduceEqDiff, encs_length, List.length_map, decide_true, decide_false, Tree.rec_, Nd.rec_, Word.rec_, nd_len, nd_one, Int.reduceEq, Int.reduceLT, Int.reduceLE, Nat.reduceLT, Int.reduceToNat, Nat.reduceMul, encT_length, cfl, cfo, cfv, List.length_map, penc_tk]
  refine (h2 σ hg).mono ?_
  rintro v σ ⟨rfl, rfl⟩
  cases q2 : c.namesQ
  · simp only [am, amo, amc, Nat.reduceAdd, Nat.reduceEqDiff, encs_length, List.length_map, decide_true, decide_false, Tree.rec_, Nd.rec_, Word.rec_, nd_len, nd_one, Int.reduceEq, Int.reduceLT, Int.reduceLE, Nat.reduceLT, Int.reduceToNat, Nat.reduceMul, encT_length, cfl, cfo, cfv, List.length_map, penc_tk]
    refine retK_intro rfl (Store.sub_refl _) ⟨?_, rfl⟩
    simp [V.erase, eraseL, Cmd.rightQ, q1, q2]
  simp only [am, amo, amc, Nat.reduceAdd, Nat.reduceEqDiff, encs_length, List.length_map, decide_true, decide_false, Tree.rec_, Nd.rec_, Word.rec_, nd_len, nd_one, Int.reduceEq, Int.reduceLT, Int.reduceLE, Nat.reduceLT, Int.reduceToNat, Nat.reduceMul, encT_length, cfl, cfo, cfv, List.length_map, penc_tk]
  refine (h3 σ hg).mono ?_
  rintro v σ ⟨rfl, rfl⟩
  cases q3 : c.pairsQ
  · simp only [am, amo, amc, Nat.reduceAdd, Nat.reduceEqDiff, encs_length, List.length_map, decide_true, decide_false, Tree.rec_, Nd.rec_, Word.rec_, nd_len, nd_one, Int.reduceEq, Int.reduceLT, Int.reduceLE, Nat.reduceLT, Int.reduceToNat, Nat.reduceMul, encT_length, cfl, cfo, cfv, List.length_map, penc_tk]
    refine retK_intro rfl (Store.sub_refl _) ⟨?_, rfl⟩
    simp [V.erase, eraseL, Cmd.rightQ, q1, q2, q3]
  simp only [am, amo, amc, Nat.reduceAdd, Nat.reduceEqDiff, encs_length, List.length_map, decide_true, decide_false, Tree.rec_, Nd.rec_, Word.rec_, nd_len, nd_one, Int.reduceEq, Int.reduceLT, Int.reduceLE, Nat.reduceLT, Int.reduceToNat, Nat.reduceMul, encT_length, cfl, cfo, cfv, List.length_map, penc_tk]
  refine (h4 σ hg).mono ?_
  rintro v σ ⟨rfl, rfl⟩
  simp only [am, amo, amc, Nat.reduceAdd, Nat.reduceEqDiff, encs_length, List.length_map, decide_true, decide_false, Tree.rec_, Nd.rec_, Word.rec_, nd_len, nd_one, Int.reduceEq, Int.reduceLT, Int.reduceLE, Nat.reduceLT, Int.reduceToNat, Nat.reduceMul, encT_length, cfl, cfo, cfv, List.length_map, penc_tk]
  refine retK_intro rfl (Store.sub_refl _) ⟨?_, rfl⟩
  simp [V.erase, eraseL, Cmd.rightQ, q1, q2, q3, k3]
end Go.Proofs.Tryd

namespace Go.Proofs.Tryd
open Go.Am
set_option maxRecDepth 4000
set_option maxHeartbeats 4000000
def ac44 : AC := .seq (.reg [⟨(some 2), .boxO 1 (.s 0), none⟩, ⟨(some 3), .boxO 1 (.s 1), none⟩, ⟨(some 4), .mv (.c (.bool false)), none⟩])
 (.seq (.reg [xo 5 2, xL 6 5, xo 7 3, xL 8 7, xb .eql 9 6 8, xm 10 9, xg 10 (xo 11 2), xg 10 (xL 12 11), ⟨(some 13), .mkfn (.func 83) [] [(.s 2), (.s 3)], (some (10, true))⟩, xg 10 (xc 82 14 [.c (.int .i64 0), .s 12, .s 13]), xg 10 (xB .lss 15 14 0), ⟨(some 16), .pick (.s 10) (.s 15) (.c (.bool false)), none⟩, xm 4 16])
 (.ret))
theorem fn44 : IsFn prog 44 ac44 [.tmp 4] 17 := ⟨f44, ⟨[2, 3], []⟩, func44, by kernel_rfl, by kernel_rfl, by kernel_rfl, by kernel_rfl⟩
def ac82 : AC := .seq (.reg [xi 6 0])
 (.seq (.seq (.reg [xm 8 0, xm 7 8])
 (.block 0 (.loop (.seq (.seq (.reg [xm 9 7, xm 10 1, xb .lss 11 9 10])
 (.cond (.s 11) (.skip)
 (.exit 0)))
 (.seq (.block 1 (.seq (.reg [xm 14 2, xm 15 7, ⟨(some 16), .callv (.s 14) [(.s 15)], none⟩])
 (.cond (.s 16) (.seq (.reg [xm 17 7, xm 6 17])
 (.ret))
 (.skip))))
 (.reg [xm 12 7, xB .add 13 12 1, xm 7 13]))))))
 (.seq (.reg [xi 6 (-1)])
 (.ret)))
theorem fn82 : IsFn prog 82 ac82 [.tmp 6] 18 := ⟨f82, ⟨[], []⟩, func82, by kernel_rfl, by kernel_rfl, by kernel_rfl, by kernel_rfl⟩
def ac83 : AC := .seq (.reg [⟨(some 4), .mv (.c (.bool false)), none⟩])
 (.seq (.draw [(xo 5 1, []), (xm 6 0, []), (xA 1 7 5 6, []), (xo 8 7, []), (xo 9 2, []), (xm 10 0, []), (xA 1 11 9 10, []), (xo 12 11, []), (⟨(some 13), .binS .neq (.s 8) (.s 12), none⟩, []), (xm 4 13, [])])
 (.ret))
theorem fn83 : IsFn prog 83 ac83 [.tmp 4] 14 := ⟨f83, ⟨[], []⟩, func83, by kernel_rfl, by kernel_rfl, by kernel_rfl, by kernel_rfl⟩
def invPl (n : Nat) (g : FuncId) (cap : List V) (σ : Store) (i : Nat) : St :=
  ⟨[.any, .int .i64 (n : Nat), .fn (.func g) [] cap] ++ List.replicate 4 .any ++ [.int .i64 (i : Nat)] ++ List.replicate 10 .any, [], σ⟩
theorem nplace_calls {n : Nat} {g : FuncId} {cap : List V} {f : Nat → Bool} {σ : Store} (hnol : nolL cap = true) (hn : n ≤ big)
    (h : ∀ i, i < n → PCalls prog g (.int .i64 (i : Nat) :: cap) σ fun v σ' => v = .bool (f i) ∧ σ' = σ) :
    PCalls prog 82 [.int .i64 0, .int .i64 (n : Nat), .fn (.func g) [] cap] σ fun v σ' => v = .int .i64 (firstF f n 0) ∧ σ' = σ := by
  simp only [big] at hn
  generalize hR : firstF f n 0 = R
  refine fn82.calls ?_
  simp only [slots, ac82, am, amo, amc, ams, Nat.reduceAdd, Nat.reduceEqDiff, decide_true, decide_false, Tree.rec_, Nd.rec_, Word.rec_, nd_len, nd_one, Int.reduceEq, Int.reduceLT, Int.reduceLE, Nat.reduceLT, Int.reduceToNat, Nat.reduceMul, encT_length, cfl, cfo, cfv, List.length_map, penc_tk]
  refine vc_loop (fun p : { p : Nat × Nat // firstF f p.1 p.2 = R ∧ p.2 + p.1 = n } => invPl n g cap σ p.1.2) (fun p => p.1.1) ?_ ?_
  · refine Upd.enter ⟨(n, 0), hR, by simp⟩ ?_ LLLe.rfl OLe.rfl
    simp [invPl, List.replicate, am]
  rintro ⟨⟨m, i⟩, hR, hs⟩
  simp only at hR hs
  simp only [invPl, List.replicate, am]
  by_cases hlt : i < n
  · obtain ⟨m, rfl⟩ : ∃ k, m = k + 1 := ⟨m - 1, by omega⟩
    simp only [firstF] at hR
    simp only [am, amo, amc, Nat.reduceAdd, Nat.reduceEqDiff, encs_length, List.length_map, decide_true, decide_false, Tree.rec_, Nd.rec_, Word.rec_, nd_len, nd_one, Int.reduceEq, Int.reduceLT, Int.reduceLE, Nat.reduceLT, Int.reduceToNat, Nat.reduceMul, encT_length, cfl, cfo, cfv, List.length_map, penc_tk, decide_eq_true (show (i : Int) < n by omega)]
    refine ⟨hnol, ?_⟩
    refine (h i hlt).mono ?_
    rintro v σ ⟨rfl, rfl⟩
    cases hf : f i
    · rw [if_neg (by simp [hf])] at hR
      simp only [am, amo, amc, Nat.reduceAdd, Nat.reduceEqDiff, encs_length, List.length_map, decide_true, decide_false, Tree.rec_, Nd.rec_, Word.rec_, nd_len, nd_one, Int.reduceEq, Int.reduceLT, Int.reduceLE, Nat.reduceLT, Int.reduceToNat, Nat.reduceMul, encT_length, cfl, cfo, cfv, List.length_map, penc_tk]
      rw [wrap_i64 (by omega) (by omega)]
      exact Upd.again (I := fun p : { p : Nat × Nat // firstF f p.1 p.2 = R ∧ p.2 + p.1 = n } => invPl n g cap σ p.1.2) (μ := fun p => p.1.1) ⟨(m, i + 1), hR, by simp only; omega⟩ (by simp) (by simp [invPl, am, List.replicate]) LLLe.rfl OLe.rfl
    · rw [if_pos hf] at hR
      simp only [am, amo, amc, Nat.reduceAdd, Nat.reduceEqDiff, encs_length, List.length_map, decide_true, decide_false, Tree.rec_, Nd.rec_, Word.rec_, nd_len, nd_one, Int.reduceEq, Int.reduceLT, Int.reduceLE, Nat.reduceLT, Int.reduceToNat, Nat.reduceMul, encT_length, cfl, cfo, cfv, List.length_map, penc_tk]
      refine retK_intro rfl (Store.sub_refl _) ⟨?_, rfl⟩
      simp [V.erase, eraseL, hR]
  · obtain rfl : m = 0 := by omega
    simp only [firstF] at hR
    simp only [am, amo, amc, Nat.reduceAdd, Nat.reduceEqDiff, encs_length, List.length_map, decide_true, decide_false, Tree.rec_, Nd.rec_, Word.rec_, nd_len, nd_one, Int.reduceEq, Int.reduceLT, Int.reduceLE, Nat.reduceLT, Int.reduceToNat, Nat.reduceMul, encT_length, cfl, cfo, cfv, List.length_map, penc_tk, decide_eq_false (show ¬ (i : Int) < n by omega)]
    refine retK_intro rfl (Store.sub_refl _) ⟨?_, rfl⟩
    simp [V.erase, eraseL, hR]
theorem nsame1_calls {a b : List (List UInt8)} {i r q : Nat} {σ : Store} (hi : i < a.length) (hab : a.length = b.length) (hr : σ.box r = some [.sl .no 1 (encT a)]) (hq : σ.box q = some [.sl .no 1 (encT b)]) :
    PCalls prog 83 [.int .i64 (i : Nat), .ptr (.out r) 0, .ptr (.out q) 0] σ fun v σ' => v = .bool (decide (a.getD i [] ≠ b.getD i [])) ∧ σ' = σ := by
  refine fn83.calls ?_
  simp only [slots, ac83, am, amo, amc, ams, Nat.reduceAdd, Nat.reduceEqDiff, decide_true, decide_false, Tree.rec_, Nd.rec_, Word.rec_, nd_len, nd_one, Int.reduceEq, Int.reduceLT, Int.reduceLE, Nat.reduceLT, Int.reduceToNat, Nat.reduceMul, encT_length, cfl, cfo, cfv, List.length_map, penc_tk]
  simp only [am, amo, amc, Nat.reduceAdd, Nat.reduceEqDiff, encs_length, List.length_map, decide_true, decide_false, Tree.rec_, Nd.rec_, Word.rec_, nd_len, nd_one, Int.reduceEq, Int.reduceLT, Int.reduceLE, Nat.reduceLT, Int.reduceToNat, Nat.reduceMul, encT_length, cfl, cfo, cfv, List.length_map, penc_tk, hr, hq]
  refine idxL_intro (by omega) (encT_at (List.getElem?_eq_getElem hi)) ?_
  simp only [am, amo, amc, Nat.reduceAdd, Nat.reduceEqDiff, encs_length, List.length_map, decide_true, decide_false, Tree.rec_, Nd.rec_, Word.rec_, nd_len, nd_one, Int.reduceEq, Int.reduceLT, Int.reduceLE, Nat.reduceLT, Int.reduceToNat, Nat.reduceMul, encT_length, cfl, cfo, cfv, List.length_map, penc_tk, hr, hq]
  refine idxL_intro (by omega) (encT_at (List.getElem?_eq_getElem (show i < b.length by omega))) ?_
  simp only [am, amo, amc, Nat.reduceAdd, Nat.reduceEqDiff, encs_length, List.length_map, decide_true, decide_false, Tree.rec_, Nd.rec_, Word.rec_, nd_len, nd_one, Int.reduceEq, Int.reduceLT, Int.reduceLE, Nat.reduceLT, Int.reduceToNat, Nat.reduceMul, encT_length, cfl, cfo, cfv, List.length_map, penc_tk]
  have e1 : a.getD i [] = a[i] := by simp [hi]
  have e2 : b.getD i [] = b[i] := by simp [show i < b.length by omega]
  rw [e1, e2]
  refine retK_intro rfl (Store.sub_refl _) ⟨?_, rfl⟩
  simp [V.erase, eraseL]
theorem nsame_calls (a b : List (List UInt8)) (σ : Store) (ha : a.length ≤ big) : PCalls prog 44 [.sl .no 1 (encT a), .sl .no 1 (encT b)] σ fun v σ' => v = .bool (decide (a = b)) ∧ σ' = σ := by
  refine fn44.calls ?_
  simp only [slots, ac44, am, amo, amc, ams, Nat.reduceAdd, Nat.reduceEqDiff, decide_true, decide_false, Tree.rec_, Nd.rec_, Word.rec_, nd_len, nd_one, Int.reduceEq, Int.reduceLT, Int.reduceLE, Nat.reduceLT, Int.reduceToNat, Nat.reduceMul, encT_length, cfl, cfo, cfv, List.length_map, penc_tk]
  refine kO_intro fun r hr => ?_
  simp only [am, amo, amc, Nat.reduceAdd, Nat.reduceEqDiff, encs_length, List.length_map, decide_true, decide_false, Tree.rec_, Nd.rec_, Word.rec_, nd_len, nd_one, Int.reduceEq, Int.reduceLT, Int.reduceLE, Nat.reduceLT, Int.reduceToNat, Nat.reduceMul, encT_length, cfl, cfo, cfv, List.length_map, penc_tk]
  refine kO_intro fun q hq => ?_
  have hrq : r ≠ q := by rintro rfl; rw [Store.set_same] at hq; simp at hq
  have b1 : ((σ.set r [.sl .no 1 (encT a)]).set q [.sl .no 1 (encT b)]).box r = some [.sl .no 1 (encT a)] := by rw [Store.set_other _ _ hrq, Store.set_same]
  have b2 : ((σ.set r [.sl .no 1 (encT a)]).set q [.sl .no 1 (encT b)]).box q = some [.sl .no 1 (encT b)] := Store.set_same _ _ _
  simp only [am, amo, amc, Nat.reduceAdd, Nat.reduceEqDiff, encs_length, List.length_map, decide_true, decide_false, Tree.rec_, Nd.rec_, Word.rec_, nd_len, nd_one, Int.reduceEq, Int.reduceLT, Int.reduceLE, Nat.reduceLT, Int.reduceToNat, Nat.reduceMul, encT_length, cfl, cfo, cfv, List.length_map, penc_tk, b1, b2]
  have hsub : σ.sub ((σ.set r [.sl .no 1 (encT a)]).set q [.sl .no 1 (encT b)]) := by
    have h1 := sub_set (cs := [.sl .no 1 (encT a)]) hr
    have h2 := sub_set (cs := [.sl .no 1 (encT b)]) hq
    exact ⟨fun x cs h => h2.1 x cs (h1.1 x cs h), fun t n h => h2.2 t n (h1.2 t n h)⟩
  by_cases hl : a.length = b.length
  · simp only [am, amo, amc, Nat.reduceAdd, Nat.reduceEqDiff, encs_length, List.length_map, decide_true, decide_false, Tree.rec_, Nd.rec_, Word.rec_, nd_len, nd_one, Int.reduceEq, Int.reduceLT, Int.reduceLE, Nat.reduceLT, Int.reduceToNat, Nat.reduceMul, encT_length, cfl, cfo, cfv, List.length_map, penc_tk, decide_eq_true (show ((a.length : Nat) : Int) = (b.length : Nat) by omega), b1, b2]
    refine (nplace_calls (n := a.length) (f := fun i => decide (a.getD i [] ≠ b.getD i [])) rfl ha fun i hi => nsame1_calls hi hl b1 b2).mono ?_
    rintro v _ ⟨rfl, rfl⟩
    simp only [am, amo, amc, Nat.reduceAdd, Nat.reduceEqDiff, encs_length, List.length_map, decide_true, decide_false, Tree.rec_, Nd.rec_, Word.rec_, nd_len, nd_one, Int.reduceEq, Int.reduceLT, Int.reduceLE, Nat.reduceLT, Int.reduceToNat, Nat.reduceMul, encT_length, cfl, cfo, cfv, List.length_map, penc_tk, firstF_ne hl]
    refine retK_intro rfl hsub ⟨?_, rfl⟩
    simp [V.erase]
  · simp only [am, amo, amc, Nat.reduceAdd, Nat.reduceEqDiff, encs_length, List.length_map, decide_true, decide_false, Tree.rec_, Nd.rec_, Word.rec_, nd_len, nd_one, Int.reduceEq, Int.reduceLT, Int.reduceLE, Nat.reduceLT, Int.reduceToNat, Nat.reduceMul, encT_length, cfl, cfo, cfv, List.length_map, penc_tk, decide_eq_false (show ¬ ((a.length : Nat) : Int) = (b.length : Nat) by omega)]
    refine retK_intro rfl hsub ⟨?_, rfl⟩
    have : ¬ a = b := fun e => hl (by rw [e])
    simp [V.erase, this]
end Go.Proofs.Tryd

namespace Go.Proofs.Tryd
open Go.Am
set_option maxRecDepth 4000
set_option maxHeartbeats 4000000
def ac15 : AC := .seq (.reg [⟨(some 2), .box 17 (.s 0), none⟩, ⟨(some 3), .box 17 (.s 1), none⟩, ⟨(some 4), .mv (.c (.bool false)), none⟩])
 (.seq (.draw [(xf 0 5 2, []), (xo 6 5, []), (xf 0 7 3, []), (xo 8 7, []), (xb .eql 9 6 8, []), (xm 10 9, []), (xg 10 (xf 2 11 2), []), (xg 10 (xf 0 12 11), []), (xg 10 (xo 13 12), []), (xg 10 (xf 2 14 3), []), (xg 10 (xf 0 15 14), []), (xg 10 (xo 16 15), []), (⟨(some 17), .binS .eql (.s 13) (.s 16), (some (10, true))⟩, []), (⟨(some 18), .pick (.s 10) (.s 17) (.c (.bool false)), none⟩, []), (xm 19 18, []), (xg 19 (xf 4 20 2), []), (xg 19 (xo 21 20), []), (xg 19 (xc 35 22 [.s 21]), []), (xg 19 (xf 4 23 3), []), (xg 19 (xo 24 23), [0]), (xg 19 (xc 35 25 [.s 24]), []), (xg 19 (xc 44 26 [.s 22, .s 25]), []), (⟨(some 27), .pick (.s 19) (.s 26) (.c (.bool false)), none⟩, []), (xm 28 27, []), (xg 28 (xf 5 29 2), []), (xg 28 (xo 30 29), []), (xg 28 (xf 5 31 3), []), (xg 28 (xo 32 31), []), (xg 28 (xc 45 33 [.s 30, .s 32]), []), (⟨(some 34), .pick (.s 28) (.s 33) (.c (.bool false)), none⟩, []), (xm 35 34, []), (xg 35 (xf 7 36 2), []), (xg 35 (xl 5 37 36), []), (xg 35 (xf 7 38 3), []), (xg 35 (xl 5 39 38), []), (xg 35 (xc 46 40 [.s 37, .s 39]), []), (⟨(some 41), .pick (.s 35) (.s 40) (.c (.bool false)), none⟩, []), (xm 42 41, []), (xg 42 (xf 12 43 2), []), (xg 42 (xl 5 44 43), []), (xg 42 (xf 12 45 3), []), (xg 42 (xl 5 46 45), []), (xg 42 (xc 46 47 [.s 44, .s 46]), []), (⟨(some 48), .pick (.s 42) (.s 47) (.c (.bool false)), none⟩, []), (xm 4 48, [])])
 (.ret))
theorem fn15 : IsFn prog 15 ac15 [.tmp 4] 49 := ⟨f15, ⟨[], []⟩, func15, by kernel_rfl, by kernel_rfl, by kernel_rfl, by kernel_rfl⟩
def ac45 : AC := .seq (.reg [⟨(some 4), .mv (.c (.bool false)), none⟩])
 (.seq (.seq (.reg [xm 6 0, xL 7 6, xm 8 1, xL 9 8, xb .neq 10 7 9])
 (.cond (.s 10) (.seq (.reg [⟨(some 4), .mv (.c (.bool false)), none⟩])
 (.ret))
 (.skip)))
 (.seq (.seq (.reg [xm 11 0, xL 12 11, xi 13 0])
 (.block 0 (.loop (.seq (.reg [xb .lss 14 13 12])
 (.seq (.cond (.s 14) (.skip)
 (.exit 0))
 (.seq (.block 1 (.seq (.reg [xm 15 13, xm 5 15])
 (.seq (.draw [(xm 16 0, []), (xm 17 5, []), (xA 4 18 16 17, []), (⟨(some 19), .idxP 2 2 (.s 18) (.c (.int .i64 0)), none⟩, []), (xf 0 20 19, []), (xo 21 20, []), (xm 22 1, []), (xm 23 5, []), (xA 4 24 22 23, []), (⟨(some 25), .idxP 2 2 (.s 24) (.c (.int .i64 0)), none⟩, []), (xf 0 26 25, []), (xo 27 26, []), (⟨(some 28), .binS .neq (.s 21) (.s 27), none⟩, []), (xm 29 28, []), (xh 29 (xm 30 0), []), (xh 29 (xm 31 5), []), (xh 29 (xA 4 32 30 31), []), (⟨(some 33), .idxP 2 2 (.s 32) (.c (.int .i64 1)), (some (29, false))⟩, []), (xh 29 (xf 0 34 33), []), (xh 29 (xo 35 34), []), (xh 29 (xm 36 1), []), (xh 29 (xm 37 5), []), (xh 29 (xA 4 38 36 37), []), (⟨(some 39), .idxP 2 2 (.s 38) (.c (.int .i64 1)), (some (29, false))⟩, []), (xh 29 (xf 0 40 39), []), (xh 29 (xo 41 40), []), (⟨(some 42), .binS .neq (.s 35) (.s 41), (some (29, false))⟩, []), (⟨(some 43), .pick (.s 29) (.c (.bool true)) (.s 42), none⟩, [])])
 (.cond (.s 43) (.seq (.reg [⟨(some 4), .mv (.c (.bool false)), none⟩])
 (.ret))
 (.skip)))))
 (.reg [xB .add 44 13 1, xm 13 44])))))))
 (.seq (.reg [⟨(some 4), .mv (.c (.bool true)), none⟩])
 (.ret))))
theorem fn45 : IsFn prog 45 ac45 [.tmp 4] 45 := ⟨f45, ⟨[], []⟩, func45, by kernel_rfl, by kernel_rfl, by kernel_rfl, by kernel_rfl⟩
def invSp (a b : List (Word × Word)) (σ : Store) (i : Nat) : St :=
  ⟨[.sl .no 4 (a.map penc), .sl .no 4 (b.map penc)] ++ List.replicate 10 .any ++ [.int .i64 a.length, .int .i64 (i : Nat)] ++ List.replicate 31 .any, [], σ⟩
theorem samePQ_calls (a b : List (Word × Word)) (σ : Store) (ha : a.length + 1 ≤ big) : PCalls prog 45 [.sl .no 4 (a.map penc), .sl .no 4 (b.map penc)] σ fun v σ' => v = .bool (samePQ a b) ∧ σ' = σ := by
  simp only [big] at ha
  refine fn45.calls ?_
  simp only [slots, ac45, am, amo, amc, ams, Nat.reduceAdd, Nat.reduceEqDiff, decide_true, decide_false, Tree.rec_, Nd.rec_, Word.rec_, nd_len, nd_one, Int.reduceEq, Int.reduceLT, Int.reduceLE, Nat.reduceLT, Int.reduceToNat, Nat.reduceMul, encT_length, cfl, cfo, cfv, List.length_map, penc_tk]
  by_cases hl : a.length = b.length
  case' neg =>
    have : samePQ a b = false := by cases hs : samePQ a b with
      | false => rfl
      | true => exact absurd (samePQ_len hs) hl
    simp only [am, amo, amc, Nat.reduceAdd, Nat.reduceEqDiff, encs_length, List.length_map, decide_true, decide_false, Tree.rec_, Nd.rec_, Word.rec_, nd_len, nd_one, Int.reduceEq, Int.reduceLT, Int.reduceLE, Nat.reduceLT, Int.reduceToNat, Nat.reduceMul, encT_length, cfl, cfo, cfv, List.length_map, penc_tk, decide_eq_false (show ¬ ((a.length : Nat) : Int) = (b.length : Nat) by omega)]
    refine retK_intro rfl (Store.sub_refl _) ⟨?_, rfl⟩
    simp [V.erase, eraseL, this]
  simp only [am, amo, amc, Nat.reduceAdd, Nat.reduceEqDiff, encs_length, List.length_map, decide_true, decide_false, Tree.rec_, Nd.rec_, Word.rec_, nd_len, nd_one, Int.reduceEq, Int.reduceLT, Int.reduceLE, Nat.reduceLT, Int.reduceToNat, Nat.reduceMul, encT_length, cfl, cfo, cfv, List.length_map, penc_tk, decide_eq_true (show ((a.length : Nat) : Int) = (b.length : Nat) by omega)]
  refine vc_loop (fun p : { i : Nat // i ≤ a.length ∧ samePQ (a.take i) (b.take i) = true } => invSp a b σ p.1) (fun p => a.length - p.1) ?_ ?_
  · refine Upd.enter ⟨0, by simp, by simp [samePQ]⟩ ?_ LLLe.rfl OLe.rfl
    simp [invSp, List.replicate, am]
  rintro ⟨i, hi, hs⟩
  simp only [invSp, List.replicate, am]
  by_cases hlt : i < a.length
  · obtain ⟨hat, hno⟩ := samePQ_at hlt (by omega) hl hs
    have hltb : i < b.length := by omega
    simp only [am, amo, amc, Nat.reduceAdd, Nat.reduceEqDiff, encs_length, List.length_map, decide_true, decide_false, Tree.rec_, Nd.rec_, Word.rec_, nd_len, nd_one, Int.reduceEq, Int.reduceLT, Int.reduceLE, Nat.reduceLT, Int.reduceToNat, Nat.reduceMul, encT_length, cfl, cfo, cfv, List.length_map, penc_tk, decide_eq_true (show (i : Int) < a.length by omega)]
    refine idxL_intro (by omega) (pencs_at (List.getElem?_eq_getElem hlt)) ?_
    simp only [am, amo, amc, Nat.reduceAdd, Nat.reduceEqDiff, encs_length, List.length_map, decide_true, decide_false, Tree.rec_, Nd.rec_, Word.rec_, nd_len, nd_one, Int.reduceEq, Int.reduceLT, Int.reduceLE, Nat.reduceLT, Int.reduceToNat, Nat.reduceMul, encT_length, cfl, cfo, cfv, List.length_map, penc_tk]
    refine idxPL_elt (by omega) (by omega) ?_
    simp only [am, amo, amc, Nat.reduceAdd, Nat.reduceEqDiff, encs_length, List.length_map, decide_true, decide_false, Tree.rec_, Nd.rec_, Word.rec_, nd_len, nd_one, Int.reduceEq, Int.reduceLT, Int.reduceLE, Nat.reduceLT, Int.reduceToNat, Nat.reduceMul, encT_length, cfl, cfo, cfv, List.length_map, penc_tk, penc]
    refine idxL_intro (by omega) (pencs_at (List.getElem?_eq_getElem hltb)) ?_
    simp only [am, amo, amc, Nat.reduceAdd, Nat.reduceEqDiff, encs_length, List.length_map, decide_true, decide_false, Tree.rec_, Nd.rec_, Word.rec_, nd_len, nd_one, Int.reduceEq, Int.reduceLT, Int.reduceLE, Nat.reduceLT, Int.reduceToNat, Nat.reduceMul, encT_length, cfl, cfo, cfv, List.length_map, penc_tk]
    refine idxPL_elt (by omega) (by omega) ?_
    simp only [am, amo, amc, Nat.reduceAdd, Nat.reduceEqDiff, encs_length, List.length_map, decide_true, decide_false, Tree.rec_, Nd.rec_, Word.rec_, nd_len, nd_one, Int.reduceEq, Int.reduceLT, Int.reduceLE, Nat.reduceLT, Int.reduceToNat, Nat.reduceMul, encT_length, cfl, cfo, cfv, List.length_map, penc_tk, penc]
    by_cases e1 : a[i].1.text = b[i].1.text
    · simp only [am, amo, amc, Nat.reduceAdd, Nat.reduceEqDiff, encs_length, List.length_map, decide_true, decide_false, Tree.rec_, Nd.rec_, Word.rec_, nd_len, nd_one, Int.reduceEq, Int.reduceLT, Int.reduceLE, Nat.reduceLT, Int.reduceToNat, Nat.reduceMul, encT_length, cfl, cfo, cfv, List.length_map, penc_tk, e1]
      refine idxL_intro (by omega) (pencs_at (List.getElem?_eq_getElem hlt)) ?_
      simp only [am, amo, amc, Nat.reduceAdd, Nat.reduceEqDiff, encs_length, List.length_map, decide_true, decide_false, Tree.rec_, Nd.rec_, Word.rec_, nd_len, nd_one, Int.reduceEq, Int.reduceLT, Int.reduceLE, Nat.reduceLT, Int.reduceToNat, Nat.reduceMul, encT_length, cfl, cfo, cfv, List.length_map, penc_tk]
      refine idxPL_elt (by omega) (by omega) ?_
      simp only [am, amo, amc, Nat.reduceAdd, Nat.reduceEqDiff, encs_length, List.length_map, decide_true, decide_false, Tree.rec_, Nd.rec_, Word.rec_, nd_len, nd_one, Int.reduceEq, Int.reduceLT, Int.reduceLE, Nat.reduceLT, Int.reduceToNat, Nat.reduceMul, encT_length, cfl, cfo, cfv, List.length_map, penc_tk, penc]
      refine idxL_intro (by omega) (pencs_at (List.getElem?_eq_getElem hltb)) ?_
      simp only [am, amo, amc, Nat.reduceAdd, Nat.reduceEqDiff, encs_length, List.length_map, decide_true, decide_false, Tree.rec_, Nd.rec_, Word.rec_, nd_len, nd_one, Int.reduceEq, Int.reduceLT, Int.reduceLE, Nat.reduceLT, Int.reduceToNat, Nat.reduceMul, encT_length, cfl, cfo, cfv, List.length_map, penc_tk]
      refine idxPL_elt (by omega) (by omega) ?_
      simp only [am, amo, amc, Nat.reduceAdd, Nat.reduceEqDiff, encs_length, List.length_map, decide_true, decide_false, Tree.rec_, Nd.rec_, Word.rec_, nd_len, nd_one, Int.reduceEq, Int.reduceLT, Int.reduceLE, Nat.reduceLT, Int.reduceToNat, Nat.reduceMul, encT_length, cfl, cfo, cfv, List.length_map, penc_tk, penc]
      by_cases e2 : a[i].2.text = b[i].2.text
      · simp only [am, amo, amc, Nat.reduceAdd, Nat.reduceEqDiff, encs_length, List.length_map, decide_true, decide_false, Tree.rec_, Nd.rec_, Word.rec_, nd_len, nd_one, Int.reduceEq, Int.reduceLT, Int.reduceLE, Nat.reduceLT, Int.reduceToNat, Nat.reduceMul, encT_length, cfl, cfo, cfv, List.length_map, penc_tk, e2]
        rw [wrap_i64 (by omega) (by omega)]
        exact Upd.again (I := fun p : { i : Nat // i ≤ a.length ∧ samePQ (a.take i) (b.take i) = true } => invSp a b σ p.1) (μ := fun p => a.length - p.1) ⟨i + 1, hlt, by rw [hat]; simp [e1, e2]⟩ (by simp; omega) (by simp [invSp, am, List.replicate]) LLLe.rfl OLe.rfl
      · simp only [am, amo, amc, Nat.reduceAdd, Nat.reduceEqDiff, encs_length, List.length_map, decide_true, decide_false, Tree.rec_, Nd.rec_, Word.rec_, nd_len, nd_one, Int.reduceEq, Int.reduceLT, Int.reduceLE, Nat.reduceLT, Int.reduceToNat, Nat.reduceMul, encT_length, cfl, cfo, cfv, List.length_map, penc_tk, decide_eq_false e2]
        refine retK_intro rfl (Store.sub_refl _) ⟨?_, rfl⟩
        simp [V.erase, eraseL, hno (by simp [e2])]
    · simp only [am, amo, amc, Nat.reduceAdd, Nat.reduceEqDiff, encs_length, List.length_map, decide_true, decide_false, Tree.rec_, Nd.rec_, Word.rec_, nd_len, nd_one, Int.reduceEq, Int.reduceLT, Int.reduceLE, Nat.reduceLT, Int.reduceToNat, Nat.reduceMul, encT_length, cfl, cfo, cfv, List.length_map, penc_tk, decide_eq_false e1]
      refine retK_intro rfl (Store.sub_refl _) ⟨?_, rfl⟩
      simp [V.erase, eraseL, hno (by simp [e1])]
  · have : i = a.length := by omega
    subst this
    rw [List.take_length, hl, List.take_length] at hs
    simp only [am, amo, amc, Nat.reduceAdd, Nat.reduceEqDiff, encs_length, List.length_map, decide_true, decide_false, Tree.rec_, Nd.rec_, Word.rec_, nd_len, nd_one, Int.reduceEq, Int.reduceLT, Int.reduceLE, Nat.reduceLT, Int.reduceToNat, Nat.reduceMul, encT_length, cfl, cfo, cfv, List.length_map, penc_tk, decide_eq_false (show ¬ (a.length : Int) < a.length by omega)]
    refine retK_intro rfl (Store.sub_refl _) ⟨?_, rfl⟩
    simp [V.erase, eraseL, hs]
theorem csame_calls (a b : Cmd) (σ : Store) (h1 : a.names.length + 1 ≤ big) (h2 : b.names.length + 1 ≤ big) (h3 : a.pairs.length + 1 ≤ big) (h4 : a.left.wt ≤ big) (h5 : a.right.wt ≤ big) :
    PCalls prog 15 [.agg a.enc, .agg b.enc] σ fun v σ' => v = .bool (a.sameQ b) ∧ σ' = σ := by
  refine fn15.calls ?_
  simp only [slots, ac15, am, amo, amc, ams, Nat.reduceAdd, Nat.reduceEqDiff, decide_true, decide_false, Tree.rec_, Nd.rec_, Word.rec_, nd_len, nd_one, Int.reduceEq, Int.reduceLT, Int.reduceLE, Nat.reduceLT, Int.reduceToNat, Nat.reduceMul, encT_length, cfl, cfo, cfv, List.length_map, penc_tk]
  unfold Cmd.sameQ
  by_cases k1 : a.op = b.op
  case' neg =>
    simp only [am, amo, amc, Nat.reduceAdd, Nat.reduceEqDiff, encs_length, List.length_map, decide_true, decide_false, Tree.rec_, Nd.rec_, Word.rec_, nd_len, nd_one, Int.reduceEq, Int.reduceLT, Int.reduceLE, Nat.reduceLT, Int.reduceToNat, Nat.reduceMul, encT_length, cfl, cfo, cfv, List.length_map, penc_tk, decide_eq_false k1]
    refine retK_intro rfl (Store.sub_refl _) ⟨?_, rfl⟩
    simp [V.erase, eraseL]
  by_cases k2 : a.name.text = b.name.text
  case' neg =>
    simp only [am, amo, amc, Nat.reduceAdd, Nat.reduceEqDiff, encs_length, List.length_map, decide_true, decide_false, Tree.rec_, Nd.rec_, Word.rec_, nd_len, nd_one, Int.reduceEq, Int.reduceLT, Int.reduceLE, Nat.reduceLT, Int.reduceToNat, Nat.reduceMul, encT_length, cfl, cfo, cfv, List.length_map, penc_tk, k1, decide_eq_false k2]
    refine retK_intro rfl (Store.sub_refl _) ⟨?_, rfl⟩
    simp [V.erase, eraseL]
  simp only [am, amo, amc, Nat.reduceAdd, Nat.reduceEqDiff, encs_length, List.length_map, decide_true, decide_false, Tree.rec_, Nd.rec_, Word.rec_, nd_len, nd_one, Int.reduceEq, Int.reduceLT, Int.reduceLE, Nat.reduceLT, Int.reduceToNat, Nat.reduceMul, encT_length, cfl, cfo, cfv, List.length_map, penc_tk, k1, k2]
  refine CallD.intro (texts_calls a.names σ h1) ?_
  simp only [am, amo, amc, Nat.reduceAdd, Nat.reduceEqDiff, encs_length, List.length_map, decide_true, decide_false, Tree.rec_, Nd.rec_, Word.rec_, nd_len, nd_one, Int.reduceEq, Int.reduceLT, Int.reduceLE, Nat.reduceLT, Int.reduceToNat, Nat.reduceMul, encT_length, cfl, cfo, cfv, List.length_map, penc_tk]
  refine CallD.intro (texts_calls b.names σ h2) ?_
  simp only [am, amo, amc, Nat.reduceAdd, Nat.reduceEqDiff, encs_length, List.length_map, decide_true, decide_false, Tree.rec_, Nd.rec_, Word.rec_, nd_len, nd_one, Int.reduceEq, Int.reduceLT, Int.reduceLE, Nat.reduceLT, Int.reduceToNat, Nat.reduceMul, encT_length, cfl, cfo, cfv, List.length_map, penc_tk]
  refine CallD.intro (nsame_calls (a.names.map Word.text) (b.names.map Word.text) σ (by rw [List.length_map]; omega)) ?_
  rw [← sameW_eq]
  cases q1 : sameW a.names b.names
  · simp only [am, amo, amc, Nat.reduceAdd, Nat.reduceEqDiff, encs_length, List.length_map, decide_true, decide_false, Tree.rec_, Nd.rec_, Word.rec_, nd_len, nd_one, Int.reduceEq, Int.reduceLT, Int.reduceLE, Nat.reduceLT, Int.reduceToNat, Nat.reduceMul, encT_length, cfl, cfo, cfv, List.length_map, penc_tk]
    refine retK_intro rfl (Store.sub_refl _) ⟨?_, rfl⟩
    simp [V.erase, eraseL]
  simp only [am, amo, amc, Nat.reduceAdd, Nat.reduceEqDiff, encs_length, List.length_map, decide_true, decide_false, Tree.rec_, Nd.rec_, Word.rec_, nd_len, nd_one, Int.reduceEq, Int.reduceLT, Int.reduceLE, Nat.reduceLT, Int.reduceToNat, Nat.reduceMul, encT_length, cfl, cfo, cfv, List.length_map, penc_tk]
  refine CallD.intro (samePQ_calls a.pairs b.pairs σ h3) ?_
  cases q2 : samePQ a.pairs b.pairs
  · simp only [am, amo, amc, Nat.reduceAdd, Nat.reduceEqDiff, encs_length, List.length_map, decide_true, decide_false, Tree.rec_, Nd.rec_, Word.rec_, nd_len, nd_one, Int.reduceEq, Int.reduceLT, Int.reduceLE, Nat.reduceLT, Int.reduceToNat, Nat.reduceMul, encT_length, cfl, cfo, cfv, List.length_map, penc_tk]
    refine retK_intro rfl (Store.sub_refl _) ⟨?_, rfl⟩
    simp [V.erase, eraseL]
  simp only [am, amo, amc, Nat.reduceAdd, Nat.reduceEqDiff, encs_length, List.length_map, decide_true, decide_false, Tree.rec_, Nd.rec_, Word.rec_, nd_len, nd_one, Int.reduceEq, Int.reduceLT, Int.reduceLE, Nat.reduceLT, Int.reduceToNat, Nat.reduceMul, encT_length, cfl, cfo, cfv, List.length_map, penc_tk]
  refine CallD.intro (same24_calls _ a.left b.left σ (Nat.le_refl _) h4) ?_
  cases q3 : a.left.sameQ b.left
  · simp only [am, amo, amc, Nat.reduceAdd, Nat.reduceEqDiff, encs_length, List.length_map, decide_true, decide_false, Tree.rec_, Nd.rec_, Word.rec_, nd_len, nd_one, Int.reduceEq, Int.reduceLT, Int.reduceLE, Nat.reduceLT, Int.reduceToNat, Nat.reduceMul, encT_length, cfl, cfo, cfv, List.length_map, penc_tk]
    refine retK_intro rfl (Store.sub_refl _) ⟨?_, rfl⟩
    simp [V.erase, eraseL]
  simp only [am, amo, amc, Nat.reduceAdd, Nat.reduceEqDiff, encs_length, List.length_map, decide_true, decide_false, Tree.rec_, Nd.rec_, Word.rec_, nd_len, nd_one, Int.reduceEq, Int.reduceLT, Int.reduceLE, Nat.reduceLT, Int.reduceToNat, Nat.reduceMul, encT_length, cfl, cfo, cfv, List.length_map, penc_tk]
  refine CallD.intro (same24_calls _ a.right b.right σ (Nat.le_refl _) h5) ?_
  simp only [am, amo, amc, Nat.reduceAdd, Nat.reduceEqDiff, encs_length, List.length_map, decide_true, decide_false, Tree.rec_, Nd.rec_, Word.rec_, nd_len, nd_one, Int.reduceEq, Int.reduceLT, Int.reduceLE, Nat.reduceLT, Int.reduceToNat, Nat.reduceMul, encT_length, cfl, cfo, cfv, List.length_map, penc_tk]
  refine retK_intro rfl (Store.sub_refl _) ⟨?_, rfl⟩
  simp [V.erase, eraseL]
end Go.Proofs.Tryd

namespace Go.Proofs.Tryd
open Go.Am
set_option maxRecDepth 4000
set_option maxHeartbeats 4000000
end Go.Proofs.Tryd

namespace Go.Proofs.Tryd
open Go.Am
set_option maxRecDepth 4000
set_option maxHeartbeats 4000000
end Go.Proofs.Tryd

namespace Go.Proofs.Tryd
open Go.Am
set_option maxRecDepth 4000
set_option maxHeartbeats 4000000
def s1 : List UInt8 := [43, 40, 120, 44, 35, 123, 97, 44, 98, 125, 41]
def s2 : List UInt8 := [43, 40, 41]
def s3 : List UInt8 := [91, 102, 61, 120, 44, 103, 61, 35, 104, 105, 124, 114, 93]
end Go.Proofs.Tryd

namespace Go.Proofs.Tryd
open Go.Am
set_option maxRecDepth 4000
set_option maxHeartbeats 4000000
end Go.Proofs.Tryd

namespace Go.Proofs.Tryd
open Go.Am
set_option maxRecDepth 4000
set_option maxHeartbeats 4000000
end Go.Proofs.Tryd

namespace Go.Proofs.Tryd
open Go.Am
set_option maxRecDepth 4000
set_option maxHeartbeats 4000000
def ac5 : AC := .seq (.reg [⟨(some 2), .mv (.c (.bool false)), none⟩])
 (.seq (.seq (.reg [xm 8 0, xT 9 8, xB .gtr 10 9 1500])
 (.cond (.s 10) (.seq (.reg [xc 6 11 [], xm 2 11])
 (.ret))
 (.skip)))
 (.seq (.reg [xm 13 0, xc 7 14 [.s 13], xm 12 14, xe 15 12 0, xe 16 12 1, ⟨(some 3), .alloc [(.int .i64 0), (.int .i64 0), (.str []), (.int .i64 0), (.sl .full 2 []), (.sl .full 4 []), (.int .i64 0), (.int .i64 0), (.int .i64 0), (.str []), (.sl .full 2 []), (.sl .full 5 []), (.int .i64 0), (.int .i64 0), (.str []), (.sl .full 2 []), (.sl .full 5 [])], none⟩, ⟨(some 4), .alloc [(.int .i64 0), (.int .i64 0)], none⟩, xs 17 3 15, xs 2 4 16])
 (.seq (.seq (.reg [xl 2 17 4, ⟨(some 18), .build [(.int .i64 0), (.int .i64 0)] [], none⟩, ⟨(some 19), .eqA true [1, 1] (.s 17) (.s 18), none⟩])
 (.cond (.s 19) (.seq (.reg [xf 0 20 3, xo 21 20, xB .eql 22 21 0, xm 23 22, xg 23 (xf 0 24 4), xg 23 (xo 25 24), xg 23 (xB .eql 26 25 1), xg 23 (xm 27 26), xh 27 (xf 0 28 4), xh 27 (xo 29 28), xh 27 (xB .eql 30 29 2), ⟨(some 31), .pick (.s 27) (.c (.bool true)) (.s 30), (some (23, true))⟩, ⟨(some 32), .pick (.s 23) (.s 31) (.c (.bool false)), none⟩, xm 33 32, xg 33 (xf 1 34 4), xg 33 (xo 35 34), xg 33 (xB .geq 36 35 0), ⟨(some 37), .pick (.s 33) (.s 36) (.c (.bool false)), none⟩, xm 38 37, xg 38 (xf 1 39 4), xg 38 (xo 40 39), xg 38 (xm 41 0), xg 38 (xT 42 41), xg 38 (xb .leq 43 40 42), ⟨(some 44), .pick (.s 38) (.s 43) (.c (.bool false)), none⟩, xm 45 44, xg 45 (xc 6 46 []), ⟨(some 47), .pick (.s 45) (.s 46) (.c (.bool false)), none⟩, xm 2 47])
 (.ret))
 (.skip)))
 (.seq (.reg [xl 17 48 3, xc 12 49 [.s 48], xm 5 49])
 (.seq (.reg [xm 51 5, xc 7 52 [.s 51], xm 50 52, xe 53 50 0, xe 54 50 1, ⟨(some 6), .alloc [(.int .i64 0), (.int .i64 0), (.str []), (.int .i64 0), (.sl .full 2 []), (.sl .full 4 []), (.int .i64 0), (.int .i64 0), (.int .i64 0), (.str []), (.sl .full 2 []), (.sl .full 5 []), (.int .i64 0), (.int .i64 0), (.str []), (.sl .full 2 []), (.sl .full 5 [])], none⟩, ⟨(some 7), .alloc [(.int .i64 0), (.int .i64 0)], none⟩, xs 17 6 53, xs 2 7 54])
 (.seq (.reg [xl 17 55 3, xc 11 56 [.s 55], xm 57 56, xg 57 (xl 2 58 7), ⟨(some 59), .build [(.int .i64 0), (.int .i64 0)] [], (some (57, true))⟩, ⟨(some 60), .eqA false [1, 1] (.s 58) (.s 59), (some (57, true))⟩, ⟨(some 61), .pick (.s 57) (.s 60) (.c (.bool false)), none⟩, xm 62 61, xg 62 (xl 17 63 3), xg 62 (xl 17 64 6), xg 62 (xc 15 65 [.s 63, .s 64]), ⟨(some 66), .pick (.s 62) (.s 65) (.c (.bool false)), none⟩, xm 67 66, xg 67 (xl 17 68 6), xg 67 (xc 12 69 [.s 68]), xg 67 (xm 70 5), ⟨(some 71), .binS .eql (.s 69) (.s 70), (some (67, true))⟩, ⟨(some 72), .pick (.s 67) (.s 71) (.c (.bool false)), none⟩, xm 73 72, xg 73 (xm 74 5), xg 73 (xT 75 74), xg 73 (xm 76 0), xg 73 (xT 77 76), ⟨(some 78), .binI .mul (.c (.int .i64 3)) (.s 77), (some (73, true))⟩, xg 73 (xb .leq 79 75 78), ⟨(some 80), .pick (.s 73) (.s 79) (.c (.bool false)), none⟩, xm 81 80, xg 81 (xc 6 82 []), ⟨(some 83), .pick (.s 81) (.s 82) (.c (.bool false)), none⟩, xm 2 83])
 (.ret)))))))
theorem fn5 : IsFn prog 5 ac5 [.tmp 2] 84 := ⟨f5, ⟨[], []⟩, func5, by kernel_rfl, by kernel_rfl, by kernel_rfl, by kernel_rfl⟩
theorem name_short {t : List UInt8} (h : nameR t = true) : t.length ≤ 16 := by unfold nameR at h; simp only [Bool.and_eq_true, decide_eq_true_eq] at h; exact h.1
theorem psum_right : ∀ l : List (Word × Word), l.all pairQ = true → psum l ≤ 34 * l.length
  | [], _ => by simp [psum]
  | p :: ps, h => by
    simp only [List.all_cons, Bool.and_eq_true, pairQ] at h
    have h1 := name_short h.1.1
    have h2 := name_short h.1.2
    have ih := psum_right ps h.2
    simp only [psum, List.map_cons, List.sum_cons, List.length_cons] at ih ⊢
    omega
theorem right_wt {B : Nat} {c : Cmd} (h : c.rightQ = true) (hb : CB B c) : c.wt ≤ 37 * B + 16 := by
  simp only [Cmd.rightQ, Bool.and_eq_true] at h
  have hn := h.1.1.1.2
  have hp := h.1.2
  have h1 : c.name.text.length ≤ 16 := by
    unfold Cmd.nameQ at hn
    split at hn
    · simp only [decide_eq_true_eq] at hn; rw [hn]; simp
    · exact name_short hn
  have h2 : psum c.pairs ≤ 34 * c.pairs.length := by
    unfold Cmd.pairsQ at hp
    split at hp
    · simp only [decide_eq_true_eq] at hp; rw [List.length_eq_zero_iff.1 hp]; simp [psum]
    · exact psum_right _ hp
  have h3 := hb.ns; have h4 := hb.ps; have h5 := hb.l; have h6 := hb.r
  have hcw : c.wt = c.name.text.length + wsum c.names + psum c.pairs + c.left.wt + c.right.wt := rfl
  omega
theorem commandAgain_calls (s : List UInt8) {σ : Store} (hg : σ.box 0 = some formCells) (hb : s.length + 1 ≤ big) : PCalls prog 5 [.str s] σ fun v σ' => v = .bool true ∧ σ' = σ := by
  refine fn5.calls ?_
  simp only [slots, ac5, am, amo, amc, ams, Nat.reduceAdd, Nat.reduceEqDiff, decide_true, decide_false, Tree.rec_, Nd.rec_, Word.rec_, nd_len, nd_one, Int.reduceEq, Int.reduceLT, Int.reduceLE, Nat.reduceLT, cfl, cfo, cfv, List.length_map]
  refine vcIf_split ?_ ?_
  · intro _
    simp only [am, amo, amc, Nat.reduceAdd, Nat.reduceEqDiff, encs_length, List.length_map, decide_true, decide_false, Tree.rec_, Nd.rec_, Word.rec_, nd_len, nd_one, Int.reduceEq, Int.reduceLT, Int.reduceLE, Nat.reduceLT, cfl, cfo, cfv, List.length_map]
    refine (alive12_calls hg).mono ?_
    rintro v σ ⟨rfl, rfl⟩
    simp only [am, amo, amc, Nat.reduceAdd, Nat.reduceEqDiff, encs_length, List.length_map, decide_true, decide_false, Tree.rec_, Nd.rec_, Word.rec_, nd_len, nd_one, Int.reduceEq, Int.reduceLT, Int.reduceLE, Nat.reduceLT, cfl, cfo, cfv, List.length_map]
    refine retK_intro rfl (Store.sub_refl _) ⟨?_, rfl⟩
    simp [V.erase, eraseL]
  · intro hlt
    have hlt : s.length ≤ 1500 := by simp at hlt; omega
    have hbig : big = 268435456 := rfl
    have hm := line_many s
    have hcb := read_cb s
    simp only [am, amo, amc, Nat.reduceAdd, Nat.reduceEqDiff, encs_length, List.length_map, decide_true, decide_false, Tree.rec_, Nd.rec_, Word.rec_, nd_len, nd_one, Int.reduceEq, Int.reduceLT, Int.reduceLE, Nat.reduceLT, cfl, cfo, cfv, List.length_map]
    refine (cread_calls s hg hb (by rw [treeP_line]; omega)).mono ?_
    rintro v σ ⟨rfl, rfl⟩
    simp only [am, amo, amc, Nat.reduceAdd, Nat.reduceEqDiff, encs_length, List.length_map, decide_true, decide_false, Tree.rec_, Nd.rec_, Word.rec_, nd_len, nd_one, Int.reduceEq, Int.reduceLT, Int.reduceLE, Nat.reduceLT, cfl, cfo, cfv, List.length_map, flt]
    rcases fault_law s with ⟨c, hc⟩ | ⟨k, a, hc, hk, h0, h1⟩
    · obtain ⟨a1, a2, a3⟩ := again_law hc
      have hw := right_wt a1 (by rw [hc] at hcb; exact hcb)
      rw [hc] at hcb ⊢
      simp only at hcb
      obtain ⟨l1, l2, l3⟩ := read_back12 a1
      obtain ⟨d, e1, e2⟩ := l2 a2
      have hcb2 := read_cb (textC c)
      rw [e1] at hcb2
      simp only at hcb2
      have et : textC d = textC c := (same_textC e2).symm
      have hm2 := line_many (textC c)
      have b1 := (again_law e1).1
      have hdw := right_wt b1 (by rw [← show (readP (textC c)).1 = d by rw [e1]]; exact read_cb (textC c))
      have hn := (psum_word c.names).2
      have hn2 := (psum_word d.names).2
      have g1 := hcb.ns; have g2 := hcb.ps; have g3 := hcb.l; have g4 := hcb.r
      have g5 := hcb2.ns
      simp only [am, amo, amc, Nat.reduceAdd, Nat.reduceEqDiff, encs_length, List.length_map, decide_true, decide_false, Tree.rec_, Nd.rec_, Word.rec_, nd_len, nd_one, Int.reduceEq, Int.reduceLT, Int.reduceLE, Nat.reduceLT, cfl, cfo, cfv, List.length_map]
      refine (ctext_calls c hg (by omega)).mono ?_
      rintro v σ ⟨rfl, rfl⟩
      simp only [am, amo, amc, Nat.reduceAdd, Nat.reduceEqDiff, encs_length, List.length_map, decide_true, decide_false, Tree.rec_, Nd.rec_, Word.rec_, nd_len, nd_one, Int.reduceEq, Int.reduceLT, Int.reduceLE, Nat.reduceLT, cfl, cfo, cfv, List.length_map]
      refine (cread_calls (textC c) hg (by omega) (by rw [treeP_line]; omega)).mono ?_
      rintro v σ ⟨rfl, rfl⟩
      simp only [am, amo, amc, Nat.reduceAdd, Nat.reduceEqDiff, encs_length, List.length_map, decide_true, decide_false, Tree.rec_, Nd.rec_, Word.rec_, nd_len, nd_one, Int.reduceEq, Int.reduceLT, Int.reduceLE, Nat.reduceLT, cfl, cfo, cfv, List.length_map, flt]
      rw [e1]
      simp only [am, amo, amc, Nat.reduceAdd, Nat.reduceEqDiff, encs_length, List.length_map, decide_true, decide_false, Tree.rec_, Nd.rec_, Word.rec_, nd_len, nd_one, Int.reduceEq, Int.reduceLT, Int.reduceLE, Nat.reduceLT, cfl, cfo, cfv, List.length_map]
      refine (cright_calls c hg (by omega) (by omega) (by omega) (by omega)).mono ?_
      rintro v σ ⟨rfl, rfl⟩
      simp only [am, amo, amc, Nat.reduceAdd, Nat.reduceEqDiff, encs_length, List.length_map, decide_true, decide_false, Tree.rec_, Nd.rec_, Word.rec_, nd_len, nd_one, Int.reduceEq, Int.reduceLT, Int.reduceLE, Nat.reduceLT, cfl, cfo, cfv, List.length_map, a1]
      refine (csame_calls c d σ (by omega) (by omega) (by omega) (by omega) (by omega)).mono ?_
      rintro v σ ⟨rfl, rfl⟩
      simp only [am, amo, amc, Nat.reduceAdd, Nat.reduceEqDiff, encs_length, List.length_map, decide_true, decide_false, Tree.rec_, Nd.rec_, Word.rec_, nd_len, nd_one, Int.reduceEq, Int.reduceLT, Int.reduceLE, Nat.reduceLT, cfl, cfo, cfv, List.length_map, e2]
      refine (ctext_calls d hg (by omega)).mono ?_
      rintro v σ ⟨rfl, rfl⟩
      simp only [am, amo, amc, Nat.reduceAdd, Nat.reduceEqDiff, encs_length, List.length_map, decide_true, decide_false, Tree.rec_, Nd.rec_, Word.rec_, nd_len, nd_one, Int.reduceEq, Int.reduceLT, Int.reduceLE, Nat.reduceLT, cfl, cfo, cfv, List.length_map, et]
      have w3 : IntKind.i64.wrap (3 * (s.length : Int)) = 3 * (s.length : Int) := wrap_i64 (by omega) (by omega)
      simp only [am, amo, amc, Nat.reduceAdd, Nat.reduceEqDiff, encs_length, List.length_map, decide_true, decide_false, Tree.rec_, Nd.rec_, Word.rec_, nd_len, nd_one, Int.reduceEq, Int.reduceLT, Int.reduceLE, Nat.reduceLT, cfl, cfo, cfv, List.length_map, w3, decide_eq_true (show ((textC c).length : Int) ≤ 3 * (s.length : Int) by omega)]
      refine (alive12_calls hg).mono ?_
      rintro v σ ⟨rfl, rfl⟩
      simp only [am, amo, amc, Nat.reduceAdd, Nat.reduceEqDiff, encs_length, List.length_map, decide_true, decide_false, Tree.rec_, Nd.rec_, Word.rec_, nd_len, nd_one, Int.reduceEq, Int.reduceLT, Int.reduceLE, Nat.reduceLT, cfl, cfo, cfv, List.length_map]
      refine retK_intro rfl (Store.sub_refl _) ⟨?_, rfl⟩
      simp [V.erase, eraseL]
    · rw [hc]
      rcases hk with rfl | rfl
      all_goals
        simp only [am, amo, amc, Nat.reduceAdd, Nat.reduceEqDiff, encs_length, List.length_map, decide_true, decide_false, Tree.rec_, Nd.rec_, Word.rec_, nd_len, nd_one, Int.reduceEq, Int.reduceLT, Int.reduceLE, Nat.reduceLT, cfl, cfo, cfv, List.length_map, Cmd.zero, decide_eq_true h0, decide_eq_true h1]
        refine (alive12_calls hg).mono ?_
        rintro v σ ⟨rfl, rfl⟩
        simp only [am, amo, amc, Nat.reduceAdd, Nat.reduceEqDiff, encs_length, List.length_map, decide_true, decide_false, Tree.rec_, Nd.rec_, Word.rec_, nd_len, nd_one, Int.reduceEq, Int.reduceLT, Int.reduceLE, Nat.reduceLT, cfl, cfo, cfv, List.length_map]
        refine retK_intro rfl (Store.sub_refl _) ⟨?_, rfl⟩
        simp [V.erase, eraseL]
end Go.Proofs.Tryd

namespace Go.Am
open Go.ChangeShapes Go.WideShapes Go.ChangeAt Go.RowKit
structure BulkFn {H : Type} (B : DataW H → Nat) (BA : List (DataW H) → Nat) : Prop where
  str : ∀ b, B (.lit (.string b)) = b.length + 1
  int : ∀ k n, B (.lit (.int k n)) = 1
  bool : ∀ b, B (.lit (.bool b)) = 1
  nil : B .nil = 1
  slice : ∀ e s, B (.slice e s) = BA e + BA s + 1
  agg : ∀ p, B (.agg p) = BA p + 1
  no : BA [] = 0
  cons : ∀ d r, BA (d :: r) = B d + BA r
def envOf (W : World) : Env := ⟨W, fun _ => .const, fun _ => none, fun _ => none⟩
section
variable {H : Type} {enc : TypeId × Value → H} {P : Program} {W : World} {sp : Nat → Bool} {B : DataW H → Nat} {BA : List (DataW H) → Nat}
theorem rd_str {t : TypeId} {n : Nat} {cs : List Value} {x : DataW H × List MemPlace} (ht : P.underlying t = some .string) (hB : BulkFn B BA) (h : DataW.trod enc P W 0 sp true n t cs = some x) :
    ∃ s : List UInt8, RL (envOf W) [.str s] cs ∧ (∀ v ∈ cs, v.oneCell' = true) ∧ s.length + 1 = B x.1 := by
  obtain ⟨s, rfl, rfl, _⟩ := DataW.trod_string ht h
  exact ⟨s.data.toList, by simp [RL, R], by simp [Value.oneCell'], (hB.str _).symm⟩
end
theorem post_am2 {H : Type} {enc : TypeId × Value → H} {P : Program} {f : Func} {s : ChangeSpec} {W : World} {args : Array Value} {ds : List (DataW H)} {before : List MemPlace} {tb : TypeId}
    (hl : laidOutB P = true) (hm : mapsRowed P = true) (hz : ((List.range P.types.size).all fun t => match P.underlying t with | some (.slice e) => decide (0 < P.cellsOf e) | _ => true) = true)
    (hres : f.resultTypes = #[tb]) (htb : P.underlying tb = some .bool) (hpar : ∀ t ∈ f.params.toList, t < P.types.size) (hvars : s.vars = []) (hfn : (s.fn H ds).results = [.lit (.bool true)] ∧ (s.fn H ds).args = ds ∧ (s.fn H ds).vars = [])
    (hW : DataW.Whole enc P f.params.toList s.vars false W args.toList ds [] before) {W' : World} (hos : W'.os = W.os) (hout : W'.output = W.output) (hfrz : ∀ a, W'.frozen? a = W.frozen? a) (hsame : ∀ b, b < W.heap.size → W'.heap[b]? = W.heap[b]?) :
    s.post enc P f false true false false W args (.bool true) W' := by
  have hW' := hW
  obtain ⟨p, q, hA, hV, rfl, hfz, hnd⟩ := hW
  rw [hvars] at hV
  obtain ⟨_, rfl⟩ := trodVars_none hV
  have hkept : W.keptBut W' (fun _ => False) := by
    refine ⟨hos, hout, fun i hi => ?_⟩
    rw [hsame i hi]
    cases W.heap[i]? with
    | none => rfl
    | some ob => cases ob <;> simp
  simp only [List.append_nil] at hW'
  have hds : s.fn H (ds ++ []) = s.fn H ds := by rw [List.append_nil]
  refine post_of_same (pa := p) (pv := []) hW' (fun b sp' hd => ?_) (fun sp' hs => ?_) (fun sp' hs => ?_) (by simp) (World.keptBut_mono (fun _ h => h.elim) hkept) ?_ (ok_one hres rfl (okWide_bool_mk htb _))
  · rw [hds, hfn.1, hres]
    exact trodAll_cons_mk (shut_bool htb _) trodAll_mk0
  · rw [hds, hfn.2.1]
    have hlt := DataW.TrodAll.lt hA
    have key : ∀ (ts : List TypeId) (vs : List Value) (ds : List (DataW H)) (ps : List MemPlace), (∀ t ∈ ts, t < P.types.size) → DataW.TrodAll enc P W 0 (fun _ => true) true ts vs ds ps → (∀ x ∈ ps, x.block < W.heap.size) → (∀ x ∈ ps, sp' x.block = true) → DataW.TrodAll enc P W' 0 sp' true ts vs ds ps := by
      intro ts
      induction ts with
      | nil => intro vs ds ps _ h _ _; cases vs <;> cases ds <;> first | exact h | exact h.elim
      | cons t ts ih =>
        intro vs ds ps hT h hlt hs
        cases vs with
        | nil => exact h.elim
        | cons v vs =>
          cases ds with
          | nil => exact h.elim
          | cons d ds =>
            obtain ⟨p, q, ⟨n, h1⟩, h2, rfl⟩ := h
            refine ⟨p, q, ⟨n, ?_⟩, ih vs ds q (fun t ht => hT t (by simp [ht])) h2 (fun x hx => hlt x (by simp [hx])) (fun x hx => hs x (by simp [hx])), rfl⟩
            refine DataW.trod_stays (kids_rows hl hm) (fun {t e} ht he => slices_full_of P hz t e ht he) (by simp) (hT t (by simp)) h1 (fun x hx => ?_) (fun x hx => hs x (by simp [hx]))
            have hb := hlt x (by simp [hx])
            cases x with
            | cell b off => exact cell_same (hsame b hb)
            | map b => exact hsame b hb
    exact key _ _ _ _ hpar hA (fun x hx => hlt x hx) (fun x hx => hs x (by simpa using hx))
  · rw [hds, hfn.2.2, hvars]
    rfl
  · exact hfrz
section
variable {P : Program} {W : World} {r : Reach} {b : Nat} {t : TypeId} {v : Value} {E : Env}
theorem val_string {x : V} (ht : P.underlying t = some .string) (hv : Value.okWide P W r b t v) (h : RL E [x] v.cells.toList) : R E x v := by
  obtain ⟨a, rfl⟩ := okWide_string ht hv
  simpa [Value.cells, RL] using h
end
end Go.Am

namespace Go.Am
open Go.ChangeShapes Go.WideShapes Go.ChangeAt Go.RowKit
def txtVal (s : List UInt8) : Value := .string ⟨s.toArray⟩
def boxStore (g : Nat) (ss : List (List UInt8)) : Store := ⟨fun b => if b = g then some (ss.map V.str) else none, fun _ => none⟩
def envBox (W : World) (g : Nat) : Env := ⟨W, fun b => if b = g then .obox else .const, fun _ => none, fun _ => none⟩
theorem boxStore_box (g : Nat) (ss : List (List UInt8)) : (boxStore g ss).box g = some (ss.map V.str) := by simp [boxStore]
theorem envBox_ok {W : World} {g : Nat} {ss : List (List UInt8)} {e : TypeId} (h : W.heap[g]? = some (.cells (ss.map txtVal).toArray e (0, 0))) : (envBox W g).ok (boxStore g ss) := by
  refine ⟨fun b cs hb => ?_, fun _ _ h => by simp [boxStore] at h, fun b hb => ?_, ⟨0, fun _ _ => rfl⟩⟩
  · simp only [boxStore] at hb
    split at hb
    · rename_i hbg
      subst hbg
      simp only [Option.some.injEq] at hb
      subst hb
      refine ⟨by simp [envBox], _, e, h, by simp, fun j x hx => ?_⟩
      rw [List.getElem?_map] at hx
      obtain ⟨s, h1, rfl⟩ := Option.map_eq_some_iff.1 hx
      exact ⟨txtVal s, by simp [h1], by simp [R, txtVal]⟩
    · simp at hb
  · have hlt : g < W.heap.size := lt_of_heap (w := W) h
    have hb : W.heap.size ≤ b := hb
    simp only [envBox]
    rw [if_neg (by omega)]
theorem law_callsG {H : Type} {enc : TypeId × Value → H} {P : Program} {n : FuncId} {f : Func} {s : ChangeSpec} {W : World} {args : Array Value} {vs : List V} {ds : List (DataW H)} {before : List MemPlace} {tb e : TypeId} {g : Nat} {ss : List (List UInt8)}
    (hP : PCalls P n vs (boxStore g ss) fun v σ' => v = .bool true ∧ σ' = boxStore g ss) (hg : W.heap[g]? = some (.cells (ss.map txtVal).toArray e (0, 0))) (hR : RL (envBox W g) vs args.toList)
    (hl : laidOutB P = true) (hm : mapsRowed P = true) (hz : ((List.range P.types.size).all fun t => match P.underlying t with | some (.slice e) => decide (0 < P.cellsOf e) | _ => true) = true)
    (hres : f.resultTypes = #[tb]) (htb : P.underlying tb = some .bool) (hpar : ∀ t ∈ f.params.toList, t < P.types.size) (hvars : s.vars = []) (hfn : (s.fn H ds).results = [.lit (.bool true)] ∧ (s.fn H ds).args = ds ∧ (s.fn H ds).vars = [])
    (hW : DataW.Whole enc P f.params.toList s.vars false W args.toList ds [] before) :
    Calls P n args W fun e W' => ∃ v, e = .returned v ∧ s.post enc P f false true false false W args v W' := by
  refine (hP.2 (envBox W g) args (fun _ => rfl) (envBox_ok hg) hR).mono ?_
  rintro _ w' ⟨v, x, E', σ', rfl, rfl, _, hok, hRv, hfr, rfl, rfl⟩
  simp only [R] at hRv
  subst hRv
  refine ⟨_, rfl, post_am2 hl hm hz hres htb hpar hvars hfn hW hfr.os hfr.output hfr.frz fun b hb => ?_⟩
  by_cases hbg : b = g
  · subst hbg
    obtain ⟨c1, h1, h2⟩ := hfr.shape b _ e hg
    obtain ⟨_, c2, e2, h3, h4, h5⟩ := hok.box b _ (boxStore_box b ss)
    have h3 : E'.w.heap[b]? = some (.cells c2 e2 (0, 0)) := h3
    rw [h1] at h3
    simp only [Option.some.injEq, Obj.cells.injEq] at h3
    obtain ⟨rfl, rfl, _⟩ := h3
    rw [hg, h1]
    have : c1 = (ss.map txtVal).toArray := by
      apply Array.ext_getElem?
      intro j
      by_cases hj : j < ss.length
      · obtain ⟨v, k1, k2⟩ := h5 j (.str ss[j]) (by simp [hj])
        rw [k1]
        simp only [R] at k2
        rw [k2]
        simp [hj, txtVal]
      · rw [Array.getElem?_eq_none (by rw [h2]; simp; omega), Array.getElem?_eq_none (by simp; omega)]
    rw [this]
  · exact (hfr.same b hb (.inl (by simp [envBox, hbg]))).1
section
variable {H : Type} {enc : TypeId × Value → H} {P : Program} {W : World}
def pairsData (ps : List (List UInt8 × List UInt8)) : DataW H := .agg (ps.map fun p => .agg [.lit (.string p.1), .lit (.string p.2)])
theorem list2 {α : Type} {l : List α} (h : l.length = 2) : ∃ a b, l = [a, b] := by
  match l, h with
  | [a, b], _ => exact ⟨a, b, rfl⟩
theorem txtVal_of {s : ByteArray} {l : List UInt8} (h : s.data.toList = l) : Value.string s = txtVal l := by subst h; simp [txtVal]
theorem chunks {α : Type} {k : Nat} (f : Nat → List α) : ∀ (n : Nat) (cs : List α), cs.length = n * k → (∀ i, i < n → (cs.drop (i * k)).take k = f i) → cs = ((List.range n).map f).flatten
  | 0, cs, hl, _ => by simp at hl; simp [hl]
  | n + 1, cs, hl, h => by
    rw [Nat.succ_mul] at hl
    have h1 := chunks (k := k) f n (cs.take (n * k)) (by rw [List.length_take]; omega) fun i hi => by
      have : i * k + k ≤ n * k := by rw [← Nat.succ_mul]; exact Nat.mul_le_mul_right _ hi
      rw [List.drop_take, List.take_take, Nat.min_eq_left (by omega)]
      exact h i (by omega)
    have h2 := h n (by omega)
    rw [List.take_of_length_le (by rw [List.length_drop]; omega)] at h2
    rw [List.range_succ, List.map_append, List.flatten_append, ← h1]
    simp only [List.map_cons, List.map_nil, List.flatten_cons, List.flatten_nil, List.append_nil]
    rw [← h2, List.take_append_drop]
theorem cells_of_pair {base : Nat} {sp : Nat → Bool} {held : Bool} {fuel : Nat} {e tf : TypeId} {fs : Array Field} {cs : List Value} {x : DataW H × List MemPlace} {a b : List UInt8}
    (he : P.underlying e = some (.struct fs)) (hs : fs.size = 2) (hf0 : (fs[0]?).map (fun f => (f.type, f.offset)) = some (tf, 0)) (hf1 : (fs[1]?).map (fun f => (f.type, f.offset)) = some (tf, 1))
    (htf : P.underlying tf = some .string) (hct : P.cellsOf tf = 1) (hce : P.cellsOf e = 2)
    (h : DataW.trod enc P W base sp held fuel e cs = some x) (hx : x.1 = .agg [.lit (.string a), .lit (.string b)]) : cs = [txtVal a, txtVal b] := by
  obtain ⟨xs, m, rfl, rfl, hl, hxl, hf⟩ := DataW.trod_struct he h
  rw [hce] at hl
  rw [hs] at hxl
  obtain ⟨u, v, rfl⟩ := list2 hl
  obtain ⟨x0, x1, rfl⟩ := list2 hxl
  obtain ⟨f0, g0, g1⟩ := Option.map_eq_some_iff.1 hf0
  obtain ⟨f1, g2, g3⟩ := Option.map_eq_some_iff.1 hf1
  simp only [Prod.mk.injEq] at g1 g3
  have h0 := hf 0 f0 g0
  have h1 := hf 1 f1 g2
  rw [g1.1, g1.2, hct] at h0
  rw [g3.1, g3.2, hct] at h1
  obtain ⟨s0, p0, q0, _⟩ := DataW.trod_string htf h0
  obtain ⟨s1, p1, q1, _⟩ := DataW.trod_string htf h1
  simp only [List.drop_zero, List.drop_succ_cons, List.take_succ_cons, List.take_zero, List.cons.injEq, and_true] at p0 p1
  subst p0 p1 q0 q1
  simp only [List.map_cons, List.map_nil, DataW.agg.injEq, List.cons.injEq, DataW.lit.injEq, Lit.string.injEq, and_true] at hx
  rw [txtVal_of hx.1, txtVal_of hx.2]
theorem cells_of_pairs {base : Nat} {sp : Nat → Bool} {held : Bool} {fuel : Nat} {t e tf : TypeId} {n : Nat} {fs : Array Field} {cs : List Value} {ps : List (List UInt8 × List UInt8)} {p : List MemPlace}
    (ht : P.underlying t = some (.array n e)) (he : P.underlying e = some (.struct fs)) (hs : fs.size = 2) (hf0 : (fs[0]?).map (fun f => (f.type, f.offset)) = some (tf, 0)) (hf1 : (fs[1]?).map (fun f => (f.type, f.offset)) = some (tf, 1))
    (htf : P.underlying tf = some .string) (hctf : P.cellsOf tf = 1) (hce : P.cellsOf e = 2) (hct : P.cellsOf t = n * 2)
    (h : DataW.trod enc P W base sp held fuel t cs = some (pairsData ps, p)) : cs = (ps.flatMap fun p => [p.1, p.2]).map txtVal := by
  obtain ⟨xs, m, rfl, hx, hl, hxl, hi⟩ := DataW.trod_array ht h
  rw [hct] at hl
  have hxs : xs.map (·.1) = ps.map fun p => (.agg [.lit (.string p.1), .lit (.string p.2)] : DataW H) := by
    have := congrArg Prod.fst hx
    simpa [pairsData] using this.symm
  have hpl : ps.length = n := by
    have := congrArg List.length hxs
    simp at this; omega
  have hc := chunks (fun i => match ps[i]? with | some p => [txtVal p.1, txtVal p.2] | none => []) n cs hl (fun i hin => by
    have h1 := hi i hin
    rw [hce] at h1
    have hxi : xs[i]? = some xs[i] := by simp [hxl, hin]
    have hpi : ps[i]? = some ps[i] := by simp [hpl, hin]
    rw [hxi] at h1
    have h2 := congrArg (·[i]?) hxs
    simp only [List.getElem?_map, hxi, hpi, Option.map_some, Option.some.injEq] at h2
    rw [hpi]
    exact cells_of_pair he hs hf0 hf1 htf hctf hce h1 h2)
  rw [hc, ← hpl]
  clear hc hi hxl hl hx hxs h hpl
  have key : ∀ qs : List (List UInt8 × List UInt8), ((List.range qs.length).map fun i => match qs[i]? with | some p => [txtVal p.1, txtVal p.2] | none => []) = qs.map fun p => [txtVal p.1, txtVal p.2] := fun qs => by
    apply List.ext_getElem?
    intro i
    by_cases hi : i < qs.length
    · simp [hi]
    · simp [hi]
  rw [key, List.map_flatMap, List.flatMap_def]
  rfl
end
end Go.Am
