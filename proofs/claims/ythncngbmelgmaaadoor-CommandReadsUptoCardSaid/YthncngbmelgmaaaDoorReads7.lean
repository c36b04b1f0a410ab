/-
  For every line, where what comes in is of bulk at most 1048576: the command that is read, or where it is none, is as the document says (clearancelaw12.CommandReads); the listed variable is tied to the program's text.
-/
import Derived.Test.YthncngbmelgmaaaDoorProg
import Derived.ProofKit
import Derived.OpenShut
import Derived.JoinedCond
import Derived.ChangeStays
import Derived.ReadAgain
import Derived.Deep.DeepHandedRow
import Derived.Lib.LaidTab
import Derived.Test.YthncngbmelgmaaaDoorCards
import Derived.Test.YthncngbmelgmaaaDoorTie
import Derived.Test.YthncngbmelgmaaaDoorReads6
set_option linter.unusedVariables false
set_option linter.unusedSimpArgs false
set_option linter.defProp false
set_option linter.unusedSectionVars false

namespace Go.Proofs.Tryd
open Go.Am
set_option maxRecDepth 4000
set_option maxHeartbeats 4000000
def ac7 : AC := .seq (.reg [⟨(some 2), .alloc [(.int .i64 0), (.int .i64 0), (.str []), (.int .i64 0), (.sl .full 2 []), (.sl .full 4 []), (.int .i64 0), (.int .i64 0), (.int .i64 0), (.str []), (.sl .full 2 []), (.sl .full 5 []), (.int .i64 0), (.int .i64 0), (.str []), (.sl .full 2 []), (.sl .full 5 [])], none⟩, ⟨(some 3), .alloc [(.int .i64 0), (.int .i64 0)], none⟩])
 (.seq (.reg [xm 12 0, xc 16 13 [.s 12], xm 11 13, xe 14 11 0, xe 15 11 1, ⟨(some 5), .alloc [(.int .i64 0), (.int .i64 0)], none⟩, xm 4 14, xs 2 5 15])
 (.seq (.seq (.reg [xf 0 16 5, xo 17 16, xB .neq 18 17 0])
 (.cond (.s 18) (.seq (.draw [(⟨(some 19), .build [(.int .i64 0), (.int .i64 0), (.str []), (.int .i64 0), (.sl .full 2 []), (.sl .full 4 []), (.int .i64 0), (.int .i64 0), (.int .i64 0), (.str []), (.sl .full 2 []), (.sl .full 5 []), (.int .i64 0), (.int .i64 0), (.str []), (.sl .full 2 []), (.sl .full 5 [])] [], none⟩, []), (xl 2 20 5, [1]), (xs 17 2 19, []), (xs 2 3 20, [])])
 (.ret))
 (.skip)))
 (.seq (.reg [xm 22 4, xc 17 23 [.s 22], xm 21 23, xe 24 21 0, xe 25 21 1, xm 6 24, xs 2 5 25])
 (.seq (.seq (.reg [xf 0 26 5, xo 27 26, xB .neq 28 27 0, xm 29 28, xh 29 (xm 30 6), xh 29 (xL 31 30), xh 29 (xB .eql 32 31 0), ⟨(some 33), .pick (.s 29) (.c (.bool true)) (.s 32), none⟩])
 (.cond (.s 33) (.seq (.draw [(⟨(some 34), .build [(.int .i64 0), (.int .i64 0), (.str []), (.int .i64 0), (.sl .full 2 []), (.sl .full 4 []), (.int .i64 0), (.int .i64 0), (.int .i64 0), (.str []), (.sl .full 2 []), (.sl .full 5 []), (.int .i64 0), (.int .i64 0), (.str []), (.sl .full 2 []), (.sl .full 5 [])] [], none⟩, []), (xl 2 35 5, [1]), (xs 17 2 34, []), (xs 2 3 35, [])])
 (.ret))
 (.skip)))
 (.seq (.reg [xm 36 6, xm 37 0, xT 38 37, ⟨(some 39), .build [(.sl .full 5 []), (.int .i64 0), (.int .i64 0), (.int .i64 0), (.int .i64 0), (.int .i64 0), (.int .i64 0), (.str []), (.int .i64 0), (.sl .full 2 []), (.sl .full 4 []), (.int .i64 0), (.int .i64 0), (.int .i64 0), (.str []), (.sl .full 2 []), (.sl .full 5 []), (.int .i64 0), (.int .i64 0), (.str []), (.sl .full 2 []), (.sl .full 5 [])] [(0, 1, (.s 36)), (2, 1, (.s 38))], none⟩, ⟨(some 40), .boxO 22 (.s 39), none⟩, xm 7 40])
 (.seq (.reg [xm 41 7, xc 18 42 [.s 41], ⟨(some 8), .alloc [(.str []), (.int .i64 0)], none⟩, xs 2 8 42])
 (.seq (.draw [(xm 43 7, []), (xf 0 44 8, []), (xo 45 44, []), (xc 19 46 [.s 45], []), (xf 1 47 8, []), (xo 48 47, [0]), (⟨(some 49), .build [(.int .i64 0), (.int .i64 0), (.str []), (.int .i64 0), (.sl .full 2 []), (.sl .full 4 []), (.int .i64 0), (.int .i64 0), (.int .i64 0), (.str []), (.sl .full 2 []), (.sl .full 5 []), (.int .i64 0), (.int .i64 0), (.str []), (.sl .full 2 []), (.sl .full 5 [])] [(0, 1, (.s 46)), (1, 1, (.s 48))], none⟩, []), (xk 50 43, []), (xf 5 51 50, []), (xs 17 51 49, [])])
 (.seq (.seq (.reg [xm 52 7, xk 53 52, xf 5 54 53, xf 0 55 54, xo 56 55, xB .eql 57 56 0])
 (.cond (.s 57) (.seq (.draw [(⟨(some 58), .build [(.int .i64 0), (.int .i64 0), (.str []), (.int .i64 0), (.sl .full 2 []), (.sl .full 4 []), (.int .i64 0), (.int .i64 0), (.int .i64 0), (.str []), (.sl .full 2 []), (.sl .full 5 []), (.int .i64 0), (.int .i64 0), (.str []), (.sl .full 2 []), (.sl .full 5 [])] [], none⟩, []), (xm 59 6, []), (⟨(some 60), .idxA 5 (.s 59) (.c (.int .i64 0)), none⟩, []), (xf 0 61 60, []), (xf 2 62 61, []), (xo 63 62, [1]), (⟨(some 64), .build [(.int .i64 0), (.int .i64 0)] [(0, 1, (.c (.int .i64 2))), (1, 1, (.s 63))], none⟩, []), (xs 17 2 58, []), (xs 2 3 64, [])])
 (.ret))
 (.skip)))
 (.seq (.rangeS [xm 65 7, xk 66 65, xf 5 67 66, xf 0 68 67, xo 69 68, xc 20 70 [.s 69], xw 1 71 70] (.s 71) 72 73 74 0 1
 (.seq (.reg [xe 75 73 2, xm 10 75])
 (.reg [xm 76 7, xm 77 10, xc 21 78 [.s 76, .s 77]])))
 (.seq (.seq (.reg [xm 79 7, xk 80 79, xf 3 81 80, xf 0 82 81, xo 83 82, xB .eql 84 83 0, xm 85 84, xg 85 (xm 86 7), xg 85 (xk 87 86), xg 85 (xf 1 88 87), xg 85 (xo 89 88), xg 85 (xm 90 6), xg 85 (xL 91 90), xg 85 (xb .lss 92 89 91), ⟨(some 93), .pick (.s 85) (.s 92) (.c (.bool false)), none⟩])
 (.cond (.s 93) (.reg [xm 94 7, xc 22 95 [.s 94]])
 (.skip)))
 (.seq (.seq (.reg [xm 96 7, xk 97 96, xf 3 98 97, xf 0 99 98, xo 100 99, xB .neq 101 100 0])
 (.cond (.s 101) (.seq (.draw [(⟨(some 102), .build [(.int .i64 0), (.int .i64 0), (.str []), (.int .i64 0), (.sl .full 2 []), (.sl .full 4 []), (.int .i64 0), (.int .i64 0), (.int .i64 0), (.str []), (.sl .full 2 []), (.sl .full 5 []), (.int .i64 0), (.int .i64 0), (.str []), (.sl .full 2 []), (.sl .full 5 [])] [], none⟩, []), (xm 103 7, []), (xk 104 103, []), (xf 3 105 104, []), (xl 2 106 105, [1]), (xs 17 2 102, []), (xs 2 3 106, [])])
 (.ret))
 (.skip)))
 (.seq (.reg [xm 107 7, xk 108 107, xf 5 109 108, xl 17 110 109, ⟨(some 111), .build [(.int .i64 0), (.int .i64 0)] [], none⟩, xs 17 2 110, xs 2 3 111])
 (.ret)))))))))))))
theorem fn7 : IsFn prog 7 ac7 [.cell 2 true 17, .cell 3 true 2] 112 := ⟨f7, ⟨[40], []⟩, func7, by kernel_rfl, by kernel_rfl, by kernel_rfl, by kernel_rfl⟩
def flt (f : Int × Int) : V := .agg [.int .i64 f.1, .int .i64 f.2]
def SLr (s : List UInt8) (L : List Tree) (b r : Nat) : List V := [.str s, .any, .ptr (.loc 0) 0, .ptr (.loc 1) 0, .any, .any, .sl .no 5 (encs L), .ptr (.out r) 0] ++ List.replicate 64 .any ++ [.raw (.pointer (some ⟨b, 0, none⟩))] ++ List.replicate 39 .any
theorem pcell_er {ps : List (Word × Word)} : (pcell ps).erase = .sl .no 4 (ps.map penc) := by cases ps <;> rfl
theorem cr17 {rd : Rdr} {c : Cmd} {pc : V} : takeN 17 ((rd.enc ++ c.encP pc).drop 5) = some (c.encP pc) := rfl
theorem ce_len {c : Cmd} {pc : V} : (c.encP pc).length = 17 := rfl
theorem ce_one {c : Cmd} {ps : List (Word × Word)} : oneL (c.encP (pcell ps)) = true := by cases ps <;> rfl
theorem ce_ov {z0 z1 z2 z3 z4 z5 z6 z7 z8 z9 z10 z11 z12 z13 z14 z15 z16 : V} {c : Cmd} {pc : V} : over [z0, z1, z2, z3, z4, z5, z6, z7, z8, z9, z10, z11, z12, z13, z14, z15, z16] (c.encP pc) = c.encP pc := rfl
theorem ce_tk {c : Cmd} {pc : V} : takeN 17 (c.encP pc) = some (c.encP pc) := rfl
theorem ce_nol {c : Cmd} {ps : List (Word × Word)} : nolL (c.encP (pcell ps)) = true := by cases ps <;> rfl
theorem ce_er {c : Cmd} : eraseL (c.encP (pcell c.pairs)) = c.enc := by simp only [Cmd.enc, Cmd.encP, eraseL, pcell_er]; rfl
def ce := And.intro @ce_len <| And.intro @ce_one <| And.intro @ce_ov @ce_tk
def LCr : List (List V) := [zero17, [.int .i64 0, .int .i64 0]]
theorem cread_calls (s : List UInt8) {σ : Store} (hg : σ.box 0 = some formCells) (hb : s.length + 1 ≤ big) (hm : manys (treeP (lexR s).1 [] []).1 + 8 ≤ big) :
    PCalls prog 7 [.str s] σ fun v σ' => v = .tup [.agg (readP s).1.enc, flt (readP s).2] ∧ σ' = σ := by
  have hll := lexR_len s
  refine fn7.calls ?_
  simp only [slots, ac7, am, amo, amc, ams, Nat.reduceAdd, Nat.reduceEqDiff, decide_true, decide_false, Tree.rec_, Nd.rec_, Word.rec_, Got.rec_, Int.reduceEq, Int.reduceLT, Int.reduceLE, Nat.reduceLT, fenc_nol]
  refine (lexP_calls s σ hb).mono ?_
  rintro v σ ⟨rfl, rfl⟩
  generalize hR : readP s = R
  unfold readP at hR
  simp only [am, amo, amc, Nat.reduceAdd, Nat.reduceEqDiff, encs_length, List.length_map, decide_true, decide_false, Tree.rec_, Nd.rec_, Word.rec_, Got.rec_, Int.reduceEq, Int.reduceLT, Int.reduceLE, Nat.reduceLT, fenc_nol, badL]
  cases hl : (lexR s).2 with
  | some a =>
    rw [hl] at hR
    simp only [am, amo, amc, Nat.reduceAdd, Nat.reduceEqDiff, encs_length, List.length_map, decide_true, decide_false, Tree.rec_, Nd.rec_, Word.rec_, Got.rec_, Int.reduceEq, Int.reduceLT, Int.reduceLE, Nat.reduceLT, fenc_nol]
    refine retK_intro rfl (Store.sub_refl _) ⟨?_, rfl⟩
    rw [← hR]; rfl
  | none =>
    rw [hl] at hR
    simp only [am, amo, amc, Nat.reduceAdd, Nat.reduceEqDiff, encs_length, List.length_map, decide_true, decide_false, Tree.rec_, Nd.rec_, Word.rec_, Got.rec_, Int.reduceEq, Int.reduceLT, Int.reduceLE, Nat.reduceLT, fenc_nol]
    refine (treeP_calls (lexR s).1 σ (by omega)).mono ?_
    rintro v σ ⟨rfl, rfl⟩
    simp only [am, amo, amc, Nat.reduceAdd, Nat.reduceEqDiff, encs_length, List.length_map, decide_true, decide_false, Tree.rec_, Nd.rec_, Word.rec_, Got.rec_, Int.reduceEq, Int.reduceLT, Int.reduceLE, Nat.reduceLT, fenc_nol, fenc]
    simp only at hR
    cases ht : (treeP (lexR s).1 [] []).2 with
    | some a =>
      rw [ht] at hR
      simp only [am, amo, amc, Nat.reduceAdd, Nat.reduceEqDiff, encs_length, List.length_map, decide_true, decide_false, Tree.rec_, Nd.rec_, Word.rec_, Got.rec_, Int.reduceEq, Int.reduceLT, Int.reduceLE, Nat.reduceLT, fenc_nol, badC]
      refine retK_intro rfl (Store.sub_refl _) ⟨?_, rfl⟩
      rw [← hR]; rfl
    | none =>
      rw [ht] at hR
      simp only at hR
      simp only [am, amo, amc, Nat.reduceAdd, Nat.reduceEqDiff, encs_length, List.length_map, decide_true, decide_false, Tree.rec_, Nd.rec_, Word.rec_, Got.rec_, Int.reduceEq, Int.reduceLT, Int.reduceLE, Nat.reduceLT, fenc_nol, badC]
      generalize (treeP (lexR s).1 [] []).1 = l at hm hR ⊢
      have hlen := manys_ge l
      cases l with
      | nil =>
        simp only [am, amo, amc, Nat.reduceAdd, Nat.reduceEqDiff, encs_length, List.length_map, decide_true, decide_false, Tree.rec_, Nd.rec_, Word.rec_, Got.rec_, Int.reduceEq, Int.reduceLT, Int.reduceLE, Nat.reduceLT, fenc_nol, List.length_nil, show (((0 : Nat) : Int) = 0) = True by simp]
        refine retK_intro rfl (Store.sub_refl _) ⟨?_, rfl⟩
        rw [← hR]; rfl
      | cons t ts =>
        generalize hL : t :: ts = L at *
        have hne : ¬ (L.length : Int) = 0 := by rw [← hL]; simp; omega
        simp only [am, amo, amc, Nat.reduceAdd, Nat.reduceEqDiff, encs_length, List.length_map, decide_true, decide_false, Tree.rec_, Nd.rec_, Word.rec_, Got.rec_, Int.reduceEq, Int.reduceLT, Int.reduceLE, Nat.reduceLT, fenc_nol, decide_eq_false hne]
        refine kO_intro fun r hr => ?_
        have hr0 : r ≠ 0 := by rintro rfl; rw [hg] at hr; simp at hr
        have hg' : ∀ X, (σ.set r X).box 0 = some formCells := fun X => by rw [Store.set_other _ _ (Ne.symm hr0)]; exact hg
        have hr' : ∀ X, (σ.set r X).box r = some X := fun X => Store.set_same _ _ _
        simp only [am, amo, amc, Nat.reduceAdd, Nat.reduceEqDiff, encs_length, List.length_map, decide_true, decide_false, Tree.rec_, Nd.rec_, Word.rec_, Got.rec_, Int.reduceEq, Int.reduceLT, Int.reduceLE, Nat.reduceLT, fenc_nol]
        change PCalls prog 18 [.ptr (.out r) 0] (σ.set r ((⟨L, 0, s.length, none⟩ : Rdr).enc ++ zero17)) _
        have hcmd : cmdP L s.length = if numberP (⟨L, 0, s.length, none⟩ : Rdr).word.1.text = 0 then (.zero, 2, t.tok.pos)
          else endP (partsP (formOf (numberP (⟨L, 0, s.length, none⟩ : Rdr).word.1.text)).2 ((⟨L, 0, s.length, none⟩ : Rdr).word.2, { Cmd.zero with op := numberP (⟨L, 0, s.length, none⟩ : Rdr).word.1.text, pos := (⟨L, 0, s.length, none⟩ : Rdr).word.1.pos })) := by rw [← hL]; rfl
        rw [hcmd] at hR
        refine (cword_calls (hr' _) (by simp) (show L.length ≤ big by omega)).mono ?_
        rintro v _ ⟨rfl, rfl⟩
        have hI : ∀ c, PInv L s.length ((⟨L, 0, s.length, none⟩ : Rdr).word.2, c) := fun c => PInv.goes (x := (⟨L, 0, s.length, none⟩, c)) ⟨rfl, rfl, by simp, by simp; omega, by simp⟩ rfl (goes_word _) (take_fin _ 97)
        generalize (⟨L, 0, s.length, none⟩ : Rdr).word.2 = r1 at hI hR ⊢
        generalize (⟨L, 0, s.length, none⟩ : Rdr).word.1 = w at hR ⊢
        simp only [am, amo, amc, Nat.reduceAdd, Nat.reduceEqDiff, encs_length, List.length_map, decide_true, decide_false, Tree.rec_, Nd.rec_, Word.rec_, Got.rec_, Int.reduceEq, Int.reduceLT, Int.reduceLE, Nat.reduceLT, fenc_nol, Word.enc]
        refine CallD.intro (number_calls w.text (hg' _)) ?_
        have e5 : ∀ X : List V, X.length = 17 → setAt (r1.enc ++ zero17) 5 X = r1.enc ++ X := fun X hX => by
          match X, hX with
          | [_, _, _, _, _, _, _, _, _, _, _, _, _, _, _, _, _], _ => rfl
        have h17 : hasN 17 zero17 = true := rfl
        have d5 : ∀ X : List V, (r1.enc ++ X).drop 5 = X := fun X => rfl
        generalize numberP w.text = op at hR ⊢
        simp only [am, amo, amc, Nat.reduceAdd, Nat.reduceEqDiff, encs_length, List.length_map, decide_true, decide_false, Tree.rec_, Nd.rec_, Word.rec_, Got.rec_, Int.reduceEq, Int.reduceLT, Int.reduceLE, Nat.reduceLT, fenc_nol, hr', e5, h17, d5]
        by_cases hop : op = 0
        · rw [if_pos hop] at hR
          simp only [am, amo, amc, Nat.reduceAdd, Nat.reduceEqDiff, encs_length, List.length_map, decide_true, decide_false, Tree.rec_, Nd.rec_, Word.rec_, Got.rec_, Int.reduceEq, Int.reduceLT, Int.reduceLE, Nat.reduceLT, fenc_nol, decide_eq_true hop]
          refine idxL_intro (by omega) (c := t.enc) (by rw [← hL]; simp [encs_map]) ?_
          simp only [am, amo, amc, Nat.reduceAdd, Nat.reduceEqDiff, encs_length, List.length_map, decide_true, decide_false, Tree.rec_, Nd.rec_, Word.rec_, Got.rec_, Int.reduceEq, Int.reduceLT, Int.reduceLE, Nat.reduceLT, fenc_nol, Tree.fl]
          refine retK_intro rfl (sub_set hr) ⟨?_, rfl⟩
          rw [← hR]; rfl
        · rw [if_neg hop] at hR
          simp only [am, amo, amc, Nat.reduceAdd, Nat.reduceEqDiff, encs_length, List.length_map, decide_true, decide_false, Tree.rec_, Nd.rec_, Word.rec_, Got.rec_, Int.reduceEq, Int.reduceLT, Int.reduceLE, Nat.reduceLT, fenc_nol, decide_eq_false hop]
          refine vc_rangeS ?_
          simp only [am, amo, amc, Nat.reduceAdd, Nat.reduceEqDiff, encs_length, List.length_map, decide_true, decide_false, Tree.rec_, Nd.rec_, Word.rec_, Got.rec_, Int.reduceEq, Int.reduceLT, Int.reduceLE, Nat.reduceLT, fenc_nol, hr', d5]
          refine (of_calls op (hg' _)).mono ?_
          rintro v σ' ⟨rfl, rfl⟩
          simp only [am, amo, amc, Nat.reduceAdd, Nat.reduceEqDiff, encs_length, List.length_map, decide_true, decide_false, Tree.rec_, Nd.rec_, Word.rec_, Got.rec_, Int.reduceEq, Int.reduceLT, Int.reduceLE, Nat.reduceLT, fenc_nol]
          generalize hks : (formOf op).2 = ks at hR ⊢
          generalize hx0 : ((r1, { Cmd.zero with op := op, pos := w.pos }) : Rdr × Cmd) = x0 at hR
          have hI0 : PInv L s.length x0 := by rw [← hx0]; exact hI _
          refine ⟨ks, rfl, by rw [← hks]; exact form_ascii op, fun b i st' => st' = ⟨SLr s L b r, LCr, σ.set r ((partsP (ks.take i) x0).1.enc ++ (partsP (ks.take i) x0).2.encP (pcell (partsP (ks.take i) x0).2.pairs))⟩, ?_, ?_, ?_, ?_⟩
          · intro b
            simp only [am, amo, amc, Nat.reduceAdd, Nat.reduceEqDiff, encs_length, List.length_map, decide_true, decide_false, Tree.rec_, Nd.rec_, Word.rec_, Got.rec_, Int.reduceEq, Int.reduceLT, Int.reduceLE, Nat.reduceLT, fenc_nol]
            refine Upd.drops (l' := LCr) ?_ ?_ ?_ (by simp [SLr, LCr, List.replicate, loL, V.lo]) (by simp [LCr, zero17, loLL, loL, V.lo]) rfl
            · simp [SLr, List.replicate, am]
            · simp [LCr, zero17, am]
            · rw [← hx0]
              exact OLe.set (by simp [Rdr.enc, Cmd.encP, Cmd.zero, Nd.zero, Nd.kind, Nd.pos, Nd.text, Nd.names, Nd.kids, partsP, pcell, am])
          · rintro b i _ rfl
            exact ⟨rfl, by simp [SLr], by simp [SLr]⟩
          · rintro b i c _ hc rfl
            simp only [SLr, List.replicate, am]
            have hIi := partsP_inv (ks.take i) hI0
            have hsn : partsP (ks.take (i + 1)) x0 = partP c (partsP (ks.take i) x0) := by rw [take_succ_of hc, partsP_snoc]
            have hpz : c = 112 → (partsP (ks.take i) x0).2.pairs = [] := fun h => by
              rw [partsP_pairs (ks.take i) (by rw [← hks]; exact form_once op i (by rw [hks, hc, h])), ← hx0]; rfl
            rw [hsn]
            generalize partsP (ks.take i) x0 = x at hIi hpz ⊢
            have hle := hIi.le
            refine (part_calls (k := c) (hr' _) (fun h => by rw [hpz h]; exact ⟨rfl, rfl⟩) hIi.ge (by rw [hIi.hl]; omega) (by omega)).mono ?_
            rintro v _ ⟨rfl, rfl⟩
            have hpc : (if c = 112 ∧ x.1.bad = none then pcell (partP c x).2.pairs else pcell x.2.pairs) = pcell (partP c x).2.pairs := by
              by_cases h : c = 112 ∧ x.1.bad = none
              · rw [if_pos h]
              · rw [if_neg h, partP_pairs]
                by_cases h1 : c = 112
                · exact .inr fun h2 => h ⟨h1, h2⟩
                · exact .inl h1
            rw [hpc]
            simp only [am, amo, amc, Nat.reduceAdd, Nat.reduceEqDiff, encs_length, List.length_map, decide_true, decide_false, Tree.rec_, Nd.rec_, Word.rec_, Got.rec_, Int.reduceEq, Int.reduceLT, Int.reduceLE, Nat.reduceLT, fenc_nol]
            exact Upd.drops (l' := LCr) (by simp [List.replicate, am]) (by simp [LCr, zero17, am]) OLe.rfl (by simp [LCr, List.replicate, loL, V.lo]) (by simp [LCr, zero17, loLL, loL, V.lo]) rfl
          · rintro b _ rfl
            simp only [SLr, LCr, List.replicate, am]
            rw [List.take_length]
            have hIe := partsP_inv ks hI0
            generalize partsP ks x0 = x at hIe hR ⊢
            obtain ⟨rd, c⟩ := x
            have h1 := hIe.hl
            have h2 := hIe.ge
            simp only at h1 h2
            unfold endP at hR
            simp only [h1] at hR
            simp only [am, amo, amc, Nat.reduceAdd, Nat.reduceEqDiff, encs_length, List.length_map, decide_true, decide_false, Tree.rec_, Nd.rec_, Word.rec_, Got.rec_, Int.reduceEq, Int.reduceLT, Int.reduceLE, Nat.reduceLT, fenc_nol, hr', crl]
            cases hbad : rd.bad with
            | some a =>
              simp only [hbad] at hR
              simp only [am, amo, amc, Nat.reduceAdd, Nat.reduceEqDiff, encs_length, List.length_map, decide_true, decide_false, Tree.rec_, Nd.rec_, Word.rec_, Got.rec_, Int.reduceEq, Int.reduceLT, Int.reduceLE, Nat.reduceLT, fenc_nol, badC, crl, hbad, hr', zero17]
              refine retK_intro rfl (sub_set hr) ⟨?_, rfl⟩
              have hR : (Cmd.zero, (2 : Int), a) = R := by simpa [hbad] using hR
              rw [← hR]; rfl
            | none =>
              simp only [hbad, true_and] at hR
              simp only [am, amo, amc, Nat.reduceAdd, Nat.reduceEqDiff, encs_length, List.length_map, decide_true, decide_false, Tree.rec_, Nd.rec_, Word.rec_, Got.rec_, Int.reduceEq, Int.reduceLT, Int.reduceLE, Nat.reduceLT, fenc_nol, badC, crl, hr']
              by_cases hend : rd.at_ < L.length
              · rw [if_pos hend] at hR
                simp only [am, amo, amc, Nat.reduceAdd, Nat.reduceEqDiff, encs_length, List.length_map, decide_true, decide_false, Tree.rec_, Nd.rec_, Word.rec_, Got.rec_, Int.reduceEq, Int.reduceLT, Int.reduceLE, Nat.reduceLT, fenc_nol, decide_eq_true hend]
                refine (cfail_calls (hr' _) h2).mono ?_
                rintro v _ ⟨rfl, rfl⟩
                obtain ⟨a, ha⟩ : ∃ a, rd.fail.bad = some a := by
                  have := Rdr.fail_ok rd
                  cases hq : rd.fail.bad with
                  | none => exact absurd hq this
                  | some a => exact ⟨a, rfl⟩
                rw [ha] at hR
                simp only [am, amo, amc, Nat.reduceAdd, Nat.reduceEqDiff, encs_length, List.length_map, decide_true, decide_false, Tree.rec_, Nd.rec_, Word.rec_, Got.rec_, Int.reduceEq, Int.reduceLT, Int.reduceLE, Nat.reduceLT, fenc_nol, hr', crl, ha, badC, zero17]
                refine retK_intro rfl (sub_set hr) ⟨?_, rfl⟩
                rw [← hR]; rfl
              · rw [if_neg hend, hbad] at hR
                simp only [am, amo, amc, Nat.reduceAdd, Nat.reduceEqDiff, encs_length, List.length_map, decide_true, decide_false, Tree.rec_, Nd.rec_, Word.rec_, Got.rec_, Int.reduceEq, Int.reduceLT, Int.reduceLE, Nat.reduceLT, fenc_nol, decide_eq_false hend, hr', crl, hbad, badC, zero17, cr17, ce]
                refine retK_intro ?_ (sub_set hr) ⟨?_, rfl⟩
                · simp [V.nol, nolL, ce_nol]
                rw [← hR]
                simp [V.erase, eraseL, ce_er, flt]
end Go.Proofs.Tryd

namespace Go.Proofs.Tryd
open Go.Am
set_option maxRecDepth 4000
set_option maxHeartbeats 4000000
def ac8 : AC := .seq (.reg [⟨(some 2), .alloc [(.int .i64 0), (.int .i64 0), (.str []), (.int .i64 0), (.sl .full 2 []), (.sl .full 4 []), (.int .i64 0), (.int .i64 0), (.int .i64 0), (.str []), (.sl .full 2 []), (.sl .full 5 []), (.int .i64 0), (.int .i64 0), (.str []), (.sl .full 2 []), (.sl .full 5 [])], none⟩, ⟨(some 3), .alloc [(.int .i64 0), (.int .i64 0)], none⟩])
 (.seq (.reg [xm 17 0, xc 13 18 [.s 17], xm 16 18, xe 19 16 0, xe 20 16 1, ⟨(some 5), .alloc [(.int .i64 0), (.int .i64 0)], none⟩, xm 4 19, xs 2 5 20])
 (.seq (.seq (.reg [xf 0 21 5, xo 22 21, xB .neq 23 22 0])
 (.cond (.s 23) (.seq (.draw [(⟨(some 24), .build [(.int .i64 0), (.int .i64 0), (.str []), (.int .i64 0), (.sl .full 2 []), (.sl .full 4 []), (.int .i64 0), (.int .i64 0), (.int .i64 0), (.str []), (.sl .full 2 []), (.sl .full 5 []), (.int .i64 0), (.int .i64 0), (.str []), (.sl .full 2 []), (.sl .full 5 [])] [], none⟩, []), (xl 2 25 5, [1]), (xs 17 2 24, []), (xs 2 3 25, [])])
 (.ret))
 (.skip)))
 (.seq (.reg [xm 27 4, xc 14 28 [.s 27], xm 26 28, xe 29 26 0, xe 30 26 1, ⟨(some 7), .alloc [(.int .i64 0), (.int .i64 0)], none⟩, xm 6 29, xs 2 7 30])
 (.seq (.seq (.reg [xf 0 31 7, xo 32 31, xB .neq 33 32 0, xm 34 33, xh 34 (xm 35 6), xh 34 (xL 36 35), xh 34 (xB .eql 37 36 0), ⟨(some 38), .pick (.s 34) (.c (.bool true)) (.s 37), none⟩])
 (.cond (.s 38) (.seq (.draw [(⟨(some 39), .build [(.int .i64 0), (.int .i64 0), (.str []), (.int .i64 0), (.sl .full 2 []), (.sl .full 4 []), (.int .i64 0), (.int .i64 0), (.int .i64 0), (.str []), (.sl .full 2 []), (.sl .full 5 []), (.int .i64 0), (.int .i64 0), (.str []), (.sl .full 2 []), (.sl .full 5 [])] [], none⟩, []), (xl 2 40 7, [1]), (xs 17 2 39, []), (xs 2 3 40, [])])
 (.ret))
 (.skip)))
 (.seq (.reg [xm 41 6, ⟨(some 42), .idxA 5 (.s 41) (.c (.int .i64 0)), none⟩, xf 0 43 42, xf 2 44 43, xo 45 44, ⟨(some 46), .build [(.int .i64 0), (.int .i64 0), (.str []), (.int .i64 0), (.sl .full 2 []), (.sl .full 4 []), (.int .i64 0), (.int .i64 0), (.int .i64 0), (.str []), (.sl .full 2 []), (.sl .full 5 []), (.int .i64 0), (.int .i64 0), (.str []), (.sl .full 2 []), (.sl .full 5 [])] [(1, 1, (.s 45))], none⟩, ⟨(some 8), .alloc [(.int .i64 0), (.int .i64 0), (.str []), (.int .i64 0), (.sl .full 2 []), (.sl .full 4 []), (.int .i64 0), (.int .i64 0), (.int .i64 0), (.str []), (.sl .full 2 []), (.sl .full 5 []), (.int .i64 0), (.int .i64 0), (.str []), (.sl .full 2 []), (.sl .full 5 [])], none⟩, xs 17 8 46])
 (.seq (.seq (.reg [xi 9 1])
 (.block 0 (.loop (.seq (.seq (.reg [xm 47 9, xB .leq 48 47 15])
 (.cond (.s 48) (.skip)
 (.exit 0)))
 (.seq (.block 1 (.seq (.draw [(xm 51 6, []), (⟨(some 52), .idxA 5 (.s 51) (.c (.int .i64 0)), none⟩, []), (xf 0 53 52, []), (xf 0 54 53, []), (xo 55 54, []), (xu .eql 56 55 97, []), (xm 57 56, []), (xg 57 (xm 58 6), []), (⟨(some 59), .idxA 5 (.s 58) (.c (.int .i64 0)), (some (57, true))⟩, []), (xg 57 (xf 0 60 59), []), (xg 57 (xf 1 61 60), []), (xg 57 (xo 62 61), [1]), (xg 57 (xm 63 9), []), (xg 57 (xc 23 64 [.s 63]), []), (⟨(some 65), .binS .eql (.s 62) (.s 64), (some (57, true))⟩, []), (⟨(some 66), .pick (.s 57) (.s 65) (.c (.bool false)), none⟩, [])])
 (.cond (.s 66) (.reg [xm 67 9, xf 0 68 8, xs 1 68 67])
 (.skip))))
 (.reg [xm 49 9, xB .add 50 49 1, xm 9 50]))))))
 (.seq (.seq (.reg [xf 0 69 8, xo 70 69, xB .eql 71 70 0])
 (.cond (.s 71) (.seq (.draw [(⟨(some 72), .build [(.int .i64 0), (.int .i64 0), (.str []), (.int .i64 0), (.sl .full 2 []), (.sl .full 4 []), (.int .i64 0), (.int .i64 0), (.int .i64 0), (.str []), (.sl .full 2 []), (.sl .full 5 []), (.int .i64 0), (.int .i64 0), (.str []), (.sl .full 2 []), (.sl .full 5 [])] [], none⟩, []), (xf 1 73 8, []), (xo 74 73, [1]), (⟨(some 75), .build [(.int .i64 0), (.int .i64 0)] [(0, 1, (.c (.int .i64 2))), (1, 1, (.s 74))], none⟩, []), (xs 17 2 72, []), (xs 2 3 75, [])])
 (.ret))
 (.skip)))
 (.seq (.reg [xi 10 1])
 (.seq (.reg [xf 0 76 8, xo 77 76, xc 24 78 [.s 77], xm 11 78])
 (.seq (.seq (.reg [xi 12 0])
 (.block 2 (.loop (.seq (.seq (.reg [xm 79 12, xm 80 11, xT 81 80, xb .lss 82 79 81])
 (.cond (.s 82) (.skip)
 (.exit 2)))
 (.seq (.block 3 (.seq (.drawA [13] [(xl 17 86 8, []), (xm 87 11, []), (xm 88 12, []), (xS 89 87 88, []), (xm 90 6, []), (xm 91 10, []), (xm 92 0, []), (xT 93 92, []), (xc 25 94 [.s 86, .s 89, .s 90, .s 91, .s 93], []), (xm 85 94, []), (xe 95 85 0, []), (xe 96 85 1, []), (xe 97 85 2, []), (⟨none, .mv (.c .any), none⟩, []), (⟨(some 13), .boxS 17 (.s 95), none⟩, []), (xm 14 96, []), (xm 15 97, [])])
 (.seq (.seq (.reg [xm 98 15, xB .geq 99 98 0])
 (.cond (.s 99) (.seq (.reg [⟨(some 100), .build [(.int .i64 0), (.int .i64 0), (.str []), (.int .i64 0), (.sl .full 2 []), (.sl .full 4 []), (.int .i64 0), (.int .i64 0), (.int .i64 0), (.str []), (.sl .full 2 []), (.sl .full 5 []), (.int .i64 0), (.int .i64 0), (.str []), (.sl .full 2 []), (.sl .full 5 [])] [], none⟩, xm 101 15, ⟨(some 102), .build [(.int .i64 0), (.int .i64 0)] [(0, 1, (.c (.int .i64 2))), (1, 1, (.s 101))], none⟩, xs 17 2 100, xs 2 3 102])
 (.ret))
 (.skip)))
 (.seq (.reg [xl 17 103 13, xs 17 8 103])
 (.reg [xm 104 14, xm 10 104])))))
 (.reg [xm 83 12, xB .add 84 83 1, xm 12 84]))))))
 (.seq (.seq (.reg [xm 105 10, xm 106 6, xL 107 106, xb .lss 108 105 107])
 (.cond (.s 108) (.seq (.draw [(⟨(some 109), .build [(.int .i64 0), (.int .i64 0), (.str []), (.int .i64 0), (.sl .full 2 []), (.sl .full 4 []), (.int .i64 0), (.int .i64 0), (.int .i64 0), (.str []), (.sl .full 2 []), (.sl .full 5 []), (.int .i64 0), (.int .i64 0), (.str []), (.sl .full 2 []), (.sl .full 5 [])] [], none⟩, []), (xm 110 6, []), (xm 111 10, []), (xA 5 112 110 111, []), (xf 0 113 112, []), (xf 2 114 113, []), (xo 115 114, [1]), (⟨(some 116), .build [(.int .i64 0), (.int .i64 0)] [(0, 1, (.c (.int .i64 2))), (1, 1, (.s 115))], none⟩, []), (xs 17 2 109, []), (xs 2 3 116, [])])
 (.ret))
 (.skip)))
 (.seq (.reg [xl 17 117 8, ⟨(some 118), .build [(.int .i64 0), (.int .i64 0)] [], none⟩, xs 17 2 117, xs 2 3 118])
 (.ret)))))))))))))
theorem fn8 : IsFn prog 8 ac8 [.cell 2 true 17, .cell 3 true 2] 119 := ⟨f8, ⟨[], []⟩, func8, by kernel_rfl, by kernel_rfl, by kernel_rfl, by kernel_rfl⟩
section
variable {c : Cmd}
theorem over_c {c d : Cmd} : over c.enc d.enc = d.enc := rfl
theorem c_lop : ldC false 1 c.enc = some (.int .i64 c.op) := rfl
theorem c_lop0 : ldC false 1 (c.enc.drop 0) = some (.int .i64 c.op) := rfl
theorem c_lp : ldC false 1 (c.enc.drop 1) = some (.int .i64 c.pos) := rfl
def cfo := And.intro @c_lop <| And.intro @c_lop0 @c_lp
end
def LR (c : Cmd) : List (List V) := [zero17, [.int .i64 0, .int .i64 0], [.any, .any], [.any, .any], c.enc]
def invO (s : List UInt8) (L : List Tree) (t : Tree) (op : Nat) (r : Int) (σ : Store) : St :=
  ⟨[.str s, .any, .ptr (.loc 0) 0, .ptr (.loc 1) 0, .any, .any, .sl .no 5 (encs L), .any, .ptr (.loc 4) 0, .int .i64 (op : Nat)] ++ List.replicate 109 .any, LR { Cmd.zero with op := r, pos := t.tok.pos }, σ⟩
abbrev OpI (t : Tree) (O : Int) := { p : Nat × Nat × Int // (if t.tok.kind = 97 then opF t.tok.text p.1 p.2.1 p.2.2 else p.2.2) = O ∧ p.2.1 + p.1 = 16 }
theorem form_len (op : Int) : (formOf op).2.length ≤ 3 := by
  unfold formOf
  split
  · rename_i h1
    have hlt : op.toNat < 16 := by omega
    generalize op.toNat = n at hlt ⊢
    have key : ∀ n < 16, (formT.getD n ([], [])).2.length ≤ 3 := by decide
    exact key n hlt
  · simp
def invA (s : List UInt8) (L : List Tree) (ks : List UInt8) (a : Nat) (c : Cmd) (i : Nat) (σ : Store) : St :=
  ⟨[.str s, .any, .ptr (.loc 0) 0, .ptr (.loc 1) 0, .any, .any, .sl .no 5 (encs L), .any, .ptr (.loc 4) 0, .any, .int .i64 (a : Nat), .str ks, .int .i64 (i : Nat)] ++ List.replicate 106 .any, LR c, σ⟩
abbrev PaI (L : List Tree) (fin : Int) (ks : List UInt8) (X : Cmd × Int × Int) := { p : Nat × Nat × Cmd // partsR L fin (ks.drop p.1) p.2.2 p.2.1 = X ∧ p.1 ≤ ks.length }
theorem cread12_calls (s : List UInt8) (σ : Store) (hb : s.length + 1 ≤ big) (hm : manys (treeR (lexR s).1).1 + 8 ≤ big) :
    PCalls prog 8 [.str s] σ fun v σ' => v = .tup [.agg (readR s).1.enc, flt (readR s).2] ∧ σ' = σ := by
  have hll := lexR_len s
  refine fn8.calls ?_
  simp only [slots, ac8, am, amo, amc, ams, Nat.reduceAdd, Nat.reduceEqDiff, decide_true, decide_false, Tree.rec_, Nd.rec_, Word.rec_, Got.rec_, Tree.fl, tree_tk3, Int.reduceEq, Int.reduceLT, Int.reduceLE, Nat.reduceLT, fenc_nol, cfl, cfo]
  refine (lex_calls s σ hb).mono ?_
  rintro v σ ⟨rfl, rfl⟩
  generalize hR : readR s = R
  unfold readR at hR
  simp only [am, amo, amc, Nat.reduceAdd, Nat.reduceEqDiff, encs_length, List.length_map, decide_true, decide_false, Tree.rec_, Nd.rec_, Word.rec_, Got.rec_, Tree.fl, tree_tk3, Int.reduceEq, Int.reduceLT, Int.reduceLE, Nat.reduceLT, fenc_nol, cfl, cfo, badL]
  cases hl : (lexR s).2 with
  | some a =>
    rw [hl] at hR
    simp only [am, amo, amc, Nat.reduceAdd, Nat.reduceEqDiff, encs_length, List.length_map, decide_true, decide_false, Tree.rec_, Nd.rec_, Word.rec_, Got.rec_, Tree.fl, tree_tk3, Int.reduceEq, Int.reduceLT, Int.reduceLE, Nat.reduceLT, fenc_nol, cfl, cfo]
    refine retK_intro rfl (Store.sub_refl _) ⟨?_, rfl⟩
    rw [← hR]; rfl
  | none =>
    rw [hl] at hR
    simp only [am, amo, amc, Nat.reduceAdd, Nat.reduceEqDiff, encs_length, List.length_map, decide_true, decide_false, Tree.rec_, Nd.rec_, Word.rec_, Got.rec_, Tree.fl, tree_tk3, Int.reduceEq, Int.reduceLT, Int.reduceLE, Nat.reduceLT, fenc_nol, cfl, cfo]
    refine (tree_calls (lexR s).1 σ (by omega)).mono ?_
    rintro v σ ⟨rfl, rfl⟩
    simp only [am, amo, amc, Nat.reduceAdd, Nat.reduceEqDiff, encs_length, List.length_map, decide_true, decide_false, Tree.rec_, Nd.rec_, Word.rec_, Got.rec_, Tree.fl, tree_tk3, Int.reduceEq, Int.reduceLT, Int.reduceLE, Nat.reduceLT, fenc_nol, cfl, cfo, fenc]
    simp only at hR
    cases ht : (treeR (lexR s).1).2 with
    | some a =>
      rw [ht] at hR
      simp only [am, amo, amc, Nat.reduceAdd, Nat.reduceEqDiff, encs_length, List.length_map, decide_true, decide_false, Tree.rec_, Nd.rec_, Word.rec_, Got.rec_, Tree.fl, tree_tk3, Int.reduceEq, Int.reduceLT, Int.reduceLE, Nat.reduceLT, fenc_nol, cfl, cfo, badC]
      refine retK_intro rfl (Store.sub_refl _) ⟨?_, rfl⟩
      rw [← hR]; rfl
    | none =>
      rw [ht] at hR
      simp only at hR
      simp only [am, amo, amc, Nat.reduceAdd, Nat.reduceEqDiff, encs_length, List.length_map, decide_true, decide_false, Tree.rec_, Nd.rec_, Word.rec_, Got.rec_, Tree.fl, tree_tk3, Int.reduceEq, Int.reduceLT, Int.reduceLE, Nat.reduceLT, fenc_nol, cfl, cfo, badC]
      generalize (treeR (lexR s).1).1 = l at hm hR ⊢
      have hlen := manys_ge l
      cases l with
      | nil =>
        simp only [am, amo, amc, Nat.reduceAdd, Nat.reduceEqDiff, encs_length, List.length_map, decide_true, decide_false, Tree.rec_, Nd.rec_, Word.rec_, Got.rec_, Tree.fl, tree_tk3, Int.reduceEq, Int.reduceLT, Int.reduceLE, Nat.reduceLT, fenc_nol, cfl, cfo, List.length_nil, show (((0 : Nat) : Int) = 0) = True by simp]
        refine retK_intro rfl (Store.sub_refl _) ⟨?_, rfl⟩
        rw [← hR]; rfl
      | cons t ts =>
        generalize hL : t :: ts = L at *
        have hne : ¬ (L.length : Int) = 0 := by rw [← hL]; simp; omega
        simp only [am, amo, amc, Nat.reduceAdd, Nat.reduceEqDiff, encs_length, List.length_map, decide_true, decide_false, Tree.rec_, Nd.rec_, Word.rec_, Got.rec_, Tree.fl, tree_tk3, Int.reduceEq, Int.reduceLT, Int.reduceLE, Nat.reduceLT, fenc_nol, cfl, cfo, decide_eq_false hne]
        refine idxL_intro (by omega) (c := t.enc) (by rw [← hL]; simp [encs_map]) ?_
        simp only [am, amo, amc, Nat.reduceAdd, Nat.reduceEqDiff, encs_length, List.length_map, decide_true, decide_false, Tree.rec_, Nd.rec_, Word.rec_, Got.rec_, Tree.fl, tree_tk3, Int.reduceEq, Int.reduceLT, Int.reduceLE, Nat.reduceLT, fenc_nol, cfl, cfo]
        have hcmd : cmdR L s.length = if (if t.tok.kind = 97 then opF t.tok.text 15 1 0 else 0) = 0 then (.zero, 2, t.tok.pos)
          else (if 0 ≤ (partsR L s.length (formOf (if t.tok.kind = 97 then opF t.tok.text 15 1 0 else 0)).2 { Cmd.zero with op := (if t.tok.kind = 97 then opF t.tok.text 15 1 0 else 0), pos := t.tok.pos } 1).2.2 then (.zero, 2, (partsR L s.length (formOf (if t.tok.kind = 97 then opF t.tok.text 15 1 0 else 0)).2 { Cmd.zero with op := (if t.tok.kind = 97 then opF t.tok.text 15 1 0 else 0), pos := t.tok.pos } 1).2.2)
            else if (partsR L s.length (formOf (if t.tok.kind = 97 then opF t.tok.text 15 1 0 else 0)).2 { Cmd.zero with op := (if t.tok.kind = 97 then opF t.tok.text 15 1 0 else 0), pos := t.tok.pos } 1).2.1 < L.length then (.zero, 2, spotOf L (partsR L s.length (formOf (if t.tok.kind = 97 then opF t.tok.text 15 1 0 else 0)).2 { Cmd.zero with op := (if t.tok.kind = 97 then opF t.tok.text 15 1 0 else 0), pos := t.tok.pos } 1).2.1 s.length)
            else ((partsR L s.length (formOf (if t.tok.kind = 97 then opF t.tok.text 15 1 0 else 0)).2 { Cmd.zero with op := (if t.tok.kind = 97 then opF t.tok.text 15 1 0 else 0), pos := t.tok.pos } 1).1, 0, 0)) := by rw [← hL]; rfl
        rw [hcmd] at hR
        clear hcmd
        generalize hO : (if t.tok.kind = 97 then opF t.tok.text 15 1 0 else 0) = O at hR
        have ht0 : (encs L)[0]? = some t.enc := by rw [← hL]; simp [encs_map]
        refine vc_loop (fun p : OpI t O => invO s L t p.1.2.1 p.1.2.2 σ) (fun p => p.1.1) ?_ ?_
        · refine Upd.enter ⟨(15, 1, 0), hO, rfl⟩ ?_ ?_ OLe.rfl
          · simp [invO, List.replicate, am]
          · simp [invO, LR, Cmd.enc, Cmd.encP, Cmd.zero, Nd.zero, Nd.kind, Nd.pos, Nd.text, Nd.names, Nd.kids, zero17, am]
        · rintro ⟨⟨n, op, r⟩, hO, hs⟩
          simp only at hO hs
          simp only [invO, LR, List.replicate, am]
          have wi : IntKind.i64.wrap ((op : Int) + 1) = ((op + 1 : Nat) : Int) := by rw [wrap_i64 (by omega) (by omega)]; simp
          by_cases hop : op ≤ 15
          · obtain ⟨m, rfl⟩ : ∃ m, n = m + 1 := ⟨n - 1, by omega⟩
            have again : ∀ (t1 : List V) (l1 : List (List V)) (r : Int), (if t.tok.kind = 97 then opF t.tok.text m (op + 1) r else r) = O → LLe t1 (invO s L t (op + 1) r σ).t → LLLe l1 (invO s L t (op + 1) r σ).loc → Upd ⟨t1, l1, σ⟩ fun st' => ∃ j : OpI t O, st' = invO s L t j.1.2.1 j.1.2.2 σ ∧ j.1.1 < m + 1 := fun t1 l1 r h ht hl =>
              Upd.again (I := fun p : OpI t O => invO s L t p.1.2.1 p.1.2.2 σ) (μ := fun p => p.1.1) ⟨(m, op + 1, r), h, by simp only; omega⟩ (by simp) ht hl OLe.rfl
            simp only [am, amo, amc, Nat.reduceAdd, Nat.reduceEqDiff, encs_length, List.length_map, decide_true, decide_false, Tree.rec_, Nd.rec_, Word.rec_, Got.rec_, Tree.fl, tree_tk3, Int.reduceEq, Int.reduceLT, Int.reduceLE, Nat.reduceLT, fenc_nol, cfl, cfo, decide_eq_true (show (op : Int) ≤ 15 by omega)]
            refine idxL_intro (by omega) (c := t.enc) ht0 ?_
            simp only [am, amo, amc, Nat.reduceAdd, Nat.reduceEqDiff, encs_length, List.length_map, decide_true, decide_false, Tree.rec_, Nd.rec_, Word.rec_, Got.rec_, Tree.fl, tree_tk3, Int.reduceEq, Int.reduceLT, Int.reduceLE, Nat.reduceLT, fenc_nol, cfl, cfo]
            by_cases h97 : t.tok.kind = 97
            · simp only [h97, if_true, opF] at hO
              simp only [am, amo, amc, Nat.reduceAdd, Nat.reduceEqDiff, encs_length, List.length_map, decide_true, decide_false, Tree.rec_, Nd.rec_, Word.rec_, Got.rec_, Tree.fl, tree_tk3, Int.reduceEq, Int.reduceLT, Int.reduceLE, Nat.reduceLT, fenc_nol, cfl, cfo, decide_eq_true h97]
              refine idxL_intro (by omega) (c := t.enc) ht0 ?_
              simp only [am, amo, amc, Nat.reduceAdd, Nat.reduceEqDiff, encs_length, List.length_map, decide_true, decide_false, Tree.rec_, Nd.rec_, Word.rec_, Got.rec_, Tree.fl, tree_tk3, Int.reduceEq, Int.reduceLT, Int.reduceLE, Nat.reduceLT, fenc_nol, cfl, cfo]
              refine CallD.intro (Word12_calls op σ) ?_
              simp only [am, amo, amc, Nat.reduceAdd, Nat.reduceEqDiff, encs_length, List.length_map, decide_true, decide_false, Tree.rec_, Nd.rec_, Word.rec_, Got.rec_, Tree.fl, tree_tk3, Int.reduceEq, Int.reduceLT, Int.reduceLE, Nat.reduceLT, fenc_nol, cfl, cfo]
              by_cases hw : t.tok.text = (formOf op).1
              · rw [if_pos hw] at hO
                simp only [am, amo, amc, Nat.reduceAdd, Nat.reduceEqDiff, encs_length, List.length_map, decide_true, decide_false, Tree.rec_, Nd.rec_, Word.rec_, Got.rec_, Tree.fl, tree_tk3, Int.reduceEq, Int.reduceLT, Int.reduceLE, Nat.reduceLT, fenc_nol, cfl, cfo, decide_eq_true hw, wi]
                exact again _ _ op (by rw [if_pos h97]; exact hO) (by simp [invO, List.replicate, am, wi]) (by simp [invO, LR, Cmd.enc, Cmd.encP, Nd.zero, am])
              · rw [if_neg hw] at hO
                simp only [am, amo, amc, Nat.reduceAdd, Nat.reduceEqDiff, encs_length, List.length_map, decide_true, decide_false, Tree.rec_, Nd.rec_, Word.rec_, Got.rec_, Tree.fl, tree_tk3, Int.reduceEq, Int.reduceLT, Int.reduceLE, Nat.reduceLT, fenc_nol, cfl, cfo, decide_eq_false hw, wi]
                exact again _ _ r (by rw [if_pos h97]; exact hO) (by simp [invO, List.replicate, am]) (by simp [invO, LR, Cmd.enc, Cmd.encP, Nd.zero, am])
            · rw [if_neg h97] at hO
              simp only [am, amo, amc, Nat.reduceAdd, Nat.reduceEqDiff, encs_length, List.length_map, decide_true, decide_false, Tree.rec_, Nd.rec_, Word.rec_, Got.rec_, Tree.fl, tree_tk3, Int.reduceEq, Int.reduceLT, Int.reduceLE, Nat.reduceLT, fenc_nol, cfl, cfo, decide_eq_false h97, wi]
              exact again _ _ r (by rw [if_neg h97]; exact hO) (by simp [invO, List.replicate, am]) (by simp [invO, LR, Cmd.enc, Cmd.encP, Nd.zero, am])
          · obtain rfl : n = 0 := by omega
            have hO : r = O := by simpa [opF] using hO
            subst hO
            simp only [am, amo, amc, Nat.reduceAdd, Nat.reduceEqDiff, encs_length, List.length_map, decide_true, decide_false, Tree.rec_, Nd.rec_, Word.rec_, Got.rec_, Tree.fl, tree_tk3, Int.reduceEq, Int.reduceLT, Int.reduceLE, Nat.reduceLT, fenc_nol, cfl, cfo, decide_eq_false (show ¬ (op : Int) ≤ 15 by omega)]
            by_cases hr0 : r = 0
            · rw [if_pos hr0] at hR
              simp only [am, amo, amc, Nat.reduceAdd, Nat.reduceEqDiff, encs_length, List.length_map, decide_true, decide_false, Tree.rec_, Nd.rec_, Word.rec_, Got.rec_, Tree.fl, tree_tk3, Int.reduceEq, Int.reduceLT, Int.reduceLE, Nat.reduceLT, fenc_nol, cfl, cfo, decide_eq_true hr0, zero17]
              refine retK_intro rfl (Store.sub_refl _) ⟨?_, rfl⟩
              rw [← hR]; rfl
            · rw [if_neg hr0] at hR
              simp only [am, amo, amc, Nat.reduceAdd, Nat.reduceEqDiff, encs_length, List.length_map, decide_true, decide_false, Tree.rec_, Nd.rec_, Word.rec_, Got.rec_, Tree.fl, tree_tk3, Int.reduceEq, Int.reduceLT, Int.reduceLE, Nat.reduceLT, fenc_nol, cfl, cfo, decide_eq_false hr0]
              refine (letters_calls r σ).mono ?_
              rintro v σ ⟨rfl, rfl⟩
              generalize hks : (formOf r).2 = ks at hR
              have hkl : ks.length ≤ 3 := by rw [← hks]; exact form_len r
              generalize hX : partsR L s.length ks { Cmd.zero with op := r, pos := t.tok.pos } 1 = X at hR
              refine vc_loop (fun p : PaI L s.length ks X => invA s L ks p.1.2.1 p.1.2.2 p.1.1 σ) (fun p => ks.length - p.1.1) ?_ ?_
              · refine Upd.enter ⟨(0, 1, { Cmd.zero with op := r, pos := t.tok.pos }), hX, by simp⟩ ?_ ?_ OLe.rfl
                · simp [invA, List.replicate, am]
                · simp [invA, LR, am]
              · rintro ⟨⟨i, a, c⟩, hX, hi⟩
                simp only at hX hi
                simp only [invA, LR, List.replicate, am]
                have wi : IntKind.i64.wrap ((i : Int) + 1) = ((i + 1 : Nat) : Int) := by rw [wrap_i64 (by omega) (by omega)]; simp
                by_cases hlt : i < ks.length
                · simp only [am, amo, amc, Nat.reduceAdd, Nat.reduceEqDiff, encs_length, List.length_map, decide_true, decide_false, Tree.rec_, Nd.rec_, Word.rec_, Got.rec_, Tree.fl, tree_tk3, Int.reduceEq, Int.reduceLT, Int.reduceLE, Nat.reduceLT, fenc_nol, cfl, cfo, decide_eq_true (show (i : Int) < ks.length by omega)]
                  refine idxSL_intro (by omega) (c := ks[i]) (by simp) ?_
                  simp only [am, amo, amc, Nat.reduceAdd, Nat.reduceEqDiff, encs_length, List.length_map, decide_true, decide_false, Tree.rec_, Nd.rec_, Word.rec_, Got.rec_, Tree.fl, tree_tk3, Int.reduceEq, Int.reduceLT, Int.reduceLE, Nat.reduceLT, fenc_nol, cfl, cfo]
                  refine CallD.intro (part12_calls ks[i] c L a s.length σ hm) ?_
                  obtain ⟨a', ha', _⟩ := partR_next ks[i] c L a s.length
                  rw [List.drop_eq_getElem_cons hlt] at hX
                  simp only [partsR] at hX
                  rw [ha'] at hX
                  rw [ha']
                  generalize partR ks[i] c L (a : Nat) s.length = Y at hX ha' ⊢
                  simp only [am, amo, amc, Nat.reduceAdd, Nat.reduceEqDiff, encs_length, List.length_map, decide_true, decide_false, Tree.rec_, Nd.rec_, Word.rec_, Got.rec_, Tree.fl, tree_tk3, Int.reduceEq, Int.reduceLT, Int.reduceLE, Nat.reduceLT, fenc_nol, cfl, cfo]
                  by_cases hbad : 0 ≤ Y.2.2
                  · rw [if_pos hbad] at hX
                    simp only [am, amo, amc, Nat.reduceAdd, Nat.reduceEqDiff, encs_length, List.length_map, decide_true, decide_false, Tree.rec_, Nd.rec_, Word.rec_, Got.rec_, Tree.fl, tree_tk3, Int.reduceEq, Int.reduceLT, Int.reduceLE, Nat.reduceLT, fenc_nol, cfl, cfo, decide_eq_true hbad, zero17]
                    rw [← hX, if_pos hbad] at hR
                    refine retK_intro rfl (Store.sub_refl _) ⟨?_, rfl⟩
                    rw [← hR]; rfl
                  · rw [if_neg hbad] at hX
                    simp only [am, amo, amc, Nat.reduceAdd, Nat.reduceEqDiff, encs_length, List.length_map, decide_true, decide_false, Tree.rec_, Nd.rec_, Word.rec_, Got.rec_, Tree.fl, tree_tk3, Int.reduceEq, Int.reduceLT, Int.reduceLE, Nat.reduceLT, fenc_nol, cfl, cfo, decide_eq_false hbad, wi]
                    exact Upd.againD (I := fun p : PaI L s.length ks X => invA s L ks p.1.2.1 p.1.2.2 p.1.1 σ) (μ := fun p => ks.length - p.1.1) ⟨(i + 1, a', Y.1), hX, by simp only; omega⟩ (by simp only; omega) (by simp [invA, List.replicate, am, wi]) (by simp [invA, LR, am, over_c]) OLe.rfl (by simp [invA, LR, List.replicate, loL, V.lo]) (by simp [invA, LR, zero17, Cmd.enc, Cmd.encP, Nd.enc_eq, loLL, loL, V.lo])
                · obtain rfl : i = ks.length := by omega
                  rw [List.drop_length] at hX
                  simp only [partsR] at hX
                  rw [← hX] at hR
                  simp only [am, amo, amc, Nat.reduceAdd, Nat.reduceEqDiff, encs_length, List.length_map, decide_true, decide_false, Tree.rec_, Nd.rec_, Word.rec_, Got.rec_, Tree.fl, tree_tk3, Int.reduceEq, Int.reduceLT, Int.reduceLE, Nat.reduceLT, fenc_nol, cfl, cfo, decide_eq_false (show ¬ (ks.length : Int) < ks.length by omega), zero17]
                  have hn1 : ¬ (0 : Int) ≤ -1 := by decide
                  simp only [if_neg hn1] at hR
                  by_cases hend : a < L.length
                  · rw [if_pos (by omega)] at hR
                    simp only [am, amo, amc, Nat.reduceAdd, Nat.reduceEqDiff, encs_length, List.length_map, decide_true, decide_false, Tree.rec_, Nd.rec_, Word.rec_, Got.rec_, Tree.fl, tree_tk3, Int.reduceEq, Int.reduceLT, Int.reduceLE, Nat.reduceLT, fenc_nol, cfl, cfo, decide_eq_true (show (a : Int) < L.length by omega)]
                    refine idxL_intro (by omega) (encs_at (List.getElem?_eq_getElem hend)) ?_
                    simp only [am, amo, amc, Nat.reduceAdd, Nat.reduceEqDiff, encs_length, List.length_map, decide_true, decide_false, Tree.rec_, Nd.rec_, Word.rec_, Got.rec_, Tree.fl, tree_tk3, Int.reduceEq, Int.reduceLT, Int.reduceLE, Nat.reduceLT, fenc_nol, cfl, cfo]
                    refine retK_intro rfl (Store.sub_refl _) ⟨?_, rfl⟩
                    rw [← hR]
                    simp [spotOf, hend]; rfl
                  · rw [if_neg (by omega)] at hR
                    simp only [am, amo, amc, Nat.reduceAdd, Nat.reduceEqDiff, encs_length, List.length_map, decide_true, decide_false, Tree.rec_, Nd.rec_, Word.rec_, Got.rec_, Tree.fl, tree_tk3, Int.reduceEq, Int.reduceLT, Int.reduceLE, Nat.reduceLT, fenc_nol, cfl, cfo, decide_eq_false (show ¬ (a : Int) < L.length by omega)]
                    refine retK_intro rfl (Store.sub_refl _) ⟨?_, rfl⟩
                    rw [← hR]; rfl
end Go.Proofs.Tryd

namespace Go.Proofs.Tryd
open Go.Am
set_option maxRecDepth 4000
set_option maxHeartbeats 4000000
def ac38 : AC := .seq (.reg [⟨(some 1), .box 5 (.s 0), none⟩, ⟨(some 2), .mv (.c (.str [])), none⟩])
 (.seq (.seq (.reg [xf 0 3 1, xo 4 3])
 (.block 0 (.seq (.seq (.reg [xB .eql 6 4 1, xm 5 6])
 (.cond (.s 5) (.skip)
 (.reg [xB .eql 7 4 2, xm 5 7])))
 (.cond (.s 5) (.seq (.reg [xf 2 8 1, xo 9 8, xm 2 9])
 (.ret))
 (.seq (.reg [xB .eql 11 4 3, xm 10 11])
 (.cond (.s 10) (.seq (.reg [xl 5 12 1, xc 73 13 [.s 12], ⟨(some 14), .cat (.c (.str [123])) (.s 13), none⟩, ⟨(some 15), .cat (.s 14) (.c (.str [125])), none⟩, xm 2 15])
 (.ret))
 (.seq (.reg [xB .eql 17 4 4, xm 16 17])
 (.cond (.s 16) (.seq (.reg [xl 5 18 1, xc 74 19 [.s 18], ⟨(some 20), .cat (.c (.str [40])) (.s 19), none⟩, ⟨(some 21), .cat (.s 20) (.c (.str [41])), none⟩, xm 2 21])
 (.ret))
 (.seq (.reg [xB .eql 23 4 5, xm 22 23])
 (.cond (.s 22) (.seq (.reg [xl 5 24 1, xc 74 25 [.s 24], ⟨(some 26), .cat (.c (.str [91])) (.s 25), none⟩, ⟨(some 27), .cat (.s 26) (.c (.str [93])), none⟩, xm 2 27])
 (.ret))
 (.seq (.reg [xB .eql 29 4 6, xm 28 29])
 (.cond (.s 28) (.seq (.draw [(xf 2 30 1, []), (xo 31 30, [1]), (⟨(some 32), .cat (.s 31) (.c (.str [58, 123])), none⟩, []), (xl 5 33 1, []), (xc 73 34 [.s 33], []), (⟨(some 35), .cat (.s 32) (.s 34), none⟩, []), (⟨(some 36), .cat (.s 35) (.c (.str [125])), none⟩, []), (xm 2 36, [])])
 (.ret))
 (.seq (.reg [xB .eql 38 4 7, xm 37 38])
 (.cond (.s 37) (.seq (.reg [xl 5 39 1, xc 75 40 [.s 39], ⟨(some 41), .cat (.c (.str [35])) (.s 40), none⟩, xm 2 41])
 (.ret))
 (.seq (.reg [xB .eql 43 4 8, xm 42 43])
 (.cond (.s 42) (.seq (.reg [xl 5 44 1, xc 74 45 [.s 44], ⟨(some 46), .cat (.c (.str [43, 40])) (.s 45), none⟩, ⟨(some 47), .cat (.s 46) (.c (.str [41])), none⟩, xm 2 47])
 (.ret))
 (.seq (.reg [xB .eql 49 4 9, xm 48 49])
 (.cond (.s 48) (.seq (.reg [xl 5 50 1, xc 74 51 [.s 50], ⟨(some 52), .cat (.c (.str [38, 40])) (.s 51), none⟩, ⟨(some 53), .cat (.s 52) (.c (.str [41])), none⟩, xm 2 53])
 (.ret))
 (.seq (.reg [xB .eql 55 4 10, xm 54 55])
 (.cond (.s 54) (.seq (.reg [xl 5 56 1, xc 76 57 [.s 56], xm 2 57])
 (.ret))
 (.seq (.reg [xB .eql 59 4 11, xm 58 59])
 (.cond (.s 58) (.seq (.draw [(xf 2 60 1, []), (xo 61 60, [1]), (⟨(some 62), .cat (.s 61) (.c (.str [61])), none⟩, []), (xl 5 63 1, []), (xc 75 64 [.s 63], []), (⟨(some 65), .cat (.s 62) (.s 64), none⟩, []), (xm 2 65, [])])
 (.ret))
 (.skip)))))))))))))))))))))))
 (.seq (.reg [⟨(some 2), .mv (.c (.str [])), none⟩])
 (.ret)))
theorem fn38 : IsFn prog 38 ac38 [.tmp 2] 66 := ⟨f38, ⟨[], []⟩, func38, by kernel_rfl, by kernel_rfl, by kernel_rfl, by kernel_rfl⟩
def ac73 : AC := .seq (.reg [⟨(some 1), .boxO 5 (.s 0), none⟩, ⟨(some 2), .mv (.c (.str [])), none⟩])
 (.seq (.reg [xf 3 3 1, xo 4 3, xL 5 4, ⟨(some 6), .mkfn (.func 105) [] [(.s 1)], none⟩, xc 104 7 [.s 5, .s 6], xm 2 7])
 (.ret))
theorem fn73 : IsFn prog 73 ac73 [.tmp 2] 8 := ⟨f73, ⟨[1], []⟩, func73, by kernel_rfl, by kernel_rfl, by kernel_rfl, by kernel_rfl⟩
def ac74 : AC := .seq (.reg [⟨(some 1), .boxO 5 (.s 0), none⟩, ⟨(some 2), .mv (.c (.str [])), none⟩])
 (.seq (.reg [xf 4 3 1, xo 4 3, xL 5 4, ⟨(some 6), .mkfn (.func 106) [] [(.s 1)], none⟩, xc 104 7 [.s 5, .s 6], xm 2 7])
 (.ret))
theorem fn74 : IsFn prog 74 ac74 [.tmp 2] 8 := ⟨f74, ⟨[1], []⟩, func74, by kernel_rfl, by kernel_rfl, by kernel_rfl, by kernel_rfl⟩
def ac75 : AC := .seq (.reg [⟨(some 1), .box 5 (.s 0), none⟩, ⟨(some 2), .mv (.c (.str [])), none⟩])
 (.seq (.seq (.reg [xf 4 3 1, xo 4 3, xL 5 4, xB .eql 6 5 0])
 (.cond (.s 6) (.seq (.reg [⟨(some 2), .mv (.c (.str [])), none⟩])
 (.ret))
 (.skip)))
 (.seq (.reg [xf 4 7 1, xo 8 7, ⟨(some 9), .idxA 5 (.s 8) (.c (.int .i64 0)), none⟩, xl 5 10 9, xc 38 11 [.s 10], xm 2 11])
 (.ret)))
theorem fn75 : IsFn prog 75 ac75 [.tmp 2] 12 := ⟨f75, ⟨[], []⟩, func75, by kernel_rfl, by kernel_rfl, by kernel_rfl, by kernel_rfl⟩
def ac76 : AC := .seq (.reg [⟨(some 1), .box 5 (.s 0), none⟩, ⟨(some 2), .mv (.c (.str [])), none⟩])
 (.seq (.reg [xl 5 4 1, xc 74 5 [.s 4], ⟨(some 6), .cat (.c (.str [91])) (.s 5), none⟩, xm 3 6])
 (.seq (.seq (.reg [xf 3 7 1, xo 8 7, xL 9 8, xB .gtr 10 9 0])
 (.cond (.s 10) (.reg [xm 11 3, xl 5 12 1, xc 73 13 [.s 12], ⟨(some 14), .cat (.c (.str [124])) (.s 13), none⟩, ⟨(some 15), .cat (.s 11) (.s 14), none⟩, xm 3 15])
 (.skip)))
 (.seq (.reg [xm 16 3, ⟨(some 17), .cat (.s 16) (.c (.str [93])), none⟩, xm 2 17])
 (.ret))))
theorem fn76 : IsFn prog 76 ac76 [.tmp 2] 18 := ⟨f76, ⟨[], []⟩, func76, by kernel_rfl, by kernel_rfl, by kernel_rfl, by kernel_rfl⟩
def ac104 : AC := .seq (.reg [⟨(some 4), .mv (.c (.str [])), none⟩])
 (.seq (.reg [⟨(some 5), .mv (.c (.sl .full 1 [])), none⟩])
 (.seq (.seq (.reg [xm 7 0, xi 8 0])
 (.block 0 (.loop (.seq (.reg [xb .lss 9 8 7])
 (.seq (.cond (.s 9) (.skip)
 (.exit 0))
 (.seq (.block 1 (.seq (.reg [xm 10 8, xm 6 10])
 (.seq (.seq (.reg [xm 11 6, xB .gtr 12 11 0])
 (.cond (.s 12) (.reg [xm 13 5, ⟨(some 14), .bslice 1 [(.c (.int .u8 44))], none⟩, xa 1 15 13 14, xm 5 15])
 (.skip)))
 (.reg [xm 16 5, xm 17 1, xm 18 6, ⟨(some 19), .callv (.s 17) [(.s 18)], none⟩, ⟨(some 20), .appS (.s 16) (.s 19), none⟩, xm 5 20]))))
 (.reg [xB .add 21 8 1, xm 8 21])))))))
 (.seq (.reg [xm 22 5, ⟨(some 23), .cvBS (.s 22), none⟩, xm 4 23])
 (.ret))))
theorem fn104 : IsFn prog 104 ac104 [.tmp 4] 24 := ⟨f104, ⟨[], []⟩, func104, by kernel_rfl, by kernel_rfl, by kernel_rfl, by kernel_rfl⟩
def ac105 : AC := .seq (.reg [⟨(some 3), .mv (.c (.str [])), none⟩])
 (.seq (.reg [xf 3 4 1, xo 5 4, xm 6 0, xA 2 7 5 6, xf 0 8 7, xo 9 8, xm 3 9])
 (.ret))
theorem fn105 : IsFn prog 105 ac105 [.tmp 3] 10 := ⟨f105, ⟨[], []⟩, func105, by kernel_rfl, by kernel_rfl, by kernel_rfl, by kernel_rfl⟩
def ac106 : AC := .seq (.reg [⟨(some 3), .mv (.c (.str [])), none⟩])
 (.seq (.reg [xf 4 4 1, xo 5 4, xm 6 0, xA 5 7 5 6, xl 5 8 7, xc 38 9 [.s 8], xm 3 9])
 (.ret))
theorem fn106 : IsFn prog 106 ac106 [.tmp 3] 10 := ⟨f106, ⟨[], []⟩, func106, by kernel_rfl, by kernel_rfl, by kernel_rfl, by kernel_rfl⟩
def inv77 (n : Nat) (g : FuncId) (cap : List V) (f : Nat → List UInt8) (σ : Store) (i τ : Nat) : St :=
  ⟨[.int .i64 (n : Nat), .fn (.func g) [] cap, .any, .any, .any, .sl (.tk τ) 1 (encB (joinC ((List.range i).map f))), .any, .int .i64 (n : Nat), .int .i64 (i : Nat)] ++ List.replicate 15 .any, [], σ.setTip τ (joinC ((List.range i).map f)).length⟩
theorem range_snoc (f : Nat → List UInt8) (i : Nat) : joinC ((List.range (i + 1)).map f) = joinC ((List.range i).map f) ++ (if 0 < i then [44] else []) ++ f i := by
  rw [List.range_succ, List.map_append, List.map_singleton, joinC_snoc]; simp
theorem range_mono (f : Nat → List UInt8) {i n : Nat} (h : i ≤ n) : (joinC ((List.range i).map f)).length ≤ (joinC ((List.range n).map f)).length := by
  induction n with
  | zero => have : i = 0 := by omega
            rw [this]; exact Nat.le_refl _
  | succ n ih =>
    by_cases hi : i = n + 1
    · rw [hi]; exact Nat.le_refl _
    · have := ih (by omega)
      rw [range_snoc]; simp only [List.length_append]; omega
theorem commas_calls {n : Nat} {g : FuncId} {cap : List V} {f : Nat → List UInt8} {σ : Store} (hnol : nolL cap = true) (hn : n ≤ big) (hb : (joinC ((List.range n).map f)).length ≤ big)
    (h : ∀ i, i < n → ∀ σ1 : Store, σ1.box = σ.box → PCalls prog g (.int .i64 (i : Nat) :: cap) σ1 fun v σ' => v = .str (f i) ∧ σ' = σ1) :
    PCalls prog 104 [.int .i64 (n : Nat), .fn (.func g) [] cap] σ fun v σ' => v = .str (joinC ((List.range n).map f)) ∧ σ' = σ := by
  refine fn104.calls ?_
  simp only [slots, ac104, am, amo, amc, ams, Nat.reduceAdd, Nat.reduceEqDiff, decide_true, decide_false, Tree.rec_, Nd.rec_, Word.rec_, Got.rec_]
  refine vc_loop (fun p : { p : Nat × Nat // σ.tip p.2 = none ∧ p.1 ≤ n } => inv77 n g cap f σ p.1.1 p.1.2) (fun p => n - p.1.1) ?_ ?_
  · refine Upd.tokEnter 0 fun τ hτ => ⟨⟨(0, τ), hτ, by simp⟩, ?_, rfl, rfl⟩
    simp [inv77, List.replicate, lto, joinC, encB]
  · rintro ⟨⟨i, τ⟩, hτ, hi⟩
    simp only at hτ hi
    simp only [inv77, List.replicate, am]
    refine vcIf_split ?_ ?_
    · intro hlt
      have hlt : i < n := by simpa using hlt
      have hs := range_snoc f i
      have hm := range_mono f (i := i + 1) (n := n) (by omega)
      simp only [big] at hn hb
      rw [hs] at hm
      simp only [List.length_append] at hm
      have wi : IntKind.i64.wrap ((i : Int) + 1) = (i : Int) + 1 := wrap_i64 (by omega) (by omega)
      simp only [am, amo, amc, Nat.reduceAdd, Nat.reduceEqDiff, encs_length, List.length_map, decide_true, decide_false, Tree.rec_, Nd.rec_, Word.rec_, Got.rec_]
      by_cases h0 : 0 < i
      case' pos =>
        rw [if_pos h0] at hs hm
        simp only [am, amo, amc, Nat.reduceAdd, Nat.reduceEqDiff, encs_length, List.length_map, decide_true, decide_false, Tree.rec_, Nd.rec_, Word.rec_, Got.rec_, decide_eq_true (show (0 : Int) < i by omega)]
        refine app_tk (by simp [encB_length, big]; simp at hm; omega) (by rw [encB_length, setTip_tip_same]) ?_
        simp only [am, amo, amc, Nat.reduceAdd, Nat.reduceEqDiff, encs_length, List.length_map, decide_true, decide_false, Tree.rec_, Nd.rec_, Word.rec_, Got.rec_, setTip_setTip]
        rw [show encB (joinC ((List.range i).map f)) ++ [[.int .u8 44]] = encB (joinC ((List.range i).map f) ++ [44]) by simp [encB], show (encB (joinC ((List.range i).map f))).length + 1 = (joinC ((List.range i).map f) ++ [44]).length by simp [encB]]
      case' neg =>
        rw [if_neg h0, List.append_nil] at hs
        rw [if_neg h0] at hm
        simp only [am, amo, amc, Nat.reduceAdd, Nat.reduceEqDiff, encs_length, List.length_map, decide_true, decide_false, Tree.rec_, Nd.rec_, Word.rec_, Got.rec_, decide_eq_false (show ¬ (0 : Int) < i by omega)]
      all_goals
        refine ⟨hnol, ?_⟩
        refine (h i hlt (σ.setTip τ _) rfl).mono ?_
        rintro v σ' ⟨rfl, rfl⟩
        simp only [am, amo, amc, Nat.reduceAdd, Nat.reduceEqDiff, encs_length, List.length_map, decide_true, decide_false, Tree.rec_, Nd.rec_, Word.rec_, Got.rec_]
        refine ⟨_, rfl, ?_⟩
        refine app_tk (by simp [encB_length, big]; simp at hm; omega) (by rw [encB_length, setTip_tip_same]) ?_
        simp only [am, amo, amc, Nat.reduceAdd, Nat.reduceEqDiff, encs_length, List.length_map, decide_true, decide_false, Tree.rec_, Nd.rec_, Word.rec_, Got.rec_, setTip_setTip, wi]
        rw [← encB_append, encB_length, encB_length, ← List.length_append, ← hs]
        exact Upd.again ⟨(i + 1, τ), hτ, hlt⟩ (by simp; omega) (by simp [am, List.replicate]) LLLe.rfl OLe.rfl
    · intro hlt
      have hlt : i = n := by simp at hlt; omega
      subst hlt
      simp only [am, amo, amc, Nat.reduceAdd, Nat.reduceEqDiff, encs_length, List.length_map, decide_true, decide_false, Tree.rec_, Nd.rec_, Word.rec_, Got.rec_]
      refine ⟨_, _, rfl, ?_⟩
      refine retK_intro rfl (sub_tip hτ) ⟨?_, rfl⟩
      simp [V.erase]
theorem names1_text {n : Nd} {i q : Nat} {σ : Store} (hi : i < n.names.length) (hq : σ.box q = some n.enc) : PCalls prog 105 [.int .i64 (i : Nat), .ptr (.out q) 0] σ fun v σ' => v = .str (n.names[i].text) ∧ σ' = σ := by
  refine fn105.calls ?_
  simp only [slots, ac105, am, amo, amc, ams, Nat.reduceAdd, Nat.reduceEqDiff, decide_true, decide_false, Tree.rec_, Nd.rec_, Word.rec_, Got.rec_]
  simp only [am, amo, amc, Nat.reduceAdd, Nat.reduceEqDiff, encs_length, List.length_map, decide_true, decide_false, Tree.rec_, Nd.rec_, Word.rec_, Got.rec_, hq, Nd.fl]
  refine idxL_intro (by omega) (wencs_at (show n.names[i]? = some n.names[i] by simp [hi])) ?_
  simp only [am, amo, amc, Nat.reduceAdd, Nat.reduceEqDiff, encs_length, List.length_map, decide_true, decide_false, Tree.rec_, Nd.rec_, Word.rec_, Got.rec_, Word.enc]
  refine retK_intro rfl (Store.sub_refl _) ⟨?_, rfl⟩
  simp [V.erase, eraseL]
theorem kids1_text {n : Nd} {i q : Nat} {σ : Store} (hi : i < n.kids.length) (hq : σ.box q = some n.enc) (ih : ∀ m ∈ n.kids, ∀ σ, PCalls prog 38 [.agg m.enc] σ fun v σ' => v = .str m.txt ∧ σ' = σ) :
    PCalls prog 106 [.int .i64 (i : Nat), .ptr (.out q) 0] σ fun v σ' => v = .str (n.kids[i].txt) ∧ σ' = σ := by
  refine fn106.calls ?_
  simp only [slots, ac106, am, amo, amc, ams, Nat.reduceAdd, Nat.reduceEqDiff, decide_true, decide_false, Tree.rec_, Nd.rec_, Word.rec_, Got.rec_]
  simp only [am, amo, amc, Nat.reduceAdd, Nat.reduceEqDiff, encs_length, List.length_map, decide_true, decide_false, Tree.rec_, Nd.rec_, Word.rec_, Got.rec_, hq, Nd.fl]
  refine idxL_intro (by omega) (nencs_at (show n.kids[i]? = some n.kids[i] by simp [hi])) ?_
  simp only [am, amo, amc, Nat.reduceAdd, Nat.reduceEqDiff, encs_length, List.length_map, decide_true, decide_false, Tree.rec_, Nd.rec_, Word.rec_, Got.rec_]
  refine (ih n.kids[i] (List.getElem_mem hi) σ).mono ?_
  rintro v σ ⟨rfl, rfl⟩
  simp only [am, amo, amc, Nat.reduceAdd, Nat.reduceEqDiff, encs_length, List.length_map, decide_true, decide_false, Tree.rec_, Nd.rec_, Word.rec_, Got.rec_]
  refine retK_intro rfl (Store.sub_refl _) ⟨?_, rfl⟩
  simp [V.erase, eraseL]
theorem range_map {α : Type} (l : List α) (f : α → List UInt8) (d : List UInt8) : (List.range l.length).map (fun i => if h : i < l.length then f l[i] else d) = l.map f := by
  apply List.ext_getElem?
  intro i
  by_cases h : i < l.length <;> simp [h]
theorem names_text {n : Nd} {σ : Store} (hw : n.wt ≤ big) : PCalls prog 73 [.agg n.enc] σ fun v σ' => v = .str (wtext n.names) ∧ σ' = σ := by
  have h1 := wtext_len n.names
  have h2 : n.names.length ≤ wsum n.names := by
    unfold wsum; generalize n.names = l
    induction l with
    | nil => simp
    | cons w ws ih => simp only [List.map_cons, List.sum_cons, List.length_cons]; omega
  have h3 : wsum n.names ≤ n.wt := by cases n; simp only [Nd.wt, Nd.names]; omega
  have e : joinC ((List.range n.names.length).map (fun i => if h : i < n.names.length then n.names[i].text else [])) = wtext n.names := by
    rw [range_map n.names (fun w => w.text) []]; rfl
  refine fn73.calls ?_
  simp only [slots, ac73, am, amo, amc, ams, Nat.reduceAdd, Nat.reduceEqDiff, decide_true, decide_false, Tree.rec_, Nd.rec_, Word.rec_, Got.rec_]
  refine kO_intro fun q hq => ?_
  simp only [am, amo, amc, Nat.reduceAdd, Nat.reduceEqDiff, encs_length, List.length_map, decide_true, decide_false, Tree.rec_, Nd.rec_, Word.rec_, Got.rec_, Nd.fl]
  refine (commas_calls (f := fun i => if h : i < n.names.length then n.names[i].text else []) rfl (by omega) (by rw [e]; omega) (fun i hi σ1 h1 => ?_)).mono ?_
  · rw [dif_pos hi]
    exact names1_text hi (by rw [h1]; exact Store.set_same _ _ _)
  rintro v σ' ⟨rfl, rfl⟩
  simp only [am, amo, amc, Nat.reduceAdd, Nat.reduceEqDiff, encs_length, List.length_map, decide_true, decide_false, Tree.rec_, Nd.rec_, Word.rec_, Got.rec_]
  refine retK_intro rfl (sub_set hq) ⟨?_, rfl⟩
  rw [e]; simp [V.erase]
theorem kids_text {n : Nd} {σ : Store} (hw : n.wt ≤ big) (ih : ∀ m ∈ n.kids, ∀ σ, PCalls prog 38 [.agg m.enc] σ fun v σ' => v = .str m.txt ∧ σ' = σ) : PCalls prog 74 [.agg n.enc] σ fun v σ' => v = .str (joinC (txts n.kids)) ∧ σ' = σ := by
  have h1 := ktext_len n.kids (txt_lens n.kids)
  have h2 : n.kids.length ≤ wts n.kids := by
    rw [wts_map]; generalize n.kids = l
    induction l with
    | nil => simp
    | cons w ws ih => simp only [List.map_cons, List.sum_cons, List.length_cons]; omega
  have h3 : wts n.kids ≤ n.wt := by cases n; simp only [Nd.wt, Nd.kids]; omega
  have e : joinC ((List.range n.kids.length).map (fun i => if h : i < n.kids.length then n.kids[i].txt else [])) = joinC (txts n.kids) := by
    rw [range_map n.kids (fun w => w.txt) [], txts_map]
  refine fn74.calls ?_
  simp only [slots, ac74, am, amo, amc, ams, Nat.reduceAdd, Nat.reduceEqDiff, decide_true, decide_false, Tree.rec_, Nd.rec_, Word.rec_, Got.rec_]
  refine kO_intro fun q hq => ?_
  simp only [am, amo, amc, Nat.reduceAdd, Nat.reduceEqDiff, encs_length, List.length_map, decide_true, decide_false, Tree.rec_, Nd.rec_, Word.rec_, Got.rec_, Nd.fl]
  refine (commas_calls (f := fun i => if h : i < n.kids.length then n.kids[i].txt else []) rfl (by omega) (by rw [e]; omega) (fun i hi σ1 h1 => ?_)).mono ?_
  · rw [dif_pos hi]
    exact kids1_text hi (by rw [h1]; exact Store.set_same _ _ _) ih
  rintro v σ' ⟨rfl, rfl⟩
  simp only [am, amo, amc, Nat.reduceAdd, Nat.reduceEqDiff, encs_length, List.length_map, decide_true, decide_false, Tree.rec_, Nd.rec_, Word.rec_, Got.rec_]
  refine retK_intro rfl (sub_set hq) ⟨?_, rfl⟩
  rw [e]; simp [V.erase]
theorem first_text {n : Nd} {σ : Store} (ih : ∀ m ∈ n.kids, ∀ σ, PCalls prog 38 [.agg m.enc] σ fun v σ' => v = .str m.txt ∧ σ' = σ) : PCalls prog 75 [.agg n.enc] σ fun v σ' => v = .str (headT (txts n.kids)) ∧ σ' = σ := by
  refine fn75.calls ?_
  simp only [slots, ac75, am, amo, amc, ams, Nat.reduceAdd, Nat.reduceEqDiff, decide_true, decide_false, Tree.rec_, Nd.rec_, Word.rec_, Got.rec_]
  simp only [am, amo, amc, Nat.reduceAdd, Nat.reduceEqDiff, encs_length, List.length_map, decide_true, decide_false, Tree.rec_, Nd.rec_, Word.rec_, Got.rec_, Nd.fl]
  cases hk : n.kids with
  | nil =>
    simp only [am, amo, amc, Nat.reduceAdd, Nat.reduceEqDiff, encs_length, List.length_map, decide_true, decide_false, Tree.rec_, Nd.rec_, Word.rec_, Got.rec_, List.map_nil, List.length_nil, Int.natCast_zero]
    refine retK_intro rfl (Store.sub_refl _) ⟨?_, rfl⟩
    simp [V.erase, eraseL, headT, txts]
  | cons m ms =>
    simp only [am, amo, amc, Nat.reduceAdd, Nat.reduceEqDiff, encs_length, List.length_map, decide_true, decide_false, Tree.rec_, Nd.rec_, Word.rec_, Got.rec_, decide_eq_false (show ¬ (((m :: ms).length : Nat) : Int) = 0 by simp; omega), Nd.fl, hk]
    refine idxL_intro (by omega) (c := m.enc) (by simp) ?_
    simp only [am, amo, amc, Nat.reduceAdd, Nat.reduceEqDiff, encs_length, List.length_map, decide_true, decide_false, Tree.rec_, Nd.rec_, Word.rec_, Got.rec_]
    refine (ih m (by rw [hk]; simp) σ).mono ?_
    rintro v σ ⟨rfl, rfl⟩
    simp only [am, amo, amc, Nat.reduceAdd, Nat.reduceEqDiff, encs_length, List.length_map, decide_true, decide_false, Tree.rec_, Nd.rec_, Word.rec_, Got.rec_]
    refine retK_intro rfl (Store.sub_refl _) ⟨?_, rfl⟩
    simp [V.erase, eraseL, headT, txts]
theorem row_text {n : Nd} {σ : Store} (hw : n.wt ≤ big) (ih : ∀ m ∈ n.kids, ∀ σ, PCalls prog 38 [.agg m.enc] σ fun v σ' => v = .str m.txt ∧ σ' = σ) :
    PCalls prog 76 [.agg n.enc] σ fun v σ' => v = .str (([91] ++ joinC (txts n.kids)) ++ (if 0 < n.names.length then [124] ++ wtext n.names else []) ++ [93]) ∧ σ' = σ := by
  have h1 := ktext_len n.kids (txt_lens n.kids)
  have h2 := wtext_len n.names
  have h3 : wts n.kids + wsum n.names + 4 ≤ n.wt := by cases n; simp only [Nd.wt, Nd.kids, Nd.names]; omega
  refine fn76.calls ?_
  simp only [slots, ac76, am, amo, amc, ams, Nat.reduceAdd, Nat.reduceEqDiff, decide_true, decide_false, Tree.rec_, Nd.rec_, Word.rec_, Got.rec_]
  refine (kids_text hw ih).mono ?_
  rintro v σ ⟨rfl, rfl⟩
  simp only [am, amo, amc, Nat.reduceAdd, Nat.reduceEqDiff, encs_length, List.length_map, decide_true, decide_false, Tree.rec_, Nd.rec_, Word.rec_, Got.rec_]
  refine ⟨by simp; omega, ?_⟩
  simp only [am, amo, amc, Nat.reduceAdd, Nat.reduceEqDiff, encs_length, List.length_map, decide_true, decide_false, Tree.rec_, Nd.rec_, Word.rec_, Got.rec_, Nd.fl]
  by_cases h0 : 0 < n.names.length
  · simp only [am, amo, amc, Nat.reduceAdd, Nat.reduceEqDiff, encs_length, List.length_map, decide_true, decide_false, Tree.rec_, Nd.rec_, Word.rec_, Got.rec_, decide_eq_true (show (0 : Int) < n.names.length by omega)]
    refine (names_text hw).mono ?_
    rintro v σ ⟨rfl, rfl⟩
    simp only [am, amo, amc, Nat.reduceAdd, Nat.reduceEqDiff, encs_length, List.length_map, decide_true, decide_false, Tree.rec_, Nd.rec_, Word.rec_, Got.rec_, catL_str]
    refine ⟨by simp; omega, by simp; omega, by simp; omega, ?_⟩
    refine retK_intro rfl (Store.sub_refl _) ⟨?_, rfl⟩
    simp [V.erase, eraseL, h0]
  · simp only [am, amo, amc, Nat.reduceAdd, Nat.reduceEqDiff, encs_length, List.length_map, decide_true, decide_false, Tree.rec_, Nd.rec_, Word.rec_, Got.rec_, decide_eq_false (show ¬ (0 : Int) < n.names.length by omega)]
    refine ⟨by simp; omega, ?_⟩
    refine retK_intro rfl (Store.sub_refl _) ⟨?_, rfl⟩
    simp [V.erase, eraseL, h0]
theorem text_calls : ∀ (k : Nat) (n : Nd) (σ : Store), n.wt ≤ k → n.wt ≤ big → PCalls prog 38 [.agg n.enc] σ fun v σ' => v = .str n.txt ∧ σ' = σ := by
  intro k
  induction k with
  | zero => intro n σ h _; cases n; simp only [Nd.wt] at h; omega
  | succ k ihk =>
    intro n σ hk hw
    have ih : ∀ m ∈ n.kids, ∀ σ, PCalls prog 38 [.agg m.enc] σ fun v σ' => v = .str m.txt ∧ σ' = σ := fun m hm σ => by
      have h1 := wt_mem hm
      have h2 : wts n.kids + 4 ≤ n.wt := by cases n; simp only [Nd.wt, Nd.kids]; omega
      exact ihk m σ (by omega) (by omega)
    have h1 := ktext_len n.kids (txt_lens n.kids)
    have h2 := wtext_len n.names
    have h3 : n.text.length + wts n.kids + wsum n.names + 4 ≤ n.wt := by cases n; simp only [Nd.wt, Nd.kids, Nd.names, Nd.text]; omega
    have h4 := head_len n.kids (txt_lens n.kids)
    have e : n.txt = if n.kind = 1 ∨ n.kind = 2 then n.text else if n.kind = 3 then [123] ++ wtext n.names ++ [125] else if n.kind = 4 then [40] ++ joinC (txts n.kids) ++ [41] else if n.kind = 5 then [91] ++ joinC (txts n.kids) ++ [93]
        else if n.kind = 6 then n.text ++ [58, 123] ++ wtext n.names ++ [125] else if n.kind = 7 then [35] ++ headT (txts n.kids) else if n.kind = 8 then [43, 40] ++ joinC (txts n.kids) ++ [41] else if n.kind = 9 then [38, 40] ++ joinC (txts n.kids) ++ [41]
        else if n.kind = 10 then ([91] ++ joinC (txts n.kids)) ++ (if 0 < n.names.length then [124] ++ wtext n.names else []) ++ [93] else if n.kind = 11 then n.text ++ [61] ++ headT (txts n.kids) else [] := by cases n; rw [Nd.txt]; rfl
    rw [e]
    refine fn38.calls ?_
    simp only [slots, ac38, am, amo, amc, ams, Nat.reduceAdd, Nat.reduceEqDiff, decide_true, decide_false, Tree.rec_, Nd.rec_, Word.rec_, Got.rec_]
    simp only [am, amo, amc, Nat.reduceAdd, Nat.reduceEqDiff, encs_length, List.length_map, decide_true, decide_false, Tree.rec_, Nd.rec_, Word.rec_, Got.rec_, Nd.fl]
    by_cases k1 : n.kind = 1
    · simp only [am, amo, amc, Nat.reduceAdd, Nat.reduceEqDiff, encs_length, List.length_map, decide_true, decide_false, Tree.rec_, Nd.rec_, Word.rec_, Got.rec_, decide_eq_true k1, Nd.fl]
      refine retK_intro rfl (Store.sub_refl _) ⟨?_, rfl⟩
      simp [V.erase, eraseL, k1]
    simp only [am, amo, amc, Nat.reduceAdd, Nat.reduceEqDiff, encs_length, List.length_map, decide_true, decide_false, Tree.rec_, Nd.rec_, Word.rec_, Got.rec_, decide_eq_false k1]
    by_cases k2 : n.kind = 2
    · simp only [am, amo, amc, Nat.reduceAdd, Nat.reduceEqDiff, encs_length, List.length_map, decide_true, decide_false, Tree.rec_, Nd.rec_, Word.rec_, Got.rec_, decide_eq_true k2, Nd.fl]
      refine retK_intro rfl (Store.sub_refl _) ⟨?_, rfl⟩
      simp [V.erase, eraseL, k2]
    simp only [am, amo, amc, Nat.reduceAdd, Nat.reduceEqDiff, encs_length, List.length_map, decide_true, decide_false, Tree.rec_, Nd.rec_, Word.rec_, Got.rec_, decide_eq_false k2]
    by_cases k3 : n.kind = 3
    · simp only [am, amo, amc, Nat.reduceAdd, Nat.reduceEqDiff, encs_length, List.length_map, decide_true, decide_false, Tree.rec_, Nd.rec_, Word.rec_, Got.rec_, decide_eq_true k3]
      refine (names_text hw).mono ?_
      rintro v σ ⟨rfl, rfl⟩
      simp only [am, amo, amc, Nat.reduceAdd, Nat.reduceEqDiff, encs_length, List.length_map, decide_true, decide_false, Tree.rec_, Nd.rec_, Word.rec_, Got.rec_]
      refine ⟨by simp; omega, by simp; omega, ?_⟩
      refine retK_intro rfl (Store.sub_refl _) ⟨?_, rfl⟩
      simp [V.erase, eraseL, k3]
    simp only [am, amo, amc, Nat.reduceAdd, Nat.reduceEqDiff, encs_length, List.length_map, decide_true, decide_false, Tree.rec_, Nd.rec_, Word.rec_, Got.rec_, decide_eq_false k3]
    by_cases k4 : n.kind = 4
    · simp only [am, amo, amc, Nat.reduceAdd, Nat.reduceEqDiff, encs_length, List.length_map, decide_true, decide_false, Tree.rec_, Nd.rec_, Word.rec_, Got.rec_, decide_eq_true k4]
      refine (kids_text hw ih).mono ?_
      rintro v σ ⟨rfl, rfl⟩
      simp only [am, amo, amc, Nat.reduceAdd, Nat.reduceEqDiff, encs_length, List.length_map, decide_true, decide_false, Tree.rec_, Nd.rec_, Word.rec_, Got.rec_]
      refine ⟨by simp; omega, by simp; omega, ?_⟩
      refine retK_intro rfl (Store.sub_refl _) ⟨?_, rfl⟩
      simp [V.erase, eraseL, k4]
    simp only [am, amo, amc, Nat.reduceAdd, Nat.reduceEqDiff, encs_length, List.length_map, decide_true, decide_false, Tree.rec_, Nd.rec_, Word.rec_, Got.rec_, decide_eq_false k4]
    by_cases k5 : n.kind = 5
    · simp only [am, amo, amc, Nat.reduceAdd, Nat.reduceEqDiff, encs_length, List.length_map, decide_true, decide_false, Tree.rec_, Nd.rec_, Word.rec_, Got.rec_, decide_eq_true k5]
      refine (kids_text hw ih).mono ?_
      rintro v σ ⟨rfl, rfl⟩
      simp only [am, amo, amc, Nat.reduceAdd, Nat.reduceEqDiff, encs_length, List.length_map, decide_true, decide_false, Tree.rec_, Nd.rec_, Word.rec_, Got.rec_]
      refine ⟨by simp; omega, by simp; omega, ?_⟩
      refine retK_intro rfl (Store.sub_refl _) ⟨?_, rfl⟩
      simp [V.erase, eraseL, k5]
    simp only [am, amo, amc, Nat.reduceAdd, Nat.reduceEqDiff, encs_length, List.length_map, decide_true, decide_false, Tree.rec_, Nd.rec_, Word.rec_, Got.rec_, decide_eq_false k5]
    by_cases k6 : n.kind = 6
    · simp only [am, amo, amc, Nat.reduceAdd, Nat.reduceEqDiff, encs_length, List.length_map, decide_true, decide_false, Tree.rec_, Nd.rec_, Word.rec_, Got.rec_, decide_eq_true k6, Nd.fl]
      refine ⟨by simp; omega, ?_⟩
      refine CallD.intro (names_text hw) ?_
      simp only [am, amo, amc, Nat.reduceAdd, Nat.reduceEqDiff, encs_length, List.length_map, decide_true, decide_false, Tree.rec_, Nd.rec_, Word.rec_, Got.rec_, Nd.fl]
      refine ⟨by simp; omega, by simp; omega, ?_⟩
      refine retK_intro rfl (Store.sub_refl _) ⟨?_, rfl⟩
      simp [V.erase, eraseL, k6]
    simp only [am, amo, amc, Nat.reduceAdd, Nat.reduceEqDiff, encs_length, List.length_map, decide_true, decide_false, Tree.rec_, Nd.rec_, Word.rec_, Got.rec_, decide_eq_false k6]
    by_cases k7 : n.kind = 7
    · simp only [am, amo, amc, Nat.reduceAdd, Nat.reduceEqDiff, encs_length, List.length_map, decide_true, decide_false, Tree.rec_, Nd.rec_, Word.rec_, Got.rec_, decide_eq_true k7]
      refine (first_text ih).mono ?_
      rintro v σ ⟨rfl, rfl⟩
      simp only [am, amo, amc, Nat.reduceAdd, Nat.reduceEqDiff, encs_length, List.length_map, decide_true, decide_false, Tree.rec_, Nd.rec_, Word.rec_, Got.rec_]
      refine ⟨by simp; omega, ?_⟩
      refine retK_intro rfl (Store.sub_refl _) ⟨?_, rfl⟩
      simp [V.erase, eraseL, k7]
    simp only [am, amo, amc, Nat.reduceAdd, Nat.reduceEqDiff, encs_length, List.length_map, decide_true, decide_false, Tree.rec_, Nd.rec_, Word.rec_, Got.rec_, decide_eq_false k7]
    by_cases k8 : n.kind = 8
    · simp only [am, amo, amc, Nat.reduceAdd, Nat.reduceEqDiff, encs_length, List.length_map, decide_true, decide_false, Tree.rec_, Nd.rec_, Word.rec_, Got.rec_, decide_eq_true k8]
      refine (kids_text hw ih).mono ?_
      rintro v σ ⟨rfl, rfl⟩
      simp only [am, amo, amc, Nat.reduceAdd, Nat.reduceEqDiff, encs_length, List.length_map, decide_true, decide_false, Tree.rec_, Nd.rec_, Word.rec_, Got.rec_]
      refine ⟨by simp; omega, by simp; omega, ?_⟩
      refine retK_intro rfl (Store.sub_refl _) ⟨?_, rfl⟩
      simp [V.erase, eraseL, k8]
    simp only [am, amo, amc, Nat.reduceAdd, Nat.reduceEqDiff, encs_length, List.length_map, decide_true, decide_false, Tree.rec_, Nd.rec_, Word.rec_, Got.rec_, decide_eq_false k8]
    by_cases k9 : n.kind = 9
    · simp only [am, amo, amc, Nat.reduceAdd, Nat.reduceEqDiff, encs_length, List.length_map, decide_true, decide_false, Tree.rec_, Nd.rec_, Word.rec_, Got.rec_, decide_eq_true k9]
      refine (kids_text hw ih).mono ?_
      rintro v σ ⟨rfl, rfl⟩
      simp only [am, amo, amc, Nat.reduceAdd, Nat.reduceEqDiff, encs_length, List.length_map, decide_true, decide_false, Tree.rec_, Nd.rec_, Word.rec_, Got.rec_]
      refine ⟨by simp; omega, by simp; omega, ?_⟩
      refine retK_intro rfl (Store.sub_refl _) ⟨?_, rfl⟩
      simp [V.erase, eraseL, k9]
    simp only [am, amo, amc, Nat.reduceAdd, Nat.reduceEqDiff, encs_length, List.length_map, decide_true, decide_false, Tree.rec_, Nd.rec_, Word.rec_, Got.rec_, decide_eq_false k9]
    by_cases k10 : n.kind = 10
    · simp only [am, amo, amc, Nat.reduceAdd, Nat.reduceEqDiff, encs_length, List.length_map, decide_true, decide_false, Tree.rec_, Nd.rec_, Word.rec_, Got.rec_, decide_eq_true k10]
      refine (row_text hw ih).mono ?_
      rintro v σ ⟨rfl, rfl⟩
      simp only [am, amo, amc, Nat.reduceAdd, Nat.reduceEqDiff, encs_length, List.length_map, decide_true, decide_false, Tree.rec_, Nd.rec_, Word.rec_, Got.rec_]
      refine retK_intro rfl (Store.sub_refl _) ⟨?_, rfl⟩
      simp [V.erase, eraseL, k10]
    simp only [am, amo, amc, Nat.reduceAdd, Nat.reduceEqDiff, encs_length, List.length_map, decide_true, decide_false, Tree.rec_, Nd.rec_, Word.rec_, Got.rec_, decide_eq_false k10]
    by_cases k11 : n.kind = 11
    · simp only [am, amo, amc, Nat.reduceAdd, Nat.reduceEqDiff, encs_length, List.length_map, decide_true, decide_false, Tree.rec_, Nd.rec_, Word.rec_, Got.rec_, decide_eq_true k11, Nd.fl]
      refine ⟨by simp; omega, ?_⟩
      refine CallD.intro (first_text ih) ?_
      simp only [am, amo, amc, Nat.reduceAdd, Nat.reduceEqDiff, encs_length, List.length_map, decide_true, decide_false, Tree.rec_, Nd.rec_, Word.rec_, Got.rec_, Nd.fl]
      refine ⟨by simp; omega, ?_⟩
      refine retK_intro rfl (Store.sub_refl _) ⟨?_, rfl⟩
      simp [V.erase, eraseL, k11]
    simp only [am, amo, amc, Nat.reduceAdd, Nat.reduceEqDiff, encs_length, List.length_map, decide_true, decide_false, Tree.rec_, Nd.rec_, Word.rec_, Got.rec_, decide_eq_false k11]
    refine retK_intro rfl (Store.sub_refl _) ⟨?_, rfl⟩
    simp [V.erase, eraseL, k1, k2, k3, k4, k5, k6, k7, k8, k9, k10, k11]
end Go.Proofs.Tryd

namespace Go.Proofs.Tryd
open Go.Am
set_option maxRecDepth 4000
set_option maxHeartbeats 4000000
theorem wt_names (n : Nd) : n.names.length + n.kids.length + 4 ≤ n.wt := by
  have h2 : n.names.length ≤ wsum n.names := by
    unfold wsum; generalize n.names = l
    induction l with
    | nil => simp
    | cons w ws ih => simp only [List.map_cons, List.sum_cons, List.length_cons]; omega
  have h3 : n.kids.length ≤ wts n.kids := by
    rw [wts_map]; generalize n.kids = l
    induction l with
    | nil => simp
    | cons w ws ih => simp only [List.map_cons, List.sum_cons, List.length_cons]; omega
  have h1 : wts n.kids + wsum n.names + 4 ≤ n.wt := by cases n; simp only [Nd.wt, Nd.kids, Nd.names]; omega
  omega
theorem kid_wt {n m : Nd} (hm : m ∈ n.kids) : m.wt + 5 ≤ n.wt := by
  have h1 := wt_mem hm
  have h2 : wts n.kids + 4 ≤ n.wt := by cases n; simp only [Nd.wt, Nd.kids]; omega
  omega
end Go.Proofs.Tryd

namespace Go.Proofs.Tryd
open Go.Am
set_option maxRecDepth 4000
set_option maxHeartbeats 4000000
def ac67 : AC := .seq (.reg [⟨(some 2), .box 5 (.s 0), none⟩, ⟨(some 3), .box 5 (.s 1), none⟩, ⟨(some 4), .mv (.c (.bool false)), none⟩])
 (.seq (.seq (.reg [xf 0 7 2, xo 8 7, xf 0 9 3, xo 10 9, xb .neq 11 8 10, xm 12 11, xh 12 (xf 2 13 2), xh 12 (xo 14 13), xh 12 (xf 2 15 3), xh 12 (xo 16 15), ⟨(some 17), .binS .neq (.s 14) (.s 16), (some (12, false))⟩, ⟨(some 18), .pick (.s 12) (.c (.bool true)) (.s 17), none⟩, xm 19 18, xh 19 (xf 3 20 2), xh 19 (xo 21 20), xh 19 (xL 22 21), xh 19 (xf 3 23 3), xh 19 (xo 24 23), xh 19 (xL 25 24), xh 19 (xb .neq 26 22 25), ⟨(some 27), .pick (.s 19) (.c (.bool true)) (.s 26), none⟩, xm 28 27, xh 28 (xf 4 29 2), xh 28 (xo 30 29), xh 28 (xL 31 30), xh 28 (xf 4 32 3), xh 28 (xo 33 32), xh 28 (xL 34 33), xh 28 (xb .neq 35 31 34), ⟨(some 36), .pick (.s 28) (.c (.bool true)) (.s 35), none⟩])
 (.cond (.s 36) (.seq (.reg [⟨(some 4), .mv (.c (.bool false)), none⟩])
 (.ret))
 (.skip)))
 (.seq (.seq (.reg [xi 5 0])
 (.block 0 (.loop (.seq (.seq (.reg [xm 37 5, xf 3 38 2, xo 39 38, xL 40 39, xb .lss 41 37 40])
 (.cond (.s 41) (.skip)
 (.exit 0)))
 (.seq (.block 1 (.seq (.draw [(xf 3 44 2, []), (xo 45 44, []), (xm 46 5, []), (xA 2 47 45 46, []), (xf 0 48 47, []), (xo 49 48, []), (xf 3 50 3, []), (xo 51 50, []), (xm 52 5, []), (xA 2 53 51 52, []), (xf 0 54 53, []), (xo 55 54, []), (⟨(some 56), .binS .neq (.s 49) (.s 55), none⟩, [])])
 (.cond (.s 56) (.seq (.reg [⟨(some 4), .mv (.c (.bool false)), none⟩])
 (.ret))
 (.skip))))
 (.reg [xm 42 5, xB .add 43 42 1, xm 5 43]))))))
 (.seq (.seq (.reg [xi 6 0])
 (.block 2 (.loop (.seq (.seq (.reg [xm 57 6, xf 4 58 2, xo 59 58, xL 60 59, xb .lss 61 57 60])
 (.cond (.s 61) (.skip)
 (.exit 2)))
 (.seq (.block 3 (.seq (.draw [(xf 4 64 2, []), (xo 65 64, []), (xm 66 6, []), (xA 5 67 65 66, []), (xl 5 68 67, []), (xf 4 69 3, []), (xo 70 69, []), (xm 71 6, []), (xA 5 72 70 71, []), (xl 5 73 72, []), (xc 67 74 [.s 68, .s 73], []), (⟨(some 75), .not (.s 74), none⟩, [])])
 (.cond (.s 75) (.seq (.reg [⟨(some 4), .mv (.c (.bool false)), none⟩])
 (.ret))
 (.skip))))
 (.reg [xm 62 6, xB .add 63 62 1, xm 6 63]))))))
 (.seq (.reg [⟨(some 4), .mv (.c (.bool true)), none⟩])
 (.ret)))))
theorem fn67 : IsFn prog 67 ac67 [.tmp 4] 76 := ⟨f67, ⟨[], []⟩, func67, by kernel_rfl, by kernel_rfl, by kernel_rfl, by kernel_rfl⟩
def inv25w (n m : Nd) (σ : Store) (i : Nat) : St :=
  ⟨[.any, .any, .ptr (.loc 0) 0, .ptr (.loc 1) 0] ++ [.any, .int .i64 (i : Nat)] ++ List.replicate 70 .any, [n.enc, m.enc], σ⟩
def inv25k (n m : Nd) (σ : Store) (i : Nat) : St :=
  ⟨[.any, .any, .ptr (.loc 0) 0, .ptr (.loc 1) 0] ++ [.any, .any, .int .i64 (i : Nat)] ++ List.replicate 69 .any, [n.enc, m.enc], σ⟩
theorem same25_calls : ∀ (k : Nat) (n m : Nd) (σ : Store), n.wt ≤ k → n.wt ≤ big → PCalls prog 67 [.agg n.enc, .agg m.enc] σ fun v σ' => v = .bool (n.sameQ m) ∧ σ' = σ := by
  intro k
  induction k with
  | zero => intro n m σ h _; cases n; simp only [Nd.wt] at h; omega
  | succ k ihk =>
    intro n m σ hk hw
    have hn := wt_names n
    have hbig : n.wt < 2 ^ 62 := by simp only [big] at hw; omega
    rw [Nd.sameQ_eq]
    refine fn67.calls ?_
    simp only [slots, ac67, am, amo, amc, ams, Nat.reduceAdd, Nat.reduceEqDiff, decide_true, decide_false, Tree.rec_, Nd.rec_, Word.rec_, Got.rec_, Nd.fl]
    by_cases k1 : n.kind = m.kind
    case' neg =>
      simp only [am, amo, amc, Nat.reduceAdd, Nat.reduceEqDiff, encs_length, List.length_map, decide_true, decide_false, Tree.rec_, Nd.rec_, Word.rec_, Got.rec_, Nd.fl, decide_eq_false k1]
      refine retK_intro rfl (Store.sub_refl _) ⟨?_, rfl⟩
      simp [V.erase, eraseL, k1]
    simp only [am, amo, amc, Nat.reduceAdd, Nat.reduceEqDiff, encs_length, List.length_map, decide_true, decide_false, Tree.rec_, Nd.rec_, Word.rec_, Got.rec_, Nd.fl, k1]
    by_cases k2 : n.text = m.text
    case' neg =>
      simp only [am, amo, amc, Nat.reduceAdd, Nat.reduceEqDiff, encs_length, List.length_map, decide_true, decide_false, Tree.rec_, Nd.rec_, Word.rec_, Got.rec_, Nd.fl, decide_eq_false k2]
      refine retK_intro rfl (Store.sub_refl _) ⟨?_, rfl⟩
      simp [V.erase, eraseL, k2]
    simp only [am, amo, amc, Nat.reduceAdd, Nat.reduceEqDiff, encs_length, List.length_map, decide_true, decide_false, Tree.rec_, Nd.rec_, Word.rec_, Got.rec_, Nd.fl, k2]
    by_cases k3 : n.names.length = m.names.length
    case' neg =>
      have k3' : ¬ (n.names.length : Int) = m.names.length := by omega
      simp only [am, amo, amc, Nat.reduceAdd, Nat.reduceEqDiff, encs_length, List.length_map, decide_true, decide_false, Tree.rec_, Nd.rec_, Word.rec_, Got.rec_, Nd.fl, decide_eq_false k3']
      have : sameW n.names m.names = false := by cases hs : sameW n.names m.names with
        | false => rfl
        | true => exact absurd (sameW_len hs) k3
      refine retK_intro rfl (Store.sub_refl _) ⟨?_, rfl⟩
      simp [V.erase, eraseL, this]
    simp only [am, amo, amc, Nat.reduceAdd, Nat.reduceEqDiff, encs_length, List.length_map, decide_true, decide_false, Tree.rec_, Nd.rec_, Word.rec_, Got.rec_, Nd.fl, k3]
    by_cases k4 : n.kids.length = m.kids.length
    case' neg =>
      have k4' : ¬ (n.kids.length : Int) = m.kids.length := by omega
      simp only [am, amo, amc, Nat.reduceAdd, Nat.reduceEqDiff, encs_length, List.length_map, decide_true, decide_false, Tree.rec_, Nd.rec_, Word.rec_, Got.rec_, Nd.fl, decide_eq_false k4']
      have : samesQ n.kids m.kids = false := by cases hs : samesQ n.kids m.kids with
        | false => rfl
        | true => exact absurd (samesQ_len hs) k4
      refine retK_intro rfl (Store.sub_refl _) ⟨?_, rfl⟩
      simp [V.erase, eraseL, this]
    simp only [am, amo, amc, Nat.reduceAdd, Nat.reduceEqDiff, encs_length, List.length_map, decide_true, decide_false, Tree.rec_, Nd.rec_, Word.rec_, Got.rec_, Nd.fl, k4]
    refine vc_loop (fun p : { i : Nat // i ≤ n.names.length ∧ sameW (n.names.take i) (m.names.take i) = true } => inv25w n m σ p.1) (fun p => n.names.length - p.1) ?_ ?_
    · refine Upd.enter ⟨0, by simp, by simp [sameW]⟩ ?_ LLLe.rfl OLe.rfl
      simp [inv25w, List.replicate, am, k3]
    rintro ⟨i, hi, ha⟩
    simp only [inv25w, List.replicate, am, Nd.fl, List.length_map, Tree.rec_, Nd.rec_]
    refine vcIf_split ?_ ?_
    · intro hlt
      have hlt : i < n.names.length := by simpa using hlt
      obtain ⟨hat, hno⟩ := sameW_at hlt (by omega) k3 ha
      simp only [am, amo, amc, Nat.reduceAdd, Nat.reduceEqDiff, encs_length, List.length_map, decide_true, decide_false, Tree.rec_, Nd.rec_, Word.rec_, Got.rec_, Nd.fl]
      refine idxL_intro (by omega) (wencs_at (List.getElem?_eq_getElem hlt)) ?_
      simp only [am, amo, amc, Nat.reduceAdd, Nat.reduceEqDiff, encs_length, List.length_map, decide_true, decide_false, Tree.rec_, Nd.rec_, Word.rec_, Got.rec_, Nd.fl, Word.enc]
      refine idxL_intro (by omega) (wencs_at (List.getElem?_eq_getElem (show i < m.names.length by omega))) ?_
      simp only [am, amo, amc, Nat.reduceAdd, Nat.reduceEqDiff, encs_length, List.length_map, decide_true, decide_false, Tree.rec_, Nd.rec_, Word.rec_, Got.rec_, Nd.fl, Word.enc]
      by_cases he : n.names[i].text = m.names[i].text
      · simp only [am, amo, amc, Nat.reduceAdd, Nat.reduceEqDiff, encs_length, List.length_map, decide_true, decide_false, Tree.rec_, Nd.rec_, Word.rec_, Got.rec_, Nd.fl, he]
        rw [wrap_i64 (by omega) (by omega)]
        exact Upd.again ⟨i + 1, hlt, by rw [hat]; exact decide_eq_true he⟩ (by simp; omega) (by simp [List.replicate, am]) LLLe.rfl OLe.rfl
      · simp only [am, amo, amc, Nat.reduceAdd, Nat.reduceEqDiff, encs_length, List.length_map, decide_true, decide_false, Tree.rec_, Nd.rec_, Word.rec_, Got.rec_, Nd.fl, decide_eq_false he]
        refine retK_intro rfl (Store.sub_refl _) ⟨?_, rfl⟩
        simp [V.erase, eraseL, hno (decide_eq_false he)]
    intro hlt
    have hlt : i = n.names.length := by simp at hlt; omega
    subst hlt
    rw [List.take_length, k3, List.take_length] at ha
    simp only [am, amo, amc, Nat.reduceAdd, Nat.reduceEqDiff, encs_length, List.length_map, decide_true, decide_false, Tree.rec_, Nd.rec_, Word.rec_, Got.rec_, Nd.fl]
    refine vc_loop (fun p : { i : Nat // i ≤ n.kids.length ∧ samesQ (n.kids.take i) (m.kids.take i) = true } => inv25k n m σ p.1) (fun p => n.kids.length - p.1) ?_ ?_
    · refine Upd.enter ⟨0, by simp, by simp [samesQ]⟩ ?_ LLLe.rfl OLe.rfl
      simp [inv25k, List.replicate, am, k4]
    rintro ⟨i, hi, hb⟩
    simp only [inv25k, List.replicate, am, Nd.fl, List.length_map, Tree.rec_, Nd.rec_]
    refine vcIf_split ?_ ?_
    · intro hlt
      have hlt : i < n.kids.length := by simpa using hlt
      have hki := kid_wt (n := n) (List.getElem_mem hlt)
      obtain ⟨hat, hno⟩ := samesQ_at hlt (by omega) k4 hb
      simp only [am, amo, amc, Nat.reduceAdd, Nat.reduceEqDiff, encs_length, List.length_map, decide_true, decide_false, Tree.rec_, Nd.rec_, Word.rec_, Got.rec_, Nd.fl]
      refine idxL_intro (by omega) (nencs_at (List.getElem?_eq_getElem hlt)) ?_
      simp only [am, amo, amc, Nat.reduceAdd, Nat.reduceEqDiff, encs_length, List.length_map, decide_true, decide_false, Tree.rec_, Nd.rec_, Word.rec_, Got.rec_, Nd.fl]
      refine idxL_intro (by omega) (nencs_at (List.getElem?_eq_getElem (show i < m.kids.length by omega))) ?_
      simp only [am, amo, amc, Nat.reduceAdd, Nat.reduceEqDiff, encs_length, List.length_map, decide_true, decide_false, Tree.rec_, Nd.rec_, Word.rec_, Got.rec_, Nd.fl]
      refine CallD.intro (ihk n.kids[i] m.kids[i] _ (by omega) (by omega)) ?_
      cases he : n.kids[i].sameQ m.kids[i]
      · simp only [am, amo, amc, Nat.reduceAdd, Nat.reduceEqDiff, encs_length, List.length_map, decide_true, decide_false, Tree.rec_, Nd.rec_, Word.rec_, Got.rec_, Nd.fl]
        refine retK_intro rfl (Store.sub_refl _) ⟨?_, rfl⟩
        simp [V.erase, eraseL, hno he]
      · simp only [am, amo, amc, Nat.reduceAdd, Nat.reduceEqDiff, encs_length, List.length_map, decide_true, decide_false, Tree.rec_, Nd.rec_, Word.rec_, Got.rec_, Nd.fl]
        rw [wrap_i64 (by omega) (by omega)]
        exact Upd.again ⟨i + 1, hlt, by rw [hat]; exact he⟩ (by simp; omega) (by simp [List.replicate, am]) LLLe.rfl OLe.rfl
    intro hlt
    have hlt : i = n.kids.length := by simp at hlt; omega
    subst hlt
    rw [List.take_length, k4, List.take_length] at hb
    simp only [am, amo, amc, Nat.reduceAdd, Nat.reduceEqDiff, encs_length, List.length_map, decide_true, decide_false, Tree.rec_, Nd.rec_, Word.rec_, Got.rec_, Nd.fl]
    refine retK_intro rfl (Store.sub_refl _) ⟨?_, rfl⟩
    simp [V.erase, eraseL, ha, hb]
end Go.Proofs.Tryd

namespace Go.Proofs.Tryd
open Go.Am
set_option maxRecDepth 4000
set_option maxHeartbeats 4000000
def ac27 : AC := .seq (.reg [⟨(some 4), .mv (.c (.bool false)), none⟩])
 (.seq (.seq (.reg [xm 6 0, xL 7 6, xm 8 1, xL 9 8, xb .neq 10 7 9])
 (.cond (.s 10) (.seq (.reg [⟨(some 4), .mv (.c (.bool false)), none⟩])
 (.ret))
 (.skip)))
 (.seq (.seq (.reg [xi 5 0])
 (.block 0 (.loop (.seq (.seq (.reg [xm 11 5, xm 12 0, xL 13 12, xb .lss 14 11 13])
 (.cond (.s 14) (.skip)
 (.exit 0)))
 (.seq (.block 1 (.seq (.draw [(xm 17 0, []), (xm 18 5, []), (xA 2 19 17 18, []), (xl 2 20 19, []), (xm 21 1, []), (xm 22 5, []), (xA 2 23 21 22, []), (xl 2 24 23, []), (⟨(some 25), .eqA true [2, 1] (.s 20) (.s 24), none⟩, [])])
 (.cond (.s 25) (.seq (.reg [⟨(some 4), .mv (.c (.bool false)), none⟩])
 (.ret))
 (.skip))))
 (.reg [xm 15 5, xB .add 16 15 1, xm 5 16]))))))
 (.seq (.reg [⟨(some 4), .mv (.c (.bool true)), none⟩])
 (.ret))))
theorem fn27 : IsFn prog 27 ac27 [.tmp 4] 26 := ⟨f27, ⟨[], []⟩, func27, by kernel_rfl, by kernel_rfl, by kernel_rfl, by kernel_rfl⟩
def ac28 : AC := .seq (.reg [⟨(some 2), .box 5 (.s 0), none⟩, ⟨(some 3), .box 5 (.s 1), none⟩, ⟨(some 4), .mv (.c (.bool false)), none⟩])
 (.seq (.seq (.reg [xf 1 7 2, xo 8 7, xf 1 9 3, xo 10 9, xb .neq 11 8 10, xm 12 11, xh 12 (xl 5 13 2), xh 12 (xl 5 14 3), xh 12 (xc 67 15 [.s 13, .s 14]), ⟨(some 16), .not (.s 15), (some (12, false))⟩, ⟨(some 17), .pick (.s 12) (.c (.bool true)) (.s 16), none⟩])
 (.cond (.s 17) (.seq (.reg [⟨(some 4), .mv (.c (.bool false)), none⟩])
 (.ret))
 (.skip)))
 (.seq (.seq (.reg [xi 5 0])
 (.block 0 (.loop (.seq (.seq (.reg [xm 18 5, xf 3 19 2, xo 20 19, xL 21 20, xb .lss 22 18 21])
 (.cond (.s 22) (.skip)
 (.exit 0)))
 (.seq (.block 1 (.seq (.draw [(xf 3 25 2, []), (xo 26 25, []), (xm 27 5, []), (xA 2 28 26 27, []), (xl 2 29 28, []), (xf 3 30 3, []), (xo 31 30, []), (xm 32 5, []), (xA 2 33 31 32, []), (xl 2 34 33, []), (⟨(some 35), .eqA true [2, 1] (.s 29) (.s 34), none⟩, [])])
 (.cond (.s 35) (.seq (.reg [⟨(some 4), .mv (.c (.bool false)), none⟩])
 (.ret))
 (.skip))))
 (.reg [xm 23 5, xB .add 24 23 1, xm 5 24]))))))
 (.seq (.seq (.reg [xi 6 0])
 (.block 2 (.loop (.seq (.seq (.reg [xm 36 6, xf 4 37 2, xo 38 37, xL 39 38, xb .lss 40 36 39])
 (.cond (.s 40) (.skip)
 (.exit 2)))
 (.seq (.block 3 (.seq (.draw [(xf 4 43 2, []), (xo 44 43, []), (xm 45 6, []), (xA 5 46 44 45, []), (xl 5 47 46, []), (xf 4 48 3, []), (xo 49 48, []), (xm 50 6, []), (xA 5 51 49 50, []), (xl 5 52 51, []), (xc 28 53 [.s 47, .s 52], []), (⟨(some 54), .not (.s 53), none⟩, [])])
 (.cond (.s 54) (.seq (.reg [⟨(some 4), .mv (.c (.bool false)), none⟩])
 (.ret))
 (.skip))))
 (.reg [xm 41 6, xB .add 42 41 1, xm 6 42]))))))
 (.seq (.reg [⟨(some 4), .mv (.c (.bool true)), none⟩])
 (.ret)))))
theorem fn28 : IsFn prog 28 ac28 [.tmp 4] 55 := ⟨f28, ⟨[], []⟩, func28, by kernel_rfl, by kernel_rfl, by kernel_rfl, by kernel_rfl⟩
def inv27 (l : List Word) (i : Nat) (σ : Store) : St :=
  ⟨[.sl .no 2 (l.map Word.enc), .sl .no 2 (l.map Word.enc), .any, .any, .any, .int .i64 (i : Nat)] ++ List.replicate 20 .any, [], σ⟩
theorem words2_one (l : List Word) (σ : Store) (hb : l.length ≤ big) : PCalls prog 27 [.sl .no 2 (l.map Word.enc), .sl .no 2 (l.map Word.enc)] σ fun v σ' => v = .bool true ∧ σ' = σ := by
  simp only [big] at hb
  refine fn27.calls ?_
  simp only [slots, ac27, am, amo, amc, ams, Nat.reduceAdd, Nat.reduceEqDiff, decide_true, decide_false, Tree.rec_, Nd.rec_, Word.rec_, Nd.fl, Int.reduceEq, Int.reduceLT, Int.reduceLE, Nat.reduceLT, bne_self_eq_false]
  refine vc_loop (fun p : { i : Nat // i ≤ l.length } => inv27 l p.1 σ) (fun p => l.length - p.1) ?_ ?_
  · refine Upd.enter ⟨0, by simp⟩ ?_ LLLe.rfl OLe.rfl
    simp [inv27, List.replicate, am]
  · rintro ⟨i, hi⟩
    simp only [inv27, List.replicate, am, List.length_map]
    refine vcIf_split ?_ ?_
    · intro hlt
      have hlt : i < l.length := by simpa using hlt
      have hn : l[i]? = some l[i] := by simp [hlt]
      simp only [am, amo, amc, Nat.reduceAdd, Nat.reduceEqDiff, encs_length, List.length_map, decide_true, decide_false, Tree.rec_, Nd.rec_, Word.rec_, Nd.fl, Int.reduceEq, Int.reduceLT, Int.reduceLE, Nat.reduceLT, bne_self_eq_false]
      refine idxL_intro (by omega) (wencs_at hn) ?_
      simp only [am, amo, amc, Nat.reduceAdd, Nat.reduceEqDiff, encs_length, List.length_map, decide_true, decide_false, Tree.rec_, Nd.rec_, Word.rec_, Nd.fl, Int.reduceEq, Int.reduceLT, Int.reduceLE, Nat.reduceLT, bne_self_eq_false, Word.enc]
      refine idxL_intro (by omega) (wencs_at hn) ?_
      simp only [am, amo, amc, Nat.reduceAdd, Nat.reduceEqDiff, encs_length, List.length_map, decide_true, decide_false, Tree.rec_, Nd.rec_, Word.rec_, Nd.fl, Int.reduceEq, Int.reduceLT, Int.reduceLE, Nat.reduceLT, bne_self_eq_false, Word.enc]
      rw [wrap_i64 (by omega) (by omega)]
      exact Upd.again ⟨i + 1, hlt⟩ (by simp; omega) (by simp [am, List.replicate]) LLLe.rfl OLe.rfl
    · intro hlt
      simp only [am, amo, amc, Nat.reduceAdd, Nat.reduceEqDiff, encs_length, List.length_map, decide_true, decide_false, Tree.rec_, Nd.rec_, Word.rec_, Nd.fl, Int.reduceEq, Int.reduceLT, Int.reduceLE, Nat.reduceLT, bne_self_eq_false]
      refine retK_intro rfl (Store.sub_refl _) ⟨?_, rfl⟩
      simp [V.erase, eraseL]
def inv28w (n : Nd) (σ : Store) (i : Nat) : St :=
  ⟨[.any, .any, .ptr (.loc 0) 0, .ptr (.loc 1) 0] ++ [.any, .int .i64 (i : Nat)] ++ List.replicate 49 .any, [n.enc, n.enc], σ⟩
def inv28k (n : Nd) (σ : Store) (i : Nat) : St :=
  ⟨[.any, .any, .ptr (.loc 0) 0, .ptr (.loc 1) 0] ++ [.any, .any, .int .i64 (i : Nat)] ++ List.replicate 48 .any, [n.enc, n.enc], σ⟩
theorem word_tk2 {w : Word} : takeN 2 w.enc = some w.enc := rfl
theorem very10_one : ∀ (k : Nat) (n : Nd) (σ : Store), n.wt ≤ k → n.wt ≤ big → PCalls prog 28 [.agg n.enc, .agg n.enc] σ fun v σ' => v = .bool true ∧ σ' = σ := by
  intro k
  induction k with
  | zero => intro n σ h _; cases n; simp only [Nd.wt] at h; omega
  | succ k ihk =>
    intro n σ hk hw
    have hn := wt_names n
    have hbig : n.wt < 2 ^ 62 := by simp only [big] at hw; omega
    refine fn28.calls ?_
    simp only [slots, ac28, am, amo, amc, ams, Nat.reduceAdd, Nat.reduceEqDiff, decide_true, decide_false, Tree.rec_, Nd.rec_, Word.rec_, Nd.fl, Int.reduceEq, Int.reduceLT, Int.reduceLE, Nat.reduceLT, bne_self_eq_false]
    refine (same25_calls _ n n _ (Nat.le_refl _) hw).mono ?_
    rintro v σ ⟨rfl, rfl⟩
    simp only [am, amo, amc, Nat.reduceAdd, Nat.reduceEqDiff, encs_length, List.length_map, decide_true, decide_false, Tree.rec_, Nd.rec_, Word.rec_, Nd.fl, Int.reduceEq, Int.reduceLT, Int.reduceLE, Nat.reduceLT, bne_self_eq_false, Nd.sameQ_refl]
    refine vc_loop (fun p : { i : Nat // i ≤ n.names.length } => inv28w n σ p.1) (fun p => n.names.length - p.1) ?_ ?_
    · refine Upd.enter ⟨0, by simp⟩ ?_ LLLe.rfl OLe.rfl
      simp [inv28w, List.replicate, am]
    rintro ⟨i, hi⟩
    simp only [inv28w, List.replicate, am, Nd.fl, List.length_map, Tree.rec_, Nd.rec_]
    refine vcIf_split ?_ ?_
    · intro hlt
      have hlt : i < n.names.length := by simpa using hlt
      simp only [am, amo, amc, Nat.reduceAdd, Nat.reduceEqDiff, encs_length, List.length_map, decide_true, decide_false, Tree.rec_, Nd.rec_, Word.rec_, Nd.fl, Int.reduceEq, Int.reduceLT, Int.reduceLE, Nat.reduceLT, bne_self_eq_false]
      refine idxL_intro (by omega) (wencs_at (List.getElem?_eq_getElem hlt)) ?_
      simp only [am, amo, amc, Nat.reduceAdd, Nat.reduceEqDiff, encs_length, List.length_map, decide_true, decide_false, Tree.rec_, Nd.rec_, Word.rec_, Nd.fl, Int.reduceEq, Int.reduceLT, Int.reduceLE, Nat.reduceLT, bne_self_eq_false, word_tk2]
      refine idxL_intro (by omega) (wencs_at (List.getElem?_eq_getElem hlt)) ?_
      simp only [am, amo, amc, Nat.reduceAdd, Nat.reduceEqDiff, encs_length, List.length_map, decide_true, decide_false, Tree.rec_, Nd.rec_, Word.rec_, Nd.fl, Int.reduceEq, Int.reduceLT, Int.reduceLE, Nat.reduceLT, bne_self_eq_false, word_tk2, Word.enc]
      rw [wrap_i64 (by omega) (by omega)]
      exact Upd.again ⟨i + 1, hlt⟩ (by simp; omega) (by simp [List.replicate, am]) LLLe.rfl OLe.rfl
    intro hlt
    have hlt : i = n.names.length := by simp at hlt; omega
    subst hlt
    simp only [am, amo, amc, Nat.reduceAdd, Nat.reduceEqDiff, encs_length, List.length_map, decide_true, decide_false, Tree.rec_, Nd.rec_, Word.rec_, Nd.fl, Int.reduceEq, Int.reduceLT, Int.reduceLE, Nat.reduceLT, bne_self_eq_false]
    refine vc_loop (fun p : { i : Nat // i ≤ n.kids.length } => inv28k n σ p.1) (fun p => n.kids.length - p.1) ?_ ?_
    · refine Upd.enter ⟨0, by simp⟩ ?_ LLLe.rfl OLe.rfl
      simp [inv28k, List.replicate, am]
    rintro ⟨i, hi⟩
    simp only [inv28k, List.replicate, am, Nd.fl, List.length_map, Tree.rec_, Nd.rec_]
    refine vcIf_split ?_ ?_
    · intro hlt
      have hlt : i < n.kids.length := by simpa using hlt
      have hki := kid_wt (n := n) (List.getElem_mem hlt)
      simp only [am, amo, amc, Nat.reduceAdd, Nat.reduceEqDiff, encs_length, List.length_map, decide_true, decide_false, Tree.rec_, Nd.rec_, Word.rec_, Nd.fl, Int.reduceEq, Int.reduceLT, Int.reduceLE, Nat.reduceLT, bne_self_eq_false]
      refine idxL_intro (by omega) (nencs_at (List.getElem?_eq_getElem hlt)) ?_
      simp only [am, amo, amc, Nat.reduceAdd, Nat.reduceEqDiff, encs_length, List.length_map, decide_true, decide_false, Tree.rec_, Nd.rec_, Word.rec_, Nd.fl, Int.reduceEq, Int.reduceLT, Int.reduceLE, Nat.reduceLT, bne_self_eq_false]
      refine idxL_intro (by omega) (nencs_at (List.getElem?_eq_getElem hlt)) ?_
      simp only [am, amo, amc, Nat.reduceAdd, Nat.reduceEqDiff, encs_length, List.length_map, decide_true, decide_false, Tree.rec_, Nd.rec_, Word.rec_, Nd.fl, Int.reduceEq, Int.reduceLT, Int.reduceLE, Nat.reduceLT, bne_self_eq_false]
      refine CallD.intro (ihk n.kids[i] _ (by omega) (by omega)) ?_
      simp only [am, amo, amc, Nat.reduceAdd, Nat.reduceEqDiff, encs_length, List.length_map, decide_true, decide_false, Tree.rec_, Nd.rec_, Word.rec_, Nd.fl, Int.reduceEq, Int.reduceLT, Int.reduceLE, Nat.reduceLT, bne_self_eq_false]
      rw [wrap_i64 (by omega) (by omega)]
      exact Upd.again ⟨i + 1, hlt⟩ (by simp; omega) (by simp [List.replicate, am]) LLLe.rfl OLe.rfl
    intro hlt
    simp only [am, amo, amc, Nat.reduceAdd, Nat.reduceEqDiff, encs_length, List.length_map, decide_true, decide_false, Tree.rec_, Nd.rec_, Word.rec_, Nd.fl, Int.reduceEq, Int.reduceLT, Int.reduceLE, Nat.reduceLT, bne_self_eq_false]
    refine retK_intro rfl (Store.sub_refl _) ⟨?_, rfl⟩
    simp [V.erase, eraseL]
end Go.Proofs.Tryd

namespace Go.Proofs.Tryd
open Go.Am
set_option maxRecDepth 4000
set_option maxHeartbeats 4000000
def ac9 : AC := .seq (.reg [⟨(some 2), .box 17 (.s 0), none⟩, ⟨(some 3), .box 17 (.s 1), none⟩, ⟨(some 4), .mv (.c (.bool false)), none⟩])
 (.seq (.seq (.reg [xl 17 6 2, xl 17 7 3, xc 26 8 [.s 6, .s 7], ⟨(some 9), .not (.s 8), none⟩, xm 10 9, xh 10 (xf 1 11 2), xh 10 (xo 12 11), xh 10 (xf 1 13 3), xh 10 (xo 14 13), xh 10 (xb .neq 15 12 14), ⟨(some 16), .pick (.s 10) (.c (.bool true)) (.s 15), none⟩, xm 17 16, xh 17 (xf 2 18 2), xh 17 (xl 2 19 18), xh 17 (xf 2 20 3), xh 17 (xl 2 21 20), ⟨(some 22), .eqA true [2, 1] (.s 19) (.s 21), (some (17, false))⟩, ⟨(some 23), .pick (.s 17) (.c (.bool true)) (.s 22), none⟩, xm 24 23, xh 24 (xf 6 25 2), xh 24 (xo 26 25), xh 24 (xf 6 27 3), xh 24 (xo 28 27), xh 24 (xb .neq 29 26 28), ⟨(some 30), .pick (.s 24) (.c (.bool true)) (.s 29), none⟩, xm 31 30, xh 31 (xf 4 32 2), xh 31 (xo 33 32), xh 31 (xf 4 34 3), xh 31 (xo 35 34), xh 31 (xc 27 36 [.s 33, .s 35]), ⟨(some 37), .not (.s 36), (some (31, false))⟩, ⟨(some 38), .pick (.s 31) (.c (.bool true)) (.s 37), none⟩])
 (.cond (.s 38) (.seq (.reg [⟨(some 4), .mv (.c (.bool false)), none⟩])
 (.ret))
 (.skip)))
 (.seq (.seq (.reg [xi 5 0])
 (.block 0 (.loop (.seq (.seq (.reg [xm 39 5, xf 5 40 2, xo 41 40, xL 42 41, xb .lss 43 39 42])
 (.cond (.s 43) (.skip)
 (.exit 0)))
 (.seq (.block 1 (.seq (.draw [(xf 5 46 2, []), (xo 47 46, []), (xm 48 5, []), (xA 4 49 47 48, []), (xl 4 50 49, []), (xf 5 51 3, []), (xo 52 51, []), (xm 53 5, []), (xA 4 54 52 53, []), (xl 4 55 54, []), (⟨(some 56), .eqA true [2, 1, 2, 1] (.s 50) (.s 55), none⟩, [])])
 (.cond (.s 56) (.seq (.reg [⟨(some 4), .mv (.c (.bool false)), none⟩])
 (.ret))
 (.skip))))
 (.reg [xm 44 5, xB .add 45 44 1, xm 5 45]))))))
 (.seq (.reg [xf 7 57 2, xl 5 58 57, xf 7 59 3, xl 5 60 59, xc 28 61 [.s 58, .s 60], xm 62 61, xg 62 (xf 12 63 2), xg 62 (xl 5 64 63), xg 62 (xf 12 65 3), xg 62 (xl 5 66 65), xg 62 (xc 28 67 [.s 64, .s 66]), ⟨(some 68), .pick (.s 62) (.s 67) (.c (.bool false)), none⟩, xm 4 68])
 (.ret))))
theorem fn9 : IsFn prog 9 ac9 [.tmp 4] 69 := ⟨f9, ⟨[], []⟩, func9, by kernel_rfl, by kernel_rfl, by kernel_rfl, by kernel_rfl⟩
def ac26 : AC := .seq (.reg [⟨(some 2), .box 17 (.s 0), none⟩, ⟨(some 3), .box 17 (.s 1), none⟩, ⟨(some 4), .mv (.c (.bool false)), none⟩])
 (.seq (.seq (.reg [xf 0 7 2, xo 8 7, xf 0 9 3, xo 10 9, xb .neq 11 8 10, xm 12 11, xh 12 (xf 2 13 2), xh 12 (xf 0 14 13), xh 12 (xo 15 14), xh 12 (xf 2 16 3), xh 12 (xf 0 17 16), xh 12 (xo 18 17), ⟨(some 19), .binS .neq (.s 15) (.s 18), (some (12, false))⟩, ⟨(some 20), .pick (.s 12) (.c (.bool true)) (.s 19), none⟩, xm 21 20, xh 21 (xf 4 22 2), xh 21 (xo 23 22), xh 21 (xL 24 23), xh 21 (xf 4 25 3), xh 21 (xo 26 25), xh 21 (xL 27 26), xh 21 (xb .neq 28 24 27), ⟨(some 29), .pick (.s 21) (.c (.bool true)) (.s 28), none⟩, xm 30 29, xh 30 (xf 5 31 2), xh 30 (xo 32 31), xh 30 (xL 33 32), xh 30 (xf 5 34 3), xh 30 (xo 35 34), xh 30 (xL 36 35), xh 30 (xb .neq 37 33 36), ⟨(some 38), .pick (.s 30) (.c (.bool true)) (.s 37), none⟩])
 (.cond (.s 38) (.seq (.reg [⟨(some 4), .mv (.c (.bool false)), none⟩])
 (.ret))
 (.skip)))
 (.seq (.seq (.reg [xi 5 0])
 (.block 0 (.loop (.seq (.seq (.reg [xm 39 5, xf 4 40 2, xo 41 40, xL 42 41, xb .lss 43 39 42])
 (.cond (.s 43) (.skip)
 (.exit 0)))
 (.seq (.block 1 (.seq (.draw [(xf 4 46 2, []), (xo 47 46, []), (xm 48 5, []), (xA 2 49 47 48, []), (xf 0 50 49, []), (xo 51 50, []), (xf 4 52 3, []), (xo 53 52, []), (xm 54 5, []), (xA 2 55 53 54, []), (xf 0 56 55, []), (xo 57 56, []), (⟨(some 58), .binS .neq (.s 51) (.s 57), none⟩, [])])
 (.cond (.s 58) (.seq (.reg [⟨(some 4), .mv (.c (.bool false)), none⟩])
 (.ret))
 (.skip))))
 (.reg [xm 44 5, xB .add 45 44 1, xm 5 45]))))))
 (.seq (.seq (.reg [xi 6 0])
 (.block 2 (.loop (.seq (.seq (.reg [xm 59 6, xf 5 60 2, xo 61 60, xL 62 61, xb .lss 63 59 62])
 (.cond (.s 63) (.skip)
 (.exit 2)))
 (.seq (.block 3 (.seq (.draw [(xf 5 66 2, []), (xo 67 66, []), (xm 68 6, []), (xA 4 69 67 68, []), (⟨(some 70), .idxP 2 2 (.s 69) (.c (.int .i64 0)), none⟩, []), (xf 0 71 70, []), (xo 72 71, []), (xf 5 73 3, []), (xo 74 73, []), (xm 75 6, []), (xA 4 76 74 75, []), (⟨(some 77), .idxP 2 2 (.s 76) (.c (.int .i64 0)), none⟩, []), (xf 0 78 77, []), (xo 79 78, []), (⟨(some 80), .binS .neq (.s 72) (.s 79), none⟩, []), (xm 81 80, []), (xh 81 (xf 5 82 2), []), (xh 81 (xo 83 82), []), (xh 81 (xm 84 6), []), (xh 81 (xA 4 85 83 84), []), (⟨(some 86), .idxP 2 2 (.s 85) (.c (.int .i64 1)), (some (81, false))⟩, []), (xh 81 (xf 0 87 86), []), (xh 81 (xo 88 87), []), (xh 81 (xf 5 89 3), []), (xh 81 (xo 90 89), []), (xh 81 (xm 91 6), []), (xh 81 (xA 4 92 90 91), []), (⟨(some 93), .idxP 2 2 (.s 92) (.c (.int .i64 1)), (some (81, false))⟩, []), (xh 81 (xf 0 94 93), []), (xh 81 (xo 95 94), []), (⟨(some 96), .binS .neq (.s 88) (.s 95), (some (81, false))⟩, []), (⟨(some 97), .pick (.s 81) (.c (.bool true)) (.s 96), none⟩, [])])
 (.cond (.s 97) (.seq (.reg [⟨(some 4), .mv (.c (.bool false)), none⟩])
 (.ret))
 (.skip))))
 (.reg [xm 64 6, xB .add 65 64 1, xm 6 65]))))))
 (.seq (.reg [xf 7 98 2, xl 5 99 98, xf 7 100 3, xl 5 101 100, xc 67 102 [.s 99, .s 101], xm 103 102, xg 103 (xf 12 104 2), xg 103 (xl 5 105 104), xg 103 (xf 12 106 3), xg 103 (xl 5 107 106), xg 103 (xc 67 108 [.s 105, .s 107]), ⟨(some 109), .pick (.s 103) (.s 108) (.c (.bool false)), none⟩, xm 4 109])
 (.ret)))))
theorem fn26 : IsFn prog 26 ac26 [.tmp 4] 110 := ⟨f26, ⟨[], []⟩, func26, by kernel_rfl, by kernel_rfl, by kernel_rfl, by kernel_rfl⟩
section
variable {c : Cmd}
theorem c_l2 : ldC false 1 (c.enc.drop 2) = some (.str c.name.text) := rfl
theorem c_t2 : takeN 2 (c.enc.drop 2) = some [.str c.name.text, .int .i64 c.name.pos] := rfl
theorem c_l4 : ldC false 1 (c.enc.drop 4) = some (.sl .no 2 (c.names.map Word.enc)) := rfl
theorem c_l5 : ldC false 1 (c.enc.drop 5) = some (.sl .no 4 (c.pairs.map penc)) := rfl
theorem c_l6 : ldC false 1 (c.enc.drop 6) = some (.int .i64 c.pairsAt) := rfl
theorem c_t7 : takeN 5 (c.enc.drop 7) = some c.left.enc := by rw [Nd.enc_eq]; rfl
theorem c_t12 : takeN 5 (c.enc.drop 12) = some c.right.enc := by rw [Nd.enc_eq]; rfl
def cfv := And.intro @c_l2 <| And.intro @c_t2 <| And.intro @c_l4 <| And.intro @c_l5 <| And.intro @c_l6 <| And.intro @c_t7 @c_t12
end
theorem penc_tk {p : Word × Word} : takeN 4 (penc p) = some (penc p) := rfl
theorem pencs_at {l : List (Word × Word)} {j : Nat} {p : Word × Word} (h : l[j]? = some p) : (l.map penc)[(j : Int).toNat]? = some (penc p) := by simp [h]
structure CmdW (c : Cmd) : Prop where
  ns : c.names.length ≤ big
  ps : c.pairs.length ≤ big
  l : c.left.wt ≤ big
  r : c.right.wt ≤ big
def inv26w (c : Cmd) (σ : Store) (i : Nat) : St :=
  ⟨[.any, .any, .ptr (.loc 0) 0, .ptr (.loc 1) 0] ++ [.any, .int .i64 (i : Nat)] ++ List.replicate 104 .any, [c.enc, c.enc], σ⟩
def inv26k (c : Cmd) (σ : Store) (i : Nat) : St :=
  ⟨[.any, .any, .ptr (.loc 0) 0, .ptr (.loc 1) 0] ++ [.any, .any, .int .i64 (i : Nat)] ++ List.replicate 103 .any, [c.enc, c.enc], σ⟩
theorem same12_one {c : Cmd} (h : CmdW c) (σ : Store) : PCalls prog 26 [.agg c.enc, .agg c.enc] σ fun v σ' => v = .bool true ∧ σ' = σ := by
  have h1 := h.ns
  have h2 := h.ps
  simp only [big] at h1 h2
  refine fn26.calls ?_
  simp only [slots, ac26, am, amo, amc, ams, Nat.reduceAdd, Nat.reduceEqDiff, decide_true, decide_false, Tree.rec_, Nd.rec_, Word.rec_, Nd.fl, Int.reduceEq, Int.reduceLT, Int.reduceLE, Nat.reduceLT, bne_self_eq_false, Int.reduceToNat, Nat.reduceMul, cfl, cfo, word_tk2, cfv, penc_tk, List.length_map]
  refine vc_loop (fun p : { i : Nat // i ≤ c.names.length } => inv26w c σ p.1) (fun p => c.names.length - p.1) ?_ ?_
  · refine Upd.enter ⟨0, by simp⟩ ?_ LLLe.rfl OLe.rfl
    simp [inv26w, List.replicate, am]
  rintro ⟨i, hi⟩
  simp only [inv26w, List.replicate, am, cfv, List.length_map]
  refine vcIf_split ?_ ?_
  · intro hlt
    have hlt : i < c.names.length := by simpa using hlt
    simp only [am, amo, amc, Nat.reduceAdd, Nat.reduceEqDiff, encs_length, List.length_map, decide_true, decide_false, Tree.rec_, Nd.rec_, Word.rec_, Nd.fl, Int.reduceEq, Int.reduceLT, Int.reduceLE, Nat.reduceLT, bne_self_eq_false, Int.reduceToNat, Nat.reduceMul, cfl, cfo, word_tk2, cfv, penc_tk, List.length_map]
    refine idxL_intro (by omega) (wencs_at (List.getElem?_eq_getElem hlt)) ?_
    simp only [am, amo, amc, Nat.reduceAdd, Nat.reduceEqDiff, encs_length, List.length_map, decide_true, decide_false, Tree.rec_, Nd.rec_, Word.rec_, Nd.fl, Int.reduceEq, Int.reduceLT, Int.reduceLE, Nat.reduceLT, bne_self_eq_false, Int.reduceToNat, Nat.reduceMul, cfl, cfo, word_tk2, cfv, penc_tk, List.length_map, Word.enc]
    refine idxL_intro (by omega) (wencs_at (List.getElem?_eq_getElem hlt)) ?_
    simp only [am, amo, amc, Nat.reduceAdd, Nat.reduceEqDiff, encs_length, List.length_map, decide_true, decide_false, Tree.rec_, Nd.rec_, Word.rec_, Nd.fl, Int.reduceEq, Int.reduceLT, Int.reduceLE, Nat.reduceLT, bne_self_eq_false, Int.reduceToNat, Nat.reduceMul, cfl, cfo, word_tk2, cfv, penc_tk, List.length_map, Word.enc]
    rw [wrap_i64 (by omega) (by omega)]
    exact Upd.again ⟨i + 1, hlt⟩ (by simp; omega) (by simp [List.replicate, am]) LLLe.rfl OLe.rfl
  intro hlt
  have hlt : i = c.names.length := by simp at hlt; omega
  subst hlt
  simp only [am, amo, amc, Nat.reduceAdd, Nat.reduceEqDiff, encs_length, List.length_map, decide_true, decide_false, Tree.rec_, Nd.rec_, Word.rec_, Nd.fl, Int.reduceEq, Int.reduceLT, Int.reduceLE, Nat.reduceLT, bne_self_eq_false, Int.reduceToNat, Nat.reduceMul, cfl, cfo, word_tk2, cfv, penc_tk, List.length_map]
  refine vc_loop (fun p : { i : Nat // i ≤ c.pairs.length } => inv26k c σ p.1) (fun p => c.pairs.length - p.1) ?_ ?_
  · refine Upd.enter ⟨0, by simp⟩ ?_ LLLe.rfl OLe.rfl
    simp [inv26k, List.replicate, am]
  rintro ⟨i, hi⟩
  simp only [inv26k, List.replicate, am, cfv, List.length_map]
  refine vcIf_split ?_ ?_
  · intro hlt
    have hlt : i < c.pairs.length := by simpa using hlt
    have hi0 : (0 : Int) ≤ 0 := by decide
    simp only [am, amo, amc, Nat.reduceAdd, Nat.reduceEqDiff, encs_length, List.length_map, decide_true, decide_false, Tree.rec_, Nd.rec_, Word.rec_, Nd.fl, Int.reduceEq, Int.reduceLT, Int.reduceLE, Nat.reduceLT, bne_self_eq_false, Int.reduceToNat, Nat.reduceMul, cfl, cfo, word_tk2, cfv, penc_tk, List.length_map]
    refine idxL_intro (by omega) (pencs_at (List.getElem?_eq_getElem hlt)) ?_
    simp only [am, amo, amc, Nat.reduceAdd, Nat.reduceEqDiff, encs_length, List.length_map, decide_true, decide_false, Tree.rec_, Nd.rec_, Word.rec_, Nd.fl, Int.reduceEq, Int.reduceLT, Int.reduceLE, Nat.reduceLT, bne_self_eq_false, Int.reduceToNat, Nat.reduceMul, cfl, cfo, word_tk2, cfv, penc_tk, List.length_map]
    refine idxPL_elt (by omega) (by omega) ?_
    simp only [am, amo, amc, Nat.reduceAdd, Nat.reduceEqDiff, encs_length, List.length_map, decide_true, decide_false, Tree.rec_, Nd.rec_, Word.rec_, Nd.fl, Int.reduceEq, Int.reduceLT, Int.reduceLE, Nat.reduceLT, bne_self_eq_false, Int.reduceToNat, Nat.reduceMul, cfl, cfo, word_tk2, cfv, penc_tk, List.length_map, penc]
    refine idxL_intro (by omega) (pencs_at (List.getElem?_eq_getElem hlt)) ?_
    simp only [am, amo, amc, Nat.reduceAdd, Nat.reduceEqDiff, encs_length, List.length_map, decide_true, decide_false, Tree.rec_, Nd.rec_, Word.rec_, Nd.fl, Int.reduceEq, Int.reduceLT, Int.reduceLE, Nat.reduceLT, bne_self_eq_false, Int.reduceToNat, Nat.reduceMul, cfl, cfo, word_tk2, cfv, penc_tk, List.length_map]
    refine idxPL_elt (by omega) (by omega) ?_
    simp only [am, amo, amc, Nat.reduceAdd, Nat.reduceEqDiff, encs_length, List.length_map, decide_true, decide_false, Tree.rec_, Nd.rec_, Word.rec_, Nd.fl, Int.reduceEq, Int.reduceLT, Int.reduceLE, Nat.reduceLT, bne_self_eq_false, Int.reduceToNat, Nat.reduceMul, cfl, cfo, word_tk2, cfv, penc_tk, List.length_map, penc]
    refine idxL_intro (by omega) (pencs_at (List.getElem?_eq_getElem hlt)) ?_
    simp only [am, amo, amc, Nat.reduceAdd, Nat.reduceEqDiff, encs_length, List.length_map, decide_true, decide_false, Tree.rec_, Nd.rec_, Word.rec_, Nd.fl, Int.reduceEq, Int.reduceLT, Int.reduceLE, Nat.reduceLT, bne_self_eq_false, Int.reduceToNat, Nat.reduceMul, cfl, cfo, word_tk2, cfv, penc_tk, List.length_map]
    refine idxPL_elt (by omega) (by omega) ?_
    simp only [am, amo, amc, Nat.reduceAdd, Nat.reduceEqDiff, encs_length, List.length_map, decide_true, decide_false, Tree.rec_, Nd.rec_, Word.rec_, Nd.fl, Int.reduceEq, Int.reduceLT, Int.reduceLE, Nat.reduceLT, bne_self_eq_false, Int.reduceToNat, Nat.reduceMul, cfl, cfo, word_tk2, cfv, penc_tk, List.length_map, penc]
    refine idxL_intro (by omega) (pencs_at (List.getElem?_eq_getElem hlt)) ?_
    simp only [am, amo, amc, Nat.reduceAdd, Nat.reduceEqDiff, encs_length, List.length_map, decide_true, decide_false, Tree.rec_, Nd.rec_, Word.rec_, Nd.fl, Int.reduceEq, Int.reduceLT, Int.reduceLE, Nat.reduceLT, bne_self_eq_false, Int.reduceToNat, Nat.reduceMul, cfl, cfo, word_tk2, cfv, penc_tk, List.length_map]
    refine idxPL_elt (by omega) (by omega) ?_
    simp only [am, amo, amc, Nat.reduceAdd, Nat.reduceEqDiff, encs_length, List.length_map, decide_true, decide_false, Tree.rec_, Nd.rec_, Word.rec_, Nd.fl, Int.reduceEq, Int.reduceLT, Int.reduceLE, Nat.reduceLT, bne_self_eq_false, Int.reduceToNat, Nat.reduceMul, cfl, cfo, word_tk2, cfv, penc_tk, List.length_map, penc]
    rw [wrap_i64 (by omega) (by omega)]
    exact Upd.again ⟨i + 1, hlt⟩ (by simp; omega) (by simp [List.replicate, am]) LLLe.rfl OLe.rfl
  intro hlt
  simp only [am, amo, amc, Nat.reduceAdd, Nat.reduceEqDiff, encs_length, List.length_map, decide_true, decide_false, Tree.rec_, Nd.rec_, Word.rec_, Nd.fl, Int.reduceEq, Int.reduceLT, Int.reduceLE, Nat.reduceLT, bne_self_eq_false, Int.reduceToNat, Nat.reduceMul, cfl, cfo, word_tk2, cfv, penc_tk, List.length_map]
  refine (same25_calls _ c.left c.left _ (Nat.le_refl _) h.l).mono ?_
  rintro v σ ⟨rfl, rfl⟩
  simp only [am, amo, amc, Nat.reduceAdd, Nat.reduceEqDiff, encs_length, List.length_map, decide_true, decide_false, Tree.rec_, Nd.rec_, Word.rec_, Nd.fl, Int.reduceEq, Int.reduceLT, Int.reduceLE, Nat.reduceLT, bne_self_eq_false, Int.reduceToNat, Nat.reduceMul, cfl, cfo, word_tk2, cfv, penc_tk, List.length_map, Nd.sameQ_refl]
  refine (same25_calls _ c.right c.right _ (Nat.le_refl _) h.r).mono ?_
  rintro v σ ⟨rfl, rfl⟩
  simp only [am, amo, amc, Nat.reduceAdd, Nat.reduceEqDiff, encs_length, List.length_map, decide_true, decide_false, Tree.rec_, Nd.rec_, Word.rec_, Nd.fl, Int.reduceEq, Int.reduceLT, Int.reduceLE, Nat.reduceLT, bne_self_eq_false, Int.reduceToNat, Nat.reduceMul, cfl, cfo, word_tk2, cfv, penc_tk, List.length_map, Nd.sameQ_refl]
  refine retK_intro rfl (Store.sub_refl _) ⟨?_, rfl⟩
  simp [V.erase, eraseL]
def inv9 (c : Cmd) (σ : Store) (i : Nat) : St :=
  ⟨[.any, .any, .ptr (.loc 0) 0, .ptr (.loc 1) 0] ++ [.any, .int .i64 (i : Nat)] ++ List.replicate 63 .any, [c.enc, c.enc], σ⟩
theorem very12_one {c : Cmd} (h : CmdW c) (σ : Store) : PCalls prog 9 [.agg c.enc, .agg c.enc] σ fun v σ' => v = .bool true ∧ σ' = σ := by
  have h1 := h.ns
  have h2 := h.ps
  simp only [big] at h1 h2
  refine fn9.calls ?_
  simp only [slots, ac9, am, amo, amc, ams, Nat.reduceAdd, Nat.reduceEqDiff, decide_true, decide_false, Tree.rec_, Nd.rec_, Word.rec_, Nd.fl, Int.reduceEq, Int.reduceLT, Int.reduceLE, Nat.reduceLT, bne_self_eq_false, Int.reduceToNat, Nat.reduceMul, cfl, cfo, word_tk2, cfv, penc_tk, List.length_map]
  refine (same12_one h σ).mono ?_
  rintro v σ ⟨rfl, rfl⟩
  simp only [am, amo, amc, Nat.reduceAdd, Nat.reduceEqDiff, encs_length, List.length_map, decide_true, decide_false, Tree.rec_, Nd.rec_, Word.rec_, Nd.fl, Int.reduceEq, Int.reduceLT, Int.reduceLE, Nat.reduceLT, bne_self_eq_false, Int.reduceToNat, Nat.reduceMul, cfl, cfo, word_tk2, cfv, penc_tk, List.length_map]
  refine (words2_one c.names σ (by simp only [big]; omega)).mono ?_
  rintro v σ ⟨rfl, rfl⟩
  simp only [am, amo, amc, Nat.reduceAdd, Nat.reduceEqDiff, encs_length, List.length_map, decide_true, decide_false, Tree.rec_, Nd.rec_, Word.rec_, Nd.fl, Int.reduceEq, Int.reduceLT, Int.reduceLE, Nat.reduceLT, bne_self_eq_false, Int.reduceToNat, Nat.reduceMul, cfl, cfo, word_tk2, cfv, penc_tk, List.length_map]
  refine vc_loop (fun p : { i : Nat // i ≤ c.pairs.length } => inv9 c σ p.1) (fun p => c.pairs.length - p.1) ?_ ?_
  · refine Upd.enter ⟨0, by simp⟩ ?_ LLLe.rfl OLe.rfl
    simp [inv9, List.replicate, am]
  rintro ⟨i, hi⟩
  simp only [inv9, List.replicate, am, cfv, List.length_map]
  refine vcIf_split ?_ ?_
  · intro hlt
    have hlt : i < c.pairs.length := by simpa using hlt
    simp only [am, amo, amc, Nat.reduceAdd, Nat.reduceEqDiff, encs_length, List.length_map, decide_true, decide_false, Tree.rec_, Nd.rec_, Word.rec_, Nd.fl, Int.reduceEq, Int.reduceLT, Int.reduceLE, Nat.reduceLT, bne_self_eq_false, Int.reduceToNat, Nat.reduceMul, cfl, cfo, word_tk2, cfv, penc_tk, List.length_map]
    refine idxL_intro (by omega) (pencs_at (List.getElem?_eq_getElem hlt)) ?_
    simp only [am, amo, amc, Nat.reduceAdd, Nat.reduceEqDiff, encs_length, List.length_map, decide_true, decide_false, Tree.rec_, Nd.rec_, Word.rec_, Nd.fl, Int.reduceEq, Int.reduceLT, Int.reduceLE, Nat.reduceLT, bne_self_eq_false, Int.reduceToNat, Nat.reduceMul, cfl, cfo, word_tk2, cfv, penc_tk, List.length_map]
    refine idxL_intro (by omega) (pencs_at (List.getElem?_eq_getElem hlt)) ?_
    simp only [am, amo, amc, Nat.reduceAdd, Nat.reduceEqDiff, encs_length, List.length_map, decide_true, decide_false, Tree.rec_, Nd.rec_, Word.rec_, Nd.fl, Int.reduceEq, Int.reduceLT, Int.reduceLE, Nat.reduceLT, bne_self_eq_false, Int.reduceToNat, Nat.reduceMul, cfl, cfo, word_tk2, cfv, penc_tk, List.length_map, penc]
    rw [wrap_i64 (by omega) (by omega)]
    exact Upd.again ⟨i + 1, hlt⟩ (by simp; omega) (by simp [List.replicate, am]) LLLe.rfl OLe.rfl
  intro hlt
  simp only [am, amo, amc, Nat.reduceAdd, Nat.reduceEqDiff, encs_length, List.length_map, decide_true, decide_false, Tree.rec_, Nd.rec_, Word.rec_, Nd.fl, Int.reduceEq, Int.reduceLT, Int.reduceLE, Nat.reduceLT, bne_self_eq_false, Int.reduceToNat, Nat.reduceMul, cfl, cfo, word_tk2, cfv, penc_tk, List.length_map]
  refine (very10_one _ c.left _ (Nat.le_refl _) h.l).mono ?_
  rintro v σ ⟨rfl, rfl⟩
  simp only [am, amo, amc, Nat.reduceAdd, Nat.reduceEqDiff, encs_length, List.length_map, decide_true, decide_false, Tree.rec_, Nd.rec_, Word.rec_, Nd.fl, Int.reduceEq, Int.reduceLT, Int.reduceLE, Nat.reduceLT, bne_self_eq_false, Int.reduceToNat, Nat.reduceMul, cfl, cfo, word_tk2, cfv, penc_tk, List.length_map]
  refine (very10_one _ c.right _ (Nat.le_refl _) h.r).mono ?_
  rintro v σ ⟨rfl, rfl⟩
  simp only [am, amo, amc, Nat.reduceAdd, Nat.reduceEqDiff, encs_length, List.length_map, decide_true, decide_false, Tree.rec_, Nd.rec_, Word.rec_, Nd.fl, Int.reduceEq, Int.reduceLT, Int.reduceLE, Nat.reduceLT, bne_self_eq_false, Int.reduceToNat, Nat.reduceMul, cfl, cfo, word_tk2, cfv, penc_tk, List.length_map]
  refine retK_intro rfl (Store.sub_refl _) ⟨?_, rfl⟩
  simp [V.erase, eraseL]
end Go.Proofs.Tryd

namespace Go.Proofs.Tryd
open Go.Am
set_option maxRecDepth 4000
set_option maxHeartbeats 4000000
def ac34 : AC := .seq (.reg [⟨(some 4), .mv (.c (.str [])), none⟩])
 (.seq (.reg [⟨(some 5), .mv (.c (.sl .full 1 [])), none⟩])
 (.seq (.seq (.reg [xm 7 0, xL 8 7, xi 9 0])
 (.block 0 (.loop (.seq (.reg [xb .lss 10 9 8])
 (.seq (.cond (.s 10) (.skip)
 (.exit 0))
 (.seq (.block 1 (.seq (.reg [xm 11 9, xm 6 11])
 (.seq (.seq (.reg [xm 12 6, xB .gtr 13 12 0])
 (.cond (.s 13) (.reg [xm 14 5, xm 15 1, ⟨(some 16), .appS (.s 14) (.s 15), none⟩, xm 5 16])
 (.skip)))
 (.reg [xm 17 5, xm 18 0, xm 19 6, xA 1 20 18 19, xo 21 20, ⟨(some 22), .appS (.s 17) (.s 21), none⟩, xm 5 22]))))
 (.reg [xB .add 23 9 1, xm 9 23])))))))
 (.seq (.reg [xm 24 5, ⟨(some 25), .cvBS (.s 24), none⟩, xm 4 25])
 (.ret))))
theorem fn34 : IsFn prog 34 ac34 [.tmp 4] 26 := ⟨f34, ⟨[], []⟩, func34, by kernel_rfl, by kernel_rfl, by kernel_rfl, by kernel_rfl⟩
def ac35 : AC := .seq (.reg [⟨(some 2), .mv (.c (.sl .full 1 [])), none⟩])
 (.seq (.reg [⟨(some 3), .mv (.c (.sl .full 1 [])), none⟩])
 (.seq (.seq (.reg [xm 6 0, xL 7 6, xi 8 0])
 (.block 0 (.loop (.seq (.reg [xb .lss 9 8 7])
 (.seq (.cond (.s 9) (.skip)
 (.exit 0))
 (.seq (.block 1 (.seq (.reg [xA 2 10 6 8, xl 2 11 10, ⟨(some 5), .alloc [(.str []), (.int .i64 0)], none⟩, xs 2 5 11])
 (.reg [xm 12 3, xf 0 13 5, xo 14 13, ⟨(some 15), .bslice 1 [(.s 14)], none⟩, xa 1 16 12 15, xm 3 16])))
 (.reg [xB .add 17 8 1, xm 8 17])))))))
 (.seq (.reg [xm 18 3, xm 2 18])
 (.ret))))
theorem fn35 : IsFn prog 35 ac35 [.tmp 2] 19 := ⟨f35, ⟨[], []⟩, func35, by kernel_rfl, by kernel_rfl, by kernel_rfl, by kernel_rfl⟩
def ac36 : AC := .seq (.reg [⟨(some 2), .mv (.c (.str [])), none⟩])
 (.seq (.reg [xm 3 0, xc 34 4 [.s 3, .c (.str [44])], ⟨(some 5), .cat (.c (.str [123])) (.s 4), none⟩, ⟨(some 6), .cat (.s 5) (.c (.str [125])), none⟩, xm 2 6])
 (.ret))
theorem fn36 : IsFn prog 36 ac36 [.tmp 2] 7 := ⟨f36, ⟨[], []⟩, func36, by kernel_rfl, by kernel_rfl, by kernel_rfl, by kernel_rfl⟩
def ac37 : AC := .seq (.reg [⟨(some 2), .mv (.c (.sl .full 1 [])), none⟩])
 (.seq (.reg [⟨(some 3), .mv (.c (.sl .full 1 [])), none⟩])
 (.seq (.seq (.reg [xm 6 0, xL 7 6, xi 8 0])
 (.block 0 (.loop (.seq (.reg [xb .lss 9 8 7])
 (.seq (.cond (.s 9) (.skip)
 (.exit 0))
 (.seq (.block 1 (.seq (.reg [xA 4 10 6 8, xl 4 11 10, ⟨(some 5), .alloc [(.str []), (.int .i64 0), (.str []), (.int .i64 0)], none⟩, xs 4 5 11])
 (.reg [xm 12 3, ⟨(some 13), .idxP 2 2 (.s 5) (.c (.int .i64 0)), none⟩, xf 0 14 13, xo 15 14, ⟨(some 16), .cat (.s 15) (.c (.str [60])), none⟩, ⟨(some 17), .idxP 2 2 (.s 5) (.c (.int .i64 1)), none⟩, xf 0 18 17, xo 19 18, ⟨(some 20), .cat (.s 16) (.s 19), none⟩, ⟨(some 21), .bslice 1 [(.s 20)], none⟩, xa 1 22 12 21, xm 3 22])))
 (.reg [xB .add 23 8 1, xm 8 23])))))))
 (.seq (.reg [xm 24 3, xm 2 24])
 (.ret))))
theorem fn37 : IsFn prog 37 ac37 [.tmp 2] 25 := ⟨f37, ⟨[], []⟩, func37, by kernel_rfl, by kernel_rfl, by kernel_rfl, by kernel_rfl⟩
def encT (l : List (List UInt8)) : List (List V) := l.map fun s => [V.str s]
theorem encT_length {l : List (List UInt8)} : (encT l).length = l.length := List.length_map ..
theorem encT_at {l : List (List UInt8)} {j : Nat} {s : List UInt8} (h : l[j]? = some s) : (encT l)[(j : Int).toNat]? = some [.str s] := by simp [encT, h]
def inv34 (l : List (List UInt8)) (sep : List UInt8) (σ : Store) (i τ : Nat) : St :=
  ⟨[.sl .no 1 (encT l), .str sep, .any, .any, .any, .sl (.tk τ) 1 (encB (joinS sep (l.take i))), .any, .any, .int .i64 l.length, .int .i64 (i : Nat)] ++ List.replicate 16 .any, [], σ.setTip τ (joinS sep (l.take i)).length⟩
theorem join_calls (l : List (List UInt8)) (sep : List UInt8) (σ : Store) (hl : l.length ≤ big) (hb : (joinS sep l).length ≤ big) :
    PCalls prog 34 [.sl .no 1 (encT l), .str sep] σ fun v σ' => v = .str (joinS sep l) ∧ σ' = σ := by
  refine fn34.calls ?_
  simp only [slots, ac34, am, amo, amc, ams, Nat.reduceAdd, Nat.reduceEqDiff, decide_true, decide_false, Word.rec_, Nd.fl, Int.reduceEq, Int.reduceLT, Int.reduceLE, Nat.reduceLT, Int.reduceToNat, Nat.reduceMul, encT_length]
  refine vc_loop (fun p : { p : Nat × Nat // σ.tip p.2 = none ∧ p.1 ≤ l.length } => inv34 l sep σ p.1.1 p.1.2) (fun p => l.length - p.1.1) ?_ ?_
  · refine Upd.tokEnter 0 fun τ hτ => ⟨⟨(0, τ), hτ, by simp⟩, ?_, rfl, rfl⟩
    simp [inv34, List.replicate, lto, joinS, encB]
  · rintro ⟨⟨i, τ⟩, hτ, hi⟩
    simp only at hτ hi
    simp only [inv34, List.replicate, am]
    have wi : IntKind.i64.wrap ((i : Int) + 1) = ((i + 1 : Nat) : Int) := by simp only [big] at hl; rw [wrap_i64 (by omega) (by omega)]; simp
    by_cases hlt : i < l.length
    · have hs := joinS_take (sep := sep) hlt
      have hm := joinS_le (sep := sep) (l := l) (i := i + 1)
      rw [hs] at hm
      simp only [List.length_append] at hm
      simp only [am, amo, amc, Nat.reduceAdd, Nat.reduceEqDiff, encs_length, List.length_map, decide_true, decide_false, Word.rec_, Nd.fl, Int.reduceEq, Int.reduceLT, Int.reduceLE, Nat.reduceLT, Int.reduceToNat, Nat.reduceMul, encT_length, decide_eq_true (show (i : Int) < l.length by omega)]
      by_cases h0 : 0 < i
      case' pos =>
        rw [if_pos h0] at hs hm
        simp only [am, amo, amc, Nat.reduceAdd, Nat.reduceEqDiff, encs_length, List.length_map, decide_true, decide_false, Word.rec_, Nd.fl, Int.reduceEq, Int.reduceLT, Int.reduceLE, Nat.reduceLT, Int.reduceToNat, Nat.reduceMul, encT_length, decide_eq_true (show (0 : Int) < i by omega)]
        refine ⟨_, rfl, ?_⟩
        refine app_tk (by rw [encB_length, encB_length]; omega) (by rw [encB_length, setTip_tip_same]) ?_
        simp only [am, amo, amc, Nat.reduceAdd, Nat.reduceEqDiff, encs_length, List.length_map, decide_true, decide_false, Word.rec_, Nd.fl, Int.reduceEq, Int.reduceLT, Int.reduceLE, Nat.reduceLT, Int.reduceToNat, Nat.reduceMul, encT_length, setTip_setTip]
        rw [← encB_append, encB_length, encB_length, ← List.length_append]
      case' neg =>
        rw [if_neg h0, List.append_nil] at hs
        rw [if_neg h0] at hm
        simp only [am, amo, amc, Nat.reduceAdd, Nat.reduceEqDiff, encs_length, List.length_map, decide_true, decide_false, Word.rec_, Nd.fl, Int.reduceEq, Int.reduceLT, Int.reduceLE, Nat.reduceLT, Int.reduceToNat, Nat.reduceMul, encT_length, decide_eq_false (show ¬ (0 : Int) < i by omega)]
      all_goals
        refine idxL_intro (by omega) (encT_at (List.getElem?_eq_getElem hlt)) ?_
        simp only [am, amo, amc, Nat.reduceAdd, Nat.reduceEqDiff, encs_length, List.length_map, decide_true, decide_false, Word.rec_, Nd.fl, Int.reduceEq, Int.reduceLT, Int.reduceLE, Nat.reduceLT, Int.reduceToNat, Nat.reduceMul, encT_length]
        refine ⟨_, rfl, ?_⟩
        refine app_tk (by rw [encB_length, encB_length]; simp at hm ⊢; omega) (by rw [encB_length, setTip_tip_same]) ?_
        simp only [am, amo, amc, Nat.reduceAdd, Nat.reduceEqDiff, encs_length, List.length_map, decide_true, decide_false, Word.rec_, Nd.fl, Int.reduceEq, Int.reduceLT, Int.reduceLE, Nat.reduceLT, Int.reduceToNat, Nat.reduceMul, encT_length, setTip_setTip, wi]
        rw [← encB_append, encB_length, encB_length, ← List.length_append, ← hs]
        exact Upd.again (I := fun p : { p : Nat × Nat // σ.tip p.2 = none ∧ p.1 ≤ l.length } => inv34 l sep σ p.1.1 p.1.2) (μ := fun p => l.length - p.1.1) ⟨(i + 1, τ), hτ, hlt⟩ (by simp; omega) (by simp [inv34, am, List.replicate]) LLLe.rfl OLe.rfl
    · have hlt : i = l.length := by omega
      subst hlt
      simp only [am, amo, amc, Nat.reduceAdd, Nat.reduceEqDiff, encs_length, List.length_map, decide_true, decide_false, Word.rec_, Nd.fl, Int.reduceEq, Int.reduceLT, Int.reduceLE, Nat.reduceLT, Int.reduceToNat, Nat.reduceMul, encT_length, decide_eq_false (show ¬ (l.length : Int) < l.length by omega), List.take_length]
      refine ⟨_, _, rfl, ?_⟩
      refine retK_intro rfl (sub_tip hτ) ⟨?_, rfl⟩
      simp [V.erase]
def inv35 (l : List Word) (σ : Store) (i τ : Nat) (loc : List (List V)) : St :=
  ⟨[.any, .any, .any, .sl (.tk τ) 1 (encT ((l.take i).map Word.text)), .any, .any, .sl .no 2 (l.map Word.enc), .int .i64 l.length, .int .i64 (i : Nat)] ++ List.replicate 10 .any, loc, σ.setTip τ i⟩
theorem encT_snoc {l : List (List UInt8)} {s : List UInt8} : encT l ++ [[.str s]] = encT (l ++ [s]) := by simp [encT]
theorem texts_calls (l : List Word) (σ : Store) (hl : l.length + 1 ≤ big) : PCalls prog 35 [.sl .no 2 (l.map Word.enc)] σ fun v σ' => v = .sl .no 1 (encT (l.map Word.text)) ∧ σ' = σ := by
  refine fn35.calls ?_
  simp only [slots, ac35, am, amo, amc, ams, Nat.reduceAdd, Nat.reduceEqDiff, decide_true, decide_false, Word.rec_, Nd.fl, Int.reduceEq, Int.reduceLT, Int.reduceLE, Nat.reduceLT, Int.reduceToNat, Nat.reduceMul, encT_length]
  refine vc_loop (fun p : { p : Nat × Nat // σ.tip p.2 = none ∧ p.1 ≤ l.length } => inv35 l σ p.1.1 p.1.2 []) (fun p => l.length - p.1.1) ?_ ?_
  · refine Upd.tokEnter 0 fun τ hτ => ⟨⟨(0, τ), hτ, by simp⟩, ?_, rfl, rfl⟩
    simp [inv35, List.replicate, lto, encT]
  · rintro ⟨⟨i, τ⟩, hτ, hi⟩
    simp only at hτ hi
    simp only [inv35, List.replicate, am]
    have wi : IntKind.i64.wrap ((i : Int) + 1) = ((i + 1 : Nat) : Int) := by simp only [big] at hl; rw [wrap_i64 (by omega) (by omega)]; simp
    by_cases hlt : i < l.length
    · have htl : ((l.take i).map Word.text).length = i := by simp; omega
      have hsn : (l.take i).map Word.text ++ [l[i].text] = (l.take (i + 1)).map Word.text := by rw [List.take_succ_eq_append_getElem hlt, List.map_append, List.map_singleton]
      simp only [am, amo, amc, Nat.reduceAdd, Nat.reduceEqDiff, encs_length, List.length_map, decide_true, decide_false, Word.rec_, Nd.fl, Int.reduceEq, Int.reduceLT, Int.reduceLE, Nat.reduceLT, Int.reduceToNat, Nat.reduceMul, encT_length, decide_eq_true (show (i : Int) < l.length by omega)]
      refine idxL_intro (by omega) (wencs_at (List.getElem?_eq_getElem hlt)) ?_
      simp only [am, amo, amc, Nat.reduceAdd, Nat.reduceEqDiff, encs_length, List.length_map, decide_true, decide_false, Word.rec_, Nd.fl, Int.reduceEq, Int.reduceLT, Int.reduceLE, Nat.reduceLT, Int.reduceToNat, Nat.reduceMul, encT_length, word_tk2, Word.enc]
      refine app_tk (by rw [encT_length, htl]; simp; omega) (by rw [encT_length, htl, setTip_tip_same]) ?_
      simp only [am, amo, amc, Nat.reduceAdd, Nat.reduceEqDiff, encs_length, List.length_map, decide_true, decide_false, Word.rec_, Nd.fl, Int.reduceEq, Int.reduceLT, Int.reduceLE, Nat.reduceLT, Int.reduceToNat, Nat.reduceMul, encT_length, setTip_setTip, wi, htl]
      rw [encT_snoc, hsn]
      exact Upd.againD (I := fun p : { p : Nat × Nat // σ.tip p.2 = none ∧ p.1 ≤ l.length } => inv35 l σ p.1.1 p.1.2 []) (μ := fun p => l.length - p.1.1) ⟨(i + 1, τ), hτ, hlt⟩ (by simp; omega) (by simp [inv35, am, List.replicate]) (by simp [inv35, am]) OLe.rfl (by simp [inv35, List.replicate, loL, V.lo]) (by simp [inv35, loLL])
    · have hlt : i = l.length := by omega
      subst hlt
      simp only [am, amo, amc, Nat.reduceAdd, Nat.reduceEqDiff, encs_length, List.length_map, decide_true, decide_false, Word.rec_, Nd.fl, Int.reduceEq, Int.reduceLT, Int.reduceLE, Nat.reduceLT, Int.reduceToNat, Nat.reduceMul, encT_length, decide_eq_false (show ¬ (l.length : Int) < l.length by omega), List.take_length]
      refine retK_intro rfl (sub_tip hτ) ⟨?_, rfl⟩
      simp [V.erase]
def inv37 (l : List (Word × Word)) (σ : Store) (i τ : Nat) (loc : List (List V)) : St :=
  ⟨[.any, .any, .any, .sl (.tk τ) 1 (encT ((l.take i).map pairT)), .any, .any, .sl .no 4 (l.map penc), .int .i64 l.length, .int .i64 (i : Nat)] ++ List.replicate 16 .any, loc, σ.setTip τ i⟩
theorem pairsT_calls (l : List (Word × Word)) (σ : Store) (hl : l.length + 1 ≤ big) (hp : psum l ≤ big) : PCalls prog 37 [.sl .no 4 (l.map penc)] σ fun v σ' => v = .sl .no 1 (encT (l.map pairT)) ∧ σ' = σ := by
  refine fn37.calls ?_
  simp only [slots, ac37, am, amo, amc, ams, Nat.reduceAdd, Nat.reduceEqDiff, decide_true, decide_false, Word.rec_, Nd.fl, Int.reduceEq, Int.reduceLT, Int.reduceLE, Nat.reduceLT, Int.reduceToNat, Nat.reduceMul, encT_length]
  refine vc_loop (fun p : { p : Nat × Nat // σ.tip p.2 = none ∧ p.1 ≤ l.length } => inv37 l σ p.1.1 p.1.2 []) (fun p => l.length - p.1.1) ?_ ?_
  · refine Upd.tokEnter 0 fun τ hτ => ⟨⟨(0, τ), hτ, by simp⟩, ?_, rfl, rfl⟩
    simp [inv37, List.replicate, lto, encT]
  · rintro ⟨⟨i, τ⟩, hτ, hi⟩
    simp only at hτ hi
    simp only [inv37, List.replicate, am]
    have wi : IntKind.i64.wrap ((i : Int) + 1) = ((i + 1 : Nat) : Int) := by simp only [big] at hl; rw [wrap_i64 (by omega) (by omega)]; simp
    by_cases hlt : i < l.length
    · have htl : ((l.take i).map pairT).length = i := by simp; omega
      have hsn : (l.take i).map pairT ++ [pairT l[i]] = (l.take (i + 1)).map pairT := by rw [List.take_succ_eq_append_getElem hlt, List.map_append, List.map_singleton]
      simp only [am, amo, amc, Nat.reduceAdd, Nat.reduceEqDiff, encs_length, List.length_map, decide_true, decide_false, Word.rec_, Nd.fl, Int.reduceEq, Int.reduceLT, Int.reduceLE, Nat.reduceLT, Int.reduceToNat, Nat.reduceMul, encT_length, decide_eq_true (show (i : Int) < l.length by omega)]
      refine idxL_intro (by omega) (pencs_at (List.getElem?_eq_getElem hlt)) ?_
      simp only [am, amo, amc, Nat.reduceAdd, Nat.reduceEqDiff, encs_length, List.length_map, decide_true, decide_false, Word.rec_, Nd.fl, Int.reduceEq, Int.reduceLT, Int.reduceLE, Nat.reduceLT, Int.reduceToNat, Nat.reduceMul, encT_length, penc_tk, penc]
      have hpl := psum_at hlt
      refine idxPL_ptr (by omega) (by omega) ?_
      simp only [am, amo, amc, Nat.reduceAdd, Nat.reduceEqDiff, encs_length, List.length_map, decide_true, decide_false, Word.rec_, Nd.fl, Int.reduceEq, Int.reduceLT, Int.reduceLE, Nat.reduceLT, Int.reduceToNat, Nat.reduceMul, encT_length]
      refine ⟨by simp; omega, ?_⟩
      refine idxPL_ptr (by omega) (by omega) ?_
      simp only [am, amo, amc, Nat.reduceAdd, Nat.reduceEqDiff, encs_length, List.length_map, decide_true, decide_false, Word.rec_, Nd.fl, Int.reduceEq, Int.reduceLT, Int.reduceLE, Nat.reduceLT, Int.reduceToNat, Nat.reduceMul, encT_length]
      refine ⟨by simp; omega, ?_⟩
      refine app_tk (by rw [encT_length, htl]; simp; omega) (by rw [encT_length, htl, setTip_tip_same]) ?_
      simp only [am, amo, amc, Nat.reduceAdd, Nat.reduceEqDiff, encs_length, List.length_map, decide_true, decide_false, Word.rec_, Nd.fl, Int.reduceEq, Int.reduceLT, Int.reduceLE, Nat.reduceLT, Int.reduceToNat, Nat.reduceMul, encT_length, setTip_setTip, wi, htl]
      rw [show l[i].1.text ++ [60] ++ l[i].2.text = pairT l[i] from rfl, encT_snoc, hsn]
      exact Upd.againD (I := fun p : { p : Nat × Nat // σ.tip p.2 = none ∧ p.1 ≤ l.length } => inv37 l σ p.1.1 p.1.2 []) (μ := fun p => l.length - p.1.1) ⟨(i + 1, τ), hτ, hlt⟩ (by simp; omega) (by simp [inv37, am, List.replicate]) (by simp [inv37, am]) OLe.rfl (by simp [inv37, List.replicate, loL, V.lo]) (by simp [inv37, loLL])
    · have hlt : i = l.length := by omega
      subst hlt
      simp only [am, amo, amc, Nat.reduceAdd, Nat.reduceEqDiff, encs_length, List.length_map, decide_true, decide_false, Word.rec_, Nd.fl, Int.reduceEq, Int.reduceLT, Int.reduceLE, Nat.reduceLT, Int.reduceToNat, Nat.reduceMul, encT_length, decide_eq_false (show ¬ (l.length : Int) < l.length by omega), List.take_length]
      refine retK_intro rfl (sub_tip hτ) ⟨?_, rfl⟩
      simp [V.erase]
theorem braces_calls (l : List (List UInt8)) (σ : Store) (hl : l.length ≤ big) (hb : (joinC l).length + 2 ≤ big) : PCalls prog 36 [.sl .no 1 (encT l)] σ fun v σ' => v = .str (braceT l) ∧ σ' = σ := by
  refine fn36.calls ?_
  simp only [slots, ac36, am, amo, amc, ams, Nat.reduceAdd, Nat.reduceEqDiff, decide_true, decide_false, Word.rec_, Nd.fl, Int.reduceEq, Int.reduceLT, Int.reduceLE, Nat.reduceLT, Int.reduceToNat, Nat.reduceMul, encT_length]
  refine (join_calls l [44] σ hl (by rw [joinS_C]; omega)).mono ?_
  rintro v σ ⟨rfl, rfl⟩
  simp only [am, amo, amc, Nat.reduceAdd, Nat.reduceEqDiff, encs_length, List.length_map, decide_true, decide_false, Word.rec_, Nd.fl, Int.reduceEq, Int.reduceLT, Int.reduceLE, Nat.reduceLT, Int.reduceToNat, Nat.reduceMul, encT_length, joinS_C]
  refine ⟨by simp; omega, by simp; omega, ?_⟩
  refine retK_intro rfl (Store.sub_refl _) ⟨?_, rfl⟩
  simp [V.erase, eraseL, braceT]
end Go.Proofs.Tryd

namespace Go.Proofs.Tryd
open Go.Am
set_option maxRecDepth 4000
set_option maxHeartbeats 4000000
def ac12 : AC := .seq (.reg [⟨(some 1), .box 17 (.s 0), none⟩, ⟨(some 2), .mv (.c (.str [])), none⟩])
 (.seq (.reg [xf 0 8 1, xo 9 8, xc 20 10 [.s 9], ⟨(some 3), .alloc [(.str []), (.str [])], none⟩, xs 2 3 10])
 (.seq (.reg [xf 0 11 3, xo 12 11, ⟨(some 13), .bslice 1 [(.s 12)], none⟩, xm 4 13])
 (.seq (.reg [xf 7 14 1, xl 5 15 14, xf 12 16 1, xl 5 17 16, ⟨(some 18), .bslice 5 [(.s 15), (.s 17)], none⟩, xm 5 18])
 (.seq (.rangeS [xf 1 19 3, xo 20 19] (.s 20) 21 22 23 0 1
 (.seq (.reg [xe 24 22 2, xm 7 24])
 (.seq (.reg [xm 25 7])
 (.block 2 (.seq (.reg [⟨(some 36), .binI .eql (.s 25) (.c (.int .i32 110)), none⟩, xm 35 36])
 (.cond (.s 35) (.reg [xm 37 4, xf 2 38 1, xf 0 39 38, xo 40 39, ⟨(some 41), .bslice 1 [(.s 40)], none⟩, xa 1 42 37 41, xm 4 42])
 (.seq (.reg [⟨(some 44), .binI .eql (.s 25) (.c (.int .i32 102)), none⟩, xm 43 44])
 (.cond (.s 43) (.reg [xm 45 4, xf 4 46 1, xo 47 46, xc 35 48 [.s 47], xc 34 49 [.s 48, .c (.str [44])], ⟨(some 50), .bslice 1 [(.s 49)], none⟩, xa 1 51 45 50, xm 4 51])
 (.seq (.reg [⟨(some 53), .binI .eql (.s 25) (.c (.int .i32 119)), none⟩, xm 52 53])
 (.cond (.s 52) (.reg [xm 54 4, xf 4 55 1, xo 56 55, xc 35 57 [.s 56], xc 36 58 [.s 57], ⟨(some 59), .bslice 1 [(.s 58)], none⟩, xa 1 60 54 59, xm 4 60])
 (.seq (.reg [⟨(some 62), .binI .eql (.s 25) (.c (.int .i32 112)), none⟩, xm 61 62])
 (.cond (.s 61) (.reg [xm 63 4, xf 5 64 1, xo 65 64, xc 37 66 [.s 65], xc 36 67 [.s 66], ⟨(some 68), .bslice 1 [(.s 67)], none⟩, xa 1 69 63 68, xm 4 69])
 (.seq (.reg [xm 26 4, xm 27 5, ⟨(some 28), .idxA 5 (.s 27) (.c (.int .i64 0)), none⟩, xl 5 29 28, xc 38 30 [.s 29], ⟨(some 31), .bslice 1 [(.s 30)], none⟩, xa 1 32 26 31, xm 4 32])
 (.reg [xm 33 5, ⟨(some 34), .slc 5 (.s 33) (some (.c (.int .i64 1))) none none, none⟩, xm 5 34]))))))))))))))
 (.seq (.reg [xm 70 4, xc 34 71 [.s 70, .c (.str [32])], xm 2 71])
 (.ret))))))
theorem fn12 : IsFn prog 12 ac12 [.tmp 2] 72 := ⟨f12, ⟨[], []⟩, func12, by kernel_rfl, by kernel_rfl, by kernel_rfl, by kernel_rfl⟩
theorem nd_len {n : Nd} : n.enc.length = 5 := by rw [Nd.enc_eq]; rfl
theorem nd_one {n : Nd} : oneL n.enc = true := by rw [Nd.enc_eq]; rfl
def stT (c : Cmd) (σ : Store) (ks : List UInt8) (b i τ : Nat) : St :=
  ⟨[.any, .ptr (.loc 0) 0, .any, .any, .sl (.tk τ) 1 (encT (piecesT c (ks.take i)).1), .sl .no 5 ((piecesT c (ks.take i)).2.map Nd.enc)] ++ List.replicate 15 .any ++ [.raw (.pointer (some ⟨b, 0, none⟩))] ++ List.replicate 50 .any, [c.enc, [.str (formOf c.op).1, .str ks]], σ.setTip τ (i + 1)⟩
theorem ctext_calls (c : Cmd) {σ : Store} (hg : σ.box 0 = some formCells) (hw : 16 * c.wt + 64 ≤ big) : PCalls prog 12 [.agg c.enc] σ fun v σ' => v = .str (textC c) ∧ σ' = σ := by
  have hcw : c.wt = c.name.text.length + wsum c.names + psum c.pairs + c.left.wt + c.right.wt := rfl
  have hn1 := psum_word c.names
  have hp1 := psum_len c.pairs
  refine fn12.calls ?_
  simp only [slots, ac12, am, amo, amc, ams, Nat.reduceAdd, Nat.reduceEqDiff, decide_true, decide_false, Tree.rec_, Nd.rec_, Word.rec_, nd_len, nd_one, Int.reduceEq, Int.reduceLT, Int.reduceLE, Nat.reduceLT, Int.reduceToNat, Nat.reduceMul, encT_length, cfl, cfo, cfv]
  refine (of_calls c.op hg).mono ?_
  rintro v σ ⟨rfl, rfl⟩
  simp only [am, amo, amc, Nat.reduceAdd, Nat.reduceEqDiff, encs_length, List.length_map, decide_true, decide_false, Tree.rec_, Nd.rec_, Word.rec_, nd_len, nd_one, Int.reduceEq, Int.reduceLT, Int.reduceLE, Nat.reduceLT, Int.reduceToNat, Nat.reduceMul, encT_length, cfl, cfo, cfv]
  refine vc_rangeS ?_
  simp only [am, amo, amc, Nat.reduceAdd, Nat.reduceEqDiff, encs_length, List.length_map, decide_true, decide_false, Tree.rec_, Nd.rec_, Word.rec_, nd_len, nd_one, Int.reduceEq, Int.reduceLT, Int.reduceLE, Nat.reduceLT, Int.reduceToNat, Nat.reduceMul, encT_length, cfl, cfo, cfv]
  have hft := form_terms c.op
  have htx : textC c = joinS [32] (piecesT c (formOf c.op).2).1 := rfl
  have hkl := form_len c.op
  generalize hks : (formOf c.op).2 = ks at hft htx hkl
  refine ⟨ks, rfl, by rw [← hks]; exact form_ascii c.op, fun b i st' => ∃ τ : { τ : Nat // σ.tip τ = none }, st' = stT c σ ks b i τ.1, ?_, ?_, ?_, ?_⟩
  · intro b
    refine Upd.tokEnter 1 fun τ hτ => ⟨⟨τ, hτ⟩, ?_, ?_, rfl⟩
    · simp [stT, List.replicate, lto, encT, piecesT]
      exact ⟨VTo.tok rfl, VTo.le VLe.no⟩
    · simp [stT]
  · rintro b i _ ⟨τ, rfl⟩
    exact ⟨rfl, by simp [stT], by simp [stT]⟩
  · rintro b i k _ hk ⟨⟨τ, hτ⟩, rfl⟩
    have hi : i < ks.length := (List.getElem?_eq_some_iff.1 hk).1
    have hki : ks.take (i + 1) = ks.take i ++ [k] := by rw [take_succ_of hk]
    obtain ⟨o1, o2, o3, o4⟩ := pieces_ok c (ks.take i)
    have hsn := piecesT_snoc c (ks.take i) k
    rw [← hki] at hsn
    have ho3 : (encT (piecesT c (ks.take i)).1).length = i + 1 := by rw [encT_length, o3, List.length_take]; omega
    have hkk : ∀ n : UInt8, ((k.toNat : Nat) : Int) = (n.toNat : Nat) ↔ k = n := fun n => by
      constructor
      · intro h; exact UInt8.toNat_inj.1 (by omega)
      · rintro rfl; rfl
    have e110 : ((k.toNat : Nat) : Int) = 110 ↔ k = 110 := hkk 110
    have e102 : ((k.toNat : Nat) : Int) = 102 ↔ k = 102 := hkk 102
    have e119 : ((k.toNat : Nat) : Int) = 119 ↔ k = 119 := hkk 119
    have e112 : ((k.toNat : Nat) : Int) = 112 ↔ k = 112 := hkk 112
    have ht := hft i hi k hk
    simp only [stT, List.replicate, am]
    generalize hX : piecesT c (ks.take i) = X at *
    obtain ⟨rows, ts⟩ := X
    simp only at o1 o2 o3 o4 ho3
    simp only
    rw [hsn]
    simp only [stepC]
    have hlb : rows.length + 1 ≤ big := by
      have : (List.take i ks).length ≤ 3 := by rw [List.length_take]; omega
      simp only [big]; omega
    by_cases k1 : k = 110
    · have hp : pieceT k c (ts.headD .zero) = c.name.text := by subst k1; rfl
      have hq : isTerm k = false := by subst k1; rfl
      simp only [am, amo, amc, Nat.reduceAdd, Nat.reduceEqDiff, encs_length, List.length_map, decide_true, decide_false, Tree.rec_, Nd.rec_, Word.rec_, nd_len, nd_one, Int.reduceEq, Int.reduceLT, Int.reduceLE, Nat.reduceLT, Int.reduceToNat, Nat.reduceMul, encT_length, cfl, cfo, cfv, decide_eq_true (e110.2 k1), hp, hq]
      refine app_tk (by rw [ho3]; simp only [List.length_singleton, big] at *; omega) (by rw [ho3, setTip_tip_same]) ?_
      simp only [am, amo, amc, Nat.reduceAdd, Nat.reduceEqDiff, encs_length, List.length_map, decide_true, decide_false, Tree.rec_, Nd.rec_, Word.rec_, nd_len, nd_one, Int.reduceEq, Int.reduceLT, Int.reduceLE, Nat.reduceLT, Int.reduceToNat, Nat.reduceMul, encT_length, cfl, cfo, cfv, setTip_setTip, ho3]
      rw [encT_snoc]
      exact Upd.weak (by simp [am]) (by simp [am]) OLe.rfl ⟨⟨τ, hτ⟩, rfl⟩
    simp only [am, amo, amc, Nat.reduceAdd, Nat.reduceEqDiff, encs_length, List.length_map, decide_true, decide_false, Tree.rec_, Nd.rec_, Word.rec_, nd_len, nd_one, Int.reduceEq, Int.reduceLT, Int.reduceLE, Nat.reduceLT, Int.reduceToNat, Nat.reduceMul, encT_length, cfl, cfo, cfv, decide_eq_false (fun h => k1 (e110.1 h))]
    by_cases k2 : k = 102
    · have hp : pieceT k c (ts.headD .zero) = joinC (c.names.map Word.text) := by subst k2; rfl
      have hq : isTerm k = false := by subst k2; rfl
      simp only [am, amo, amc, Nat.reduceAdd, Nat.reduceEqDiff, encs_length, List.length_map, decide_true, decide_false, Tree.rec_, Nd.rec_, Word.rec_, nd_len, nd_one, Int.reduceEq, Int.reduceLT, Int.reduceLE, Nat.reduceLT, Int.reduceToNat, Nat.reduceMul, encT_length, cfl, cfo, cfv, decide_eq_true (e102.2 k2), hp, hq]
      refine (texts_calls c.names _ (by omega)).mono ?_
      rintro v σ ⟨rfl, rfl⟩
      simp only [am, amo, amc, Nat.reduceAdd, Nat.reduceEqDiff, encs_length, List.length_map, decide_true, decide_false, Tree.rec_, Nd.rec_, Word.rec_, nd_len, nd_one, Int.reduceEq, Int.reduceLT, Int.reduceLE, Nat.reduceLT, Int.reduceToNat, Nat.reduceMul, encT_length, cfl, cfo, cfv]
      refine (join_calls (c.names.map Word.text) [44] _ (by rw [List.length_map]; omega) (by rw [joinS_C]; omega)).mono ?_
      rintro v σ ⟨rfl, rfl⟩
      simp only [am, amo, amc, Nat.reduceAdd, Nat.reduceEqDiff, encs_length, List.length_map, decide_true, decide_false, Tree.rec_, Nd.rec_, Word.rec_, nd_len, nd_one, Int.reduceEq, Int.reduceLT, Int.reduceLE, Nat.reduceLT, Int.reduceToNat, Nat.reduceMul, encT_length, cfl, cfo, cfv, joinS_C]
      refine app_tk (by rw [ho3]; simp only [List.length_singleton, big] at *; omega) (by rw [ho3, setTip_tip_same]) ?_
      simp only [am, amo, amc, Nat.reduceAdd, Nat.reduceEqDiff, encs_length, List.length_map, decide_true, decide_false, Tree.rec_, Nd.rec_, Word.rec_, nd_len, nd_one, Int.reduceEq, Int.reduceLT, Int.reduceLE, Nat.reduceLT, Int.reduceToNat, Nat.reduceMul, encT_length, cfl, cfo, cfv, setTip_setTip, ho3]
      rw [encT_snoc]
      exact Upd.weak (by simp [am]) (by simp [am]) OLe.rfl ⟨⟨τ, hτ⟩, rfl⟩
    simp only [am, amo, amc, Nat.reduceAdd, Nat.reduceEqDiff, encs_length, List.length_map, decide_true, decide_false, Tree.rec_, Nd.rec_, Word.rec_, nd_len, nd_one, Int.reduceEq, Int.reduceLT, Int.reduceLE, Nat.reduceLT, Int.reduceToNat, Nat.reduceMul, encT_length, cfl, cfo, cfv, decide_eq_false (fun h => k2 (e102.1 h))]
    by_cases k3 : k = 119
    · have hp : pieceT k c (ts.headD .zero) = braceT (c.names.map Word.text) := by subst k3; rfl
      have hq : isTerm k = false := by subst k3; rfl
      simp only [am, amo, amc, Nat.reduceAdd, Nat.reduceEqDiff, encs_length, List.length_map, decide_true, decide_false, Tree.rec_, Nd.rec_, Word.rec_, nd_len, nd_one, Int.reduceEq, Int.reduceLT, Int.reduceLE, Nat.reduceLT, Int.reduceToNat, Nat.reduceMul, encT_length, cfl, cfo, cfv, decide_eq_true (e119.2 k3), hp, hq]
      refine (texts_calls c.names _ (by omega)).mono ?_
      rintro v σ ⟨rfl, rfl⟩
      simp only [am, amo, amc, Nat.reduceAdd, Nat.reduceEqDiff, encs_length, List.length_map, decide_true, decide_false, Tree.rec_, Nd.rec_, Word.rec_, nd_len, nd_one, Int.reduceEq, Int.reduceLT, Int.reduceLE, Nat.reduceLT, Int.reduceToNat, Nat.reduceMul, encT_length, cfl, cfo, cfv]
      refine (braces_calls (c.names.map Word.text) _ (by rw [List.length_map]; omega) (by omega)).mono ?_
      rintro v σ ⟨rfl, rfl⟩
      simp only [am, amo, amc, Nat.reduceAdd, Nat.reduceEqDiff, encs_length, List.length_map, decide_true, decide_false, Tree.rec_, Nd.rec_, Word.rec_, nd_len, nd_one, Int.reduceEq, Int.reduceLT, Int.reduceLE, Nat.reduceLT, Int.reduceToNat, Nat.reduceMul, encT_length, cfl, cfo, cfv]
      refine app_tk (by rw [ho3]; simp only [List.length_singleton, big] at *; omega) (by rw [ho3, setTip_tip_same]) ?_
      simp only [am, amo, amc, Nat.reduceAdd, Nat.reduceEqDiff, encs_length, List.length_map, decide_true, decide_false, Tree.rec_, Nd.rec_, Word.rec_, nd_len, nd_one, Int.reduceEq, Int.reduceLT, Int.reduceLE, Nat.reduceLT, Int.reduceToNat, Nat.reduceMul, encT_length, cfl, cfo, cfv, setTip_setTip, ho3]
      rw [encT_snoc]
      exact Upd.weak (by simp [am]) (by simp [am]) OLe.rfl ⟨⟨τ, hτ⟩, rfl⟩
    simp only [am, amo, amc, Nat.reduceAdd, Nat.reduceEqDiff, encs_length, List.length_map, decide_true, decide_false, Tree.rec_, Nd.rec_, Word.rec_, nd_len, nd_one, Int.reduceEq, Int.reduceLT, Int.reduceLE, Nat.reduceLT, Int.reduceToNat, Nat.reduceMul, encT_length, cfl, cfo, cfv, decide_eq_false (fun h => k3 (e119.1 h))]
    by_cases k4 : k = 112
    · have hp : pieceT k c (ts.headD .zero) = braceT (c.pairs.map pairT) := by subst k4; rfl
      have hq : isTerm k = false := by subst k4; rfl
      simp only [am, amo, amc, Nat.reduceAdd, Nat.reduceEqDiff, encs_length, List.length_map, decide_true, decide_false, Tree.rec_, Nd.rec_, Word.rec_, nd_len, nd_one, Int.reduceEq, Int.reduceLT, Int.reduceLE, Nat.reduceLT, Int.reduceToNat, Nat.reduceMul, encT_length, cfl, cfo, cfv, decide_eq_true (e112.2 k4), hp, hq]
      refine (pairsT_calls c.pairs _ (by omega) (by omega)).mono ?_
      rintro v σ ⟨rfl, rfl⟩
      simp only [am, amo, amc, Nat.reduceAdd, Nat.reduceEqDiff, encs_length, List.length_map, decide_true, decide_false, Tree.rec_, Nd.rec_, Word.rec_, nd_len, nd_one, Int.reduceEq, Int.reduceLT, Int.reduceLE, Nat.reduceLT, Int.reduceToNat, Nat.reduceMul, encT_length, cfl, cfo, cfv]
      refine (braces_calls (c.pairs.map pairT) _ (by rw [List.length_map]; omega) (by omega)).mono ?_
      rintro v σ ⟨rfl, rfl⟩
      simp only [am, amo, amc, Nat.reduceAdd, Nat.reduceEqDiff, encs_length, List.length_map, decide_true, decide_false, Tree.rec_, Nd.rec_, Word.rec_, nd_len, nd_one, Int.reduceEq, Int.reduceLT, Int.reduceLE, Nat.reduceLT, Int.reduceToNat, Nat.reduceMul, encT_length, cfl, cfo, cfv]
      refine app_tk (by rw [ho3]; simp only [List.length_singleton, big] at *; omega) (by rw [ho3, setTip_tip_same]) ?_
      simp only [am, amo, amc, Nat.reduceAdd, Nat.reduceEqDiff, encs_length, List.length_map, decide_true, decide_false, Tree.rec_, Nd.rec_, Word.rec_, nd_len, nd_one, Int.reduceEq, Int.reduceLT, Int.reduceLE, Nat.reduceLT, Int.reduceToNat, Nat.reduceMul, encT_length, cfl, cfo, cfv, setTip_setTip, ho3]
      rw [encT_snoc]
      exact Upd.weak (by simp [am]) (by simp [am]) OLe.rfl ⟨⟨τ, hτ⟩, rfl⟩
    simp only [am, amo, amc, Nat.reduceAdd, Nat.reduceEqDiff, encs_length, List.length_map, decide_true, decide_false, Tree.rec_, Nd.rec_, Word.rec_, nd_len, nd_one, Int.reduceEq, Int.reduceLT, Int.reduceLE, Nat.reduceLT, Int.reduceToNat, Nat.reduceMul, encT_length, cfl, cfo, cfv, decide_eq_false (fun h => k4 (e112.1 h))]
    have hq : isTerm k = true := by simp [isTerm, k1, k2, k3, k4]
    have ht2 := ht hq
    obtain ⟨n, ns, hts⟩ : ∃ n ns, ts = n :: ns := by
      rw [o4]
      match (List.filter isTerm (List.take i ks)).length, ht2 with
      | 0, _ => exact ⟨_, _, rfl⟩
      | 1, _ => exact ⟨_, _, rfl⟩
    have hnw : n.wt ≤ c.wt := o2 n (by rw [hts]; simp)
    have hp : pieceT k c (ts.headD .zero) = n.txt := by rw [hts]; simp [pieceT, k1, k2, k3, k4]
    have htt : ts.map Nd.enc = n.enc :: ns.map Nd.enc := by rw [hts]; rfl
    have htl : ts.tail = ns := by rw [hts]; rfl
    simp only [am, amo, amc, Nat.reduceAdd, Nat.reduceEqDiff, encs_length, List.length_map, decide_true, decide_false, Tree.rec_, Nd.rec_, Word.rec_, nd_len, nd_one, Int.reduceEq, Int.reduceLT, Int.reduceLE, Nat.reduceLT, Int.reduceToNat, Nat.reduceMul, encT_length, cfl, cfo, cfv, hp, hq, htl, htt]
    refine idxL_intro (by omega) (c := n.enc) (by simp) ?_
    simp only [am, amo, amc, Nat.reduceAdd, Nat.reduceEqDiff, encs_length, List.length_map, decide_true, decide_false, Tree.rec_, Nd.rec_, Word.rec_, nd_len, nd_one, Int.reduceEq, Int.reduceLT, Int.reduceLE, Nat.reduceLT, Int.reduceToNat, Nat.reduceMul, encT_length, cfl, cfo, cfv]
    refine (text_calls _ n _ (Nat.le_refl _) (by omega)).mono ?_
    rintro v σ ⟨rfl, rfl⟩
    simp only [am, amo, amc, Nat.reduceAdd, Nat.reduceEqDiff, encs_length, List.length_map, decide_true, decide_false, Tree.rec_, Nd.rec_, Word.rec_, nd_len, nd_one, Int.reduceEq, Int.reduceLT, Int.reduceLE, Nat.reduceLT, Int.reduceToNat, Nat.reduceMul, encT_length, cfl, cfo, cfv]
    refine app_tk (by rw [ho3]; simp only [List.length_singleton, big] at *; omega) (by rw [ho3, setTip_tip_same]) ?_
    simp only [am, amo, amc, Nat.reduceAdd, Nat.reduceEqDiff, encs_length, List.length_map, decide_true, decide_false, Tree.rec_, Nd.rec_, Word.rec_, nd_len, nd_one, Int.reduceEq, Int.reduceLT, Int.reduceLE, Nat.reduceLT, Int.reduceToNat, Nat.reduceMul, encT_length, cfl, cfo, cfv, setTip_setTip, ho3]
    refine slcL_from (a := 1) (by simp) ?_
    simp only [am, amo, amc, Nat.reduceAdd, Nat.reduceEqDiff, encs_length, List.length_map, decide_true, decide_false, Tree.rec_, Nd.rec_, Word.rec_, nd_len, nd_one, Int.reduceEq, Int.reduceLT, Int.reduceLE, Nat.reduceLT, Int.reduceToNat, Nat.reduceMul, encT_length, cfl, cfo, cfv]
    rw [encT_snoc]
    exact Upd.weak (by simp [am]) (by simp [am]) OLe.rfl ⟨⟨τ, hτ⟩, rfl⟩
  · rintro b _ ⟨⟨τ, hτ⟩, rfl⟩
    simp only [stT, List.replicate, am]
    rw [List.take_length]
    obtain ⟨o1, o2, o3, o4⟩ := pieces_ok c ks
    have hjl := joinS_len _ o1
    rw [o3] at hjl
    have hjb : (joinS [32] (piecesT c ks).1).length ≤ big := by
      have : (ks.length + 1) * (c.wt + 8 + 1) ≤ 4 * (c.wt + 8 + 1) := Nat.mul_le_mul_right _ (by omega)
      omega
    refine (PCalls.weak (join_calls (piecesT c ks).1 [32] (σ.setTip τ (ks.length + 1)) (by rw [o3]; simp only [big]; omega) hjb) ?_ OLe.rfl).mono ?_
    · simp [am]
    rintro v _ ⟨rfl, rfl⟩
    simp only [am, amo, amc, Nat.reduceAdd, Nat.reduceEqDiff, encs_length, List.length_map, decide_true, decide_false, Tree.rec_, Nd.rec_, Word.rec_, nd_len, nd_one, Int.reduceEq, Int.reduceLT, Int.reduceLE, Nat.reduceLT, Int.reduceToNat, Nat.reduceMul, encT_length, cfl, cfo, cfv]
    refine retK_intro rfl (sub_tip hτ) ⟨?_, rfl⟩
    rw [htx]; rfl
end Go.Proofs.Tryd

namespace Go.Proofs.Tryd
open Go.Am
set_option maxRecDepth 4000
set_option maxHeartbeats 4000000
def ac3 : AC := .seq (.reg [⟨(some 2), .mv (.c (.bool false)), none⟩])
 (.seq (.seq (.reg [xm 7 0, xT 8 7, xB .gtr 9 8 1500])
 (.cond (.s 9) (.seq (.reg [xc 6 10 [], xm 2 10])
 (.ret))
 (.skip)))
 (.seq (.reg [xm 12 0, xc 7 13 [.s 12], xm 11 13, xe 14 11 0, xe 15 11 1, ⟨(some 3), .alloc [(.int .i64 0), (.int .i64 0), (.str []), (.int .i64 0), (.sl .full 2 []), (.sl .full 4 []), (.int .i64 0), (.int .i64 0), (.int .i64 0), (.str []), (.sl .full 2 []), (.sl .full 5 []), (.int .i64 0), (.int .i64 0), (.str []), (.sl .full 2 []), (.sl .full 5 [])], none⟩, ⟨(some 4), .alloc [(.int .i64 0), (.int .i64 0)], none⟩, xs 17 3 14, xs 2 4 15])
 (.seq (.reg [xm 17 0, xc 8 18 [.s 17], xm 16 18, xe 19 16 0, xe 20 16 1, ⟨(some 5), .alloc [(.int .i64 0), (.int .i64 0), (.str []), (.int .i64 0), (.sl .full 2 []), (.sl .full 4 []), (.int .i64 0), (.int .i64 0), (.int .i64 0), (.str []), (.sl .full 2 []), (.sl .full 5 []), (.int .i64 0), (.int .i64 0), (.str []), (.sl .full 2 []), (.sl .full 5 [])], none⟩, ⟨(some 6), .alloc [(.int .i64 0), (.int .i64 0)], none⟩, xs 17 5 19, xs 2 6 20])
 (.seq (.reg [xl 17 21 3, xl 17 22 5, xc 9 23 [.s 21, .s 22], xm 24 23, xg 24 (xl 2 25 4), xg 24 (xl 2 26 6), ⟨(some 27), .eqA false [1, 1] (.s 25) (.s 26), (some (24, true))⟩, ⟨(some 28), .pick (.s 24) (.s 27) (.c (.bool false)), none⟩, xm 29 28, xg 29 (xc 6 30 []), ⟨(some 31), .pick (.s 29) (.s 30) (.c (.bool false)), none⟩, xm 2 31])
 (.ret)))))
theorem fn3 : IsFn prog 3 ac3 [.tmp 2] 32 := ⟨f3, ⟨[], []⟩, func3, by kernel_rfl, by kernel_rfl, by kernel_rfl, by kernel_rfl⟩
def ac6 : AC := .seq (.reg [⟨(some 0), .mv (.c (.bool false)), none⟩])
 (.seq (.reg [xc 7 6 [.c (.str [116, 97, 98, 108, 101, 32, 32, 116, 32, 123, 97, 44, 32, 98, 125, 123, 97, 60, 98, 125])], xm 5 6, xe 7 5 0, xe 8 5 1, ⟨(some 1), .alloc [(.int .i64 0), (.int .i64 0), (.str []), (.int .i64 0), (.sl .full 2 []), (.sl .full 4 []), (.int .i64 0), (.int .i64 0), (.int .i64 0), (.str []), (.sl .full 2 []), (.sl .full 5 []), (.int .i64 0), (.int .i64 0), (.str []), (.sl .full 2 []), (.sl .full 5 [])], none⟩, ⟨(some 2), .alloc [(.int .i64 0), (.int .i64 0)], none⟩, xs 17 1 7, xs 2 2 8])
 (.seq (.reg [xc 7 10 [.c (.str [108, 101, 113, 32, 107, 32, 120])], xm 9 10, xe 11 9 0, xe 12 9 1, ⟨(some 3), .alloc [(.int .i64 0), (.int .i64 0), (.str []), (.int .i64 0), (.sl .full 2 []), (.sl .full 4 []), (.int .i64 0), (.int .i64 0), (.int .i64 0), (.str []), (.sl .full 2 []), (.sl .full 5 []), (.int .i64 0), (.int .i64 0), (.str []), (.sl .full 2 []), (.sl .full 5 [])], none⟩, ⟨(some 4), .alloc [(.int .i64 0), (.int .i64 0)], none⟩, xs 17 3 11, xs 2 4 12])
 (.seq (.reg [xl 2 13 2, ⟨(some 14), .build [(.int .i64 0), (.int .i64 0)] [], none⟩, ⟨(some 15), .eqA false [1, 1] (.s 13) (.s 14), none⟩, xm 16 15, xg 16 (xl 17 17 1), xg 16 (xc 12 18 [.s 17]), ⟨(some 19), .binS .eql (.s 18) (.c (.str [116, 97, 98, 108, 101, 32, 116, 32, 123, 97, 44, 98, 125, 32, 123, 97, 60, 98, 125])), (some (16, true))⟩, ⟨(some 20), .pick (.s 16) (.s 19) (.c (.bool false)), none⟩, xm 21 20, xg 21 (xf 6 22 1), xg 21 (xo 23 22), xg 21 (xB .eql 24 23 15), ⟨(some 25), .pick (.s 21) (.s 24) (.c (.bool false)), none⟩, xm 26 25, xg 26 (xl 2 27 4), ⟨(some 28), .build [(.int .i64 0), (.int .i64 0)] [(0, 1, (.c (.int .i64 2))), (1, 1, (.c (.int .i64 7)))], (some (26, true))⟩, ⟨(some 29), .eqA false [1, 1] (.s 27) (.s 28), (some (26, true))⟩, ⟨(some 30), .pick (.s 26) (.s 29) (.c (.bool false)), none⟩, xm 0 30])
 (.ret))))
theorem fn6 : IsFn prog 6 ac6 [.tmp 0] 31 := ⟨f6, ⟨[], []⟩, func6, by kernel_rfl, by kernel_rfl, by kernel_rfl, by kernel_rfl⟩
def a1 : List UInt8 := [116, 97, 98, 108, 101, 32, 32, 116, 32, 123, 97, 44, 32, 98, 125, 123, 97, 60, 98, 125]
def a2 : List UInt8 := [108, 101, 113, 32, 107, 32, 120]
def a3 : List UInt8 := [116, 97, 98, 108, 101, 32, 116, 32, 123, 97, 44, 98, 125, 32, 123, 97, 60, 98, 125]
theorem fa1 : (readP a1).2 = (0, 0) := by decide +kernel
theorem fa2 : (readP a2).2 = (2, 7) := by decide +kernel
theorem fa3 : textC (readP a1).1 = a3 := by decide +kernel
theorem fa4 : (readP a1).1.pairsAt = 15 := by decide +kernel
theorem fa5 : 16 * (readP a1).1.wt + 64 ≤ big := by decide +kernel
theorem fa6 : manys (treeP (lexR a1).1 [] []).1 + 8 ≤ big := by decide +kernel
theorem fa7 : manys (treeP (lexR a2).1 [] []).1 + 8 ≤ big := by decide +kernel
theorem alive12_calls {σ : Store} (hg : σ.box 0 = some formCells) : PCalls prog 6 [] σ fun v σ' => v = .bool true ∧ σ' = σ := by
  refine fn6.calls ?_
  simp only [slots, ac6, am, amo, amc, ams, Nat.reduceAdd, Nat.reduceEqDiff, decide_true, decide_false, Tree.rec_, Nd.rec_, Word.rec_, Int.reduceEq, Int.reduceLT, Int.reduceLE, Nat.reduceLT, cfl, cfo, cfv]
  refine (cread_calls a1 hg (by decide) fa6).mono ?_
  rintro v σ ⟨rfl, rfl⟩
  have f1 := fa1; have f3 := fa3; have f4 := fa4; have f5 := fa5
  generalize readP a1 = o1 at f1 f3 f4 f5 ⊢
  simp only [am, amo, amc, Nat.reduceAdd, Nat.reduceEqDiff, encs_length, List.length_map, decide_true, decide_false, Tree.rec_, Nd.rec_, Word.rec_, Int.reduceEq, Int.reduceLT, Int.reduceLE, Nat.reduceLT, cfl, cfo, cfv, flt, f1]
  refine (cread_calls a2 hg (by decide) fa7).mono ?_
  rintro v σ ⟨rfl, rfl⟩
  have f2 := fa2
  generalize readP a2 = o2 at f2 ⊢
  simp only [am, amo, amc, Nat.reduceAdd, Nat.reduceEqDiff, encs_length, List.length_map, decide_true, decide_false, Tree.rec_, Nd.rec_, Word.rec_, Int.reduceEq, Int.reduceLT, Int.reduceLE, Nat.reduceLT, cfl, cfo, cfv, flt, f2]
  refine (ctext_calls o1.1 hg f5).mono ?_
  rintro v σ ⟨rfl, rfl⟩
  simp only [am, amo, amc, Nat.reduceAdd, Nat.reduceEqDiff, encs_length, List.length_map, decide_true, decide_false, Tree.rec_, Nd.rec_, Word.rec_, Int.reduceEq, Int.reduceLT, Int.reduceLE, Nat.reduceLT, cfl, cfo, cfv, f3, a3, f4]
  refine retK_intro rfl (Store.sub_refl _) ⟨?_, rfl⟩
  simp [V.erase, eraseL]
theorem commandReads_calls (s : List UInt8) {σ : Store} (hg : σ.box 0 = some formCells) (hb : s.length + 1 ≤ big) : PCalls prog 3 [.str s] σ fun v σ' => v = .bool true ∧ σ' = σ := by
  refine fn3.calls ?_
  simp only [slots, ac3, am, amo, amc, ams, Nat.reduceAdd, Nat.reduceEqDiff, decide_true, decide_false, Tree.rec_, Nd.rec_, Word.rec_, Int.reduceEq, Int.reduceLT, Int.reduceLE, Nat.reduceLT, cfl, cfo, cfv]
  refine vcIf_split ?_ ?_
  · intro _
    simp only [am, amo, amc, Nat.reduceAdd, Nat.reduceEqDiff, encs_length, List.length_map, decide_true, decide_false, Tree.rec_, Nd.rec_, Word.rec_, Int.reduceEq, Int.reduceLT, Int.reduceLE, Nat.reduceLT, cfl, cfo, cfv]
    refine (alive12_calls hg).mono ?_
    rintro v σ ⟨rfl, rfl⟩
    simp only [am, amo, amc, Nat.reduceAdd, Nat.reduceEqDiff, encs_length, List.length_map, decide_true, decide_false, Tree.rec_, Nd.rec_, Word.rec_, Int.reduceEq, Int.reduceLT, Int.reduceLE, Nat.reduceLT, cfl, cfo, cfv]
    refine retK_intro rfl (Store.sub_refl _) ⟨?_, rfl⟩
    simp [V.erase, eraseL]
  · intro hlt
    have hlt : s.length ≤ 1500 := by simp at hlt; omega
    have hm := line_many s
    have hm8 : manys (treeR (lexR s).1).1 + 8 ≤ big := by simp only [big]; omega
    have hcb := read_cb s
    have hcw : CmdW (readR s).1 := by
      rw [← readP_readR]
      have h1 := (psum_word (readP s).1.names).2
      have h2 := hcb.ns
      have h3 := hcb.ps
      have h4 := hcb.l
      have h5 := hcb.r
      exact ⟨by simp only [big]; omega, by simp only [big]; omega, by simp only [big]; omega, by simp only [big]; omega⟩
    simp only [am, amo, amc, Nat.reduceAdd, Nat.reduceEqDiff, encs_length, List.length_map, decide_true, decide_false, Tree.rec_, Nd.rec_, Word.rec_, Int.reduceEq, Int.reduceLT, Int.reduceLE, Nat.reduceLT, cfl, cfo, cfv]
    refine (cread_calls s hg hb (by rw [treeP_line]; exact hm8)).mono ?_
    rintro v σ ⟨rfl, rfl⟩
    rw [readP_readR]
    simp only [am, amo, amc, Nat.reduceAdd, Nat.reduceEqDiff, encs_length, List.length_map, decide_true, decide_false, Tree.rec_, Nd.rec_, Word.rec_, Int.reduceEq, Int.reduceLT, Int.reduceLE, Nat.reduceLT, cfl, cfo, cfv, flt]
    refine (cread12_calls s σ hb hm8).mono ?_
    rintro v σ ⟨rfl, rfl⟩
    simp only [am, amo, amc, Nat.reduceAdd, Nat.reduceEqDiff, encs_length, List.length_map, decide_true, decide_false, Tree.rec_, Nd.rec_, Word.rec_, Int.reduceEq, Int.reduceLT, Int.reduceLE, Nat.reduceLT, cfl, cfo, cfv, flt]
    generalize readR s = R at hcw ⊢
    refine (very12_one hcw σ).mono ?_
    rintro v σ ⟨rfl, rfl⟩
    simp only [am, amo, amc, Nat.reduceAdd, Nat.reduceEqDiff, encs_length, List.length_map, decide_true, decide_false, Tree.rec_, Nd.rec_, Word.rec_, Int.reduceEq, Int.reduceLT, Int.reduceLE, Nat.reduceLT, cfl, cfo, cfv]
    refine (alive12_calls hg).mono ?_
    rintro v σ ⟨rfl, rfl⟩
    simp only [am, amo, amc, Nat.reduceAdd, Nat.reduceEqDiff, encs_length, List.length_map, decide_true, decide_false, Tree.rec_, Nd.rec_, Word.rec_, Int.reduceEq, Int.reduceLT, Int.reduceLE, Nat.reduceLT, cfl, cfo, cfv]
    refine retK_intro rfl (Store.sub_refl _) ⟨?_, rfl⟩
    simp [V.erase, eraseL]
end Go.Proofs.Tryd

namespace Go.Am
open Go.ChangeShapes Go.WideShapes Go.ChangeAt Go.RowKit
structure BulkFn {H : Type} (B : DataW H → Nat) (BA : List (DataW H) → Nat) : Prop where
  str : ∀ b, B (.lit (.string b)) = b.length + 1
  int : ∀ k n, B (.lit (.int k n)) = 1
  bool : ∀ b, B (.lit (.bool b)) = 1
  nil : B .nil = 1
  slice : ∀ e s, B (.slice e s) = BA e + BA s + 1
  agg : ∀ p, B (.agg p) = BA p + 1
  no : BA [] = 0
  cons : ∀ d r, BA (d :: r) = B d + BA r
def envOf (W : World) : Env := ⟨W, fun _ => .const, fun _ => none, fun _ => none⟩
section
variable {H : Type} {enc : TypeId × Value → H} {P : Program} {W : World} {sp : Nat → Bool} {B : DataW H → Nat} {BA : List (DataW H) → Nat}
theorem rd_str {t : TypeId} {n : Nat} {cs : List Value} {x : DataW H × List MemPlace} (ht : P.underlying t = some .string) (hB : BulkFn B BA) (h : DataW.trod enc P W 0 sp true n t cs = some x) :
    ∃ s : List UInt8, RL (envOf W) [.str s] cs ∧ (∀ v ∈ cs, v.oneCell' = true) ∧ s.length + 1 = B x.1 := by
  obtain ⟨s, rfl, rfl, _⟩ := DataW.trod_string ht h
  exact ⟨s.data.toList, by simp [RL, R], by simp [Value.oneCell'], (hB.str _).symm⟩
end
theorem post_am2 {H : Type} {enc : TypeId × Value → H} {P : Program} {f : Func} {s : ChangeSpec} {W : World} {args : Array Value} {ds : List (DataW H)} {before : List MemPlace} {tb : TypeId}
    (hl : laidOutB P = true) (hm : mapsRowed P = true) (hz : ((List.range P.types.size).all fun t => match P.underlying t with | some (.slice e) => decide (0 < P.cellsOf e) | _ => true) = true)
    (hres : f.resultTypes = #[tb]) (htb : P.underlying tb = some .bool) (hpar : ∀ t ∈ f.params.toList, t < P.types.size) (hvars : s.vars = []) (hfn : (s.fn H ds).results = [.lit (.bool true)] ∧ (s.fn H ds).args = ds ∧ (s.fn H ds).vars = [])
    (hW : DataW.Whole enc P f.params.toList s.vars false W args.toList ds [] before) {W' : World} (hos : W'.os = W.os) (hout : W'.output = W.output) (hfrz : ∀ a, W'.frozen? a = W.frozen? a) (hsame : ∀ b, b < W.heap.size → W'.heap[b]? = W.heap[b]?) :
    s.post enc P f false true false false W args (.bool true) W' := by
  have hW' := hW
  obtain ⟨p, q, hA, hV, rfl, hfz, hnd⟩ := hW
  rw [hvars] at hV
  obtain ⟨_, rfl⟩ := trodVars_none hV
  have hkept : W.keptBut W' (fun _ => False) := by
    refine ⟨hos, hout, fun i hi => ?_⟩
    rw [hsame i hi]
    cases W.heap[i]? with
    | none => rfl
    | some ob => cases ob <;> simp
  simp only [List.append_nil] at hW'
  have hds : s.fn H (ds ++ []) = s.fn H ds := by rw [List.append_nil]
  refine post_of_same (pa := p) (pv := []) hW' (fun b sp' hd => ?_) (fun sp' hs => ?_) (fun sp' hs => ?_) (by simp) (World.keptBut_mono (fun _ h => h.elim) hkept) ?_ (ok_one hres rfl (okWide_bool_mk htb _))
  · rw [hds, hfn.1, hres]
    exact trodAll_cons_mk (shut_bool htb _) trodAll_mk0
  · rw [hds, hfn.2.1]
    have hlt := DataW.TrodAll.lt hA
    have key : ∀ (ts : List TypeId) (vs : List Value) (ds : List (DataW H)) (ps : List MemPlace), (∀ t ∈ ts, t < P.types.size) → DataW.TrodAll enc P W 0 (fun _ => true) true ts vs ds ps → (∀ x ∈ ps, x.block < W.heap.size) → (∀ x ∈ ps, sp' x.block = true) → DataW.TrodAll enc P W' 0 sp' true ts vs ds ps := by
      intro ts
      induction ts with
      | nil => intro vs ds ps _ h _ _; cases vs <;> cases ds <;> first | exact h | exact h.elim
      | cons t ts ih =>
        intro vs ds ps hT h hlt hs
        cases vs with
        | nil => exact h.elim
        | cons v vs =>
          cases ds with
          | nil => exact h.elim
          | cons d ds =>
            obtain ⟨p, q, ⟨n, h1⟩, h2, rfl⟩ := h
            refine ⟨p, q, ⟨n, ?_⟩, ih vs ds q (fun t ht => hT t (by simp [ht])) h2 (fun x hx => hlt x (by simp [hx])) (fun x hx => hs x (by simp [hx])), rfl⟩
            refine DataW.trod_stays (kids_rows hl hm) (fun {t e} ht he => slices_full_of P hz t e ht he) (by simp) (hT t (by simp)) h1 (fun x hx => ?_) (fun x hx => hs x (by simp [hx]))
            have hb := hlt x (by simp [hx])
            cases x with
            | cell b off => exact cell_same (hsame b hb)
            | map b => exact hsame b hb
    exact key _ _ _ _ hpar hA (fun x hx => hlt x hx) (fun x hx => hs x (by simpa using hx))
  · rw [hds, hfn.2.2, hvars]
    rfl
  · exact hfrz
section
variable {P : Program} {W : World} {r : Reach} {b : Nat} {t : TypeId} {v : Value} {E : Env}
theorem val_string {x : V} (ht : P.underlying t = some .string) (hv : Value.okWide P W r b t v) (h : RL E [x] v.cells.toList) : R E x v := by
  obtain ⟨a, rfl⟩ := okWide_string ht hv
  simpa [Value.cells, RL] using h
end
end Go.Am

namespace Go.Am
open Go.ChangeShapes Go.WideShapes Go.ChangeAt Go.RowKit
def txtVal (s : List UInt8) : Value := .string ⟨s.toArray⟩
def boxStore (g : Nat) (ss : List (List UInt8)) : Store := ⟨fun b => if b = g then some (ss.map V.str) else none, fun _ => none⟩
def envBox (W : World) (g : Nat) : Env := ⟨W, fun b => if b = g then .obox else .const, fun _ => none, fun _ => none⟩
theorem boxStore_box (g : Nat) (ss : List (List UInt8)) : (boxStore g ss).box g = some (ss.map V.str) := by simp [boxStore]
theorem envBox_ok {W : World} {g : Nat} {ss : List (List UInt8)} {e : TypeId} (h : W.heap[g]? = some (.cells (ss.map txtVal).toArray e (0, 0))) : (envBox W g).ok (boxStore g ss) := by
  refine ⟨fun b cs hb => ?_, fun _ _ h => by simp [boxStore] at h, fun b hb => ?_, ⟨0, fun _ _ => rfl⟩⟩
  · simp only [boxStore] at hb
    split at hb
    · rename_i hbg
      subst hbg
      simp only [Option.some.injEq] at hb
      subst hb
      refine ⟨by simp [envBox], _, e, h, by simp, fun j x hx => ?_⟩
      rw [List.getElem?_map] at hx
      obtain ⟨s, h1, rfl⟩ := Option.map_eq_some_iff.1 hx
      exact ⟨txtVal s, by simp [h1], by simp [R, txtVal]⟩
    · simp at hb
  · have hlt : g < W.heap.size := lt_of_heap (w := W) h
    have hb : W.heap.size ≤ b := hb
    simp only [envBox]
    rw [if_neg (by omega)]
theorem law_callsG {H : Type} {enc : TypeId × Value → H} {P : Program} {n : FuncId} {f : Func} {s : ChangeSpec} {W : World} {args : Array Value} {vs : List V} {ds : List (DataW H)} {before : List MemPlace} {tb e : TypeId} {g : Nat} {ss : List (List UInt8)}
    (hP : PCalls P n vs (boxStore g ss) fun v σ' => v = .bool true ∧ σ' = boxStore g ss) (hg : W.heap[g]? = some (.cells (ss.map txtVal).toArray e (0, 0))) (hR : RL (envBox W g) vs args.toList)
    (hl : laidOutB P = true) (hm : mapsRowed P = true) (hz : ((List.range P.types.size).all fun t => match P.underlying t with | some (.slice e) => decide (0 < P.cellsOf e) | _ => true) = true)
    (hres : f.resultTypes = #[tb]) (htb : P.underlying tb = some .bool) (hpar : ∀ t ∈ f.params.toList, t < P.types.size) (hvars : s.vars = []) (hfn : (s.fn H ds).results = [.lit (.bool true)] ∧ (s.fn H ds).args = ds ∧ (s.fn H ds).vars = [])
    (hW : DataW.Whole enc P f.params.toList s.vars false W args.toList ds [] before) :
    Calls P n args W fun e W' => ∃ v, e = .returned v ∧ s.post enc P f false true false false W args v W' := by
  refine (hP.2 (envBox W g) args (fun _ => rfl) (envBox_ok hg) hR).mono ?_
  rintro _ w' ⟨v, x, E', σ', rfl, rfl, _, hok, hRv, hfr, rfl, rfl⟩
  simp only [R] at hRv
  subst hRv
  refine ⟨_, rfl, post_am2 hl hm hz hres htb hpar hvars hfn hW hfr.os hfr.output hfr.frz fun b hb => ?_⟩
  by_cases hbg : b = g
  · subst hbg
    obtain ⟨c1, h1, h2⟩ := hfr.shape b _ e hg
    obtain ⟨_, c2, e2, h3, h4, h5⟩ := hok.box b _ (boxStore_box b ss)
    have h3 : E'.w.heap[b]? = some (.cells c2 e2 (0, 0)) := h3
    rw [h1] at h3
    simp only [Option.some.injEq, Obj.cells.injEq] at h3
    obtain ⟨rfl, rfl, _⟩ := h3
    rw [hg, h1]
    have : c1 = (ss.map txtVal).toArray := by
      apply Array.ext_getElem?
      intro j
      by_cases hj : j < ss.length
      · obtain ⟨v, k1, k2⟩ := h5 j (.str ss[j]) (by simp [hj])
        rw [k1]
        simp only [R] at k2
        rw [k2]
        simp [hj, txtVal]
      · rw [Array.getElem?_eq_none (by rw [h2]; simp; omega), Array.getElem?_eq_none (by simp; omega)]
    rw [this]
  · exact (hfr.same b hb (.inl (by simp [envBox, hbg]))).1
section
variable {H : Type} {enc : TypeId × Value → H} {P : Program} {W : World}
def pairsData (ps : List (List UInt8 × List UInt8)) : DataW H := .agg (ps.map fun p => .agg [.lit (.string p.1), .lit (.string p.2)])
theorem list2 {α : Type} {l : List α} (h : l.length = 2) : ∃ a b, l = [a, b] := by
  match l, h with
  | [a, b], _ => exact ⟨a, b, rfl⟩
theorem txtVal_of {s : ByteArray} {l : List UInt8} (h : s.data.toList = l) : Value.string s = txtVal l := by subst h; simp [txtVal]
theorem chunks {α : Type} {k : Nat} (f : Nat → List α) : ∀ (n : Nat) (cs : List α), cs.length = n * k → (∀ i, i < n → (cs.drop (i * k)).take k = f i) → cs = ((List.range n).map f).flatten
  | 0, cs, hl, _ => by simp at hl; simp [hl]
  | n + 1, cs, hl, h => by
    rw [Nat.succ_mul] at hl
    have h1 := chunks (k := k) f n (cs.take (n * k)) (by rw [List.length_take]; omega) fun i hi => by
      have : i * k + k ≤ n * k := by rw [← Nat.succ_mul]; exact Nat.mul_le_mul_right _ hi
      rw [List.drop_take, List.take_take, Nat.min_eq_left (by omega)]
      exact h i (by omega)
    have h2 := h n (by omega)
    rw [List.take_of_length_le (by rw [List.length_drop]; omega)] at h2
    rw [List.range_succ, List.map_append, List.flatten_append, ← h1]
    simp only [List.map_cons, List.map_nil, List.flatten_cons, List.flatten_nil, List.append_nil]
    rw [← h2, List.take_append_drop]
theorem cells_of_pair {base : Nat} {sp : Nat → Bool} {held : Bool} {fuel : Nat} {e tf : TypeId} {fs : Array Field} {cs : List Value} {x : DataW H × List MemPlace} {a b : List UInt8}
    (he : P.underlying e = some (.struct fs)) (hs : fs.size = 2) (hf0 : (fs[0]?).map (fun f => (f.type, f.offset)) = some (tf, 0)) (hf1 : (fs[1]?).map (fun f => (f.type, f.offset)) = some (tf, 1))
    (htf : P.underlying tf = some .string) (hct : P.cellsOf tf = 1) (hce : P.cellsOf e = 2)
    (h : DataW.trod enc P W base sp held fuel e cs = some x) (hx : x.1 = .agg [.lit (.string a), .lit (.string b)]) : cs = [txtVal a, txtVal b] := by
  obtain ⟨xs, m, rfl, rfl, hl, hxl, hf⟩ := DataW.trod_struct he h
  rw [hce] at hl
  rw [hs] at hxl
  obtain ⟨u, v, rfl⟩ := list2 hl
  obtain ⟨x0, x1, rfl⟩ := list2 hxl
  obtain ⟨f0, g0, g1⟩ := Option.map_eq_some_iff.1 hf0
  obtain ⟨f1, g2, g3⟩ := Option.map_eq_some_iff.1 hf1
  simp only [Prod.mk.injEq] at g1 g3
  have h0 := hf 0 f0 g0
  have h1 := hf 1 f1 g2
  rw [g1.1, g1.2, hct] at h0
  rw [g3.1, g3.2, hct] at h1
  obtain ⟨s0, p0, q0, _⟩ := DataW.trod_string htf h0
  obtain ⟨s1, p1, q1, _⟩ := DataW.trod_string htf h1
  simp only [List.drop_zero, List.drop_succ_cons, List.take_succ_cons, List.take_zero, List.cons.injEq, and_true] at p0 p1
  subst p0 p1 q0 q1
  simp only [List.map_cons, List.map_nil, DataW.agg.injEq, List.cons.injEq, DataW.lit.injEq, Lit.string.injEq, and_true] at hx
  rw [txtVal_of hx.1, txtVal_of hx.2]
theorem cells_of_pairs {base : Nat} {sp : Nat → Bool} {held : Bool} {fuel : Nat} {t e tf : TypeId} {n : Nat} {fs : Array Field} {cs : List Value} {ps : List (List UInt8 × List UInt8)} {p : List MemPlace}
    (ht : P.underlying t = some (.array n e)) (he : P.underlying e = some (.struct fs)) (hs : fs.size = 2) (hf0 : (fs[0]?).map (fun f => (f.type, f.offset)) = some (tf, 0)) (hf1 : (fs[1]?).map (fun f => (f.type, f.offset)) = some (tf, 1))
    (htf : P.underlying tf = some .string) (hctf : P.cellsOf tf = 1) (hce : P.cellsOf e = 2) (hct : P.cellsOf t = n * 2)
    (h : DataW.trod enc P W base sp held fuel t cs = some (pairsData ps, p)) : cs = (ps.flatMap fun p => [p.1, p.2]).map txtVal := by
  obtain ⟨xs, m, rfl, hx, hl, hxl, hi⟩ := DataW.trod_array ht h
  rw [hct] at hl
  have hxs : xs.map (·.1) = ps.map fun p => (.agg [.lit (.string p.1), .lit (.string p.2)] : DataW H) := by
    have := congrArg Prod.fst hx
    simpa [pairsData] using this.symm
  have hpl : ps.length = n := by
    have := congrArg List.length hxs
    simp at this; omega
  have hc := chunks (fun i => match ps[i]? with | some p => [txtVal p.1, txtVal p.2] | none => []) n cs hl (fun i hin => by
    have h1 := hi i hin
    rw [hce] at h1
    have hxi : xs[i]? = some xs[i] := by simp [hxl, hin]
    have hpi : ps[i]? = some ps[i] := by simp [hpl, hin]
    rw [hxi] at h1
    have h2 := congrArg (·[i]?) hxs
    simp only [List.getElem?_map, hxi, hpi, Option.map_some, Option.some.injEq] at h2
    rw [hpi]
    exact cells_of_pair he hs hf0 hf1 htf hctf hce h1 h2)
  rw [hc, ← hpl]
  clear hc hi hxl hl hx hxs h hpl
  have key : ∀ qs : List (List UInt8 × List UInt8), ((List.range qs.length).map fun i => match qs[i]? with | some p => [txtVal p.1, txtVal p.2] | none => []) = qs.map fun p => [txtVal p.1, txtVal p.2] := fun qs => by
    apply List.ext_getElem?
    intro i
    by_cases hi : i < qs.length
    · simp [hi]
    · simp [hi]
  rw [key, List.map_flatMap, List.flatMap_def]
  rfl
end
end Go.Am

namespace Go.Proofs.Tryd
open Go.Am Go.ChangeShapes Go.WideShapes Go.ChangeAt Go.RowKit
open Go.Proofs.YthncngbmelgmaaaDoor
theorem bulkFn (H : Type) : BulkFn (H := H) Rows.uptoBulk Rows.uptoBulkAll :=
  ⟨fun _ => by simp only [Rows.uptoBulk], fun _ _ => by simp only [Rows.uptoBulk], fun _ => by simp only [Rows.uptoBulk], by simp only [Rows.uptoBulk], fun _ _ => by simp only [Rows.uptoBulk], fun _ => by simp only [Rows.uptoBulk], by simp only [Rows.uptoBulkAll], fun _ _ => by simp only [Rows.uptoBulkAll]⟩
theorem laid : laidOutB prog = true := by kernel_rfl
theorem rowed : mapsRowed prog = true := by kernel_rfl
theorem fulls : ((List.range prog.types.size).all fun t => match prog.underlying t with | some (.slice e) => decide (0 < prog.cellsOf e) | _ => true) = true := by kernel_rfl
theorem own : ownKnob prog.godebug = none := by kernel_rfl
def formsL : List (List UInt8) := formT.flatMap fun p => [p.1, p.2]
theorem formsL_cells : formsL.map V.str = formCells := by simp [formsL, formCells, formT]
theorem forms_data {H : Type} : (Rows.laid_clearance_command_forms : DataW H) = pairsData formT := rfl
theorem c86 : prog.cellsOf 86 = 16 * 2 := by kernel_rfl
theorem c56 : prog.cellsOf 56 = 2 := by kernel_rfl
theorem c9 : prog.cellsOf 9 = 1 := by kernel_rfl
theorem forms_at {W : World} (h : laidMetH prog Rows.commandReadsRow.laid W) : ∃ e, W.heap[0]? = some (.cells (formsL.map txtVal).toArray e (0, 0)) := by
  have h : laidMet prog Rows.commandReadsRow.laid W := h
  obtain ⟨ps, ⟨g, t, cs, fuel, p, q, hg, ht, hv, hd, _, hps⟩, _, hb⟩ := h
  have e1 : g = 0 := Option.some.inj (hg.symm.trans (by kernel_rfl : prog.globalNamed "clearance/command.forms" = some 0))
  subst e1
  have e2 : t = 86 := Option.some.inj (ht.symm.trans (by kernel_rfl : (prog.globals[0]?).map (·.type) = some 86))
  subst e2
  rw [forms_data] at hd
  have hcs := cells_of_pairs underlying86 underlying56 (by kernel_rfl) (by kernel_rfl) (by kernel_rfl) underlying9 c9 c56 c86 hd
  have hcs' : cs = (formsL.map txtVal).toArray := by rw [show formsL.map txtVal = cs.toList from hcs.symm]
  obtain ⟨⟨c, e, hc⟩, _⟩ := hb 0 0 (by
    rw [hps]
    refine List.mem_append_left _ (List.mem_append_left _ ?_)
    rw [hcs']
    simp [MemPlace.row, formsL, formT])
  refine ⟨e, ?_⟩
  rw [hc]
  simp only [World.var?, hg, Option.bind_some, hc, Option.some.injEq] at hv
  rw [hv, hcs']
set_option maxRecDepth 100000 in
theorem commandReads_contract (H : Type) (enc : TypeId × Value → H) (W : World) (base : Nat) (args : Array Value) (ds gs : List (DataW H)) (before : List MemPlace)
    (hval : ∀ (j : Nat) t v, f3.params[j]? = some t → args[j]? = some v → Value.okWide prog W .any base t v)
    (hW : DataW.Whole enc prog f3.params.toList Rows.commandReadsSpec.vars false W args.toList ds gs before) (hk : Rows.uptoSmall H (ds ++ gs) = true) (hL : laidMetH prog Rows.commandReadsRow.laid W) :
    Calls prog 3 args W fun e W' => ∃ v, e = .returned v ∧ Rows.commandReadsSpec.post enc prog f3 false true false false W args v W' := by
  have hW' := hW
  obtain ⟨p, q, hA0, hV, rfl, hfz, hnd⟩ := hW
  have hA : DataW.TrodAll enc prog W 0 (fun _ => true) true f3.params.toList args.toList ds p := hA0
  rw [params3] at hA hval
  obtain ⟨v0, vs0, d0, ds0, p0, q0, hargs, rfl, rfl, ⟨n0, h0⟩, r0⟩ := trodAll_cons hA
  obtain ⟨rfl, rfl, rfl⟩ := trodAll_nil r0
  obtain rfl : args = #[v0] := by cases args; simp_all
  obtain ⟨rfl, rfl⟩ := trodVars_none hV
  obtain ⟨y0, a0, _, b0⟩ := rd_str underlying9 (bulkFn H) h0
  have hb : Rows.uptoBulkAll [d0] ≤ 1048576 := by
    have h := of_decide_eq_true hk
    rw [List.append_nil] at h
    exact h
  simp only [Rows.uptoBulkAll] at hb
  have k0 : y0.length + 1 ≤ big := by
    simp only at b0
    have hbig : 1048576 ≤ big := by simp only [big]; omega
    omega
  simp only [List.append_nil] at hW'
  obtain ⟨e, he⟩ := forms_at hL
  have hs := val_string underlying9 (hval 0 9 v0 rfl rfl) a0
  refine law_callsG (commandReads_calls y0 (by rw [boxStore_box, formsL_cells]) k0) he ?_ laid rowed fulls rfl underlying4 (by rw [params3]; decide +kernel) rfl ⟨rfl, rfl, rfl⟩ hW'
  simp only [RL, R, and_true] at hs ⊢
  exact hs
noncomputable def laidWorld (os : Os) : World :=
  { World.holding prog os ⟨#[], #[], []⟩ with heap := (World.holding prog os ⟨#[], #[], []⟩).heap.modify 0 fun
      | .cells _ t frozen => .cells (formsL.map txtVal).toArray t frozen
      | o => o }
theorem laid_met (os : Os) : laidMet prog Rows.commandReadsRow.laid ((laidWorld os).forCall (fun _ _ => 0) ⟨#[], #[.string ⟨#[]⟩], []⟩).memory :=
  laidMet_of_run' 8 (by kernel_rfl) (by kernel_rfl)
theorem reads (os : Os) {H : Type} (enc : TypeId × Value → H) : ∃ places, DataW.whole enc prog ((laidWorld os).forCall (fun _ _ => 0) ⟨#[], #[.string ⟨#[]⟩], []⟩).memory f3.params.toList Rows.commandReadsSpec.vars false #[Value.string ⟨#[]⟩].toList 8 = some ([.lit (.string [])], [], places) :=
  ⟨[], by kernel_rfl⟩
set_option maxRecDepth 100000 in
theorem commandReads_lifted (os : Os) (started : os.Started) (H : Type) (enc : TypeId × Value → H) (F : Stop.Interp) :
    ReturnsInHanded {} checked os 3 .any ((Rows.OpenSpec.upto Rows.commandReadsSpec).preRow enc prog f3 Rows.commandReadsUptoRow.domain false Rows.commandReadsUptoRow.laid) (((Rows.OpenSpec.upto Rows.commandReadsSpec).at F).post enc prog f3 false true false false) := by
  obtain ⟨places, hx⟩ := reads os enc
  refine returnsInHanded_of_row (C := checked) (s := Rows.OpenSpec.upto Rows.commandReadsSpec) own started (by kernel_rfl) func3
    (witness_row_at (enc := enc) (C := checked) false (laidWorld os) #[.string ⟨#[]⟩] rfl (by kernel_rfl) (by kernel_rfl) (by kernel_rfl)
      (OpenSpec.preRow_of_cond 8 hx (by kernel_rfl) (fun k hk => by cases hk; kernel_rfl) (by kernel_rfl) (laid_met os))) ?_
  intro W base args ds gs before hval hW _ hcond _ hL _ _
  exact commandReads_contract H enc W base args ds gs before hval hW (hcond _ rfl) hL
theorem commandReads_proved : Rows.CommandReadsUptoSaid :=
  OpenClaim.holds_of_cond 3 f3 rfl rfl rfl rfl rfl rfl rfl ⟨rfl, rfl, rfl, rfl, rfl⟩ rfl rfl rfl rfl rfl (by kernel_rfl) func3 (by kernel_rfl)
    (of_decide_eq_true (by kernel_rfl)) (by unfold Func.isWrapper; first | (rw [if_pos (by decide +kernel)]; kernel_rfl) | (rw [if_neg (by decide +kernel)]; exact ⟨rfl, rfl⟩))
    (fun os started H enc _ F => by rw [OpenClaim.pre_eq_preRow]; exact commandReads_lifted os started H enc F)
theorem commandReads_plain (f : FuncId) (fn : Func) (hf : YthncngbmelgmaaaDoor.Tryd.pinned.checked.prog.funcNamed "clearance/clearancelaw12.CommandReads" = some f) (hfn : YthncngbmelgmaaaDoor.Tryd.pinned.checked.prog.funcs[f]? = some fn) :
    false = YthncngbmelgmaaaDoor.Tryd.pinned.checked.prog.looks [] ∧ ∀ (j : Nat) t, fn.params[j]? = some t → YthncngbmelgmaaaDoor.Tryd.pinned.checked.prog.wantsStandIn t = false := by
  obtain rfl : f = 3 := Option.some.inj ((show prog.funcNamed "clearance/clearancelaw12.CommandReads" = some 3 by kernel_rfl).symm.trans hf) |>.symm
  obtain rfl : fn = f3 := (Option.some.inj (func3.symm.trans hfn)).symm
  refine ⟨by kernel_rfl, fun j t ht => ?_⟩
  rw [params3] at ht
  obtain rfl : t = 9 := by simpa using Array.mem_of_getElem? ht
  exact (show prog.wantsStandIn 9 = false by kernel_rfl)
theorem commandReads_card : Rows.CommandReadsUptoCardSaid :=
  Claim7.holds_tied_plain_at .later [] _ _ _ _ commandReads_proved (fun _ h => by cases h) (by kernel_rfl) (fun _ h => by cases h) commandReadsUpto_row_tie rfl ⟨rfl, rfl⟩ (by kernel_rfl) rfl commandReads_plain (by kernel_rfl)
end Go.Proofs.Tryd

namespace Go.Proofs.YthncngbmelgmaaaDoor
/-- For every line, where what comes in is of bulk at most 1048576: the command that is read, or where it is none, is as the document says (clearancelaw12.CommandReads); the listed variable is tied to the program's text. -/
theorem commandReads_card_holds : Rows.CommandReadsUptoCardSaid := Go.Proofs.Tryd.commandReads_card
end Go.Proofs.YthncngbmelgmaaaDoor
