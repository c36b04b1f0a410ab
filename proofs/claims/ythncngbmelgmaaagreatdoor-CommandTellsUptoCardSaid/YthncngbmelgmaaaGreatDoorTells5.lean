/-
  Part 5 of the proof of CommandTellsUptoCardSaid: a logic over the model, the forms of the functions that the law reaches, and what they compute.
-/
import Derived.Test.YthncngbmelgmaaaGreatDoorProg
import Derived.Test.YthncngbmelgmaaaGreatDoorTells4
set_option linter.unusedVariables false
set_option linter.unusedSimpArgs false
set_option linter.defProp false
set_option linter.unusedSectionVars false

namespace Go.Proofs.Tryz
open Go.Am
set_option maxRecDepth 4000
set_option maxHeartbeats 4000000
def ac15 : AC := .seq (.reg [⟨(some 2), .alloc [(.int .i64 0), (.int .i64 0), (.str []), (.int .i64 0), (.sl .full 2 []), (.sl .full 4 []), (.int .i64 0), (.int .i64 0), (.int .i64 0), (.str []), (.sl .full 2 []), (.sl .full 5 []), (.int .i64 0), (.int .i64 0), (.str []), (.sl .full 2 []), (.sl .full 5 [])], none⟩, ⟨(some 3), .alloc [(.int .i64 0), (.int .i64 0)], none⟩])
 (.seq (.reg [xm 12 0, xc 40 13 [.s 12], xm 11 13, xe 14 11 0, xe 15 11 1, ⟨(some 5), .alloc [(.int .i64 0), (.int .i64 0)], none⟩, xm 4 14, xs 2 5 15])
 (.seq (.seq (.reg [xf 0 16 5, xo 17 16, xB .neq 18 17 0])
 (.cond (.s 18) (.seq (.draw [(⟨(some 19), .build [(.int .i64 0), (.int .i64 0), (.str []), (.int .i64 0), (.sl .full 2 []), (.sl .full 4 []), (.int .i64 0), (.int .i64 0), (.int .i64 0), (.str []), (.sl .full 2 []), (.sl .full 5 []), (.int .i64 0), (.int .i64 0), (.str []), (.sl .full 2 []), (.sl .full 5 [])] [], none⟩, []), (xl 2 20 5, [1]), (xs 17 2 19, []), (xs 2 3 20, [])])
 (.ret))
 (.skip)))
 (.seq (.reg [xm 22 4, xc 41 23 [.s 22], xm 21 23, xe 24 21 0, xe 25 21 1, xm 6 24, xs 2 5 25])
 (.seq (.seq (.reg [xf 0 26 5, xo 27 26, xB .neq 28 27 0, xm 29 28, xh 29 (xm 30 6), xh 29 (xL 31 30), xh 29 (xB .eql 32 31 0), ⟨(some 33), .pick (.s 29) (.c (.bool true)) (.s 32), none⟩])
 (.cond (.s 33) (.seq (.draw [(⟨(some 34), .build [(.int .i64 0), (.int .i64 0), (.str []), (.int .i64 0), (.sl .full 2 []), (.sl .full 4 []), (.int .i64 0), (.int .i64 0), (.int .i64 0), (.str []), (.sl .full 2 []), (.sl .full 5 []), (.int .i64 0), (.int .i64 0), (.str []), (.sl .full 2 []), (.sl .full 5 [])] [], none⟩, []), (xl 2 35 5, [1]), (xs 17 2 34, []), (xs 2 3 35, [])])
 (.ret))
 (.skip)))
 (.seq (.reg [xm 36 6, xm 37 0, xT 38 37, ⟨(some 39), .build [(.sl .full 5 []), (.int .i64 0), (.int .i64 0), (.int .i64 0), (.int .i64 0), (.int .i64 0), (.int .i64 0), (.str []), (.int .i64 0), (.sl .full 2 []), (.sl .full 4 []), (.int .i64 0), (.int .i64 0), (.int .i64 0), (.str []), (.sl .full 2 []), (.sl .full 5 []), (.int .i64 0), (.int .i64 0), (.str []), (.sl .full 2 []), (.sl .full 5 [])] [(0, 1, (.s 36)), (2, 1, (.s 38))], none⟩, ⟨(some 40), .boxO 22 (.s 39), none⟩, xm 7 40])
 (.seq (.reg [xm 41 7, xc 42 42 [.s 41], ⟨(some 8), .alloc [(.str []), (.int .i64 0)], none⟩, xs 2 8 42])
 (.seq (.draw [(xm 43 7, []), (xf 0 44 8, []), (xo 45 44, []), (xc 43 46 [.s 45], []), (xf 1 47 8, []), (xo 48 47, [0]), (⟨(some 49), .build [(.int .i64 0), (.int .i64 0), (.str []), (.int .i64 0), (.sl .full 2 []), (.sl .full 4 []), (.int .i64 0), (.int .i64 0), (.int .i64 0), (.str []), (.sl .full 2 []), (.sl .full 5 []), (.int .i64 0), (.int .i64 0), (.str []), (.sl .full 2 []), (.sl .full 5 [])] [(0, 1, (.s 46)), (1, 1, (.s 48))], none⟩, []), (xk 50 43, []), (xf 5 51 50, []), (xs 17 51 49, [])])
 (.seq (.seq (.reg [xm 52 7, xk 53 52, xf 5 54 53, xf 0 55 54, xo 56 55, xB .eql 57 56 0])
 (.cond (.s 57) (.seq (.draw [(⟨(some 58), .build [(.int .i64 0), (.int .i64 0), (.str []), (.int .i64 0), (.sl .full 2 []), (.sl .full 4 []), (.int .i64 0), (.int .i64 0), (.int .i64 0), (.str []), (.sl .full 2 []), (.sl .full 5 []), (.int .i64 0), (.int .i64 0), (.str []), (.sl .full 2 []), (.sl .full 5 [])] [], none⟩, []), (xm 59 6, []), (⟨(some 60), .idxA 5 (.s 59) (.c (.int .i64 0)), none⟩, []), (xf 0 61 60, []), (xf 2 62 61, []), (xo 63 62, [1]), (⟨(some 64), .build [(.int .i64 0), (.int .i64 0)] [(0, 1, (.c (.int .i64 2))), (1, 1, (.s 63))], none⟩, []), (xs 17 2 58, []), (xs 2 3 64, [])])
 (.ret))
 (.skip)))
 (.seq (.rangeS [xm 65 7, xk 66 65, xf 5 67 66, xf 0 68 67, xo 69 68, xc 16 70 [.s 69], xw 1 71 70] (.s 71) 72 73 74 0 1
 (.seq (.reg [xe 75 73 2, xm 10 75])
 (.reg [xm 76 7, xm 77 10, xc 44 78 [.s 76, .s 77]])))
 (.seq (.seq (.reg [xm 79 7, xk 80 79, xf 3 81 80, xf 0 82 81, xo 83 82, xB .eql 84 83 0, xm 85 84, xg 85 (xm 86 7), xg 85 (xk 87 86), xg 85 (xf 1 88 87), xg 85 (xo 89 88), xg 85 (xm 90 6), xg 85 (xL 91 90), xg 85 (xb .lss 92 89 91), ⟨(some 93), .pick (.s 85) (.s 92) (.c (.bool false)), none⟩])
 (.cond (.s 93) (.reg [xm 94 7, xc 45 95 [.s 94]])
 (.skip)))
 (.seq (.seq (.reg [xm 96 7, xk 97 96, xf 3 98 97, xf 0 99 98, xo 100 99, xB .neq 101 100 0])
 (.cond (.s 101) (.seq (.draw [(⟨(some 102), .build [(.int .i64 0), (.int .i64 0), (.str []), (.int .i64 0), (.sl .full 2 []), (.sl .full 4 []), (.int .i64 0), (.int .i64 0), (.int .i64 0), (.str []), (.sl .full 2 []), (.sl .full 5 []), (.int .i64 0), (.int .i64 0), (.str []), (.sl .full 2 []), (.sl .full 5 [])] [], none⟩, []), (xm 103 7, []), (xk 104 103, []), (xf 3 105 104, []), (xl 2 106 105, [1]), (xs 17 2 102, []), (xs 2 3 106, [])])
 (.ret))
 (.skip)))
 (.seq (.reg [xm 107 7, xk 108 107, xf 5 109 108, xl 17 110 109, ⟨(some 111), .build [(.int .i64 0), (.int .i64 0)] [], none⟩, xs 17 2 110, xs 2 3 111])
 (.ret)))))))))))))
theorem fn15 : IsFn prog 15 ac15 [.cell 2 true 17, .cell 3 true 2] 112 := ⟨f15, ⟨[40], []⟩, func15, by kernel_rfl, by kernel_rfl, by kernel_rfl, by kernel_rfl⟩
def flt (f : Int × Int) : V := .agg [.int .i64 f.1, .int .i64 f.2]
def SLr (s : List UInt8) (L : List Tree) (b r : Nat) : List V := [.str s, .any, .ptr (.loc 0) 0, .ptr (.loc 1) 0, .any, .any, .sl .no 5 (encs L), .ptr (.out r) 0] ++ List.replicate 64 .any ++ [.raw (.pointer (some ⟨b, 0, none⟩))] ++ List.replicate 39 .any
theorem pcell_er {ps : List (Word × Word)} : (pcell ps).erase = .sl .no 4 (ps.map penc) := by cases ps <;> rfl
theorem cr17 {rd : Rdr} {c : Cmd} {pc : V} : takeN 17 ((rd.enc ++ c.encP pc).drop 5) = some (c.encP pc) := rfl
theorem ce_len {c : Cmd} {pc : V} : (c.encP pc).length = 17 := rfl
theorem ce_one {c : Cmd} {ps : List (Word × Word)} : oneL (c.encP (pcell ps)) = true := by cases ps <;> rfl
theorem ce_ov {z0 z1 z2 z3 z4 z5 z6 z7 z8 z9 z10 z11 z12 z13 z14 z15 z16 : V} {c : Cmd} {pc : V} : over [z0, z1, z2, z3, z4, z5, z6, z7, z8, z9, z10, z11, z12, z13, z14, z15, z16] (c.encP pc) = c.encP pc := rfl
theorem ce_tk {c : Cmd} {pc : V} : takeN 17 (c.encP pc) = some (c.encP pc) := rfl
theorem ce_nol {c : Cmd} {ps : List (Word × Word)} : nolL (c.encP (pcell ps)) = true := by cases ps <;> rfl
theorem ce_er {c : Cmd} : eraseL (c.encP (pcell c.pairs)) = c.enc := by simp only [Cmd.enc, Cmd.encP, eraseL, pcell_er]; rfl
def ce := And.intro @ce_len <| And.intro @ce_one <| And.intro @ce_ov @ce_tk
def LCr : List (List V) := [zero17, [.int .i64 0, .int .i64 0]]
theorem cread_calls (s : List UInt8) {σ : Store} (hg : σ.box 0 = some formCells) (hb : s.length + 1 ≤ big) (hm : manys (treeP (lexR s).1 [] []).1 + 8 ≤ big) :
    PCalls prog 15 [.str s] σ fun v σ' => v = .tup [.agg (readP s).1.enc, flt (readP s).2] ∧ σ' = σ := by
  have hll := lexR_len s
  refine fn15.calls ?_
  simp only [slots, ac15, am, amo, amc, ams, Nat.reduceAdd, Nat.reduceEqDiff, decide_true, decide_false, Tree.rec_, Nd.rec_, Word.rec_, Got.rec_, Int.reduceEq, Int.reduceLT, Int.reduceLE, Nat.reduceLT, fenc_nol]
  refine (lexP_calls s σ hb).mono ?_
  rintro v σ ⟨rfl, rfl⟩
  generalize hR : readP s = R
  unfold readP at hR
  simp only [am, amo, amc, Nat.reduceAdd, Nat.reduceEqDiff, encs_length, List.length_map, decide_true, decide_false, Tree.rec_, Nd.rec_, Word.rec_, Got.rec_, Int.reduceEq, Int.reduceLT, Int.reduceLE, Nat.reduceLT, fenc_nol, badL]
  cases hl : (lexR s).2 with
  | some a =>
    rw [hl] at hR
    simp only [am, amo, amc, Nat.reduceAdd, Nat.reduceEqDiff, encs_length, List.length_map, decide_true, decide_false, Tree.rec_, Nd.rec_, Word.rec_, Got.rec_, Int.reduceEq, Int.reduceLT, Int.reduceLE, Nat.reduceLT, fenc_nol]
    refine retK_intro rfl (Store.sub_refl _) ⟨?_, rfl⟩
    rw [← hR]; rfl
  | none =>
    rw [hl] at hR
    simp only [am, amo, amc, Nat.reduceAdd, Nat.reduceEqDiff, encs_length, List.length_map, decide_true, decide_false, Tree.rec_, Nd.rec_, Word.rec_, Got.rec_, Int.reduceEq, Int.reduceLT, Int.reduceLE, Nat.reduceLT, fenc_nol]
    refine (treeP_calls (lexR s).1 σ (by omega)).mono ?_
    rintro v σ ⟨rfl, rfl⟩
    simp only [am, amo, amc, Nat.reduceAdd, Nat.reduceEqDiff, encs_length, List.length_map, decide_true, decide_false, Tree.rec_, Nd.rec_, Word.rec_, Got.rec_, Int.reduceEq, Int.reduceLT, Int.reduceLE, Nat.reduceLT, fenc_nol, fenc]
    simp only at hR
    cases ht : (treeP (lexR s).1 [] []).2 with
    | some a =>
      rw [ht] at hR
      simp only [am, amo, amc, Nat.reduceAdd, Nat.reduceEqDiff, encs_length, List.length_map, decide_true, decide_false, Tree.rec_, Nd.rec_, Word.rec_, Got.rec_, Int.reduceEq, Int.reduceLT, Int.reduceLE, Nat.reduceLT, fenc_nol, badC]
      refine retK_intro rfl (Store.sub_refl _) ⟨?_, rfl⟩
      rw [← hR]; rfl
    | none =>
      rw [ht] at hR
      simp only at hR
      simp only [am, amo, amc, Nat.reduceAdd, Nat.reduceEqDiff, encs_length, List.length_map, decide_true, decide_false, Tree.rec_, Nd.rec_, Word.rec_, Got.rec_, Int.reduceEq, Int.reduceLT, Int.reduceLE, Nat.reduceLT, fenc_nol, badC]
      generalize (treeP (lexR s).1 [] []).1 = l at hm hR ⊢
      have hlen := manys_ge l
      cases l with
      | nil =>
        simp only [am, amo, amc, Nat.reduceAdd, Nat.reduceEqDiff, encs_length, List.length_map, decide_true, decide_false, Tree.rec_, Nd.rec_, Word.rec_, Got.rec_, Int.reduceEq, Int.reduceLT, Int.reduceLE, Nat.reduceLT, fenc_nol, List.length_nil, show (((0 : Nat) : Int) = 0) = True by simp]
        refine retK_intro rfl (Store.sub_refl _) ⟨?_, rfl⟩
        rw [← hR]; rfl
      | cons t ts =>
        generalize hL : t :: ts = L at *
        have hne : ¬ (L.length : Int) = 0 := by rw [← hL]; simp; omega
        simp only [am, amo, amc, Nat.reduceAdd, Nat.reduceEqDiff, encs_length, List.length_map, decide_true, decide_false, Tree.rec_, Nd.rec_, Word.rec_, Got.rec_, Int.reduceEq, Int.reduceLT, Int.reduceLE, Nat.reduceLT, fenc_nol, decide_eq_false hne]
        refine kO_intro fun r hr => ?_
        have hr0 : r ≠ 0 := by rintro rfl; rw [hg] at hr; simp at hr
        have hg' : ∀ X, (σ.set r X).box 0 = some formCells := fun X => by rw [Store.set_other _ _ (Ne.symm hr0)]; exact hg
        have hr' : ∀ X, (σ.set r X).box r = some X := fun X => Store.set_same _ _ _
        simp only [am, amo, amc, Nat.reduceAdd, Nat.reduceEqDiff, encs_length, List.length_map, decide_true, decide_false, Tree.rec_, Nd.rec_, Word.rec_, Got.rec_, Int.reduceEq, Int.reduceLT, Int.reduceLE, Nat.reduceLT, fenc_nol]
        change PCalls prog 42 [.ptr (.out r) 0] (σ.set r ((⟨L, 0, s.length, none⟩ : Rdr).enc ++ zero17)) _
        have hcmd : cmdP L s.length = if numberP (⟨L, 0, s.length, none⟩ : Rdr).word.1.text = 0 then (.zero, 2, t.tok.pos)
          else endP (partsP (formOf (numberP (⟨L, 0, s.length, none⟩ : Rdr).word.1.text)).2 ((⟨L, 0, s.length, none⟩ : Rdr).word.2, { Cmd.zero with op := numberP (⟨L, 0, s.length, none⟩ : Rdr).word.1.text, pos := (⟨L, 0, s.length, none⟩ : Rdr).word.1.pos })) := by rw [← hL]; rfl
        rw [hcmd] at hR
        refine (cword_calls (hr' _) (by simp) (show L.length ≤ big by omega)).mono ?_
        rintro v _ ⟨rfl, rfl⟩
        have hI : ∀ c, PInv L s.length ((⟨L, 0, s.length, none⟩ : Rdr).word.2, c) := fun c => PInv.goes (x := (⟨L, 0, s.length, none⟩, c)) ⟨rfl, rfl, by simp, by simp; omega, by simp⟩ rfl (goes_word _) (take_fin _ 97)
        generalize (⟨L, 0, s.length, none⟩ : Rdr).word.2 = r1 at hI hR ⊢
        generalize (⟨L, 0, s.length, none⟩ : Rdr).word.1 = w at hR ⊢
        simp only [am, amo, amc, Nat.reduceAdd, Nat.reduceEqDiff, encs_length, List.length_map, decide_true, decide_false, Tree.rec_, Nd.rec_, Word.rec_, Got.rec_, Int.reduceEq, Int.reduceLT, Int.reduceLE, Nat.reduceLT, fenc_nol, Word.enc]
        refine CallD.intro (number_calls w.text (hg' _)) ?_
        have e5 : ∀ X : List V, X.length = 17 → setAt (r1.enc ++ zero17) 5 X = r1.enc ++ X := fun X hX => by
          match X, hX with
          | [_, _, _, _, _, _, _, _, _, _, _, _, _, _, _, _, _], _ => rfl
        have h17 : hasN 17 zero17 = true := rfl
        have d5 : ∀ X : List V, (r1.enc ++ X).drop 5 = X := fun X => rfl
        generalize numberP w.text = op at hR ⊢
        simp only [am, amo, amc, Nat.reduceAdd, Nat.reduceEqDiff, encs_length, List.length_map, decide_true, decide_false, Tree.rec_, Nd.rec_, Word.rec_, Got.rec_, Int.reduceEq, Int.reduceLT, Int.reduceLE, Nat.reduceLT, fenc_nol, hr', e5, h17, d5]
        by_cases hop : op = 0
        · rw [if_pos hop] at hR
          simp only [am, amo, amc, Nat.reduceAdd, Nat.reduceEqDiff, encs_length, List.length_map, decide_true, decide_false, Tree.rec_, Nd.rec_, Word.rec_, Got.rec_, Int.reduceEq, Int.reduceLT, Int.reduceLE, Nat.reduceLT, fenc_nol, decide_eq_true hop]
          refine idxL_intro (by omega) (c := t.enc) (by rw [← hL]; simp [encs_map]) ?_
          simp only [am, amo, amc, Nat.reduceAdd, Nat.reduceEqDiff, encs_length, List.length_map, decide_true, decide_false, Tree.rec_, Nd.rec_, Word.rec_, Got.rec_, Int.reduceEq, Int.reduceLT, Int.reduceLE, Nat.reduceLT, fenc_nol, Tree.fl]
          refine retK_intro rfl (sub_set hr) ⟨?_, rfl⟩
          rw [← hR]; rfl
        · rw [if_neg hop] at hR
          simp only [am, amo, amc, Nat.reduceAdd, Nat.reduceEqDiff, encs_length, List.length_map, decide_true, decide_false, Tree.rec_, Nd.rec_, Word.rec_, Got.rec_, Int.reduceEq, Int.reduceLT, Int.reduceLE, Nat.reduceLT, fenc_nol, decide_eq_false hop]
          refine vc_rangeS ?_
          simp only [am, amo, amc, Nat.reduceAdd, Nat.reduceEqDiff, encs_length, List.length_map, decide_true, decide_false, Tree.rec_, Nd.rec_, Word.rec_, Got.rec_, Int.reduceEq, Int.reduceLT, Int.reduceLE, Nat.reduceLT, fenc_nol, hr', d5]
          refine (of_calls op (hg' _)).mono ?_
          rintro v σ' ⟨rfl, rfl⟩
          simp only [am, amo, amc, Nat.reduceAdd, Nat.reduceEqDiff, encs_length, List.length_map, decide_true, decide_false, Tree.rec_, Nd.rec_, Word.rec_, Got.rec_, Int.reduceEq, Int.reduceLT, Int.reduceLE, Nat.reduceLT, fenc_nol]
          generalize hks : (formOf op).2 = ks at hR ⊢
          generalize hx0 : ((r1, { Cmd.zero with op := op, pos := w.pos }) : Rdr × Cmd) = x0 at hR
          have hI0 : PInv L s.length x0 := by rw [← hx0]; exact hI _
          refine ⟨ks, rfl, by rw [← hks]; exact form_ascii op, fun b i st' => st' = ⟨SLr s L b r, LCr, σ.set r ((partsP (ks.take i) x0).1.enc ++ (partsP (ks.take i) x0).2.encP (pcell (partsP (ks.take i) x0).2.pairs))⟩, ?_, ?_, ?_, ?_⟩
          · intro b
            simp only [am, amo, amc, Nat.reduceAdd, Nat.reduceEqDiff, encs_length, List.length_map, decide_true, decide_false, Tree.rec_, Nd.rec_, Word.rec_, Got.rec_, Int.reduceEq, Int.reduceLT, Int.reduceLE, Nat.reduceLT, fenc_nol]
            refine Upd.drops (l' := LCr) ?_ ?_ ?_ (by simp [SLr, LCr, List.replicate, loL, V.lo]) (by simp [LCr, zero17, loLL, loL, V.lo]) rfl
            · simp [SLr, List.replicate, am]
            · simp [LCr, zero17, am]
            · rw [← hx0]
              exact OLe.set (by simp [Rdr.enc, Cmd.encP, Cmd.zero, Nd.zero, Nd.kind, Nd.pos, Nd.text, Nd.names, Nd.kids, partsP, pcell, am])
          · rintro b i _ rfl
            exact ⟨rfl, by simp [SLr], by simp [SLr]⟩
          · rintro b i c _ hc rfl
            simp only [SLr, List.replicate, am]
            have hIi := partsP_inv (ks.take i) hI0
            have hsn : partsP (ks.take (i + 1)) x0 = partP c (partsP (ks.take i) x0) := by rw [take_succ_of hc, partsP_snoc]
            have hpz : c = 112 → (partsP (ks.take i) x0).2.pairs = [] := fun h => by
              rw [partsP_pairs (ks.take i) (by rw [← hks]; exact form_once op i (by rw [hks, hc, h])), ← hx0]; rfl
            rw [hsn]
            generalize partsP (ks.take i) x0 = x at hIi hpz ⊢
            have hle := hIi.le
            refine (part_calls (k := c) (hr' _) (fun h => by rw [hpz h]; exact ⟨rfl, rfl⟩) hIi.ge (by rw [hIi.hl]; omega) (by omega)).mono ?_
            rintro v _ ⟨rfl, rfl⟩
            have hpc : (if c = 112 ∧ x.1.bad = none then pcell (partP c x).2.pairs else pcell x.2.pairs) = pcell (partP c x).2.pairs := by
              by_cases h : c = 112 ∧ x.1.bad = none
              · rw [if_pos h]
              · rw [if_neg h, partP_pairs]
                by_cases h1 : c = 112
                · exact .inr fun h2 => h ⟨h1, h2⟩
                · exact .inl h1
            rw [hpc]
            simp only [am, amo, amc, Nat.reduceAdd, Nat.reduceEqDiff, encs_length, List.length_map, decide_true, decide_false, Tree.rec_, Nd.rec_, Word.rec_, Got.rec_, Int.reduceEq, Int.reduceLT, Int.reduceLE, Nat.reduceLT, fenc_nol]
            exact Upd.drops (l' := LCr) (by simp [List.replicate, am]) (by simp [LCr, zero17, am]) OLe.rfl (by simp [LCr, List.replicate, loL, V.lo]) (by simp [LCr, zero17, loLL, loL, V.lo]) rfl
          · rintro b _ rfl
            simp only [SLr, LCr, List.replicate, am]
            rw [List.take_length]
            have hIe := partsP_inv ks hI0
            generalize partsP ks x0 = x at hIe hR ⊢
            obtain ⟨rd, c⟩ := x
            have h1 := hIe.hl
            have h2 := hIe.ge
            simp only at h1 h2
            unfold endP at hR
            simp only [h1] at hR
            simp only [am, amo, amc, Nat.reduceAdd, Nat.reduceEqDiff, encs_length, List.length_map, decide_true, decide_false, Tree.rec_, Nd.rec_, Word.rec_, Got.rec_, Int.reduceEq, Int.reduceLT, Int.reduceLE, Nat.reduceLT, fenc_nol, hr', crl]
            cases hbad : rd.bad with
            | some a =>
              simp only [hbad] at hR
              simp only [am, amo, amc, Nat.reduceAdd, Nat.reduceEqDiff, encs_length, List.length_map, decide_true, decide_false, Tree.rec_, Nd.rec_, Word.rec_, Got.rec_, Int.reduceEq, Int.reduceLT, Int.reduceLE, Nat.reduceLT, fenc_nol, badC, crl, hbad, hr', zero17]
              refine retK_intro rfl (sub_set hr) ⟨?_, rfl⟩
              have hR : (Cmd.zero, (2 : Int), a) = R := by simpa [hbad] using hR
              rw [← hR]; rfl
            | none =>
              simp only [hbad, true_and] at hR
              simp only [am, amo, amc, Nat.reduceAdd, Nat.reduceEqDiff, encs_length, List.length_map, decide_true, decide_false, Tree.rec_, Nd.rec_, Word.rec_, Got.rec_, Int.reduceEq, Int.reduceLT, Int.reduceLE, Nat.reduceLT, fenc_nol, badC, crl, hr']
              by_cases hend : rd.at_ < L.length
              · rw [if_pos hend] at hR
                simp only [am, amo, amc, Nat.reduceAdd, Nat.reduceEqDiff, encs_length, List.length_map, decide_true, decide_false, Tree.rec_, Nd.rec_, Word.rec_, Got.rec_, Int.reduceEq, Int.reduceLT, Int.reduceLE, Nat.reduceLT, fenc_nol, decide_eq_true hend]
                refine (cfail_calls (hr' _) h2).mono ?_
                rintro v _ ⟨rfl, rfl⟩
                obtain ⟨a, ha⟩ : ∃ a, rd.fail.bad = some a := by
                  have := Rdr.fail_ok rd
                  cases hq : rd.fail.bad with
                  | none => exact absurd hq this
                  | some a => exact ⟨a, rfl⟩
                rw [ha] at hR
                simp only [am, amo, amc, Nat.reduceAdd, Nat.reduceEqDiff, encs_length, List.length_map, decide_true, decide_false, Tree.rec_, Nd.rec_, Word.rec_, Got.rec_, Int.reduceEq, Int.reduceLT, Int.reduceLE, Nat.reduceLT, fenc_nol, hr', crl, ha, badC, zero17]
                refine retK_intro rfl (sub_set hr) ⟨?_, rfl⟩
                rw [← hR]; rfl
              · rw [if_neg hend, hbad] at hR
                simp only [am, amo, amc, Nat.reduceAdd, Nat.reduceEqDiff, encs_length, List.length_map, decide_true, decide_false, Tree.rec_, Nd.rec_, Word.rec_, Got.rec_, Int.reduceEq, Int.reduceLT, Int.reduceLE, Nat.reduceLT, fenc_nol, decide_eq_false hend, hr', crl, hbad, badC, zero17, cr17, ce]
                refine retK_intro ?_ (sub_set hr) ⟨?_, rfl⟩
                · simp [V.nol, nolL, ce_nol]
                rw [← hR]
                simp [V.erase, eraseL, ce_er, flt]
end Go.Proofs.Tryz

namespace Go.Proofs.Tryz
open Go.Am
set_option maxRecDepth 4000
set_option maxHeartbeats 4000000
section
variable {c : Cmd}
theorem c_lop : ldC false 1 c.enc = some (.int .i64 c.op) := rfl
theorem c_lop0 : ldC false 1 (c.enc.drop 0) = some (.int .i64 c.op) := rfl
theorem c_lp : ldC false 1 (c.enc.drop 1) = some (.int .i64 c.pos) := rfl
def cfo := And.intro @c_lop <| And.intro @c_lop0 @c_lp
end
theorem form_len (op : Int) : (formOf op).2.length ≤ 3 := by
  unfold formOf
  split
  · rename_i h1
    have hlt : op.toNat < 16 := by omega
    generalize op.toNat = n at hlt ⊢
    have key : ∀ n < 16, (formT.getD n ([], [])).2.length ≤ 3 := by decide
    exact key n hlt
  · simp
end Go.Proofs.Tryz

namespace Go.Proofs.Tryz
open Go.Am
set_option maxRecDepth 4000
set_option maxHeartbeats 4000000
def ac21 : AC := .seq (.reg [⟨(some 1), .box 5 (.s 0), none⟩, ⟨(some 2), .mv (.c (.str [])), none⟩])
 (.seq (.seq (.reg [xf 0 3 1, xo 4 3])
 (.block 0 (.seq (.seq (.reg [xB .eql 6 4 1, xm 5 6])
 (.cond (.s 5) (.skip)
 (.reg [xB .eql 7 4 2, xm 5 7])))
 (.cond (.s 5) (.seq (.reg [xf 2 8 1, xo 9 8, xm 2 9])
 (.ret))
 (.seq (.reg [xB .eql 11 4 3, xm 10 11])
 (.cond (.s 10) (.seq (.reg [xl 5 12 1, xc 46 13 [.s 12], ⟨(some 14), .cat (.c (.str [123])) (.s 13), none⟩, ⟨(some 15), .cat (.s 14) (.c (.str [125])), none⟩, xm 2 15])
 (.ret))
 (.seq (.reg [xB .eql 17 4 4, xm 16 17])
 (.cond (.s 16) (.seq (.reg [xl 5 18 1, xc 47 19 [.s 18], ⟨(some 20), .cat (.c (.str [40])) (.s 19), none⟩, ⟨(some 21), .cat (.s 20) (.c (.str [41])), none⟩, xm 2 21])
 (.ret))
 (.seq (.reg [xB .eql 23 4 5, xm 22 23])
 (.cond (.s 22) (.seq (.reg [xl 5 24 1, xc 47 25 [.s 24], ⟨(some 26), .cat (.c (.str [91])) (.s 25), none⟩, ⟨(some 27), .cat (.s 26) (.c (.str [93])), none⟩, xm 2 27])
 (.ret))
 (.seq (.reg [xB .eql 29 4 6, xm 28 29])
 (.cond (.s 28) (.seq (.draw [(xf 2 30 1, []), (xo 31 30, [1]), (⟨(some 32), .cat (.s 31) (.c (.str [58, 123])), none⟩, []), (xl 5 33 1, []), (xc 46 34 [.s 33], []), (⟨(some 35), .cat (.s 32) (.s 34), none⟩, []), (⟨(some 36), .cat (.s 35) (.c (.str [125])), none⟩, []), (xm 2 36, [])])
 (.ret))
 (.seq (.reg [xB .eql 38 4 7, xm 37 38])
 (.cond (.s 37) (.seq (.reg [xl 5 39 1, xc 48 40 [.s 39], ⟨(some 41), .cat (.c (.str [35])) (.s 40), none⟩, xm 2 41])
 (.ret))
 (.seq (.reg [xB .eql 43 4 8, xm 42 43])
 (.cond (.s 42) (.seq (.reg [xl 5 44 1, xc 47 45 [.s 44], ⟨(some 46), .cat (.c (.str [43, 40])) (.s 45), none⟩, ⟨(some 47), .cat (.s 46) (.c (.str [41])), none⟩, xm 2 47])
 (.ret))
 (.seq (.reg [xB .eql 49 4 9, xm 48 49])
 (.cond (.s 48) (.seq (.reg [xl 5 50 1, xc 47 51 [.s 50], ⟨(some 52), .cat (.c (.str [38, 40])) (.s 51), none⟩, ⟨(some 53), .cat (.s 52) (.c (.str [41])), none⟩, xm 2 53])
 (.ret))
 (.seq (.reg [xB .eql 55 4 10, xm 54 55])
 (.cond (.s 54) (.seq (.reg [xl 5 56 1, xc 49 57 [.s 56], xm 2 57])
 (.ret))
 (.seq (.reg [xB .eql 59 4 11, xm 58 59])
 (.cond (.s 58) (.seq (.draw [(xf 2 60 1, []), (xo 61 60, [1]), (⟨(some 62), .cat (.s 61) (.c (.str [61])), none⟩, []), (xl 5 63 1, []), (xc 48 64 [.s 63], []), (⟨(some 65), .cat (.s 62) (.s 64), none⟩, []), (xm 2 65, [])])
 (.ret))
 (.skip)))))))))))))))))))))))
 (.seq (.reg [⟨(some 2), .mv (.c (.str [])), none⟩])
 (.ret)))
theorem fn21 : IsFn prog 21 ac21 [.tmp 2] 66 := ⟨f21, ⟨[], []⟩, func21, by kernel_rfl, by kernel_rfl, by kernel_rfl, by kernel_rfl⟩
def ac46 : AC := .seq (.reg [⟨(some 1), .boxO 5 (.s 0), none⟩, ⟨(some 2), .mv (.c (.str [])), none⟩])
 (.seq (.reg [xf 3 3 1, xo 4 3, xL 5 4, ⟨(some 6), .mkfn (.func 75) [] [(.s 1)], none⟩, xc 74 7 [.s 5, .s 6], xm 2 7])
 (.ret))
theorem fn46 : IsFn prog 46 ac46 [.tmp 2] 8 := ⟨f46, ⟨[1], []⟩, func46, by kernel_rfl, by kernel_rfl, by kernel_rfl, by kernel_rfl⟩
def ac47 : AC := .seq (.reg [⟨(some 1), .boxO 5 (.s 0), none⟩, ⟨(some 2), .mv (.c (.str [])), none⟩])
 (.seq (.reg [xf 4 3 1, xo 4 3, xL 5 4, ⟨(some 6), .mkfn (.func 76) [] [(.s 1)], none⟩, xc 74 7 [.s 5, .s 6], xm 2 7])
 (.ret))
theorem fn47 : IsFn prog 47 ac47 [.tmp 2] 8 := ⟨f47, ⟨[1], []⟩, func47, by kernel_rfl, by kernel_rfl, by kernel_rfl, by kernel_rfl⟩
def ac48 : AC := .seq (.reg [⟨(some 1), .box 5 (.s 0), none⟩, ⟨(some 2), .mv (.c (.str [])), none⟩])
 (.seq (.seq (.reg [xf 4 3 1, xo 4 3, xL 5 4, xB .eql 6 5 0])
 (.cond (.s 6) (.seq (.reg [⟨(some 2), .mv (.c (.str [])), none⟩])
 (.ret))
 (.skip)))
 (.seq (.reg [xf 4 7 1, xo 8 7, ⟨(some 9), .idxA 5 (.s 8) (.c (.int .i64 0)), none⟩, xl 5 10 9, xc 21 11 [.s 10], xm 2 11])
 (.ret)))
theorem fn48 : IsFn prog 48 ac48 [.tmp 2] 12 := ⟨f48, ⟨[], []⟩, func48, by kernel_rfl, by kernel_rfl, by kernel_rfl, by kernel_rfl⟩
def ac49 : AC := .seq (.reg [⟨(some 1), .box 5 (.s 0), none⟩, ⟨(some 2), .mv (.c (.str [])), none⟩])
 (.seq (.reg [xl 5 4 1, xc 47 5 [.s 4], ⟨(some 6), .cat (.c (.str [91])) (.s 5), none⟩, xm 3 6])
 (.seq (.seq (.reg [xf 3 7 1, xo 8 7, xL 9 8, xB .gtr 10 9 0])
 (.cond (.s 10) (.reg [xm 11 3, xl 5 12 1, xc 46 13 [.s 12], ⟨(some 14), .cat (.c (.str [124])) (.s 13), none⟩, ⟨(some 15), .cat (.s 11) (.s 14), none⟩, xm 3 15])
 (.skip)))
 (.seq (.reg [xm 16 3, ⟨(some 17), .cat (.s 16) (.c (.str [93])), none⟩, xm 2 17])
 (.ret))))
theorem fn49 : IsFn prog 49 ac49 [.tmp 2] 18 := ⟨f49, ⟨[], []⟩, func49, by kernel_rfl, by kernel_rfl, by kernel_rfl, by kernel_rfl⟩
def ac74 : AC := .seq (.reg [⟨(some 4), .mv (.c (.str [])), none⟩])
 (.seq (.reg [⟨(some 5), .mv (.c (.sl .full 1 [])), none⟩])
 (.seq (.seq (.reg [xm 7 0, xi 8 0])
 (.block 0 (.loop (.seq (.reg [xb .lss 9 8 7])
 (.seq (.cond (.s 9) (.skip)
 (.exit 0))
 (.seq (.block 1 (.seq (.reg [xm 10 8, xm 6 10])
 (.seq (.seq (.reg [xm 11 6, xB .gtr 12 11 0])
 (.cond (.s 12) (.reg [xm 13 5, ⟨(some 14), .bslice 1 [(.c (.int .u8 44))], none⟩, xa 1 15 13 14, xm 5 15])
 (.skip)))
 (.reg [xm 16 5, xm 17 1, xm 18 6, ⟨(some 19), .callv (.s 17) [(.s 18)], none⟩, ⟨(some 20), .appS (.s 16) (.s 19), none⟩, xm 5 20]))))
 (.reg [xB .add 21 8 1, xm 8 21])))))))
 (.seq (.reg [xm 22 5, ⟨(some 23), .cvBS (.s 22), none⟩, xm 4 23])
 (.ret))))
theorem fn74 : IsFn prog 74 ac74 [.tmp 4] 24 := ⟨f74, ⟨[], []⟩, func74, by kernel_rfl, by kernel_rfl, by kernel_rfl, by kernel_rfl⟩
def ac75 : AC := .seq (.reg [⟨(some 3), .mv (.c (.str [])), none⟩])
 (.seq (.reg [xf 3 4 1, xo 5 4, xm 6 0, xA 2 7 5 6, xf 0 8 7, xo 9 8, xm 3 9])
 (.ret))
theorem fn75 : IsFn prog 75 ac75 [.tmp 3] 10 := ⟨f75, ⟨[], []⟩, func75, by kernel_rfl, by kernel_rfl, by kernel_rfl, by kernel_rfl⟩
def ac76 : AC := .seq (.reg [⟨(some 3), .mv (.c (.str [])), none⟩])
 (.seq (.reg [xf 4 4 1, xo 5 4, xm 6 0, xA 5 7 5 6, xl 5 8 7, xc 21 9 [.s 8], xm 3 9])
 (.ret))
theorem fn76 : IsFn prog 76 ac76 [.tmp 3] 10 := ⟨f76, ⟨[], []⟩, func76, by kernel_rfl, by kernel_rfl, by kernel_rfl, by kernel_rfl⟩
def inv77 (n : Nat) (g : FuncId) (cap : List V) (f : Nat → List UInt8) (σ : Store) (i τ : Nat) : St :=
  ⟨[.int .i64 (n : Nat), .fn (.func g) [] cap, .any, .any, .any, .sl (.tk τ) 1 (encB (joinC ((List.range i).map f))), .any, .int .i64 (n : Nat), .int .i64 (i : Nat)] ++ List.replicate 15 .any, [], σ.setTip τ (joinC ((List.range i).map f)).length⟩
theorem range_snoc (f : Nat → List UInt8) (i : Nat) : joinC ((List.range (i + 1)).map f) = joinC ((List.range i).map f) ++ (if 0 < i then [44] else []) ++ f i := by
  rw [List.range_succ, List.map_append, List.map_singleton, joinC_snoc]; simp
theorem range_mono (f : Nat → List UInt8) {i n : Nat} (h : i ≤ n) : (joinC ((List.range i).map f)).length ≤ (joinC ((List.range n).map f)).length := by
  induction n with
  | zero => have : i = 0 := by omega
            rw [this]; exact Nat.le_refl _
  | succ n ih =>
    by_cases hi : i = n + 1
    · rw [hi]; exact Nat.le_refl _
    · have := ih (by omega)
      rw [range_snoc]; simp only [List.length_append]; omega
theorem commas_calls {n : Nat} {g : FuncId} {cap : List V} {f : Nat → List UInt8} {σ : Store} (hnol : nolL cap = true) (hn : n ≤ big) (hb : (joinC ((List.range n).map f)).length ≤ big)
    (h : ∀ i, i < n → ∀ σ1 : Store, σ1.box = σ.box → PCalls prog g (.int .i64 (i : Nat) :: cap) σ1 fun v σ' => v = .str (f i) ∧ σ' = σ1) :
    PCalls prog 74 [.int .i64 (n : Nat), .fn (.func g) [] cap] σ fun v σ' => v = .str (joinC ((List.range n).map f)) ∧ σ' = σ := by
  refine fn74.calls ?_
  simp only [slots, ac74, am, amo, amc, ams, Nat.reduceAdd, Nat.reduceEqDiff, decide_true, decide_false, Tree.rec_, Nd.rec_, Word.rec_, Got.rec_]
  refine vc_loop (fun p : { p : Nat × Nat // σ.tip p.2 = none ∧ p.1 ≤ n } => inv77 n g cap f σ p.1.1 p.1.2) (fun p => n - p.1.1) ?_ ?_
  · refine Upd.tokEnter 0 fun τ hτ => ⟨⟨(0, τ), hτ, by simp⟩, ?_, rfl, rfl⟩
    simp [inv77, List.replicate, lto, joinC, encB]
  · rintro ⟨⟨i, τ⟩, hτ, hi⟩
    simp only at hτ hi
    simp only [inv77, List.replicate, am]
    refine vcIf_split ?_ ?_
    · intro hlt
      have hlt : i < n := by simpa using hlt
      have hs := range_snoc f i
      have hm := range_mono f (i := i + 1) (n := n) (by omega)
      simp only [big] at hn hb
      rw [hs] at hm
      simp only [List.length_append] at hm
      have wi : IntKind.i64.wrap ((i : Int) + 1) = (i : Int) + 1 := wrap_i64 (by omega) (by omega)
      simp only [am, amo, amc, Nat.reduceAdd, Nat.reduceEqDiff, encs_length, List.length_map, decide_true, decide_false, Tree.rec_, Nd.rec_, Word.rec_, Got.rec_]
      by_cases h0 : 0 < i
      case' pos =>
        rw [if_pos h0] at hs hm
        simp only [am, amo, amc, Nat.reduceAdd, Nat.reduceEqDiff, encs_length, List.length_map, decide_true, decide_false, Tree.rec_, Nd.rec_, Word.rec_, Got.rec_, decide_eq_true (show (0 : Int) < i by omega)]
        refine app_tk (by simp [encB_length, big]; simp at hm; omega) (by rw [encB_length, setTip_tip_same]) ?_
        simp only [am, amo, amc, Nat.reduceAdd, Nat.reduceEqDiff, encs_length, List.length_map, decide_true, decide_false, Tree.rec_, Nd.rec_, Word.rec_, Got.rec_, setTip_setTip]
        rw [show encB (joinC ((List.range i).map f)) ++ [[.int .u8 44]] = encB (joinC ((List.range i).map f) ++ [44]) by simp [encB], show (encB (joinC ((List.range i).map f))).length + 1 = (joinC ((List.range i).map f) ++ [44]).length by simp [encB]]
      case' neg =>
        rw [if_neg h0, List.append_nil] at hs
        rw [if_neg h0] at hm
        simp only [am, amo, amc, Nat.reduceAdd, Nat.reduceEqDiff, encs_length, List.length_map, decide_true, decide_false, Tree.rec_, Nd.rec_, Word.rec_, Got.rec_, decide_eq_false (show ¬ (0 : Int) < i by omega)]
      all_goals
        refine ⟨hnol, ?_⟩
        refine (h i hlt (σ.setTip τ _) rfl).mono ?_
        rintro v σ' ⟨rfl, rfl⟩
        simp only [am, amo, amc, Nat.reduceAdd, Nat.reduceEqDiff, encs_length, List.length_map, decide_true, decide_false, Tree.rec_, Nd.rec_, Word.rec_, Got.rec_]
        refine ⟨_, rfl, ?_⟩
        refine app_tk (by simp [encB_length, big]; simp at hm; omega) (by rw [encB_length, setTip_tip_same]) ?_
        simp only [am, amo, amc, Nat.reduceAdd, Nat.reduceEqDiff, encs_length, List.length_map, decide_true, decide_false, Tree.rec_, Nd.rec_, Word.rec_, Got.rec_, setTip_setTip, wi]
        rw [← encB_append, encB_length, encB_length, ← List.length_append, ← hs]
        exact Upd.again ⟨(i + 1, τ), hτ, hlt⟩ (by simp; omega) (by simp [am, List.replicate]) LLLe.rfl OLe.rfl
    · intro hlt
      have hlt : i = n := by simp at hlt; omega
      subst hlt
      simp only [am, amo, amc, Nat.reduceAdd, Nat.reduceEqDiff, encs_length, List.length_map, decide_true, decide_false, Tree.rec_, Nd.rec_, Word.rec_, Got.rec_]
      refine ⟨_, _, rfl, ?_⟩
      refine retK_intro rfl (sub_tip hτ) ⟨?_, rfl⟩
      simp [V.erase]
theorem names1_text {n : Nd} {i q : Nat} {σ : Store} (hi : i < n.names.length) (hq : σ.box q = some n.enc) : PCalls prog 75 [.int .i64 (i : Nat), .ptr (.out q) 0] σ fun v σ' => v = .str (n.names[i].text) ∧ σ' = σ := by
  refine fn75.calls ?_
  simp only [slots, ac75, am, amo, amc, ams, Nat.reduceAdd, Nat.reduceEqDiff, decide_true, decide_false, Tree.rec_, Nd.rec_, Word.rec_, Got.rec_]
  simp only [am, amo, amc, Nat.reduceAdd, Nat.reduceEqDiff, encs_length, List.length_map, decide_true, decide_false, Tree.rec_, Nd.rec_, Word.rec_, Got.rec_, hq, Nd.fl]
  refine idxL_intro (by omega) (wencs_at (show n.names[i]? = some n.names[i] by simp [hi])) ?_
  simp only [am, amo, amc, Nat.reduceAdd, Nat.reduceEqDiff, encs_length, List.length_map, decide_true, decide_false, Tree.rec_, Nd.rec_, Word.rec_, Got.rec_, Word.enc]
  refine retK_intro rfl (Store.sub_refl _) ⟨?_, rfl⟩
  simp [V.erase, eraseL]
theorem kids1_text {n : Nd} {i q : Nat} {σ : Store} (hi : i < n.kids.length) (hq : σ.box q = some n.enc) (ih : ∀ m ∈ n.kids, ∀ σ, PCalls prog 21 [.agg m.enc] σ fun v σ' => v = .str m.txt ∧ σ' = σ) :
    PCalls prog 76 [.int .i64 (i : Nat), .ptr (.out q) 0] σ fun v σ' => v = .str (n.kids[i].txt) ∧ σ' = σ := by
  refine fn76.calls ?_
  simp only [slots, ac76, am, amo, amc, ams, Nat.reduceAdd, Nat.reduceEqDiff, decide_true, decide_false, Tree.rec_, Nd.rec_, Word.rec_, Got.rec_]
  simp only [am, amo, amc, Nat.reduceAdd, Nat.reduceEqDiff, encs_length, List.length_map, decide_true, decide_false, Tree.rec_, Nd.rec_, Word.rec_, Got.rec_, hq, Nd.fl]
  refine idxL_intro (by omega) (nencs_at (show n.kids[i]? = some n.kids[i] by simp [hi])) ?_
  simp only [am, amo, amc, Nat.reduceAdd, Nat.reduceEqDiff, encs_length, List.length_map, decide_true, decide_false, Tree.rec_, Nd.rec_, Word.rec_, Got.rec_]
  refine (ih n.kids[i] (List.getElem_mem hi) σ).mono ?_
  rintro v σ ⟨rfl, rfl⟩
  simp only [am, amo, amc, Nat.reduceAdd, Nat.reduceEqDiff, encs_length, List.length_map, decide_true, decide_false, Tree.rec_, Nd.rec_, Word.rec_, Got.rec_]
  refine retK_intro rfl (Store.sub_refl _) ⟨?_, rfl⟩
  simp [V.erase, eraseL]
theorem range_map {α : Type} (l : List α) (f : α → List UInt8) (d : List UInt8) : (List.range l.length).map (fun i => if h : i < l.length then f l[i] else d) = l.map f := by
  apply List.ext_getElem?
  intro i
  by_cases h : i < l.length <;> simp [h]
theorem names_text {n : Nd} {σ : Store} (hw : n.wt ≤ big) : PCalls prog 46 [.agg n.enc] σ fun v σ' => v = .str (wtext n.names) ∧ σ' = σ := by
  have h1 := wtext_len n.names
  have h2 : n.names.length ≤ wsum n.names := by
    unfold wsum; generalize n.names = l
    induction l with
    | nil => simp
    | cons w ws ih => simp only [List.map_cons, List.sum_cons, List.length_cons]; omega
  have h3 : wsum n.names ≤ n.wt := by cases n; simp only [Nd.wt, Nd.names]; omega
  have e : joinC ((List.range n.names.length).map (fun i => if h : i < n.names.length then n.names[i].text else [])) = wtext n.names := by
    rw [range_map n.names (fun w => w.text) []]; rfl
  refine fn46.calls ?_
  simp only [slots, ac46, am, amo, amc, ams, Nat.reduceAdd, Nat.reduceEqDiff, decide_true, decide_false, Tree.rec_, Nd.rec_, Word.rec_, Got.rec_]
  refine kO_intro fun q hq => ?_
  simp only [am, amo, amc, Nat.reduceAdd, Nat.reduceEqDiff, encs_length, List.length_map, decide_true, decide_false, Tree.rec_, Nd.rec_, Word.rec_, Got.rec_, Nd.fl]
  refine (commas_calls (f := fun i => if h : i < n.names.length then n.names[i].text else []) rfl (by omega) (by rw [e]; omega) (fun i hi σ1 h1 => ?_)).mono ?_
  · rw [dif_pos hi]
    exact names1_text hi (by rw [h1]; exact Store.set_same _ _ _)
  rintro v σ' ⟨rfl, rfl⟩
  simp only [am, amo, amc, Nat.reduceAdd, Nat.reduceEqDiff, encs_length, List.length_map, decide_true, decide_false, Tree.rec_, Nd.rec_, Word.rec_, Got.rec_]
  refine retK_intro rfl (sub_set hq) ⟨?_, rfl⟩
  rw [e]; simp [V.erase]
theorem kids_text {n : Nd} {σ : Store} (hw : n.wt ≤ big) (ih : ∀ m ∈ n.kids, ∀ σ, PCalls prog 21 [.agg m.enc] σ fun v σ' => v = .str m.txt ∧ σ' = σ) : PCalls prog 47 [.agg n.enc] σ fun v σ' => v = .str (joinC (txts n.kids)) ∧ σ' = σ := by
  have h1 := ktext_len n.kids (txt_lens n.kids)
  have h2 : n.kids.length ≤ wts n.kids := by
    rw [wts_map]; generalize n.kids = l
    induction l with
    | nil => simp
    | cons w ws ih => simp only [List.map_cons, List.sum_cons, List.length_cons]; omega
  have h3 : wts n.kids ≤ n.wt := by cases n; simp only [Nd.wt, Nd.kids]; omega
  have e : joinC ((List.range n.kids.length).map (fun i => if h : i < n.kids.length then n.kids[i].txt else [])) = joinC (txts n.kids) := by
    rw [range_map n.kids (fun w => w.txt) [], txts_map]
  refine fn47.calls ?_
  simp only [slots, ac47, am, amo, amc, ams, Nat.reduceAdd, Nat.reduceEqDiff, decide_true, decide_false, Tree.rec_, Nd.rec_, Word.rec_, Got.rec_]
  refine kO_intro fun q hq => ?_
  simp only [am, amo, amc, Nat.reduceAdd, Nat.reduceEqDiff, encs_length, List.length_map, decide_true, decide_false, Tree.rec_, Nd.rec_, Word.rec_, Got.rec_, Nd.fl]
  refine (commas_calls (f := fun i => if h : i < n.kids.length then n.kids[i].txt else []) rfl (by omega) (by rw [e]; omega) (fun i hi σ1 h1 => ?_)).mono ?_
  · rw [dif_pos hi]
    exact kids1_text hi (by rw [h1]; exact Store.set_same _ _ _) ih
  rintro v σ' ⟨rfl, rfl⟩
  simp only [am, amo, amc, Nat.reduceAdd, Nat.reduceEqDiff, encs_length, List.length_map, decide_true, decide_false, Tree.rec_, Nd.rec_, Word.rec_, Got.rec_]
  refine retK_intro rfl (sub_set hq) ⟨?_, rfl⟩
  rw [e]; simp [V.erase]
theorem first_text {n : Nd} {σ : Store} (ih : ∀ m ∈ n.kids, ∀ σ, PCalls prog 21 [.agg m.enc] σ fun v σ' => v = .str m.txt ∧ σ' = σ) : PCalls prog 48 [.agg n.enc] σ fun v σ' => v = .str (headT (txts n.kids)) ∧ σ' = σ := by
  refine fn48.calls ?_
  simp only [slots, ac48, am, amo, amc, ams, Nat.reduceAdd, Nat.reduceEqDiff, decide_true, decide_false, Tree.rec_, Nd.rec_, Word.rec_, Got.rec_]
  simp only [am, amo, amc, Nat.reduceAdd, Nat.reduceEqDiff, encs_length, List.length_map, decide_true, decide_false, Tree.rec_, Nd.rec_, Word.rec_, Got.rec_, Nd.fl]
  cases hk : n.kids with
  | nil =>
    simp only [am, amo, amc, Nat.reduceAdd, Nat.reduceEqDiff, encs_length, List.length_map, decide_true, decide_false, Tree.rec_, Nd.rec_, Word.rec_, Got.rec_, List.map_nil, List.length_nil, Int.natCast_zero]
    refine retK_intro rfl (Store.sub_refl _) ⟨?_, rfl⟩
    simp [V.erase, eraseL, headT, txts]
  | cons m ms =>
    simp only [am, amo, amc, Nat.reduceAdd, Nat.reduceEqDiff, encs_length, List.length_map, decide_true, decide_false, Tree.rec_, Nd.rec_, Word.rec_, Got.rec_, decide_eq_false (show ¬ (((m :: ms).length : Nat) : Int) = 0 by simp; omega), Nd.fl, hk]
    refine idxL_intro (by omega) (c := m.enc) (by simp) ?_
    simp only [am, amo, amc, Nat.reduceAdd, Nat.reduceEqDiff, encs_length, List.length_map, decide_true, decide_false, Tree.rec_, Nd.rec_, Word.rec_, Got.rec_]
    refine (ih m (by rw [hk]; simp) σ).mono ?_
    rintro v σ ⟨rfl, rfl⟩
    simp only [am, amo, amc, Nat.reduceAdd, Nat.reduceEqDiff, encs_length, List.length_map, decide_true, decide_false, Tree.rec_, Nd.rec_, Word.rec_, Got.rec_]
    refine retK_intro rfl (Store.sub_refl _) ⟨?_, rfl⟩
    simp [V.erase, eraseL, headT, txts]
theorem row_text {n : Nd} {σ : Store} (hw : n.wt ≤ big) (ih : ∀ m ∈ n.kids, ∀ σ, PCalls prog 21 [.agg m.enc] σ fun v σ' => v = .str m.txt ∧ σ' = σ) :
    PCalls prog 49 [.agg n.enc] σ fun v σ' => v = .str (([91] ++ joinC (txts n.kids)) ++ (if 0 < n.names.length then [124] ++ wtext n.names else []) ++ [93]) ∧ σ' = σ := by
  have h1 := ktext_len n.kids (txt_lens n.kids)
  have h2 := wtext_len n.names
  have h3 : wts n.kids + wsum n.names + 4 ≤ n.wt := by cases n; simp only [Nd.wt, Nd.kids, Nd.names]; omega
  refine fn49.calls ?_
  simp only [slots, ac49, am, amo, amc, ams, Nat.reduceAdd, Nat.reduceEqDiff, decide_true, decide_false, Tree.rec_, Nd.rec_, Word.rec_, Got.rec_]
  refine (kids_text hw ih).mono ?_
  rintro v σ ⟨rfl, rfl⟩
  simp only [am, amo, amc, Nat.reduceAdd, Nat.reduceEqDiff, encs_length, List.length_map, decide_true, decide_false, Tree.rec_, Nd.rec_, Word.rec_, Got.rec_]
  refine ⟨by simp; omega, ?_⟩
  simp only [am, amo, amc, Nat.reduceAdd, Nat.reduceEqDiff, encs_length, List.length_map, decide_true, decide_false, Tree.rec_, Nd.rec_, Word.rec_, Got.rec_, Nd.fl]
  by_cases h0 : 0 < n.names.length
  · simp only [am, amo, amc, Nat.reduceAdd, Nat.reduceEqDiff, encs_length, List.length_map, decide_true, decide_false, Tree.rec_, Nd.rec_, Word.rec_, Got.rec_, decide_eq_true (show (0 : Int) < n.names.length by omega)]
    refine (names_text hw).mono ?_
    rintro v σ ⟨rfl, rfl⟩
    simp only [am, amo, amc, Nat.reduceAdd, Nat.reduceEqDiff, encs_length, List.length_map, decide_true, decide_false, Tree.rec_, Nd.rec_, Word.rec_, Got.rec_, catL_str]
    refine ⟨by simp; omega, by simp; omega, by simp; omega, ?_⟩
    refine retK_intro rfl (Store.sub_refl _) ⟨?_, rfl⟩
    simp [V.erase, eraseL, h0]
  · simp only [am, amo, amc, Nat.reduceAdd, Nat.reduceEqDiff, encs_length, List.length_map, decide_true, decide_false, Tree.rec_, Nd.rec_, Word.rec_, Got.rec_, decide_eq_false (show ¬ (0 : Int) < n.names.length by omega)]
    refine ⟨by simp; omega, ?_⟩
    refine retK_intro rfl (Store.sub_refl _) ⟨?_, rfl⟩
    simp [V.erase, eraseL, h0]
theorem text_calls : ∀ (k : Nat) (n : Nd) (σ : Store), n.wt ≤ k → n.wt ≤ big → PCalls prog 21 [.agg n.enc] σ fun v σ' => v = .str n.txt ∧ σ' = σ := by
  intro k
  induction k with
  | zero => intro n σ h _; cases n; simp only [Nd.wt] at h; omega
  | succ k ihk =>
    intro n σ hk hw
    have ih : ∀ m ∈ n.kids, ∀ σ, PCalls prog 21 [.agg m.enc] σ fun v σ' => v = .str m.txt ∧ σ' = σ := fun m hm σ => by
      have h1 := wt_mem hm
      have h2 : wts n.kids + 4 ≤ n.wt := by cases n; simp only [Nd.wt, Nd.kids]; omega
      exact ihk m σ (by omega) (by omega)
    have h1 := ktext_len n.kids (txt_lens n.kids)
    have h2 := wtext_len n.names
    have h3 : n.text.length + wts n.kids + wsum n.names + 4 ≤ n.wt := by cases n; simp only [Nd.wt, Nd.kids, Nd.names, Nd.text]; omega
    have h4 := head_len n.kids (txt_lens n.kids)
    have e : n.txt = if n.kind = 1 ∨ n.kind = 2 then n.text else if n.kind = 3 then [123] ++ wtext n.names ++ [125] else if n.kind = 4 then [40] ++ joinC (txts n.kids) ++ [41] else if n.kind = 5 then [91] ++ joinC (txts n.kids) ++ [93]
        else if n.kind = 6 then n.text ++ [58, 123] ++ wtext n.names ++ [125] else if n.kind = 7 then [35] ++ headT (txts n.kids) else if n.kind = 8 then [43, 40] ++ joinC (txts n.kids) ++ [41] else if n.kind = 9 then [38, 40] ++ joinC (txts n.kids) ++ [41]
        else if n.kind = 10 then ([91] ++ joinC (txts n.kids)) ++ (if 0 < n.names.length then [124] ++ wtext n.names else []) ++ [93] else if n.kind = 11 then n.text ++ [61] ++ headT (txts n.kids) else [] := by cases n; rw [Nd.txt]; rfl
    rw [e]
    refine fn21.calls ?_
    simp only [slots, ac21, am, amo, amc, ams, Nat.reduceAdd, Nat.reduceEqDiff, decide_true, decide_false, Tree.rec_, Nd.rec_, Word.rec_, Got.rec_]
    simp only [am, amo, amc, Nat.reduceAdd, Nat.reduceEqDiff, encs_length, List.length_map, decide_true, decide_false, Tree.rec_, Nd.rec_, Word.rec_, Got.rec_, Nd.fl]
    by_cases k1 : n.kind = 1
    · simp only [am, amo, amc, Nat.reduceAdd, Nat.reduceEqDiff, encs_length, List.length_map, decide_true, decide_false, Tree.rec_, Nd.rec_, Word.rec_, Got.rec_, decide_eq_true k1, Nd.fl]
      refine retK_intro rfl (Store.sub_refl _) ⟨?_, rfl⟩
      simp [V.erase, eraseL, k1]
    simp only [am, amo, amc, Nat.reduceAdd, Nat.reduceEqDiff, encs_length, List.length_map, decide_true, decide_false, Tree.rec_, Nd.rec_, Word.rec_, Got.rec_, decide_eq_false k1]
    by_cases k2 : n.kind = 2
    · simp only [am, amo, amc, Nat.reduceAdd, Nat.reduceEqDiff, encs_length, List.length_map, decide_true, decide_false, Tree.rec_, Nd.rec_, Word.rec_, Got.rec_, decide_eq_true k2, Nd.fl]
      refine retK_intro rfl (Store.sub_refl _) ⟨?_, rfl⟩
      simp [V.erase, eraseL, k2]
    simp only [am, amo, amc, Nat.reduceAdd, Nat.reduceEqDiff, encs_length, List.length_map, decide_true, decide_false, Tree.rec_, Nd.rec_, Word.rec_, Got.rec_, decide_eq_false k2]
    by_cases k3 : n.kind = 3
    · simp only [am, amo, amc, Nat.reduceAdd, Nat.reduceEqDiff, encs_length, List.length_map, decide_true, decide_false, Tree.rec_, Nd.rec_, Word.rec_, Got.rec_, decide_eq_true k3]
      refine (names_text hw).mono ?_
      rintro v σ ⟨rfl, rfl⟩
      simp only [am, amo, amc, Nat.reduceAdd, Nat.reduceEqDiff, encs_length, List.length_map, decide_true, decide_false, Tree.rec_, Nd.rec_, Word.rec_, Got.rec_]
      refine ⟨by simp; omega, by simp; omega, ?_⟩
      refine retK_intro rfl (Store.sub_refl _) ⟨?_, rfl⟩
      simp [V.erase, eraseL, k3]
    simp only [am, amo, amc, Nat.reduceAdd, Nat.reduceEqDiff, encs_length, List.length_map, decide_true, decide_false, Tree.rec_, Nd.rec_, Word.rec_, Got.rec_, decide_eq_false k3]
    by_cases k4 : n.kind = 4
    · simp only [am, amo, amc, Nat.reduceAdd, Nat.reduceEqDiff, encs_length, List.length_map, decide_true, decide_false, Tree.rec_, Nd.rec_, Word.rec_, Got.rec_, decide_eq_true k4]
      refine (kids_text hw ih).mono ?_
      rintro v σ ⟨rfl, rfl⟩
      simp only [am, amo, amc, Nat.reduceAdd, Nat.reduceEqDiff, encs_length, List.length_map, decide_true, decide_false, Tree.rec_, Nd.rec_, Word.rec_, Got.rec_]
      refine ⟨by simp; omega, by simp; omega, ?_⟩
      refine retK_intro rfl (Store.sub_refl _) ⟨?_, rfl⟩
      simp [V.erase, eraseL, k4]
    simp only [am, amo, amc, Nat.reduceAdd, Nat.reduceEqDiff, encs_length, List.length_map, decide_true, decide_false, Tree.rec_, Nd.rec_, Word.rec_, Got.rec_, decide_eq_false k4]
    by_cases k5 : n.kind = 5
    · simp only [am, amo, amc, Nat.reduceAdd, Nat.reduceEqDiff, encs_length, List.length_map, decide_true, decide_false, Tree.rec_, Nd.rec_, Word.rec_, Got.rec_, decide_eq_true k5]
      refine (kids_text hw ih).mono ?_
      rintro v σ ⟨rfl, rfl⟩
      simp only [am, amo, amc, Nat.reduceAdd, Nat.reduceEqDiff, encs_length, List.length_map, decide_true, decide_false, Tree.rec_, Nd.rec_, Word.rec_, Got.rec_]
      refine ⟨by simp; omega, by simp; omega, ?_⟩
      refine retK_intro rfl (Store.sub_refl _) ⟨?_, rfl⟩
      simp [V.erase, eraseL, k5]
    simp only [am, amo, amc, Nat.reduceAdd, Nat.reduceEqDiff, encs_length, List.length_map, decide_true, decide_false, Tree.rec_, Nd.rec_, Word.rec_, Got.rec_, decide_eq_false k5]
    by_cases k6 : n.kind = 6
    · simp only [am, amo, amc, Nat.reduceAdd, Nat.reduceEqDiff, encs_length, List.length_map, decide_true, decide_false, Tree.rec_, Nd.rec_, Word.rec_, Got.rec_, decide_eq_true k6, Nd.fl]
      refine ⟨by simp; omega, ?_⟩
      refine CallD.intro (names_text hw) ?_
      simp only [am, amo, amc, Nat.reduceAdd, Nat.reduceEqDiff, encs_length, List.length_map, decide_true, decide_false, Tree.rec_, Nd.rec_, Word.rec_, Got.rec_, Nd.fl]
      refine ⟨by simp; omega, by simp; omega, ?_⟩
      refine retK_intro rfl (Store.sub_refl _) ⟨?_, rfl⟩
      simp [V.erase, eraseL, k6]
    simp only [am, amo, amc, Nat.reduceAdd, Nat.reduceEqDiff, encs_length, List.length_map, decide_true, decide_false, Tree.rec_, Nd.rec_, Word.rec_, Got.rec_, decide_eq_false k6]
    by_cases k7 : n.kind = 7
    · simp only [am, amo, amc, Nat.reduceAdd, Nat.reduceEqDiff, encs_length, List.length_map, decide_true, decide_false, Tree.rec_, Nd.rec_, Word.rec_, Got.rec_, decide_eq_true k7]
      refine (first_text ih).mono ?_
      rintro v σ ⟨rfl, rfl⟩
      simp only [am, amo, amc, Nat.reduceAdd, Nat.reduceEqDiff, encs_length, List.length_map, decide_true, decide_false, Tree.rec_, Nd.rec_, Word.rec_, Got.rec_]
      refine ⟨by simp; omega, ?_⟩
      refine retK_intro rfl (Store.sub_refl _) ⟨?_, rfl⟩
      simp [V.erase, eraseL, k7]
    simp only [am, amo, amc, Nat.reduceAdd, Nat.reduceEqDiff, encs_length, List.length_map, decide_true, decide_false, Tree.rec_, Nd.rec_, Word.rec_, Got.rec_, decide_eq_false k7]
    by_cases k8 : n.kind = 8
    · simp only [am, amo, amc, Nat.reduceAdd, Nat.reduceEqDiff, encs_length, List.length_map, decide_true, decide_false, Tree.rec_, Nd.rec_, Word.rec_, Got.rec_, decide_eq_true k8]
      refine (kids_text hw ih).mono ?_
      rintro v σ ⟨rfl, rfl⟩
      simp only [am, amo, amc, Nat.reduceAdd, Nat.reduceEqDiff, encs_length, List.length_map, decide_true, decide_false, Tree.rec_, Nd.rec_, Word.rec_, Got.rec_]
      refine ⟨by simp; omega, by simp; omega, ?_⟩
      refine retK_intro rfl (Store.sub_refl _) ⟨?_, rfl⟩
      simp [V.erase, eraseL, k8]
    simp only [am, amo, amc, Nat.reduceAdd, Nat.reduceEqDiff, encs_length, List.length_map, decide_true, decide_false, Tree.rec_, Nd.rec_, Word.rec_, Got.rec_, decide_eq_false k8]
    by_cases k9 : n.kind = 9
    · simp only [am, amo, amc, Nat.reduceAdd, Nat.reduceEqDiff, encs_length, List.length_map, decide_true, decide_false, Tree.rec_, Nd.rec_, Word.rec_, Got.rec_, decide_eq_true k9]
      refine (kids_text hw ih).mono ?_
      rintro v σ ⟨rfl, rfl⟩
      simp only [am, amo, amc, Nat.reduceAdd, Nat.reduceEqDiff, encs_length, List.length_map, decide_true, decide_false, Tree.rec_, Nd.rec_, Word.rec_, Got.rec_]
      refine ⟨by simp; omega, by simp; omega, ?_⟩
      refine retK_intro rfl (Store.sub_refl _) ⟨?_, rfl⟩
      simp [V.erase, eraseL, k9]
    simp only [am, amo, amc, Nat.reduceAdd, Nat.reduceEqDiff, encs_length, List.length_map, decide_true, decide_false, Tree.rec_, Nd.rec_, Word.rec_, Got.rec_, decide_eq_false k9]
    by_cases k10 : n.kind = 10
    · simp only [am, amo, amc, Nat.reduceAdd, Nat.reduceEqDiff, encs_length, List.length_map, decide_true, decide_false, Tree.rec_, Nd.rec_, Word.rec_, Got.rec_, decide_eq_true k10]
      refine (row_text hw ih).mono ?_
      rintro v σ ⟨rfl, rfl⟩
      simp only [am, amo, amc, Nat.reduceAdd, Nat.reduceEqDiff, encs_length, List.length_map, decide_true, decide_false, Tree.rec_, Nd.rec_, Word.rec_, Got.rec_]
      refine retK_intro rfl (Store.sub_refl _) ⟨?_, rfl⟩
      simp [V.erase, eraseL, k10]
    simp only [am, amo, amc, Nat.reduceAdd, Nat.reduceEqDiff, encs_length, List.length_map, decide_true, decide_false, Tree.rec_, Nd.rec_, Word.rec_, Got.rec_, decide_eq_false k10]
    by_cases k11 : n.kind = 11
    · simp only [am, amo, amc, Nat.reduceAdd, Nat.reduceEqDiff, encs_length, List.length_map, decide_true, decide_false, Tree.rec_, Nd.rec_, Word.rec_, Got.rec_, decide_eq_true k11, Nd.fl]
      refine ⟨by simp; omega, ?_⟩
      refine CallD.intro (first_text ih) ?_
      simp only [am, amo, amc, Nat.reduceAdd, Nat.reduceEqDiff, encs_length, List.length_map, decide_true, decide_false, Tree.rec_, Nd.rec_, Word.rec_, Got.rec_, Nd.fl]
      refine ⟨by simp; omega, ?_⟩
      refine retK_intro rfl (Store.sub_refl _) ⟨?_, rfl⟩
      simp [V.erase, eraseL, k11]
    simp only [am, amo, amc, Nat.reduceAdd, Nat.reduceEqDiff, encs_length, List.length_map, decide_true, decide_false, Tree.rec_, Nd.rec_, Word.rec_, Got.rec_, decide_eq_false k11]
    refine retK_intro rfl (Store.sub_refl _) ⟨?_, rfl⟩
    simp [V.erase, eraseL, k1, k2, k3, k4, k5, k6, k7, k8, k9, k10, k11]
end Go.Proofs.Tryz

namespace Go.Proofs.Tryz
open Go.Am
set_option maxRecDepth 4000
set_option maxHeartbeats 4000000
def ac56 : AC := .seq (.reg [⟨(some 1), .box 5 (.s 0), none⟩, ⟨(some 2), .mv (.c (.bool false)), none⟩])
 (.seq (.seq (.reg [xf 0 3 1, xo 4 3])
 (.block 0 (.seq (.reg [xB .eql 6 4 1, xm 5 6])
 (.cond (.s 5) (.seq (.reg [xl 5 7 1, xc 79 8 [.s 7], xm 2 8])
 (.ret))
 (.seq (.reg [xB .eql 10 4 7, xm 9 10])
 (.cond (.s 9) (.seq (.reg [xl 5 11 1, xc 80 12 [.s 11], xm 13 12, xg 13 (xf 4 14 1), xg 13 (xo 15 14), xg 13 (xL 16 15), xg 13 (xB .eql 17 16 1), ⟨(some 18), .pick (.s 13) (.s 17) (.c (.bool false)), none⟩, xm 19 18, xg 19 (xf 4 20 1), xg 19 (xo 21 20), ⟨(some 22), .idxA 5 (.s 21) (.c (.int .i64 0)), (some (19, true))⟩, xg 19 (xl 5 23 22), xg 19 (xc 81 24 [.s 23]), ⟨(some 25), .pick (.s 19) (.s 24) (.c (.bool false)), none⟩, xm 2 25])
 (.ret))
 (.seq (.seq (.reg [xB .eql 27 4 8, xm 26 27])
 (.cond (.s 26) (.skip)
 (.reg [xB .eql 28 4 9, xm 26 28])))
 (.cond (.s 26) (.seq (.reg [xl 5 29 1, xc 80 30 [.s 29], xm 31 30, xg 31 (xf 4 32 1), xg 31 (xo 33 32), xg 31 (xL 34 33), xg 31 (xB .gtr 35 34 0), ⟨(some 36), .pick (.s 31) (.s 35) (.c (.bool false)), none⟩, xm 37 36, xg 37 (xf 4 38 1), xg 37 (xo 39 38), xg 37 (xc 82 40 [.s 39, .c (.fn (.func 56) [] [])]), ⟨(some 41), .pick (.s 37) (.s 40) (.c (.bool false)), none⟩, xm 2 41])
 (.ret))
 (.skip)))))))))
 (.seq (.reg [⟨(some 2), .mv (.c (.bool false)), none⟩])
 (.ret)))
theorem fn56 : IsFn prog 56 ac56 [.tmp 2] 42 := ⟨f56, ⟨[], []⟩, func56, by kernel_rfl, by kernel_rfl, by kernel_rfl, by kernel_rfl⟩
def ac57 : AC := .seq (.reg [⟨(some 1), .box 5 (.s 0), none⟩, ⟨(some 2), .mv (.c (.bool false)), none⟩])
 (.seq (.seq (.reg [xf 0 3 1, xo 4 3, xB .eql 5 4 10])
 (.cond (.s 5) (.seq (.reg [xf 2 6 1, xo 7 6, ⟨(some 8), .binS .eql (.s 7) (.c (.str [])), none⟩, xm 9 8, xg 9 (xf 3 10 1), xg 9 (xo 11 10), xg 9 (xL 12 11), xg 9 (xB .leq 13 12 1), ⟨(some 14), .pick (.s 9) (.s 13) (.c (.bool false)), none⟩, xm 15 14, xg 15 (xf 3 16 1), xg 15 (xo 17 16), xg 15 (xc 83 18 [.s 17]), ⟨(some 19), .pick (.s 15) (.s 18) (.c (.bool false)), none⟩, xm 20 19, xg 20 (xf 4 21 1), xg 20 (xo 22 21), xg 20 (xc 82 23 [.s 22, .c (.fn (.func 84) [] [])]), ⟨(some 24), .pick (.s 20) (.s 23) (.c (.bool false)), none⟩, xm 2 24])
 (.ret))
 (.skip)))
 (.seq (.reg [xf 0 25 1, xo 26 25, xB .eql 27 26 1, xm 28 27, xg 28 (xl 5 29 1), xg 28 (xc 56 30 [.s 29]), ⟨(some 31), .pick (.s 28) (.s 30) (.c (.bool false)), none⟩, xm 2 31])
 (.ret)))
theorem fn57 : IsFn prog 57 ac57 [.tmp 2] 32 := ⟨f57, ⟨[], []⟩, func57, by kernel_rfl, by kernel_rfl, by kernel_rfl, by kernel_rfl⟩
def ac79 : AC := .seq (.reg [⟨(some 1), .box 5 (.s 0), none⟩, ⟨(some 2), .mv (.c (.bool false)), none⟩])
 (.seq (.reg [xf 2 3 1, xo 4 3, xc 54 5 [.s 4], xm 6 5, xg 6 (xf 3 7 1), xg 6 (xo 8 7), xg 6 (xL 9 8), xg 6 (xf 4 10 1), xg 6 (xo 11 10), xg 6 (xL 12 11), xg 6 (xb .add 13 9 12), xg 6 (xB .eql 14 13 0), ⟨(some 15), .pick (.s 6) (.s 14) (.c (.bool false)), none⟩, xm 2 15])
 (.ret))
theorem fn79 : IsFn prog 79 ac79 [.tmp 2] 16 := ⟨f79, ⟨[], []⟩, func79, by kernel_rfl, by kernel_rfl, by kernel_rfl, by kernel_rfl⟩
def ac80 : AC := .seq (.reg [⟨(some 1), .box 5 (.s 0), none⟩, ⟨(some 2), .mv (.c (.bool false)), none⟩])
 (.seq (.reg [xf 2 3 1, xo 4 3, ⟨(some 5), .binS .eql (.s 4) (.c (.str [])), none⟩, xm 6 5, xg 6 (xf 3 7 1), xg 6 (xo 8 7), xg 6 (xL 9 8), xg 6 (xB .eql 10 9 0), ⟨(some 11), .pick (.s 6) (.s 10) (.c (.bool false)), none⟩, xm 2 11])
 (.ret))
theorem fn80 : IsFn prog 80 ac80 [.tmp 2] 12 := ⟨f80, ⟨[], []⟩, func80, by kernel_rfl, by kernel_rfl, by kernel_rfl, by kernel_rfl⟩
def ac81 : AC := .seq (.reg [⟨(some 1), .box 5 (.s 0), none⟩, ⟨(some 2), .mv (.c (.bool false)), none⟩])
 (.seq (.seq (.reg [xf 0 3 1, xo 4 3])
 (.block 0 (.seq (.reg [xB .eql 6 4 2, xm 5 6])
 (.cond (.s 5) (.seq (.reg [xl 5 7 1, xc 79 8 [.s 7], xm 2 8])
 (.ret))
 (.seq (.reg [xB .eql 10 4 3, xm 9 10])
 (.cond (.s 9) (.seq (.reg [xf 2 11 1, xo 12 11, ⟨(some 13), .binS .eql (.s 12) (.c (.str [])), none⟩, xm 14 13, xg 14 (xf 3 15 1), xg 14 (xo 16 15), xg 14 (xc 83 17 [.s 16]), ⟨(some 18), .pick (.s 14) (.s 17) (.c (.bool false)), none⟩, xm 19 18, xg 19 (xf 4 20 1), xg 19 (xo 21 20), xg 19 (xL 22 21), xg 19 (xB .eql 23 22 0), ⟨(some 24), .pick (.s 19) (.s 23) (.c (.bool false)), none⟩, xm 2 24])
 (.ret))
 (.seq (.reg [xB .eql 26 4 4, xm 25 26])
 (.cond (.s 25) (.seq (.reg [xl 5 27 1, xc 80 28 [.s 27], xm 29 28, xg 29 (xf 4 30 1), xg 29 (xo 31 30), xg 29 (xL 32 31), xg 29 (xB .gtr 33 32 0), ⟨(some 34), .pick (.s 29) (.s 33) (.c (.bool false)), none⟩, xm 35 34, xg 35 (xf 4 36 1), xg 35 (xo 37 36), xg 35 (xc 82 38 [.s 37, .c (.fn (.func 81) [] [])]), ⟨(some 39), .pick (.s 35) (.s 38) (.c (.bool false)), none⟩, xm 2 39])
 (.ret))
 (.seq (.reg [xB .eql 41 4 5, xm 40 41])
 (.cond (.s 40) (.seq (.reg [xl 5 42 1, xc 80 43 [.s 42], xm 44 43, xg 44 (xf 4 45 1), xg 44 (xo 46 45), xg 44 (xc 82 47 [.s 46, .c (.fn (.func 91) [] [])]), ⟨(some 48), .pick (.s 44) (.s 47) (.c (.bool false)), none⟩, xm 2 48])
 (.ret))
 (.skip)))))))))))
 (.seq (.reg [⟨(some 2), .mv (.c (.bool false)), none⟩])
 (.ret)))
theorem fn81 : IsFn prog 81 ac81 [.tmp 2] 49 := ⟨f81, ⟨[], []⟩, func81, by kernel_rfl, by kernel_rfl, by kernel_rfl, by kernel_rfl⟩
def ac82 : AC := .seq (.reg [⟨(some 4), .mv (.c (.bool false)), none⟩])
 (.seq (.seq (.reg [xm 7 0, xL 8 7, xi 9 0])
 (.block 0 (.loop (.seq (.reg [xb .lss 10 9 8])
 (.seq (.cond (.s 10) (.skip)
 (.exit 0))
 (.seq (.block 1 (.seq (.reg [xA 5 11 7 9, xl 5 12 11, ⟨(some 6), .alloc [(.int .i64 0), (.int .i64 0), (.str []), (.sl .full 2 []), (.sl .full 5 [])], none⟩, xs 5 6 12])
 (.seq (.reg [xm 13 1, xl 5 14 6, ⟨(some 15), .callv (.s 13) [(.s 14)], none⟩, ⟨(some 16), .not (.s 15), none⟩])
 (.cond (.s 16) (.seq (.reg [⟨(some 4), .mv (.c (.bool false)), none⟩])
 (.ret))
 (.skip)))))
 (.reg [xB .add 17 9 1, xm 9 17])))))))
 (.seq (.reg [⟨(some 4), .mv (.c (.bool true)), none⟩])
 (.ret)))
theorem fn82 : IsFn prog 82 ac82 [.tmp 4] 18 := ⟨f82, ⟨[], []⟩, func82, by kernel_rfl, by kernel_rfl, by kernel_rfl, by kernel_rfl⟩
def ac83 : AC := .seq (.reg [⟨(some 2), .mv (.c (.bool false)), none⟩])
 (.seq (.seq (.reg [xm 5 0, xL 6 5, xi 7 0])
 (.block 0 (.loop (.seq (.reg [xb .lss 8 7 6])
 (.seq (.cond (.s 8) (.skip)
 (.exit 0))
 (.seq (.block 1 (.seq (.reg [xA 2 9 5 7, xl 2 10 9, ⟨(some 4), .alloc [(.str []), (.int .i64 0)], none⟩, xs 2 4 10])
 (.seq (.reg [xf 0 11 4, xo 12 11, xc 54 13 [.s 12], ⟨(some 14), .not (.s 13), none⟩])
 (.cond (.s 14) (.seq (.reg [⟨(some 2), .mv (.c (.bool false)), none⟩])
 (.ret))
 (.skip)))))
 (.reg [xB .add 15 7 1, xm 7 15])))))))
 (.seq (.reg [⟨(some 2), .mv (.c (.bool true)), none⟩])
 (.ret)))
theorem fn83 : IsFn prog 83 ac83 [.tmp 2] 16 := ⟨f83, ⟨[], []⟩, func83, by kernel_rfl, by kernel_rfl, by kernel_rfl, by kernel_rfl⟩
def ac84 : AC := .seq (.reg [⟨(some 1), .box 5 (.s 0), none⟩, ⟨(some 2), .mv (.c (.bool false)), none⟩])
 (.seq (.reg [xf 0 3 1, xo 4 3, xB .eql 5 4 11, xm 6 5, xg 6 (xf 2 7 1), xg 6 (xo 8 7), xg 6 (xc 54 9 [.s 8]), ⟨(some 10), .pick (.s 6) (.s 9) (.c (.bool false)), none⟩, xm 11 10, xg 11 (xf 3 12 1), xg 11 (xo 13 12), xg 11 (xL 14 13), xg 11 (xB .eql 15 14 0), ⟨(some 16), .pick (.s 11) (.s 15) (.c (.bool false)), none⟩, xm 17 16, xg 17 (xf 4 18 1), xg 17 (xo 19 18), xg 17 (xL 20 19), xg 17 (xB .eql 21 20 1), ⟨(some 22), .pick (.s 17) (.s 21) (.c (.bool false)), none⟩, xm 23 22, xg 23 (xf 4 24 1), xg 23 (xo 25 24), ⟨(some 26), .idxA 5 (.s 25) (.c (.int .i64 0)), (some (23, true))⟩, xg 23 (xl 5 27 26), xg 23 (xc 92 28 [.s 27]), ⟨(some 29), .pick (.s 23) (.s 28) (.c (.bool false)), none⟩, xm 2 29])
 (.ret))
theorem fn84 : IsFn prog 84 ac84 [.tmp 2] 30 := ⟨f84, ⟨[], []⟩, func84, by kernel_rfl, by kernel_rfl, by kernel_rfl, by kernel_rfl⟩
def ac91 : AC := .seq (.reg [⟨(some 1), .box 5 (.s 0), none⟩, ⟨(some 2), .mv (.c (.bool false)), none⟩])
 (.seq (.reg [xf 0 3 1, xo 4 3, xB .eql 5 4 6, xm 6 5, xg 6 (xf 2 7 1), xg 6 (xo 8 7), xg 6 (xc 54 9 [.s 8]), ⟨(some 10), .pick (.s 6) (.s 9) (.c (.bool false)), none⟩, xm 11 10, xg 11 (xf 3 12 1), xg 11 (xo 13 12), xg 11 (xc 83 14 [.s 13]), ⟨(some 15), .pick (.s 11) (.s 14) (.c (.bool false)), none⟩, xm 16 15, xg 16 (xf 4 17 1), xg 16 (xo 18 17), xg 16 (xL 19 18), xg 16 (xB .eql 20 19 0), ⟨(some 21), .pick (.s 16) (.s 20) (.c (.bool false)), none⟩, xm 2 21])
 (.ret))
theorem fn91 : IsFn prog 91 ac91 [.tmp 2] 22 := ⟨f91, ⟨[], []⟩, func91, by kernel_rfl, by kernel_rfl, by kernel_rfl, by kernel_rfl⟩
def ac92 : AC := .seq (.reg [⟨(some 1), .box 5 (.s 0), none⟩, ⟨(some 2), .mv (.c (.bool false)), none⟩])
 (.seq (.reg [xf 0 3 1, xo 4 3, xB .eql 5 4 1, xm 6 5, xh 6 (xf 0 7 1), xh 6 (xo 8 7), xh 6 (xB .eql 9 8 7), ⟨(some 10), .pick (.s 6) (.c (.bool true)) (.s 9), none⟩, xm 11 10, xg 11 (xl 5 12 1), xg 11 (xc 56 13 [.s 12]), ⟨(some 14), .pick (.s 11) (.s 13) (.c (.bool false)), none⟩, xm 2 14])
 (.ret))
theorem fn92 : IsFn prog 92 ac92 [.tmp 2] 15 := ⟨f92, ⟨[], []⟩, func92, by kernel_rfl, by kernel_rfl, by kernel_rfl, by kernel_rfl⟩
theorem all_take {α : Type} {l : List α} {i : Nat} {f : α → Bool} (h : i < l.length) : (l.take (i + 1)).all f = ((l.take i).all f && f l[i]) := by
  rw [take_succ_of (List.getElem?_eq_getElem h), List.all_append]; simp only [List.all_cons, List.all_nil, Bool.and_true]
theorem all_no {α : Type} {l : List α} {i : Nat} {f : α → Bool} (h : i < l.length) (hf : f l[i] = false) : l.all f = false := by
  rw [List.all_eq_false]; exact ⟨l[i], List.getElem_mem h, by simp [hf]⟩
def inv40 (l : List Word) (σ : Store) (i : Nat) : St :=
  ⟨[.sl .no 2 (l.map Word.enc)] ++ List.replicate 4 .any ++ [.sl .no 2 (l.map Word.enc), .int .i64 l.length, .int .i64 (i : Nat)] ++ List.replicate 8 .any, [], σ⟩
theorem rightW_calls (l : List Word) (σ : Store) (hb : l.length ≤ big) : PCalls prog 83 [.sl .no 2 (l.map Word.enc)] σ fun v σ' => v = .bool (rightW l) ∧ σ' = σ := by
  simp only [big] at hb
  refine fn83.calls ?_
  simp only [slots, ac83, am, amo, amc, ams, Nat.reduceAdd, Nat.reduceEqDiff, decide_true, decide_false, Tree.rec_, Nd.rec_, Word.rec_, Got.rec_, Nd.fl]
  refine vc_loop (fun p : { i : Nat // i ≤ l.length ∧ (l.take i).all (fun w => nameR w.text) = true } => inv40 l σ p.1) (fun p => l.length - p.1) ?_ ?_
  · refine Upd.enter ⟨0, by simp, by simp⟩ ?_ LLLe.rfl OLe.rfl
    simp [inv40, List.replicate, am]
  · rintro ⟨i, hi, ha⟩
    simp only [inv40, List.replicate, am]
    refine vcIf_split ?_ ?_
    · intro hlt
      have hlt : i < l.length := by simpa using hlt
      simp only [am, amo, amc, Nat.reduceAdd, Nat.reduceEqDiff, encs_length, List.length_map, decide_true, decide_false, Tree.rec_, Nd.rec_, Word.rec_, Got.rec_, Nd.fl]
      refine idxL_intro (by omega) (wencs_at (List.getElem?_eq_getElem hlt)) ?_
      simp only [am, amo, amc, Nat.reduceAdd, Nat.reduceEqDiff, encs_length, List.length_map, decide_true, decide_false, Tree.rec_, Nd.rec_, Word.rec_, Got.rec_, Nd.fl, Word.enc]
      refine (right_calls l[i].text σ).mono ?_
      rintro v σ ⟨rfl, rfl⟩
      cases hg : nameR l[i].text
      · simp only [am, amo, amc, Nat.reduceAdd, Nat.reduceEqDiff, encs_length, List.length_map, decide_true, decide_false, Tree.rec_, Nd.rec_, Word.rec_, Got.rec_, Nd.fl]
        refine retK_intro rfl (Store.sub_refl _) ⟨?_, rfl⟩
        rw [show rightW l = false from all_no (f := fun (w : Word) => nameR w.text) hlt hg]; rfl
      · simp only [am, amo, amc, Nat.reduceAdd, Nat.reduceEqDiff, encs_length, List.length_map, decide_true, decide_false, Tree.rec_, Nd.rec_, Word.rec_, Got.rec_, Nd.fl]
        rw [wrap_i64 (by omega) (by omega)]
        exact Upd.againD ⟨i + 1, hlt, by rw [all_take hlt, ha, hg]; rfl⟩ (by simp; omega) (by simp [List.replicate, am]) (by simp [am]) OLe.rfl rfl rfl
    · intro hlt
      have hlt : i = l.length := by simp at hlt; omega
      subst hlt
      rw [List.take_length] at ha
      simp only [am, amo, amc, Nat.reduceAdd, Nat.reduceEqDiff, encs_length, List.length_map, decide_true, decide_false, Tree.rec_, Nd.rec_, Word.rec_, Got.rec_, Nd.fl]
      refine retK_intro rfl (Store.sub_refl _) ⟨?_, rfl⟩
      simp [V.erase, eraseL, rightW, ha]
def inv42 (g : FuncId) (l : List Nd) (σ : Store) (i : Nat) : St :=
  ⟨[.sl .no 5 (l.map Nd.enc), .fn (.func g) [] []] ++ List.replicate 5 .any ++ [.sl .no 5 (l.map Nd.enc), .int .i64 l.length, .int .i64 (i : Nat)] ++ List.replicate 8 .any, [], σ⟩
theorem all_calls {g : FuncId} {f : Nd → Bool} (l : List Nd) (σ : Store) (hb : l.length ≤ big) (h : ∀ n ∈ l, PCalls prog g [.agg n.enc] σ fun v σ' => v = .bool (f n) ∧ σ' = σ) : PCalls prog 82 [.sl .no 5 (l.map Nd.enc), .fn (.func g) [] []] σ fun v σ' => v = .bool (l.all f) ∧ σ' = σ := by
  simp only [big] at hb
  refine fn82.calls ?_
  simp only [slots, ac82, am, amo, amc, ams, Nat.reduceAdd, Nat.reduceEqDiff, decide_true, decide_false, Tree.rec_, Nd.rec_, Word.rec_, Got.rec_, Nd.fl]
  refine vc_loop (fun p : { i : Nat // i ≤ l.length ∧ (l.take i).all f = true } => inv42 g l σ p.1) (fun p => l.length - p.1) ?_ ?_
  · refine Upd.enter ⟨0, by simp, by simp⟩ ?_ LLLe.rfl OLe.rfl
    simp [inv42, List.replicate, am]
  · rintro ⟨i, hi, ha⟩
    simp only [inv42, List.replicate, am]
    refine vcIf_split ?_ ?_
    · intro hlt
      have hlt : i < l.length := by simpa using hlt
      simp only [am, amo, amc, Nat.reduceAdd, Nat.reduceEqDiff, encs_length, List.length_map, decide_true, decide_false, Tree.rec_, Nd.rec_, Word.rec_, Got.rec_, Nd.fl]
      refine idxL_intro (by omega) (nencs_at (List.getElem?_eq_getElem hlt)) ?_
      simp only [am, amo, amc, Nat.reduceAdd, Nat.reduceEqDiff, encs_length, List.length_map, decide_true, decide_false, Tree.rec_, Nd.rec_, Word.rec_, Got.rec_, Nd.fl, Nd.r_ov]
      refine (h l[i] (List.getElem_mem hlt)).mono ?_
      rintro v σ ⟨rfl, rfl⟩
      cases hg : f l[i]
      · simp only [am, amo, amc, Nat.reduceAdd, Nat.reduceEqDiff, encs_length, List.length_map, decide_true, decide_false, Tree.rec_, Nd.rec_, Word.rec_, Got.rec_, Nd.fl]
        refine retK_intro rfl (Store.sub_refl _) ⟨?_, rfl⟩
        simp [V.erase, eraseL, all_no hlt hg]
      · simp only [am, amo, amc, Nat.reduceAdd, Nat.reduceEqDiff, encs_length, List.length_map, decide_true, decide_false, Tree.rec_, Nd.rec_, Word.rec_, Got.rec_, Nd.fl]
        rw [wrap_i64 (by omega) (by omega)]
        exact Upd.againD ⟨i + 1, hlt, by rw [all_take hlt, ha, hg]; rfl⟩ (by simp; omega) (by simp [List.replicate, am]) (by simp [am]) OLe.rfl rfl rfl
    · intro hlt
      have hlt : i = l.length := by simp at hlt; omega
      subst hlt
      rw [List.take_length] at ha
      simp only [am, amo, amc, Nat.reduceAdd, Nat.reduceEqDiff, encs_length, List.length_map, decide_true, decide_false, Tree.rec_, Nd.rec_, Word.rec_, Got.rec_, Nd.fl]
      refine retK_intro rfl (Store.sub_refl _) ⟨?_, rfl⟩
      simp [V.erase, eraseL, ha]
theorem leaf_calls (n : Nd) (σ : Store) (hb : n.names.length + n.kids.length ≤ big) : PCalls prog 79 [.agg n.enc] σ fun v σ' => v = .bool n.leafQ ∧ σ' = σ := by
  simp only [big] at hb
  refine fn79.calls ?_
  simp only [slots, ac79, am, amo, amc, ams, Nat.reduceAdd, Nat.reduceEqDiff, decide_true, decide_false, Tree.rec_, Nd.rec_, Word.rec_, Got.rec_, Nd.fl]
  refine (right_calls n.text σ).mono ?_
  rintro v σ ⟨rfl, rfl⟩
  simp only [am, amo, amc, Nat.reduceAdd, Nat.reduceEqDiff, encs_length, List.length_map, decide_true, decide_false, Tree.rec_, Nd.rec_, Word.rec_, Got.rec_, Nd.fl, wrap_i64 (x := (n.names.length : Int) + n.kids.length) (by omega) (by omega)]
  repeat' (first
    | (refine gL_split (fun h => ?_) (fun h => ?_) <;> simp only [am, amo, amc, h, Nat.reduceAdd, Nat.reduceEqDiff, encs_length, List.length_map, decide_true, decide_false, Tree.rec_, Nd.rec_, Word.rec_, Got.rec_, Nd.fl, wrap_i64 (x := (n.names.length : Int) + n.kids.length) (by omega) (by omega)])
    | (refine vcIf_split (fun h => ?_) (fun h => ?_) <;> simp only [am, amo, amc, h, Nat.reduceAdd, Nat.reduceEqDiff, encs_length, List.length_map, decide_true, decide_false, Tree.rec_, Nd.rec_, Word.rec_, Got.rec_, Nd.fl, wrap_i64 (x := (n.names.length : Int) + n.kids.length) (by omega) (by omega)])
    | (refine pickL_split (fun h => ?_) (fun h => ?_) <;> simp only [am, amo, amc, h, Nat.reduceAdd, Nat.reduceEqDiff, encs_length, List.length_map, decide_true, decide_false, Tree.rec_, Nd.rec_, Word.rec_, Got.rec_, Nd.fl, wrap_i64 (x := (n.names.length : Int) + n.kids.length) (by omega) (by omega)])
  )
  all_goals refine retK_intro rfl (Store.sub_refl _) ⟨?_, rfl⟩
  all_goals simp_all [V.erase, eraseL, Nd.leafQ]
  all_goals (try omega)
theorem bare_calls (n : Nd) (σ : Store) : PCalls prog 80 [.agg n.enc] σ fun v σ' => v = .bool n.bareQ ∧ σ' = σ := by
  refine fn80.calls ?_
  simp only [slots, ac80, am, amo, amc, ams, Nat.reduceAdd, Nat.reduceEqDiff, decide_true, decide_false, Tree.rec_, Nd.rec_, Word.rec_, Got.rec_, Nd.fl]
  repeat' (first
    | (refine gL_split (fun h => ?_) (fun h => ?_) <;> simp only [am, amo, amc, h, Nat.reduceAdd, Nat.reduceEqDiff, encs_length, List.length_map, decide_true, decide_false, Tree.rec_, Nd.rec_, Word.rec_, Got.rec_, Nd.fl])
    | (refine vcIf_split (fun h => ?_) (fun h => ?_) <;> simp only [am, amo, amc, h, Nat.reduceAdd, Nat.reduceEqDiff, encs_length, List.length_map, decide_true, decide_false, Tree.rec_, Nd.rec_, Word.rec_, Got.rec_, Nd.fl])
    | (refine pickL_split (fun h => ?_) (fun h => ?_) <;> simp only [am, amo, amc, h, Nat.reduceAdd, Nat.reduceEqDiff, encs_length, List.length_map, decide_true, decide_false, Tree.rec_, Nd.rec_, Word.rec_, Got.rec_, Nd.fl])
  )
  all_goals refine retK_intro rfl (Store.sub_refl _) ⟨?_, rfl⟩
  all_goals simp_all [V.erase, eraseL, Nd.bareQ]
  all_goals (try omega)
theorem wt_names (n : Nd) : n.names.length + n.kids.length + 4 ≤ n.wt := by
  have h2 : n.names.length ≤ wsum n.names := by
    unfold wsum; generalize n.names = l
    induction l with
    | nil => simp
    | cons w ws ih => simp only [List.map_cons, List.sum_cons, List.length_cons]; omega
  have h3 : n.kids.length ≤ wts n.kids := by
    rw [wts_map]; generalize n.kids = l
    induction l with
    | nil => simp
    | cons w ws ih => simp only [List.map_cons, List.sum_cons, List.length_cons]; omega
  have h1 : wts n.kids + wsum n.names + 4 ≤ n.wt := by cases n; simp only [Nd.wt, Nd.kids, Nd.names]; omega
  omega
theorem rule_is_calls (n : Nd) (σ : Store) (hw : n.wt ≤ big) : PCalls prog 91 [.agg n.enc] σ fun v σ' => v = .bool n.ruleQ ∧ σ' = σ := by
  have hn := wt_names n
  refine fn91.calls ?_
  simp only [slots, ac91, am, amo, amc, ams, Nat.reduceAdd, Nat.reduceEqDiff, decide_true, decide_false, Tree.rec_, Nd.rec_, Word.rec_, Got.rec_, Nd.fl]
  repeat' (first
    | (refine gL_split (fun h => ?_) (fun h => ?_) <;> simp only [am, amo, amc, h, Nat.reduceAdd, Nat.reduceEqDiff, encs_length, List.length_map, decide_true, decide_false, Tree.rec_, Nd.rec_, Word.rec_, Got.rec_, Nd.fl])
    | (refine vcIf_split (fun h => ?_) (fun h => ?_) <;> simp only [am, amo, amc, h, Nat.reduceAdd, Nat.reduceEqDiff, encs_length, List.length_map, decide_true, decide_false, Tree.rec_, Nd.rec_, Word.rec_, Got.rec_, Nd.fl])
    | (refine pickL_split (fun h => ?_) (fun h => ?_) <;> simp only [am, amo, amc, h, Nat.reduceAdd, Nat.reduceEqDiff, encs_length, List.length_map, decide_true, decide_false, Tree.rec_, Nd.rec_, Word.rec_, Got.rec_, Nd.fl])
    | (refine (right_calls n.text σ).mono ?_; rintro v _ ⟨rfl, rfl⟩; simp only [am])
    | (refine (rightW_calls n.names _ (by omega)).mono ?_; rintro v _ ⟨rfl, rfl⟩; simp only [am])
  )
  all_goals refine retK_intro rfl (Store.sub_refl _) ⟨?_, rfl⟩
  all_goals simp_all [V.erase, eraseL, Nd.ruleQ]
  all_goals (try omega)
theorem const_is_calls : ∀ (k : Nat) (n : Nd) (σ : Store), n.wt ≤ k → n.wt ≤ big → PCalls prog 81 [.agg n.enc] σ fun v σ' => v = .bool n.constQ ∧ σ' = σ := by
  intro k
  induction k with
  | zero => intro n σ h _; cases n; simp only [Nd.wt] at h; omega
  | succ k ihk =>
    intro n σ hk hw
    have hn := wt_names n
    have hkid : ∀ m ∈ n.kids, m.wt + 5 ≤ n.wt := fun m hm => by
      have h1 := wt_mem hm
      have h2 : wts n.kids + 4 ≤ n.wt := by cases n; simp only [Nd.wt, Nd.kids]; omega
      omega
    have hall : PCalls prog 82 [.sl .no 5 (n.kids.map Nd.enc), .fn (.func 81) [] []] σ fun v σ' => v = .bool (n.kids.all Nd.constQ) ∧ σ' = σ :=
      all_calls n.kids σ (by omega) fun m hm => ihk m σ (by have := hkid m hm; omega) (by have := hkid m hm; omega)
    have hrule : PCalls prog 82 [.sl .no 5 (n.kids.map Nd.enc), .fn (.func 91) [] []] σ fun v σ' => v = .bool (n.kids.all Nd.ruleQ) ∧ σ' = σ :=
      all_calls n.kids σ (by omega) fun m hm => rule_is_calls m σ (by have := hkid m hm; omega)
    rw [Nd.constQ_eq]
    refine fn81.calls ?_
    simp only [slots, ac81, am, amo, amc, ams, Nat.reduceAdd, Nat.reduceEqDiff, decide_true, decide_false, Tree.rec_, Nd.rec_, Word.rec_, Got.rec_, Nd.fl]
    by_cases k2 : n.kind = 2
    · simp only [am, amo, amc, Nat.reduceAdd, Nat.reduceEqDiff, encs_length, List.length_map, decide_true, decide_false, Tree.rec_, Nd.rec_, Word.rec_, Got.rec_, Nd.fl, decide_eq_true k2]
      refine (leaf_calls n σ (by omega)).mono ?_
      rintro v σ ⟨rfl, rfl⟩
      simp only [am, amo, amc, Nat.reduceAdd, Nat.reduceEqDiff, encs_length, List.length_map, decide_true, decide_false, Tree.rec_, Nd.rec_, Word.rec_, Got.rec_, Nd.fl]
      refine retK_intro rfl (Store.sub_refl _) ⟨?_, rfl⟩
      simp [V.erase, eraseL, k2]
    simp only [am, amo, amc, Nat.reduceAdd, Nat.reduceEqDiff, encs_length, List.length_map, decide_true, decide_false, Tree.rec_, Nd.rec_, Word.rec_, Got.rec_, Nd.fl, decide_eq_false k2]
    by_cases k3 : n.kind = 3
    · simp only [am, amo, amc, Nat.reduceAdd, Nat.reduceEqDiff, encs_length, List.length_map, decide_true, decide_false, Tree.rec_, Nd.rec_, Word.rec_, Got.rec_, Nd.fl, decide_eq_true k3]
      repeat' (first
        | (refine gL_split (fun h => ?_) (fun h => ?_) <;> simp only [am, amo, amc, h, Nat.reduceAdd, Nat.reduceEqDiff, encs_length, List.length_map, decide_true, decide_false, Tree.rec_, Nd.rec_, Word.rec_, Got.rec_, Nd.fl])
        | (refine vcIf_split (fun h => ?_) (fun h => ?_) <;> simp only [am, amo, amc, h, Nat.reduceAdd, Nat.reduceEqDiff, encs_length, List.length_map, decide_true, decide_false, Tree.rec_, Nd.rec_, Word.rec_, Got.rec_, Nd.fl])
        | (refine pickL_split (fun h => ?_) (fun h => ?_) <;> simp only [am, amo, amc, h, Nat.reduceAdd, Nat.reduceEqDiff, encs_length, List.length_map, decide_true, decide_false, Tree.rec_, Nd.rec_, Word.rec_, Got.rec_, Nd.fl])
        | (refine (rightW_calls n.names _ (by omega)).mono ?_; rintro v _ ⟨rfl, rfl⟩; simp only [am])
      )
      all_goals refine retK_intro rfl (Store.sub_refl _) ⟨?_, rfl⟩
      all_goals simp_all [V.erase, eraseL]
      all_goals (try omega)
    simp only [am, amo, amc, Nat.reduceAdd, Nat.reduceEqDiff, encs_length, List.length_map, decide_true, decide_false, Tree.rec_, Nd.rec_, Word.rec_, Got.rec_, Nd.fl, decide_eq_false k3]
    by_cases k4 : n.kind = 4
    · simp only [am, amo, amc, Nat.reduceAdd, Nat.reduceEqDiff, encs_length, List.length_map, decide_true, decide_false, Tree.rec_, Nd.rec_, Word.rec_, Got.rec_, Nd.fl, decide_eq_true k4]
      refine (bare_calls n σ).mono ?_
      rintro v σ ⟨rfl, rfl⟩
      simp only [am, amo, amc, Nat.reduceAdd, Nat.reduceEqDiff, encs_length, List.length_map, decide_true, decide_false, Tree.rec_, Nd.rec_, Word.rec_, Got.rec_, Nd.fl]
      repeat' (first
        | (refine gL_split (fun h => ?_) (fun h => ?_) <;> simp only [am, amo, amc, h, Nat.reduceAdd, Nat.reduceEqDiff, encs_length, List.length_map, decide_true, decide_false, Tree.rec_, Nd.rec_, Word.rec_, Got.rec_, Nd.fl])
        | (refine vcIf_split (fun h => ?_) (fun h => ?_) <;> simp only [am, amo, amc, h, Nat.reduceAdd, Nat.reduceEqDiff, encs_length, List.length_map, decide_true, decide_false, Tree.rec_, Nd.rec_, Word.rec_, Got.rec_, Nd.fl])
        | (refine pickL_split (fun h => ?_) (fun h => ?_) <;> simp only [am, amo, amc, h, Nat.reduceAdd, Nat.reduceEqDiff, encs_length, List.length_map, decide_true, decide_false, Tree.rec_, Nd.rec_, Word.rec_, Got.rec_, Nd.fl])
        | (refine hall.mono ?_; rintro v _ ⟨rfl, rfl⟩; simp only [am])
      )
      all_goals refine retK_intro rfl (Store.sub_refl _) ⟨?_, rfl⟩
      all_goals simp_all [V.erase, eraseL]
      all_goals (try omega)
    simp only [am, amo, amc, Nat.reduceAdd, Nat.reduceEqDiff, encs_length, List.length_map, decide_true, decide_false, Tree.rec_, Nd.rec_, Word.rec_, Got.rec_, Nd.fl, decide_eq_false k4]
    by_cases k5 : n.kind = 5
    · simp only [am, amo, amc, Nat.reduceAdd, Nat.reduceEqDiff, encs_length, List.length_map, decide_true, decide_false, Tree.rec_, Nd.rec_, Word.rec_, Got.rec_, Nd.fl, decide_eq_true k5]
      refine (bare_calls n σ).mono ?_
      rintro v σ ⟨rfl, rfl⟩
      simp only [am, amo, amc, Nat.reduceAdd, Nat.reduceEqDiff, encs_length, List.length_map, decide_true, decide_false, Tree.rec_, Nd.rec_, Word.rec_, Got.rec_, Nd.fl]
      repeat' (first
        | (refine gL_split (fun h => ?_) (fun h => ?_) <;> simp only [am, amo, amc, h, Nat.reduceAdd, Nat.reduceEqDiff, encs_length, List.length_map, decide_true, decide_false, Tree.rec_, Nd.rec_, Word.rec_, Got.rec_, Nd.fl])
        | (refine vcIf_split (fun h => ?_) (fun h => ?_) <;> simp only [am, amo, amc, h, Nat.reduceAdd, Nat.reduceEqDiff, encs_length, List.length_map, decide_true, decide_false, Tree.rec_, Nd.rec_, Word.rec_, Got.rec_, Nd.fl])
        | (refine pickL_split (fun h => ?_) (fun h => ?_) <;> simp only [am, amo, amc, h, Nat.reduceAdd, Nat.reduceEqDiff, encs_length, List.length_map, decide_true, decide_false, Tree.rec_, Nd.rec_, Word.rec_, Got.rec_, Nd.fl])
        | (refine hrule.mono ?_; rintro v _ ⟨rfl, rfl⟩; simp only [am])
      )
      all_goals refine retK_intro rfl (Store.sub_refl _) ⟨?_, rfl⟩
      all_goals simp_all [V.erase, eraseL]
      all_goals (try omega)
    simp only [am, amo, amc, Nat.reduceAdd, Nat.reduceEqDiff, encs_length, List.length_map, decide_true, decide_false, Tree.rec_, Nd.rec_, Word.rec_, Got.rec_, Nd.fl, decide_eq_false k5]
    refine retK_intro rfl (Store.sub_refl _) ⟨?_, rfl⟩
    simp [V.erase, eraseL, k2, k3, k4, k5]
theorem kid_wt {n m : Nd} (hm : m ∈ n.kids) : m.wt + 5 ≤ n.wt := by
  have h1 := wt_mem hm
  have h2 : wts n.kids + 4 ≤ n.wt := by cases n; simp only [Nd.wt, Nd.kids]; omega
  omega
theorem label_is_calls : ∀ (k : Nat) (n : Nd) (σ : Store), n.wt ≤ k → n.wt ≤ big → PCalls prog 56 [.agg n.enc] σ fun v σ' => v = .bool n.labelQ ∧ σ' = σ := by
  intro k
  induction k with
  | zero => intro n σ h _; cases n; simp only [Nd.wt] at h; omega
  | succ k ihk =>
    intro n σ hk hw
    have hn := wt_names n
    have hall : PCalls prog 82 [.sl .no 5 (n.kids.map Nd.enc), .fn (.func 56) [] []] σ fun v σ' => v = .bool (n.kids.all Nd.labelQ) ∧ σ' = σ :=
      all_calls n.kids σ (by omega) fun m hm => ihk m σ (by have := kid_wt hm; omega) (by have := kid_wt hm; omega)
    rw [Nd.labelQ_eq]
    refine fn56.calls ?_
    simp only [slots, ac56, am, amo, amc, ams, Nat.reduceAdd, Nat.reduceEqDiff, decide_true, decide_false, Tree.rec_, Nd.rec_, Word.rec_, Got.rec_, Nd.fl]
    by_cases k1 : n.kind = 1
    · simp only [am, amo, amc, Nat.reduceAdd, Nat.reduceEqDiff, encs_length, List.length_map, decide_true, decide_false, Tree.rec_, Nd.rec_, Word.rec_, Got.rec_, Nd.fl, decide_eq_true k1]
      refine (leaf_calls n σ (by omega)).mono ?_
      rintro v σ ⟨rfl, rfl⟩
      simp only [am, amo, amc, Nat.reduceAdd, Nat.reduceEqDiff, encs_length, List.length_map, decide_true, decide_false, Tree.rec_, Nd.rec_, Word.rec_, Got.rec_, Nd.fl]
      refine retK_intro rfl (Store.sub_refl _) ⟨?_, rfl⟩
      simp [V.erase, eraseL, k1]
    simp only [am, amo, amc, Nat.reduceAdd, Nat.reduceEqDiff, encs_length, List.length_map, decide_true, decide_false, Tree.rec_, Nd.rec_, Word.rec_, Got.rec_, Nd.fl, decide_eq_false k1]
    by_cases k7 : n.kind = 7
    · simp only [am, amo, amc, Nat.reduceAdd, Nat.reduceEqDiff, encs_length, List.length_map, decide_true, decide_false, Tree.rec_, Nd.rec_, Word.rec_, Got.rec_, Nd.fl, decide_eq_true k7]
      refine (bare_calls n σ).mono ?_
      rintro v σ ⟨rfl, rfl⟩
      simp only [am, amo, amc, Nat.reduceAdd, Nat.reduceEqDiff, encs_length, List.length_map, decide_true, decide_false, Tree.rec_, Nd.rec_, Word.rec_, Got.rec_, Nd.fl]
      cases hks : n.kids with
      | nil =>
        simp only [am, amo, amc, Nat.reduceAdd, Nat.reduceEqDiff, encs_length, List.length_map, decide_true, decide_false, Tree.rec_, Nd.rec_, Word.rec_, Got.rec_, Nd.fl, List.map_nil, List.length_nil, hks, Int.natCast_zero, show decide ((0 : Int) = 1) = false from rfl]
        repeat' (first
          | (refine gL_split (fun h => ?_) (fun h => ?_) <;> simp only [am, amo, amc, h, Nat.reduceAdd, Nat.reduceEqDiff, encs_length, List.length_map, decide_true, decide_false, Tree.rec_, Nd.rec_, Word.rec_, Got.rec_, Nd.fl, hks, List.map_nil, List.length_nil, Int.natCast_zero, show decide ((0 : Int) = 1) = false from rfl])
          | (refine vcIf_split (fun h => ?_) (fun h => ?_) <;> simp only [am, amo, amc, h, Nat.reduceAdd, Nat.reduceEqDiff, encs_length, List.length_map, decide_true, decide_false, Tree.rec_, Nd.rec_, Word.rec_, Got.rec_, Nd.fl, hks, List.map_nil, List.length_nil, Int.natCast_zero, show decide ((0 : Int) = 1) = false from rfl])
          | (refine pickL_split (fun h => ?_) (fun h => ?_) <;> simp only [am, amo, amc, h, Nat.reduceAdd, Nat.reduceEqDiff, encs_length, List.length_map, decide_true, decide_false, Tree.rec_, Nd.rec_, Word.rec_, Got.rec_, Nd.fl, hks, List.map_nil, List.length_nil, Int.natCast_zero, show decide ((0 : Int) = 1) = false from rfl])
        )
        all_goals refine retK_intro rfl (Store.sub_refl _) ⟨?_, rfl⟩
        all_goals simp_all [V.erase, eraseL, k7]
        all_goals (try omega)
      | cons m ms =>
        have hc : PCalls prog 81 [.agg m.enc] σ fun v σ' => v = .bool m.constQ ∧ σ' = σ := const_is_calls _ m σ (Nat.le_refl _) (by have := kid_wt (n := n) (m := m) (by rw [hks]; simp); omega)
        repeat' (first
          | (refine gL_split (fun h => ?_) (fun h => ?_) <;> simp only [am, amo, amc, h, Nat.reduceAdd, Nat.reduceEqDiff, encs_length, List.length_map, decide_true, decide_false, Tree.rec_, Nd.rec_, Word.rec_, Got.rec_, Nd.fl, hks])
          | (refine vcIf_split (fun h => ?_) (fun h => ?_) <;> simp only [am, amo, amc, h, Nat.reduceAdd, Nat.reduceEqDiff, encs_length, List.length_map, decide_true, decide_false, Tree.rec_, Nd.rec_, Word.rec_, Got.rec_, Nd.fl, hks])
          | (refine pickL_split (fun h => ?_) (fun h => ?_) <;> simp only [am, amo, amc, h, Nat.reduceAdd, Nat.reduceEqDiff, encs_length, List.length_map, decide_true, decide_false, Tree.rec_, Nd.rec_, Word.rec_, Got.rec_, Nd.fl, hks])
          | (refine idxL_intro (by omega) (c := m.enc) (by simp) ?_; simp only [am, Nd.rec_])
          | (refine hc.mono ?_; rintro v _ ⟨rfl, rfl⟩; simp only [am])
        )
        all_goals refine retK_intro rfl (Store.sub_refl _) ⟨?_, rfl⟩
        all_goals simp_all [V.erase, eraseL, k7, headQ]
        all_goals (try omega)
    simp only [am, amo, amc, Nat.reduceAdd, Nat.reduceEqDiff, encs_length, List.length_map, decide_true, decide_false, Tree.rec_, Nd.rec_, Word.rec_, Got.rec_, Nd.fl, decide_eq_false k7]
    by_cases k8 : n.kind = 8
    case' pos =>
      simp only [am, amo, amc, Nat.reduceAdd, Nat.reduceEqDiff, encs_length, List.length_map, decide_true, decide_false, Tree.rec_, Nd.rec_, Word.rec_, Got.rec_, Nd.fl, decide_eq_true k8]
    case' neg =>
      simp only [am, amo, amc, Nat.reduceAdd, Nat.reduceEqDiff, encs_length, List.length_map, decide_true, decide_false, Tree.rec_, Nd.rec_, Word.rec_, Got.rec_, Nd.fl, decide_eq_false k8]
      by_cases k9 : n.kind = 9
      case' pos =>
        simp only [am, amo, amc, Nat.reduceAdd, Nat.reduceEqDiff, encs_length, List.length_map, decide_true, decide_false, Tree.rec_, Nd.rec_, Word.rec_, Got.rec_, Nd.fl, decide_eq_true k9]
      case' neg =>
        simp only [am, amo, amc, Nat.reduceAdd, Nat.reduceEqDiff, encs_length, List.length_map, decide_true, decide_false, Tree.rec_, Nd.rec_, Word.rec_, Got.rec_, Nd.fl, decide_eq_false k9]
        refine retK_intro rfl (Store.sub_refl _) ⟨?_, rfl⟩
        simp [V.erase, eraseL, k1, k7, k8, k9]
    all_goals
      refine (bare_calls n σ).mono ?_
      rintro v σ ⟨rfl, rfl⟩
      simp only [am, amo, amc, Nat.reduceAdd, Nat.reduceEqDiff, encs_length, List.length_map, decide_true, decide_false, Tree.rec_, Nd.rec_, Word.rec_, Got.rec_, Nd.fl]
      repeat' (first
        | (refine gL_split (fun h => ?_) (fun h => ?_) <;> simp only [am, amo, amc, h, Nat.reduceAdd, Nat.reduceEqDiff, encs_length, List.length_map, decide_true, decide_false, Tree.rec_, Nd.rec_, Word.rec_, Got.rec_, Nd.fl])
        | (refine vcIf_split (fun h => ?_) (fun h => ?_) <;> simp only [am, amo, amc, h, Nat.reduceAdd, Nat.reduceEqDiff, encs_length, List.length_map, decide_true, decide_false, Tree.rec_, Nd.rec_, Word.rec_, Got.rec_, Nd.fl])
        | (refine pickL_split (fun h => ?_) (fun h => ?_) <;> simp only [am, amo, amc, h, Nat.reduceAdd, Nat.reduceEqDiff, encs_length, List.length_map, decide_true, decide_false, Tree.rec_, Nd.rec_, Word.rec_, Got.rec_, Nd.fl])
        | (refine hall.mono ?_; rintro v _ ⟨rfl, rfl⟩; simp only [am])
      )
      all_goals refine retK_intro rfl (Store.sub_refl _) ⟨?_, rfl⟩
      all_goals simp_all [V.erase, eraseL]
      all_goals (try omega)
theorem atom_is_calls (n : Nd) (σ : Store) (hw : n.wt ≤ big) : PCalls prog 92 [.agg n.enc] σ fun v σ' => v = .bool n.atomQ ∧ σ' = σ := by
  refine fn92.calls ?_
  simp only [slots, ac92, am, amo, amc, ams, Nat.reduceAdd, Nat.reduceEqDiff, decide_true, decide_false, Tree.rec_, Nd.rec_, Word.rec_, Got.rec_, Nd.fl]
  repeat' (first
    | (refine gL_split (fun h => ?_) (fun h => ?_) <;> simp only [am, amo, amc, h, Nat.reduceAdd, Nat.reduceEqDiff, encs_length, List.length_map, decide_true, decide_false, Tree.rec_, Nd.rec_, Word.rec_, Got.rec_, Nd.fl])
    | (refine vcIf_split (fun h => ?_) (fun h => ?_) <;> simp only [am, amo, amc, h, Nat.reduceAdd, Nat.reduceEqDiff, encs_length, List.length_map, decide_true, decide_false, Tree.rec_, Nd.rec_, Word.rec_, Got.rec_, Nd.fl])
    | (refine pickL_split (fun h => ?_) (fun h => ?_) <;> simp only [am, amo, amc, h, Nat.reduceAdd, Nat.reduceEqDiff, encs_length, List.length_map, decide_true, decide_false, Tree.rec_, Nd.rec_, Word.rec_, Got.rec_, Nd.fl])
    | (refine (label_is_calls _ n _ (Nat.le_refl _) hw).mono ?_; rintro v _ ⟨rfl, rfl⟩; simp only [am])
  )
  all_goals refine retK_intro rfl (Store.sub_refl _) ⟨?_, rfl⟩
  all_goals simp_all [V.erase, eraseL, Nd.atomQ]
  all_goals (try omega)
theorem field_is_calls (n : Nd) (σ : Store) (hw : n.wt ≤ big) : PCalls prog 84 [.agg n.enc] σ fun v σ' => v = .bool n.fieldQ ∧ σ' = σ := by
  refine fn84.calls ?_
  simp only [slots, ac84, am, amo, amc, ams, Nat.reduceAdd, Nat.reduceEqDiff, decide_true, decide_false, Tree.rec_, Nd.rec_, Word.rec_, Got.rec_, Nd.fl]
  cases hks : n.kids with
  | nil =>
    repeat' (first
      | (refine gL_split (fun h => ?_) (fun h => ?_) <;> simp only [am, amo, amc, h, Nat.reduceAdd, Nat.reduceEqDiff, encs_length, List.length_map, decide_true, decide_false, Tree.rec_, Nd.rec_, Word.rec_, Got.rec_, Nd.fl, hks, List.map_nil, List.length_nil, Int.natCast_zero, show decide ((0 : Int) = 1) = false from rfl])
      | (refine vcIf_split (fun h => ?_) (fun h => ?_) <;> simp only [am, amo, amc, h, Nat.reduceAdd, Nat.reduceEqDiff, encs_length, List.length_map, decide_true, decide_false, Tree.rec_, Nd.rec_, Word.rec_, Got.rec_, Nd.fl, hks, List.map_nil, List.length_nil, Int.natCast_zero, show decide ((0 : Int) = 1) = false from rfl])
      | (refine pickL_split (fun h => ?_) (fun h => ?_) <;> simp only [am, amo, amc, h, Nat.reduceAdd, Nat.reduceEqDiff, encs_length, List.length_map, decide_true, decide_false, Tree.rec_, Nd.rec_, Word.rec_, Got.rec_, Nd.fl, hks, List.map_nil, List.length_nil, Int.natCast_zero, show decide ((0 : Int) = 1) = false from rfl])
      | (refine (right_calls n.text _).mono ?_; rintro v _ ⟨rfl, rfl⟩; simp only [am])
    )
    all_goals refine retK_intro rfl (Store.sub_refl _) ⟨?_, rfl⟩
    all_goals simp_all [V.erase, eraseL, Nd.fieldQ, headQ]
    all_goals (try omega)
  | cons m ms =>
    have hc : PCalls prog 92 [.agg m.enc] σ fun v σ' => v = .bool m.atomQ ∧ σ' = σ := atom_is_calls m σ (by have := kid_wt (n := n) (m := m) (by rw [hks]; simp); omega)
    repeat' (first
      | (refine gL_split (fun h => ?_) (fun h => ?_) <;> simp only [am, amo, amc, h, Nat.reduceAdd, Nat.reduceEqDiff, encs_length, List.length_map, decide_true, decide_false, Tree.rec_, Nd.rec_, Word.rec_, Got.rec_, Nd.fl, hks])
      | (refine vcIf_split (fun h => ?_) (fun h => ?_) <;> simp only [am, amo, amc, h, Nat.reduceAdd, Nat.reduceEqDiff, encs_length, List.length_map, decide_true, decide_false, Tree.rec_, Nd.rec_, Word.rec_, Got.rec_, Nd.fl, hks])
      | (refine pickL_split (fun h => ?_) (fun h => ?_) <;> simp only [am, amo, amc, h, Nat.reduceAdd, Nat.reduceEqDiff, encs_length, List.length_map, decide_true, decide_false, Tree.rec_, Nd.rec_, Word.rec_, Got.rec_, Nd.fl, hks])
      | (refine (right_calls n.text _).mono ?_; rintro v _ ⟨rfl, rfl⟩; simp only [am])
      | (refine idxL_intro (by omega) (c := m.enc) (by simp) ?_; simp only [am, Nd.rec_])
      | (refine hc.mono ?_; rintro v _ ⟨rfl, rfl⟩; simp only [am])
    )
    all_goals refine retK_intro rfl (Store.sub_refl _) ⟨?_, rfl⟩
    all_goals simp_all [V.erase, eraseL, Nd.fieldQ, headQ]
    all_goals (try omega)
theorem row_is_calls (n : Nd) (σ : Store) (hw : n.wt ≤ big) : PCalls prog 57 [.agg n.enc] σ fun v σ' => v = .bool n.rowQ ∧ σ' = σ := by
  have hn := wt_names n
  have hall : PCalls prog 82 [.sl .no 5 (n.kids.map Nd.enc), .fn (.func 84) [] []] σ fun v σ' => v = .bool (n.kids.all Nd.fieldQ) ∧ σ' = σ :=
    all_calls n.kids σ (by omega) fun m hm => field_is_calls m σ (by have := kid_wt hm; omega)
  refine fn57.calls ?_
  simp only [slots, ac57, am, amo, amc, ams, Nat.reduceAdd, Nat.reduceEqDiff, decide_true, decide_false, Tree.rec_, Nd.rec_, Word.rec_, Got.rec_, Nd.fl]
  by_cases k10 : n.kind = 10
  · simp only [am, amo, amc, Nat.reduceAdd, Nat.reduceEqDiff, encs_length, List.length_map, decide_true, decide_false, Tree.rec_, Nd.rec_, Word.rec_, Got.rec_, Nd.fl, decide_eq_true k10]
    repeat' (first
      | (refine gL_split (fun h => ?_) (fun h => ?_) <;> simp only [am, amo, amc, h, Nat.reduceAdd, Nat.reduceEqDiff, encs_length, List.length_map, decide_true, decide_false, Tree.rec_, Nd.rec_, Word.rec_, Got.rec_, Nd.fl])
      | (refine vcIf_split (fun h => ?_) (fun h => ?_) <;> simp only [am, amo, amc, h, Nat.reduceAdd, Nat.reduceEqDiff, encs_length, List.length_map, decide_true, decide_false, Tree.rec_, Nd.rec_, Word.rec_, Got.rec_, Nd.fl])
      | (refine pickL_split (fun h => ?_) (fun h => ?_) <;> simp only [am, amo, amc, h, Nat.reduceAdd, Nat.reduceEqDiff, encs_length, List.length_map, decide_true, decide_false, Tree.rec_, Nd.rec_, Word.rec_, Got.rec_, Nd.fl])
      | (refine (rightW_calls n.names _ (by omega)).mono ?_; rintro v _ ⟨rfl, rfl⟩; simp only [am])
      | (refine hall.mono ?_; rintro v _ ⟨rfl, rfl⟩; simp only [am])
    )
    all_goals refine retK_intro rfl (Store.sub_refl _) ⟨?_, rfl⟩
    all_goals simp_all [V.erase, eraseL, Nd.rowQ]
    all_goals (try omega)
  · simp only [am, amo, amc, Nat.reduceAdd, Nat.reduceEqDiff, encs_length, List.length_map, decide_true, decide_false, Tree.rec_, Nd.rec_, Word.rec_, Got.rec_, Nd.fl, decide_eq_false k10]
    repeat' (first
      | (refine gL_split (fun h => ?_) (fun h => ?_) <;> simp only [am, amo, amc, h, Nat.reduceAdd, Nat.reduceEqDiff, encs_length, List.length_map, decide_true, decide_false, Tree.rec_, Nd.rec_, Word.rec_, Got.rec_, Nd.fl])
      | (refine vcIf_split (fun h => ?_) (fun h => ?_) <;> simp only [am, amo, amc, h, Nat.reduceAdd, Nat.reduceEqDiff, encs_length, List.length_map, decide_true, decide_false, Tree.rec_, Nd.rec_, Word.rec_, Got.rec_, Nd.fl])
      | (refine pickL_split (fun h => ?_) (fun h => ?_) <;> simp only [am, amo, amc, h, Nat.reduceAdd, Nat.reduceEqDiff, encs_length, List.length_map, decide_true, decide_false, Tree.rec_, Nd.rec_, Word.rec_, Got.rec_, Nd.fl])
      | (refine (label_is_calls _ n _ (Nat.le_refl _) hw).mono ?_; rintro v _ ⟨rfl, rfl⟩; simp only [am])
    )
    all_goals refine retK_intro rfl (Store.sub_refl _) ⟨?_, rfl⟩
    all_goals simp_all [V.erase, eraseL, Nd.rowQ]
    all_goals (try omega)
end Go.Proofs.Tryz

namespace Go.Proofs.Tryz
open Go.Am
set_option maxRecDepth 4000
set_option maxHeartbeats 4000000
def ac27 : AC := .seq (.reg [⟨(some 2), .box 5 (.s 0), none⟩, ⟨(some 3), .box 5 (.s 1), none⟩, ⟨(some 4), .mv (.c (.bool false)), none⟩])
 (.seq (.seq (.reg [xf 0 7 2, xo 8 7, xf 0 9 3, xo 10 9, xb .neq 11 8 10, xm 12 11, xh 12 (xf 2 13 2), xh 12 (xo 14 13), xh 12 (xf 2 15 3), xh 12 (xo 16 15), ⟨(some 17), .binS .neq (.s 14) (.s 16), (some (12, false))⟩, ⟨(some 18), .pick (.s 12) (.c (.bool true)) (.s 17), none⟩, xm 19 18, xh 19 (xf 3 20 2), xh 19 (xo 21 20), xh 19 (xL 22 21), xh 19 (xf 3 23 3), xh 19 (xo 24 23), xh 19 (xL 25 24), xh 19 (xb .neq 26 22 25), ⟨(some 27), .pick (.s 19) (.c (.bool true)) (.s 26), none⟩, xm 28 27, xh 28 (xf 4 29 2), xh 28 (xo 30 29), xh 28 (xL 31 30), xh 28 (xf 4 32 3), xh 28 (xo 33 32), xh 28 (xL 34 33), xh 28 (xb .neq 35 31 34), ⟨(some 36), .pick (.s 28) (.c (.bool true)) (.s 35), none⟩])
 (.cond (.s 36) (.seq (.reg [⟨(some 4), .mv (.c (.bool false)), none⟩])
 (.ret))
 (.skip)))
 (.seq (.seq (.reg [xf 3 37 2, xo 38 37, xL 39 38, xi 40 0])
 (.block 0 (.loop (.seq (.reg [xb .lss 41 40 39])
 (.seq (.cond (.s 41) (.skip)
 (.exit 0))
 (.seq (.block 1 (.seq (.reg [xm 42 40, xm 5 42])
 (.seq (.draw [(xf 3 43 2, []), (xo 44 43, []), (xm 45 5, []), (xA 2 46 44 45, []), (xf 0 47 46, []), (xo 48 47, []), (xf 3 49 3, []), (xo 50 49, []), (xm 51 5, []), (xA 2 52 50 51, []), (xf 0 53 52, []), (xo 54 53, []), (⟨(some 55), .binS .neq (.s 48) (.s 54), none⟩, [])])
 (.cond (.s 55) (.seq (.reg [⟨(some 4), .mv (.c (.bool false)), none⟩])
 (.ret))
 (.skip)))))
 (.reg [xB .add 56 40 1, xm 40 56])))))))
 (.seq (.seq (.reg [xf 4 57 2, xo 58 57, xL 59 58, xi 60 0])
 (.block 2 (.loop (.seq (.reg [xb .lss 61 60 59])
 (.seq (.cond (.s 61) (.skip)
 (.exit 2))
 (.seq (.block 3 (.seq (.reg [xm 62 60, xm 6 62])
 (.seq (.draw [(xf 4 63 2, []), (xo 64 63, []), (xm 65 6, []), (xA 5 66 64 65, []), (xl 5 67 66, []), (xf 4 68 3, []), (xo 69 68, []), (xm 70 6, []), (xA 5 71 69 70, []), (xl 5 72 71, []), (xc 27 73 [.s 67, .s 72], []), (⟨(some 74), .not (.s 73), none⟩, [])])
 (.cond (.s 74) (.seq (.reg [⟨(some 4), .mv (.c (.bool false)), none⟩])
 (.ret))
 (.skip)))))
 (.reg [xB .add 75 60 1, xm 60 75])))))))
 (.seq (.reg [⟨(some 4), .mv (.c (.bool true)), none⟩])
 (.ret)))))
theorem fn27 : IsFn prog 27 ac27 [.tmp 4] 76 := ⟨f27, ⟨[], []⟩, func27, by kernel_rfl, by kernel_rfl, by kernel_rfl, by kernel_rfl⟩
def ac28 : AC := .seq (.reg [⟨(some 2), .box 5 (.s 0), none⟩, ⟨(some 3), .box 5 (.s 1), none⟩, ⟨(some 4), .mv (.c (.bool false)), none⟩])
 (.seq (.seq (.reg [xf 0 7 2, xo 8 7, xf 0 9 3, xo 10 9, xb .neq 11 8 10, xm 12 11, xh 12 (xf 2 13 2), xh 12 (xo 14 13), xh 12 (xf 2 15 3), xh 12 (xo 16 15), ⟨(some 17), .binS .neq (.s 14) (.s 16), (some (12, false))⟩, ⟨(some 18), .pick (.s 12) (.c (.bool true)) (.s 17), none⟩, xm 19 18, xh 19 (xf 3 20 2), xh 19 (xo 21 20), xh 19 (xL 22 21), xh 19 (xf 3 23 3), xh 19 (xo 24 23), xh 19 (xL 25 24), xh 19 (xb .neq 26 22 25), ⟨(some 27), .pick (.s 19) (.c (.bool true)) (.s 26), none⟩, xm 28 27, xh 28 (xf 4 29 2), xh 28 (xo 30 29), xh 28 (xL 31 30), xh 28 (xf 4 32 3), xh 28 (xo 33 32), xh 28 (xL 34 33), xh 28 (xb .neq 35 31 34), ⟨(some 36), .pick (.s 28) (.c (.bool true)) (.s 35), none⟩])
 (.cond (.s 36) (.seq (.reg [⟨(some 4), .mv (.c (.bool false)), none⟩])
 (.ret))
 (.skip)))
 (.seq (.seq (.reg [xi 5 0])
 (.block 0 (.loop (.seq (.seq (.reg [xm 37 5, xf 3 38 2, xo 39 38, xL 40 39, xb .lss 41 37 40])
 (.cond (.s 41) (.skip)
 (.exit 0)))
 (.seq (.block 1 (.seq (.draw [(xf 3 44 2, []), (xo 45 44, []), (xm 46 5, []), (xA 2 47 45 46, []), (xf 0 48 47, []), (xo 49 48, []), (xf 3 50 3, []), (xo 51 50, []), (xm 52 5, []), (xA 2 53 51 52, []), (xf 0 54 53, []), (xo 55 54, []), (⟨(some 56), .binS .neq (.s 49) (.s 55), none⟩, [])])
 (.cond (.s 56) (.seq (.reg [⟨(some 4), .mv (.c (.bool false)), none⟩])
 (.ret))
 (.skip))))
 (.reg [xm 42 5, xB .add 43 42 1, xm 5 43]))))))
 (.seq (.seq (.reg [xi 6 0])
 (.block 2 (.loop (.seq (.seq (.reg [xm 57 6, xf 4 58 2, xo 59 58, xL 60 59, xb .lss 61 57 60])
 (.cond (.s 61) (.skip)
 (.exit 2)))
 (.seq (.block 3 (.seq (.draw [(xf 4 64 2, []), (xo 65 64, []), (xm 66 6, []), (xA 5 67 65 66, []), (xl 5 68 67, []), (xf 4 69 3, []), (xo 70 69, []), (xm 71 6, []), (xA 5 72 70 71, []), (xl 5 73 72, []), (xc 28 74 [.s 68, .s 73], []), (⟨(some 75), .not (.s 74), none⟩, [])])
 (.cond (.s 75) (.seq (.reg [⟨(some 4), .mv (.c (.bool false)), none⟩])
 (.ret))
 (.skip))))
 (.reg [xm 62 6, xB .add 63 62 1, xm 6 63]))))))
 (.seq (.reg [⟨(some 4), .mv (.c (.bool true)), none⟩])
 (.ret)))))
theorem fn28 : IsFn prog 28 ac28 [.tmp 4] 76 := ⟨f28, ⟨[], []⟩, func28, by kernel_rfl, by kernel_rfl, by kernel_rfl, by kernel_rfl⟩
def inv24w (n m : Nd) (σ : Store) (i : Nat) : St :=
  ⟨[.any, .any, .ptr (.loc 0) 0, .ptr (.loc 1) 0] ++ List.replicate 35 .any ++ [.int .i64 n.names.length, .int .i64 (i : Nat)] ++ List.replicate 35 .any, [n.enc, m.enc], σ⟩
def inv24k (n m : Nd) (σ : Store) (i : Nat) : St :=
  ⟨[.any, .any, .ptr (.loc 0) 0, .ptr (.loc 1) 0] ++ List.replicate 55 .any ++ [.int .i64 n.kids.length, .int .i64 (i : Nat)] ++ List.replicate 15 .any, [n.enc, m.enc], σ⟩
theorem same24_calls : ∀ (k : Nat) (n m : Nd) (σ : Store), n.wt ≤ k → n.wt ≤ big → PCalls prog 27 [.agg n.enc, .agg m.enc] σ fun v σ' => v = .bool (n.sameQ m) ∧ σ' = σ := by
  intro k
  induction k with
  | zero => intro n m σ h _; cases n; simp only [Nd.wt] at h; omega
  | succ k ihk =>
    intro n m σ hk hw
    have hn := wt_names n
    have hbig : n.wt < 2 ^ 62 := by simp only [big] at hw; omega
    rw [Nd.sameQ_eq]
    refine fn27.calls ?_
    simp only [slots, ac27, am, amo, amc, ams, Nat.reduceAdd, Nat.reduceEqDiff, decide_true, decide_false, Tree.rec_, Nd.rec_, Word.rec_, Got.rec_, Nd.fl]
    by_cases k1 : n.kind = m.kind
    case' neg =>
      simp only [am, amo, amc, Nat.reduceAdd, Nat.reduceEqDiff, encs_length, List.length_map, decide_true, decide_false, Tree.rec_, Nd.rec_, Word.rec_, Got.rec_, Nd.fl, decide_eq_false k1]
      refine retK_intro rfl (Store.sub_refl _) ⟨?_, rfl⟩
      simp [V.erase, eraseL, k1]
    simp only [am, amo, amc, Nat.reduceAdd, Nat.reduceEqDiff, encs_length, List.length_map, decide_true, decide_false, Tree.rec_, Nd.rec_, Word.rec_, Got.rec_, Nd.fl, k1]
    by_cases k2 : n.text = m.text
    case' neg =>
      simp only [am, amo, amc, Nat.reduceAdd, Nat.reduceEqDiff, encs_length, List.length_map, decide_true, decide_false, Tree.rec_, Nd.rec_, Word.rec_, Got.rec_, Nd.fl, decide_eq_false k2]
      refine retK_intro rfl (Store.sub_refl _) ⟨?_, rfl⟩
      simp [V.erase, eraseL, k2]
    simp only [am, amo, amc, Nat.reduceAdd, Nat.reduceEqDiff, encs_length, List.length_map, decide_true, decide_false, Tree.rec_, Nd.rec_, Word.rec_, Got.rec_, Nd.fl, k2]
    by_cases k3 : n.names.length = m.names.length
    case' neg =>
      have k3' : ¬ (n.names.length : Int) = m.names.length := by omega
      simp only [am, amo, amc, Nat.reduceAdd, Nat.reduceEqDiff, encs_length, List.length_map, decide_true, decide_false, Tree.rec_, Nd.rec_, Word.rec_, Got.rec_, Nd.fl, decide_eq_false k3']
      have : sameW n.names m.names = false := by cases hs : sameW n.names m.names with
        | false => rfl
        | true => exact absurd (sameW_len hs) k3
      refine retK_intro rfl (Store.sub_refl _) ⟨?_, rfl⟩
      simp [V.erase, eraseL, this]
    simp only [am, amo, amc, Nat.reduceAdd, Nat.reduceEqDiff, encs_length, List.length_map, decide_true, decide_false, Tree.rec_, Nd.rec_, Word.rec_, Got.rec_, Nd.fl, k3]
    by_cases k4 : n.kids.length = m.kids.length
    case' neg =>
      have k4' : ¬ (n.kids.length : Int) = m.kids.length := by omega
      simp only [am, amo, amc, Nat.reduceAdd, Nat.reduceEqDiff, encs_length, List.length_map, decide_true, decide_false, Tree.rec_, Nd.rec_, Word.rec_, Got.rec_, Nd.fl, decide_eq_false k4']
      have : samesQ n.kids m.kids = false := by cases hs : samesQ n.kids m.kids with
        | false => rfl
        | true => exact absurd (samesQ_len hs) k4
      refine retK_intro rfl (Store.sub_refl _) ⟨?_, rfl⟩
      simp [V.erase, eraseL, this]
    simp only [am, amo, amc, Nat.reduceAdd, Nat.reduceEqDiff, encs_length, List.length_map, decide_true, decide_false, Tree.rec_, Nd.rec_, Word.rec_, Got.rec_, Nd.fl, k4]
    refine vc_loop (fun p : { i : Nat // i ≤ n.names.length ∧ sameW (n.names.take i) (m.names.take i) = true } => inv24w n m σ p.1) (fun p => n.names.length - p.1) ?_ ?_
    · refine Upd.enter ⟨0, by simp, by simp [sameW]⟩ ?_ LLLe.rfl OLe.rfl
      simp [inv24w, List.replicate, am, k3]
    rintro ⟨i, hi, ha⟩
    simp only [inv24w, List.replicate, am, and_true]
    refine vcIf_split ?_ ?_
    · intro hlt
      have hlt : i < n.names.length := by simpa using hlt
      obtain ⟨hat, hno⟩ := sameW_at hlt (by omega) k3 ha
      simp only [am, amo, amc, Nat.reduceAdd, Nat.reduceEqDiff, encs_length, List.length_map, decide_true, decide_false, Tree.rec_, Nd.rec_, Word.rec_, Got.rec_, Nd.fl]
      refine idxL_intro (by omega) (wencs_at (List.getElem?_eq_getElem hlt)) ?_
      simp only [am, amo, amc, Nat.reduceAdd, Nat.reduceEqDiff, encs_length, List.length_map, decide_true, decide_false, Tree.rec_, Nd.rec_, Word.rec_, Got.rec_, Nd.fl, Word.enc]
      refine idxL_intro (by omega) (wencs_at (List.getElem?_eq_getElem (show i < m.names.length by omega))) ?_
      simp only [am, amo, amc, Nat.reduceAdd, Nat.reduceEqDiff, encs_length, List.length_map, decide_true, decide_false, Tree.rec_, Nd.rec_, Word.rec_, Got.rec_, Nd.fl, Word.enc]
      by_cases he : n.names[i].text = m.names[i].text
      · simp only [am, amo, amc, Nat.reduceAdd, Nat.reduceEqDiff, encs_length, List.length_map, decide_true, decide_false, Tree.rec_, Nd.rec_, Word.rec_, Got.rec_, Nd.fl, he]
        rw [wrap_i64 (by omega) (by omega)]
        exact Upd.again ⟨i + 1, hlt, by rw [hat]; exact decide_eq_true he⟩ (by simp; omega) (by simp [List.replicate, am]) LLLe.rfl OLe.rfl
      · simp only [am, amo, amc, Nat.reduceAdd, Nat.reduceEqDiff, encs_length, List.length_map, decide_true, decide_false, Tree.rec_, Nd.rec_, Word.rec_, Got.rec_, Nd.fl, decide_eq_false he]
        refine retK_intro rfl (Store.sub_refl _) ⟨?_, rfl⟩
        simp [V.erase, eraseL, hno (decide_eq_false he)]
    intro hlt
    have hlt : i = n.names.length := by simp at hlt; omega
    subst hlt
    rw [List.take_length, k3, List.take_length] at ha
    simp only [am, amo, amc, Nat.reduceAdd, Nat.reduceEqDiff, encs_length, List.length_map, decide_true, decide_false, Tree.rec_, Nd.rec_, Word.rec_, Got.rec_, Nd.fl]
    refine vc_loop (fun p : { i : Nat // i ≤ n.kids.length ∧ samesQ (n.kids.take i) (m.kids.take i) = true } => inv24k n m σ p.1) (fun p => n.kids.length - p.1) ?_ ?_
    · refine Upd.enter ⟨0, by simp, by simp [samesQ]⟩ ?_ LLLe.rfl OLe.rfl
      simp [inv24k, List.replicate, am, k4]
    rintro ⟨i, hi, hb⟩
    simp only [inv24k, List.replicate, am, and_true]
    refine vcIf_split ?_ ?_
    · intro hlt
      have hlt : i < n.kids.length := by simpa using hlt
      have hki := kid_wt (n := n) (List.getElem_mem hlt)
      obtain ⟨hat, hno⟩ := samesQ_at hlt (by omega) k4 hb
      simp only [am, amo, amc, Nat.reduceAdd, Nat.reduceEqDiff, encs_length, List.length_map, decide_true, decide_false, Tree.rec_, Nd.rec_, Word.rec_, Got.rec_, Nd.fl]
      refine idxL_intro (by omega) (nencs_at (List.getElem?_eq_getElem hlt)) ?_
      simp only [am, amo, amc, Nat.reduceAdd, Nat.reduceEqDiff, encs_length, List.length_map, decide_true, decide_false, Tree.rec_, Nd.rec_, Word.rec_, Got.rec_, Nd.fl]
      refine idxL_intro (by omega) (nencs_at (List.getElem?_eq_getElem (show i < m.kids.length by omega))) ?_
      simp only [am, amo, amc, Nat.reduceAdd, Nat.reduceEqDiff, encs_length, List.length_map, decide_true, decide_false, Tree.rec_, Nd.rec_, Word.rec_, Got.rec_, Nd.fl]
      refine CallD.intro (ihk n.kids[i] m.kids[i] _ (by omega) (by omega)) ?_
      cases he : n.kids[i].sameQ m.kids[i]
      · simp only [am, amo, amc, Nat.reduceAdd, Nat.reduceEqDiff, encs_length, List.length_map, decide_true, decide_false, Tree.rec_, Nd.rec_, Word.rec_, Got.rec_, Nd.fl]
        refine retK_intro rfl (Store.sub_refl _) ⟨?_, rfl⟩
        simp [V.erase, eraseL, hno he]
      · simp only [am, amo, amc, Nat.reduceAdd, Nat.reduceEqDiff, encs_length, List.length_map, decide_true, decide_false, Tree.rec_, Nd.rec_, Word.rec_, Got.rec_, Nd.fl]
        rw [wrap_i64 (by omega) (by omega)]
        exact Upd.again ⟨i + 1, hlt, by rw [hat]; exact he⟩ (by simp; omega) (by simp [List.replicate, am]) LLLe.rfl OLe.rfl
    intro hlt
    have hlt : i = n.kids.length := by simp at hlt; omega
    subst hlt
    rw [List.take_length, k4, List.take_length] at hb
    simp only [am, amo, amc, Nat.reduceAdd, Nat.reduceEqDiff, encs_length, List.length_map, decide_true, decide_false, Tree.rec_, Nd.rec_, Word.rec_, Got.rec_, Nd.fl]
    refine retK_intro rfl (Store.sub_refl _) ⟨?_, rfl⟩
    simp [V.erase, eraseL, ha, hb]
def inv25w (n m : Nd) (σ : Store) (i : Nat) : St :=
  ⟨[.any, .any, .ptr (.loc 0) 0, .ptr (.loc 1) 0] ++ [.any, .int .i64 (i : Nat)] ++ List.replicate 70 .any, [n.enc, m.enc], σ⟩
def inv25k (n m : Nd) (σ : Store) (i : Nat) : St :=
  ⟨[.any, .any, .ptr (.loc 0) 0, .ptr (.loc 1) 0] ++ [.any, .any, .int .i64 (i : Nat)] ++ List.replicate 69 .any, [n.enc, m.enc], σ⟩
theorem same25_calls : ∀ (k : Nat) (n m : Nd) (σ : Store), n.wt ≤ k → n.wt ≤ big → PCalls prog 28 [.agg n.enc, .agg m.enc] σ fun v σ' => v = .bool (n.sameQ m) ∧ σ' = σ := by
  intro k
  induction k with
  | zero => intro n m σ h _; cases n; simp only [Nd.wt] at h; omega
  | succ k ihk =>
    intro n m σ hk hw
    have hn := wt_names n
    have hbig : n.wt < 2 ^ 62 := by simp only [big] at hw; omega
    rw [Nd.sameQ_eq]
    refine fn28.calls ?_
    simp only [slots, ac28, am, amo, amc, ams, Nat.reduceAdd, Nat.reduceEqDiff, decide_true, decide_false, Tree.rec_, Nd.rec_, Word.rec_, Got.rec_, Nd.fl]
    by_cases k1 : n.kind = m.kind
    case' neg =>
      simp only [am, amo, amc, Nat.reduceAdd, Nat.reduceEqDiff, encs_length, List.length_map, decide_true, decide_false, Tree.rec_, Nd.rec_, Word.rec_, Got.rec_, Nd.fl, decide_eq_false k1]
      refine retK_intro rfl (Store.sub_refl _) ⟨?_, rfl⟩
      simp [V.erase, eraseL, k1]
    simp only [am, amo, amc, Nat.reduceAdd, Nat.reduceEqDiff, encs_length, List.length_map, decide_true, decide_false, Tree.rec_, Nd.rec_, Word.rec_, Got.rec_, Nd.fl, k1]
    by_cases k2 : n.text = m.text
    case' neg =>
      simp only [am, amo, amc, Nat.reduceAdd, Nat.reduceEqDiff, encs_length, List.length_map, decide_true, decide_false, Tree.rec_, Nd.rec_, Word.rec_, Got.rec_, Nd.fl, decide_eq_false k2]
      refine retK_intro rfl (Store.sub_refl _) ⟨?_, rfl⟩
      simp [V.erase, eraseL, k2]
    simp only [am, amo, amc, Nat.reduceAdd, Nat.reduceEqDiff, encs_length, List.length_map, decide_true, decide_false, Tree.rec_, Nd.rec_, Word.rec_, Got.rec_, Nd.fl, k2]
    by_cases k3 : n.names.length = m.names.length
    case' neg =>
      have k3' : ¬ (n.names.length : Int) = m.names.length := by omega
      simp only [am, amo, amc, Nat.reduceAdd, Nat.reduceEqDiff, encs_length, List.length_map, decide_true, decide_false, Tree.rec_, Nd.rec_, Word.rec_, Got.rec_, Nd.fl, decide_eq_false k3']
      have : sameW n.names m.names = false := by cases hs : sameW n.names m.names with
        | false => rfl
        | true => exact absurd (sameW_len hs) k3
      refine retK_intro rfl (Store.sub_refl _) ⟨?_, rfl⟩
      simp [V.erase, eraseL, this]
    simp only [am, amo, amc, Nat.reduceAdd, Nat.reduceEqDiff, encs_length, List.length_map, decide_true, decide_false, Tree.rec_, Nd.rec_, Word.rec_, Got.rec_, Nd.fl, k3]
    by_cases k4 : n.kids.length = m.kids.length
    case' neg =>
      have k4' : ¬ (n.kids.length : Int) = m.kids.length := by omega
      simp only [am, amo, amc, Nat.reduceAdd, Nat.reduceEqDiff, encs_length, List.length_map, decide_true, decide_false, Tree.rec_, Nd.rec_, Word.rec_, Got.rec_, Nd.fl, decide_eq_false k4']
      have : samesQ n.kids m.kids = false := by cases hs : samesQ n.kids m.kids with
        | false => rfl
        | true => exact absurd (samesQ_len hs) k4
      refine retK_intro rfl (Store.sub_refl _) ⟨?_, rfl⟩
      simp [V.erase, eraseL, this]
    simp only [am, amo, amc, Nat.reduceAdd, Nat.reduceEqDiff, encs_length, List.length_map, decide_true, decide_false, Tree.rec_, Nd.rec_, Word.rec_, Got.rec_, Nd.fl, k4]
    refine vc_loop (fun p : { i : Nat // i ≤ n.names.length ∧ sameW (n.names.take i) (m.names.take i) = true } => inv25w n m σ p.1) (fun p => n.names.length - p.1) ?_ ?_
    · refine Upd.enter ⟨0, by simp, by simp [sameW]⟩ ?_ LLLe.rfl OLe.rfl
      simp [inv25w, List.replicate, am, k3]
    rintro ⟨i, hi, ha⟩
    simp only [inv25w, List.replicate, am, Nd.fl, List.length_map, Tree.rec_, Nd.rec_]
    refine vcIf_split ?_ ?_
    · intro hlt
      have hlt : i < n.names.length := by simpa using hlt
      obtain ⟨hat, hno⟩ := sameW_at hlt (by omega) k3 ha
      simp only [am, amo, amc, Nat.reduceAdd, Nat.reduceEqDiff, encs_length, List.length_map, decide_true, decide_false, Tree.rec_, Nd.rec_, Word.rec_, Got.rec_, Nd.fl]
      refine idxL_intro (by omega) (wencs_at (List.getElem?_eq_getElem hlt)) ?_
      simp only [am, amo, amc, Nat.reduceAdd, Nat.reduceEqDiff, encs_length, List.length_map, decide_true, decide_false, Tree.rec_, Nd.rec_, Word.rec_, Got.rec_, Nd.fl, Word.enc]
      refine idxL_intro (by omega) (wencs_at (List.getElem?_eq_getElem (show i < m.names.length by omega))) ?_
      simp only [am, amo, amc, Nat.reduceAdd, Nat.reduceEqDiff, encs_length, List.length_map, decide_true, decide_false, Tree.rec_, Nd.rec_, Word.rec_, Got.rec_, Nd.fl, Word.enc]
      by_cases he : n.names[i].text = m.names[i].text
      · simp only [am, amo, amc, Nat.reduceAdd, Nat.reduceEqDiff, encs_length, List.length_map, decide_true, decide_false, Tree.rec_, Nd.rec_, Word.rec_, Got.rec_, Nd.fl, he]
        rw [wrap_i64 (by omega) (by omega)]
        exact Upd.again ⟨i + 1, hlt, by rw [hat]; exact decide_eq_true he⟩ (by simp; omega) (by simp [List.replicate, am]) LLLe.rfl OLe.rfl
      · simp only [am, amo, amc, Nat.reduceAdd, Nat.reduceEqDiff, encs_length, List.length_map, decide_true, decide_false, Tree.rec_, Nd.rec_, Word.rec_, Got.rec_, Nd.fl, decide_eq_false he]
        refine retK_intro rfl (Store.sub_refl _) ⟨?_, rfl⟩
        simp [V.erase, eraseL, hno (decide_eq_false he)]
    intro hlt
    have hlt : i = n.names.length := by simp at hlt; omega
    subst hlt
    rw [List.take_length, k3, List.take_length] at ha
    simp only [am, amo, amc, Nat.reduceAdd, Nat.reduceEqDiff, encs_length, List.length_map, decide_true, decide_false, Tree.rec_, Nd.rec_, Word.rec_, Got.rec_, Nd.fl]
    refine vc_loop (fun p : { i : Nat // i ≤ n.kids.length ∧ samesQ (n.kids.take i) (m.kids.take i) = true } => inv25k n m σ p.1) (fun p => n.kids.length - p.1) ?_ ?_
    · refine Upd.enter ⟨0, by simp, by simp [samesQ]⟩ ?_ LLLe.rfl OLe.rfl
      simp [inv25k, List.replicate, am, k4]
    rintro ⟨i, hi, hb⟩
    simp only [inv25k, List.replicate, am, Nd.fl, List.length_map, Tree.rec_, Nd.rec_]
    refine vcIf_split ?_ ?_
    · intro hlt
      have hlt : i < n.kids.length := by simpa using hlt
      have hki := kid_wt (n := n) (List.getElem_mem hlt)
      obtain ⟨hat, hno⟩ := samesQ_at hlt (by omega) k4 hb
      simp only [am, amo, amc, Nat.reduceAdd, Nat.reduceEqDiff, encs_length, List.length_map, decide_true, decide_false, Tree.rec_, Nd.rec_, Word.rec_, Got.rec_, Nd.fl]
      refine idxL_intro (by omega) (nencs_at (List.getElem?_eq_getElem hlt)) ?_
      simp only [am, amo, amc, Nat.reduceAdd, Nat.reduceEqDiff, encs_length, List.length_map, decide_true, decide_false, Tree.rec_, Nd.rec_, Word.rec_, Got.rec_, Nd.fl]
      refine idxL_intro (by omega) (nencs_at (List.getElem?_eq_getElem (show i < m.kids.length by omega))) ?_
      simp only [am, amo, amc, Nat.reduceAdd, Nat.reduceEqDiff, encs_length, List.length_map, decide_true, decide_false, Tree.rec_, Nd.rec_, Word.rec_, Got.rec_, Nd.fl]
      refine CallD.intro (ihk n.kids[i] m.kids[i] _ (by omega) (by omega)) ?_
      cases he : n.kids[i].sameQ m.kids[i]
      · simp only [am, amo, amc, Nat.reduceAdd, Nat.reduceEqDiff, encs_length, List.length_map, decide_true, decide_false, Tree.rec_, Nd.rec_, Word.rec_, Got.rec_, Nd.fl]
        refine retK_intro rfl (Store.sub_refl _) ⟨?_, rfl⟩
        simp [V.erase, eraseL, hno he]
      · simp only [am, amo, amc, Nat.reduceAdd, Nat.reduceEqDiff, encs_length, List.length_map, decide_true, decide_false, Tree.rec_, Nd.rec_, Word.rec_, Got.rec_, Nd.fl]
        rw [wrap_i64 (by omega) (by omega)]
        exact Upd.again ⟨i + 1, hlt, by rw [hat]; exact he⟩ (by simp; omega) (by simp [List.replicate, am]) LLLe.rfl OLe.rfl
    intro hlt
    have hlt : i = n.kids.length := by simp at hlt; omega
    subst hlt
    rw [List.take_length, k4, List.take_length] at hb
    simp only [am, amo, amc, Nat.reduceAdd, Nat.reduceEqDiff, encs_length, List.length_map, decide_true, decide_false, Tree.rec_, Nd.rec_, Word.rec_, Got.rec_, Nd.fl]
    refine retK_intro rfl (Store.sub_refl _) ⟨?_, rfl⟩
    simp [V.erase, eraseL, ha, hb]
end Go.Proofs.Tryz

namespace Go.Proofs.Tryz
open Go.Am
set_option maxRecDepth 4000
set_option maxHeartbeats 4000000
theorem word_tk2 {w : Word} : takeN 2 w.enc = some w.enc := rfl
end Go.Proofs.Tryz

namespace Go.Proofs.Tryz
open Go.Am
set_option maxRecDepth 4000
set_option maxHeartbeats 4000000
def ac9 : AC := .seq (.reg [⟨(some 2), .box 17 (.s 0), none⟩, ⟨(some 3), .box 17 (.s 1), none⟩, ⟨(some 4), .mv (.c (.bool false)), none⟩])
 (.seq (.seq (.reg [xf 0 7 2, xo 8 7, xf 0 9 3, xo 10 9, xb .neq 11 8 10, xm 12 11, xh 12 (xf 2 13 2), xh 12 (xf 0 14 13), xh 12 (xo 15 14), xh 12 (xf 2 16 3), xh 12 (xf 0 17 16), xh 12 (xo 18 17), ⟨(some 19), .binS .neq (.s 15) (.s 18), (some (12, false))⟩, ⟨(some 20), .pick (.s 12) (.c (.bool true)) (.s 19), none⟩, xm 21 20, xh 21 (xf 4 22 2), xh 21 (xo 23 22), xh 21 (xL 24 23), xh 21 (xf 4 25 3), xh 21 (xo 26 25), xh 21 (xL 27 26), xh 21 (xb .neq 28 24 27), ⟨(some 29), .pick (.s 21) (.c (.bool true)) (.s 28), none⟩, xm 30 29, xh 30 (xf 5 31 2), xh 30 (xo 32 31), xh 30 (xL 33 32), xh 30 (xf 5 34 3), xh 30 (xo 35 34), xh 30 (xL 36 35), xh 30 (xb .neq 37 33 36), ⟨(some 38), .pick (.s 30) (.c (.bool true)) (.s 37), none⟩])
 (.cond (.s 38) (.seq (.reg [⟨(some 4), .mv (.c (.bool false)), none⟩])
 (.ret))
 (.skip)))
 (.seq (.seq (.reg [xi 5 0])
 (.block 0 (.loop (.seq (.seq (.reg [xm 39 5, xf 4 40 2, xo 41 40, xL 42 41, xb .lss 43 39 42])
 (.cond (.s 43) (.skip)
 (.exit 0)))
 (.seq (.block 1 (.seq (.draw [(xf 4 46 2, []), (xo 47 46, []), (xm 48 5, []), (xA 2 49 47 48, []), (xf 0 50 49, []), (xo 51 50, []), (xf 4 52 3, []), (xo 53 52, []), (xm 54 5, []), (xA 2 55 53 54, []), (xf 0 56 55, []), (xo 57 56, []), (⟨(some 58), .binS .neq (.s 51) (.s 57), none⟩, [])])
 (.cond (.s 58) (.seq (.reg [⟨(some 4), .mv (.c (.bool false)), none⟩])
 (.ret))
 (.skip))))
 (.reg [xm 44 5, xB .add 45 44 1, xm 5 45]))))))
 (.seq (.seq (.reg [xi 6 0])
 (.block 2 (.loop (.seq (.seq (.reg [xm 59 6, xf 5 60 2, xo 61 60, xL 62 61, xb .lss 63 59 62])
 (.cond (.s 63) (.skip)
 (.exit 2)))
 (.seq (.block 3 (.seq (.draw [(xf 5 66 2, []), (xo 67 66, []), (xm 68 6, []), (xA 4 69 67 68, []), (⟨(some 70), .idxP 2 2 (.s 69) (.c (.int .i64 0)), none⟩, []), (xf 0 71 70, []), (xo 72 71, []), (xf 5 73 3, []), (xo 74 73, []), (xm 75 6, []), (xA 4 76 74 75, []), (⟨(some 77), .idxP 2 2 (.s 76) (.c (.int .i64 0)), none⟩, []), (xf 0 78 77, []), (xo 79 78, []), (⟨(some 80), .binS .neq (.s 72) (.s 79), none⟩, []), (xm 81 80, []), (xh 81 (xf 5 82 2), []), (xh 81 (xo 83 82), []), (xh 81 (xm 84 6), []), (xh 81 (xA 4 85 83 84), []), (⟨(some 86), .idxP 2 2 (.s 85) (.c (.int .i64 1)), (some (81, false))⟩, []), (xh 81 (xf 0 87 86), []), (xh 81 (xo 88 87), []), (xh 81 (xf 5 89 3), []), (xh 81 (xo 90 89), []), (xh 81 (xm 91 6), []), (xh 81 (xA 4 92 90 91), []), (⟨(some 93), .idxP 2 2 (.s 92) (.c (.int .i64 1)), (some (81, false))⟩, []), (xh 81 (xf 0 94 93), []), (xh 81 (xo 95 94), []), (⟨(some 96), .binS .neq (.s 88) (.s 95), (some (81, false))⟩, []), (⟨(some 97), .pick (.s 81) (.c (.bool true)) (.s 96), none⟩, [])])
 (.cond (.s 97) (.seq (.reg [⟨(some 4), .mv (.c (.bool false)), none⟩])
 (.ret))
 (.skip))))
 (.reg [xm 64 6, xB .add 65 64 1, xm 6 65]))))))
 (.seq (.reg [xf 7 98 2, xl 5 99 98, xf 7 100 3, xl 5 101 100, xc 28 102 [.s 99, .s 101], xm 103 102, xg 103 (xf 12 104 2), xg 103 (xl 5 105 104), xg 103 (xf 12 106 3), xg 103 (xl 5 107 106), xg 103 (xc 28 108 [.s 105, .s 107]), ⟨(some 109), .pick (.s 103) (.s 108) (.c (.bool false)), none⟩, xm 4 109])
 (.ret)))))
theorem fn9 : IsFn prog 9 ac9 [.tmp 4] 110 := ⟨f9, ⟨[], []⟩, func9, by kernel_rfl, by kernel_rfl, by kernel_rfl, by kernel_rfl⟩
section
variable {c : Cmd}
theorem c_l2 : ldC false 1 (c.enc.drop 2) = some (.str c.name.text) := rfl
theorem c_t2 : takeN 2 (c.enc.drop 2) = some [.str c.name.text, .int .i64 c.name.pos] := rfl
theorem c_l4 : ldC false 1 (c.enc.drop 4) = some (.sl .no 2 (c.names.map Word.enc)) := rfl
theorem c_l5 : ldC false 1 (c.enc.drop 5) = some (.sl .no 4 (c.pairs.map penc)) := rfl
theorem c_l6 : ldC false 1 (c.enc.drop 6) = some (.int .i64 c.pairsAt) := rfl
theorem c_t7 : takeN 5 (c.enc.drop 7) = some c.left.enc := by rw [Nd.enc_eq]; rfl
theorem c_t12 : takeN 5 (c.enc.drop 12) = some c.right.enc := by rw [Nd.enc_eq]; rfl
def cfv := And.intro @c_l2 <| And.intro @c_t2 <| And.intro @c_l4 <| And.intro @c_l5 <| And.intro @c_l6 <| And.intro @c_t7 @c_t12
end
theorem penc_tk {p : Word × Word} : takeN 4 (penc p) = some (penc p) := rfl
theorem pencs_at {l : List (Word × Word)} {j : Nat} {p : Word × Word} (h : l[j]? = some p) : (l.map penc)[(j : Int).toNat]? = some (penc p) := by simp [h]
structure CmdW (c : Cmd) : Prop where
  ns : c.names.length ≤ big
  ps : c.pairs.length ≤ big
  l : c.left.wt ≤ big
  r : c.right.wt ≤ big
end Go.Proofs.Tryz

namespace Go.Proofs.Tryz
open Go.Am
set_option maxRecDepth 4000
set_option maxHeartbeats 4000000
def ac17 : AC := .seq (.reg [⟨(some 4), .mv (.c (.str [])), none⟩])
 (.seq (.reg [⟨(some 5), .mv (.c (.sl .full 1 [])), none⟩])
 (.seq (.seq (.reg [xm 7 0, xL 8 7, xi 9 0])
 (.block 0 (.loop (.seq (.reg [xb .lss 10 9 8])
 (.seq (.cond (.s 10) (.skip)
 (.exit 0))
 (.seq (.block 1 (.seq (.reg [xm 11 9, xm 6 11])
 (.seq (.seq (.reg [xm 12 6, xB .gtr 13 12 0])
 (.cond (.s 13) (.reg [xm 14 5, xm 15 1, ⟨(some 16), .appS (.s 14) (.s 15), none⟩, xm 5 16])
 (.skip)))
 (.reg [xm 17 5, xm 18 0, xm 19 6, xA 1 20 18 19, xo 21 20, ⟨(some 22), .appS (.s 17) (.s 21), none⟩, xm 5 22]))))
 (.reg [xB .add 23 9 1, xm 9 23])))))))
 (.seq (.reg [xm 24 5, ⟨(some 25), .cvBS (.s 24), none⟩, xm 4 25])
 (.ret))))
theorem fn17 : IsFn prog 17 ac17 [.tmp 4] 26 := ⟨f17, ⟨[], []⟩, func17, by kernel_rfl, by kernel_rfl, by kernel_rfl, by kernel_rfl⟩
def ac18 : AC := .seq (.reg [⟨(some 2), .mv (.c (.sl .full 1 [])), none⟩])
 (.seq (.reg [⟨(some 3), .mv (.c (.sl .full 1 [])), none⟩])
 (.seq (.seq (.reg [xm 6 0, xL 7 6, xi 8 0])
 (.block 0 (.loop (.seq (.reg [xb .lss 9 8 7])
 (.seq (.cond (.s 9) (.skip)
 (.exit 0))
 (.seq (.block 1 (.seq (.reg [xA 2 10 6 8, xl 2 11 10, ⟨(some 5), .alloc [(.str []), (.int .i64 0)], none⟩, xs 2 5 11])
 (.reg [xm 12 3, xf 0 13 5, xo 14 13, ⟨(some 15), .bslice 1 [(.s 14)], none⟩, xa 1 16 12 15, xm 3 16])))
 (.reg [xB .add 17 8 1, xm 8 17])))))))
 (.seq (.reg [xm 18 3, xm 2 18])
 (.ret))))
theorem fn18 : IsFn prog 18 ac18 [.tmp 2] 19 := ⟨f18, ⟨[], []⟩, func18, by kernel_rfl, by kernel_rfl, by kernel_rfl, by kernel_rfl⟩
def ac19 : AC := .seq (.reg [⟨(some 2), .mv (.c (.str [])), none⟩])
 (.seq (.reg [xm 3 0, xc 17 4 [.s 3, .c (.str [44])], ⟨(some 5), .cat (.c (.str [123])) (.s 4), none⟩, ⟨(some 6), .cat (.s 5) (.c (.str [125])), none⟩, xm 2 6])
 (.ret))
theorem fn19 : IsFn prog 19 ac19 [.tmp 2] 7 := ⟨f19, ⟨[], []⟩, func19, by kernel_rfl, by kernel_rfl, by kernel_rfl, by kernel_rfl⟩
def ac20 : AC := .seq (.reg [⟨(some 2), .mv (.c (.sl .full 1 [])), none⟩])
 (.seq (.reg [⟨(some 3), .mv (.c (.sl .full 1 [])), none⟩])
 (.seq (.seq (.reg [xm 6 0, xL 7 6, xi 8 0])
 (.block 0 (.loop (.seq (.reg [xb .lss 9 8 7])
 (.seq (.cond (.s 9) (.skip)
 (.exit 0))
 (.seq (.block 1 (.seq (.reg [xA 4 10 6 8, xl 4 11 10, ⟨(some 5), .alloc [(.str []), (.int .i64 0), (.str []), (.int .i64 0)], none⟩, xs 4 5 11])
 (.reg [xm 12 3, ⟨(some 13), .idxP 2 2 (.s 5) (.c (.int .i64 0)), none⟩, xf 0 14 13, xo 15 14, ⟨(some 16), .cat (.s 15) (.c (.str [60])), none⟩, ⟨(some 17), .idxP 2 2 (.s 5) (.c (.int .i64 1)), none⟩, xf 0 18 17, xo 19 18, ⟨(some 20), .cat (.s 16) (.s 19), none⟩, ⟨(some 21), .bslice 1 [(.s 20)], none⟩, xa 1 22 12 21, xm 3 22])))
 (.reg [xB .add 23 8 1, xm 8 23])))))))
 (.seq (.reg [xm 24 3, xm 2 24])
 (.ret))))
theorem fn20 : IsFn prog 20 ac20 [.tmp 2] 25 := ⟨f20, ⟨[], []⟩, func20, by kernel_rfl, by kernel_rfl, by kernel_rfl, by kernel_rfl⟩
def encT (l : List (List UInt8)) : List (List V) := l.map fun s => [V.str s]
theorem encT_length {l : List (List UInt8)} : (encT l).length = l.length := List.length_map ..
theorem encT_at {l : List (List UInt8)} {j : Nat} {s : List UInt8} (h : l[j]? = some s) : (encT l)[(j : Int).toNat]? = some [.str s] := by simp [encT, h]
def inv34 (l : List (List UInt8)) (sep : List UInt8) (σ : Store) (i τ : Nat) : St :=
  ⟨[.sl .no 1 (encT l), .str sep, .any, .any, .any, .sl (.tk τ) 1 (encB (joinS sep (l.take i))), .any, .any, .int .i64 l.length, .int .i64 (i : Nat)] ++ List.replicate 16 .any, [], σ.setTip τ (joinS sep (l.take i)).length⟩
theorem join_calls (l : List (List UInt8)) (sep : List UInt8) (σ : Store) (hl : l.length ≤ big) (hb : (joinS sep l).length ≤ big) :
    PCalls prog 17 [.sl .no 1 (encT l), .str sep] σ fun v σ' => v = .str (joinS sep l) ∧ σ' = σ := by
  refine fn17.calls ?_
  simp only [slots, ac17, am, amo, amc, ams, Nat.reduceAdd, Nat.reduceEqDiff, decide_true, decide_false, Word.rec_, Nd.fl, Int.reduceEq, Int.reduceLT, Int.reduceLE, Nat.reduceLT, Int.reduceToNat, Nat.reduceMul, encT_length]
  refine vc_loop (fun p : { p : Nat × Nat // σ.tip p.2 = none ∧ p.1 ≤ l.length } => inv34 l sep σ p.1.1 p.1.2) (fun p => l.length - p.1.1) ?_ ?_
  · refine Upd.tokEnter 0 fun τ hτ => ⟨⟨(0, τ), hτ, by simp⟩, ?_, rfl, rfl⟩
    simp [inv34, List.replicate, lto, joinS, encB]
  · rintro ⟨⟨i, τ⟩, hτ, hi⟩
    simp only at hτ hi
    simp only [inv34, List.replicate, am]
    have wi : IntKind.i64.wrap ((i : Int) + 1) = ((i + 1 : Nat) : Int) := by simp only [big] at hl; rw [wrap_i64 (by omega) (by omega)]; simp
    by_cases hlt : i < l.length
    · have hs := joinS_take (sep := sep) hlt
      have hm := joinS_le (sep := sep) (l := l) (i := i + 1)
      rw [hs] at hm
      simp only [List.length_append] at hm
      simp only [am, amo, amc, Nat.reduceAdd, Nat.reduceEqDiff, encs_length, List.length_map, decide_true, decide_false, Word.rec_, Nd.fl, Int.reduceEq, Int.reduceLT, Int.reduceLE, Nat.reduceLT, Int.reduceToNat, Nat.reduceMul, encT_length, decide_eq_true (show (i : Int) < l.length by omega)]
      by_cases h0 : 0 < i
      case' pos =>
        rw [if_pos h0] at hs hm
        simp only [am, amo, amc, Nat.reduceAdd, Nat.reduceEqDiff, encs_length, List.length_map, decide_true, decide_false, Word.rec_, Nd.fl, Int.reduceEq, Int.reduceLT, Int.reduceLE, Nat.reduceLT, Int.reduceToNat, Nat.reduceMul, encT_length, decide_eq_true (show (0 : Int) < i by omega)]
        refine ⟨_, rfl, ?_⟩
        refine app_tk (by rw [encB_length, encB_length]; omega) (by rw [encB_length, setTip_tip_same]) ?_
        simp only [am, amo, amc, Nat.reduceAdd, Nat.reduceEqDiff, encs_length, List.length_map, decide_true, decide_false, Word.rec_, Nd.fl, Int.reduceEq, Int.reduceLT, Int.reduceLE, Nat.reduceLT, Int.reduceToNat, Nat.reduceMul, encT_length, setTip_setTip]
        rw [← encB_append, encB_length, encB_length, ← List.length_append]
      case' neg =>
        rw [if_neg h0, List.append_nil] at hs
        rw [if_neg h0] at hm
        simp only [am, amo, amc, Nat.reduceAdd, Nat.reduceEqDiff, encs_length, List.length_map, decide_true, decide_false, Word.rec_, Nd.fl, Int.reduceEq, Int.reduceLT, Int.reduceLE, Nat.reduceLT, Int.reduceToNat, Nat.reduceMul, encT_length, decide_eq_false (show ¬ (0 : Int) < i by omega)]
      all_goals
        refine idxL_intro (by omega) (encT_at (List.getElem?_eq_getElem hlt)) ?_
        simp only [am, amo, amc, Nat.reduceAdd, Nat.reduceEqDiff, encs_length, List.length_map, decide_true, decide_false, Word.rec_, Nd.fl, Int.reduceEq, Int.reduceLT, Int.reduceLE, Nat.reduceLT, Int.reduceToNat, Nat.reduceMul, encT_length]
        refine ⟨_, rfl, ?_⟩
        refine app_tk (by rw [encB_length, encB_length]; simp at hm ⊢; omega) (by rw [encB_length, setTip_tip_same]) ?_
        simp only [am, amo, amc, Nat.reduceAdd, Nat.reduceEqDiff, encs_length, List.length_map, decide_true, decide_false, Word.rec_, Nd.fl, Int.reduceEq, Int.reduceLT, Int.reduceLE, Nat.reduceLT, Int.reduceToNat, Nat.reduceMul, encT_length, setTip_setTip, wi]
        rw [← encB_append, encB_length, encB_length, ← List.length_append, ← hs]
        exact Upd.again (I := fun p : { p : Nat × Nat // σ.tip p.2 = none ∧ p.1 ≤ l.length } => inv34 l sep σ p.1.1 p.1.2) (μ := fun p => l.length - p.1.1) ⟨(i + 1, τ), hτ, hlt⟩ (by simp; omega) (by simp [inv34, am, List.replicate]) LLLe.rfl OLe.rfl
    · have hlt : i = l.length := by omega
      subst hlt
      simp only [am, amo, amc, Nat.reduceAdd, Nat.reduceEqDiff, encs_length, List.length_map, decide_true, decide_false, Word.rec_, Nd.fl, Int.reduceEq, Int.reduceLT, Int.reduceLE, Nat.reduceLT, Int.reduceToNat, Nat.reduceMul, encT_length, decide_eq_false (show ¬ (l.length : Int) < l.length by omega), List.take_length]
      refine ⟨_, _, rfl, ?_⟩
      refine retK_intro rfl (sub_tip hτ) ⟨?_, rfl⟩
      simp [V.erase]
def inv35 (l : List Word) (σ : Store) (i τ : Nat) (loc : List (List V)) : St :=
  ⟨[.any, .any, .any, .sl (.tk τ) 1 (encT ((l.take i).map Word.text)), .any, .any, .sl .no 2 (l.map Word.enc), .int .i64 l.length, .int .i64 (i : Nat)] ++ List.replicate 10 .any, loc, σ.setTip τ i⟩
theorem encT_snoc {l : List (List UInt8)} {s : List UInt8} : encT l ++ [[.str s]] = encT (l ++ [s]) := by simp [encT]
theorem texts_calls (l : List Word) (σ : Store) (hl : l.length + 1 ≤ big) : PCalls prog 18 [.sl .no 2 (l.map Word.enc)] σ fun v σ' => v = .sl .no 1 (encT (l.map Word.text)) ∧ σ' = σ := by
  refine fn18.calls ?_
  simp only [slots, ac18, am, amo, amc, ams, Nat.reduceAdd, Nat.reduceEqDiff, decide_true, decide_false, Word.rec_, Nd.fl, Int.reduceEq, Int.reduceLT, Int.reduceLE, Nat.reduceLT, Int.reduceToNat, Nat.reduceMul, encT_length]
  refine vc_loop (fun p : { p : Nat × Nat // σ.tip p.2 = none ∧ p.1 ≤ l.length } => inv35 l σ p.1.1 p.1.2 []) (fun p => l.length - p.1.1) ?_ ?_
  · refine Upd.tokEnter 0 fun τ hτ => ⟨⟨(0, τ), hτ, by simp⟩, ?_, rfl, rfl⟩
    simp [inv35, List.replicate, lto, encT]
  · rintro ⟨⟨i, τ⟩, hτ, hi⟩
    simp only at hτ hi
    simp only [inv35, List.replicate, am]
    have wi : IntKind.i64.wrap ((i : Int) + 1) = ((i + 1 : Nat) : Int) := by simp only [big] at hl; rw [wrap_i64 (by omega) (by omega)]; simp
    by_cases hlt : i < l.length
    · have htl : ((l.take i).map Word.text).length = i := by simp; omega
      have hsn : (l.take i).map Word.text ++ [l[i].text] = (l.take (i + 1)).map Word.text := by rw [List.take_succ_eq_append_getElem hlt, List.map_append, List.map_singleton]
      simp only [am, amo, amc, Nat.reduceAdd, Nat.reduceEqDiff, encs_length, List.length_map, decide_true, decide_false, Word.rec_, Nd.fl, Int.reduceEq, Int.reduceLT, Int.reduceLE, Nat.reduceLT, Int.reduceToNat, Nat.reduceMul, encT_length, decide_eq_true (show (i : Int) < l.length by omega)]
      refine idxL_intro (by omega) (wencs_at (List.getElem?_eq_getElem hlt)) ?_
      simp only [am, amo, amc, Nat.reduceAdd, Nat.reduceEqDiff, encs_length, List.length_map, decide_true, decide_false, Word.rec_, Nd.fl, Int.reduceEq, Int.reduceLT, Int.reduceLE, Nat.reduceLT, Int.reduceToNat, Nat.reduceMul, encT_length, word_tk2, Word.enc]
      refine app_tk (by rw [encT_length, htl]; simp; omega) (by rw [encT_length, htl, setTip_tip_same]) ?_
      simp only [am, amo, amc, Nat.reduceAdd, Nat.reduceEqDiff, encs_length, List.length_map, decide_true, decide_false, Word.rec_, Nd.fl, Int.reduceEq, Int.reduceLT, Int.reduceLE, Nat.reduceLT, Int.reduceToNat, Nat.reduceMul, encT_length, setTip_setTip, wi, htl]
      rw [encT_snoc, hsn]
      exact Upd.againD (I := fun p : { p : Nat × Nat // σ.tip p.2 = none ∧ p.1 ≤ l.length } => inv35 l σ p.1.1 p.1.2 []) (μ := fun p => l.length - p.1.1) ⟨(i + 1, τ), hτ, hlt⟩ (by simp; omega) (by simp [inv35, am, List.replicate]) (by simp [inv35, am]) OLe.rfl (by simp [inv35, List.replicate, loL, V.lo]) (by simp [inv35, loLL])
    · have hlt : i = l.length := by omega
      subst hlt
      simp only [am, amo, amc, Nat.reduceAdd, Nat.reduceEqDiff, encs_length, List.length_map, decide_true, decide_false, Word.rec_, Nd.fl, Int.reduceEq, Int.reduceLT, Int.reduceLE, Nat.reduceLT, Int.reduceToNat, Nat.reduceMul, encT_length, decide_eq_false (show ¬ (l.length : Int) < l.length by omega), List.take_length]
      refine retK_intro rfl (sub_tip hτ) ⟨?_, rfl⟩
      simp [V.erase]
def inv37 (l : List (Word × Word)) (σ : Store) (i τ : Nat) (loc : List (List V)) : St :=
  ⟨[.any, .any, .any, .sl (.tk τ) 1 (encT ((l.take i).map pairT)), .any, .any, .sl .no 4 (l.map penc), .int .i64 l.length, .int .i64 (i : Nat)] ++ List.replicate 16 .any, loc, σ.setTip τ i⟩
theorem pairsT_calls (l : List (Word × Word)) (σ : Store) (hl : l.length + 1 ≤ big) (hp : psum l ≤ big) : PCalls prog 20 [.sl .no 4 (l.map penc)] σ fun v σ' => v = .sl .no 1 (encT (l.map pairT)) ∧ σ' = σ := by
  refine fn20.calls ?_
  simp only [slots, ac20, am, amo, amc, ams, Nat.reduceAdd, Nat.reduceEqDiff, decide_true, decide_false, Word.rec_, Nd.fl, Int.reduceEq, Int.reduceLT, Int.reduceLE, Nat.reduceLT, Int.reduceToNat, Nat.reduceMul, encT_length]
  refine vc_loop (fun p : { p : Nat × Nat // σ.tip p.2 = none ∧ p.1 ≤ l.length } => inv37 l σ p.1.1 p.1.2 []) (fun p => l.length - p.1.1) ?_ ?_
  · refine Upd.tokEnter 0 fun τ hτ => ⟨⟨(0, τ), hτ, by simp⟩, ?_, rfl, rfl⟩
    simp [inv37, List.replicate, lto, encT]
  · rintro ⟨⟨i, τ⟩, hτ, hi⟩
    simp only at hτ hi
    simp only [inv37, List.replicate, am]
    have wi : IntKind.i64.wrap ((i : Int) + 1) = ((i + 1 : Nat) : Int) := by simp only [big] at hl; rw [wrap_i64 (by omega) (by omega)]; simp
    by_cases hlt : i < l.length
    · have htl : ((l.take i).map pairT).length = i := by simp; omega
      have hsn : (l.take i).map pairT ++ [pairT l[i]] = (l.take (i + 1)).map pairT := by rw [List.take_succ_eq_append_getElem hlt, List.map_append, List.map_singleton]
      simp only [am, amo, amc, Nat.reduceAdd, Nat.reduceEqDiff, encs_length, List.length_map, decide_true, decide_false, Word.rec_, Nd.fl, Int.reduceEq, Int.reduceLT, Int.reduceLE, Nat.reduceLT, Int.reduceToNat, Nat.reduceMul, encT_length, decide_eq_true (show (i : Int) < l.length by omega)]
      refine idxL_intro (by omega) (pencs_at (List.getElem?_eq_getElem hlt)) ?_
      simp only [am, amo, amc, Nat.reduceAdd, Nat.reduceEqDiff, encs_length, List.length_map, decide_true, decide_false, Word.rec_, Nd.fl, Int.reduceEq, Int.reduceLT, Int.reduceLE, Nat.reduceLT, Int.reduceToNat, Nat.reduceMul, encT_length, penc_tk, penc]
      have hpl := psum_at hlt
      refine idxPL_ptr (by omega) (by omega) ?_
      simp only [am, amo, amc, Nat.reduceAdd, Nat.reduceEqDiff, encs_length, List.length_map, decide_true, decide_false, Word.rec_, Nd.fl, Int.reduceEq, Int.reduceLT, Int.reduceLE, Nat.reduceLT, Int.reduceToNat, Nat.reduceMul, encT_length]
      refine ⟨by simp; omega, ?_⟩
      refine idxPL_ptr (by omega) (by omega) ?_
      simp only [am, amo, amc, Nat.reduceAdd, Nat.reduceEqDiff, encs_length, List.length_map, decide_true, decide_false, Word.rec_, Nd.fl, Int.reduceEq, Int.reduceLT, Int.reduceLE, Nat.reduceLT, Int.reduceToNat, Nat.reduceMul, encT_length]
      refine ⟨by simp; omega, ?_⟩
      refine app_tk (by rw [encT_length, htl]; simp; omega) (by rw [encT_length, htl, setTip_tip_same]) ?_
      simp only [am, amo, amc, Nat.reduceAdd, Nat.reduceEqDiff, encs_length, List.length_map, decide_true, decide_false, Word.rec_, Nd.fl, Int.reduceEq, Int.reduceLT, Int.reduceLE, Nat.reduceLT, Int.reduceToNat, Nat.reduceMul, encT_length, setTip_setTip, wi, htl]
      rw [show l[i].1.text ++ [60] ++ l[i].2.text = pairT l[i] from rfl, encT_snoc, hsn]
      exact Upd.againD (I := fun p : { p : Nat × Nat // σ.tip p.2 = none ∧ p.1 ≤ l.length } => inv37 l σ p.1.1 p.1.2 []) (μ := fun p => l.length - p.1.1) ⟨(i + 1, τ), hτ, hlt⟩ (by simp; omega) (by simp [inv37, am, List.replicate]) (by simp [inv37, am]) OLe.rfl (by simp [inv37, List.replicate, loL, V.lo]) (by simp [inv37, loLL])
    · have hlt : i = l.length := by omega
      subst hlt
      simp only [am, amo, amc, Nat.reduceAdd, Nat.reduceEqDiff, encs_length, List.length_map, decide_true, decide_false, Word.rec_, Nd.fl, Int.reduceEq, Int.reduceLT, Int.reduceLE, Nat.reduceLT, Int.reduceToNat, Nat.reduceMul, encT_length, decide_eq_false (show ¬ (l.length : Int) < l.length by omega), List.take_length]
      refine retK_intro rfl (sub_tip hτ) ⟨?_, rfl⟩
      simp [V.erase]
theorem braces_calls (l : List (List UInt8)) (σ : Store) (hl : l.length ≤ big) (hb : (joinC l).length + 2 ≤ big) : PCalls prog 19 [.sl .no 1 (encT l)] σ fun v σ' => v = .str (braceT l) ∧ σ' = σ := by
  refine fn19.calls ?_
  simp only [slots, ac19, am, amo, amc, ams, Nat.reduceAdd, Nat.reduceEqDiff, decide_true, decide_false, Word.rec_, Nd.fl, Int.reduceEq, Int.reduceLT, Int.reduceLE, Nat.reduceLT, Int.reduceToNat, Nat.reduceMul, encT_length]
  refine (join_calls l [44] σ hl (by rw [joinS_C]; omega)).mono ?_
  rintro v σ ⟨rfl, rfl⟩
  simp only [am, amo, amc, Nat.reduceAdd, Nat.reduceEqDiff, encs_length, List.length_map, decide_true, decide_false, Word.rec_, Nd.fl, Int.reduceEq, Int.reduceLT, Int.reduceLE, Nat.reduceLT, Int.reduceToNat, Nat.reduceMul, encT_length, joinS_C]
  refine ⟨by simp; omega, by simp; omega, ?_⟩
  refine retK_intro rfl (Store.sub_refl _) ⟨?_, rfl⟩
  simp [V.erase, eraseL, braceT]
end Go.Proofs.Tryz

namespace Go.Proofs.Tryz
open Go.Am
set_option maxRecDepth 4000
set_option maxHeartbeats 4000000
def ac6 : AC := .seq (.reg [⟨(some 1), .box 17 (.s 0), none⟩, ⟨(some 2), .mv (.c (.str [])), none⟩])
 (.seq (.reg [xf 0 8 1, xo 9 8, xc 16 10 [.s 9], ⟨(some 3), .alloc [(.str []), (.str [])], none⟩, xs 2 3 10])
 (.seq (.reg [xf 0 11 3, xo 12 11, ⟨(some 13), .bslice 1 [(.s 12)], none⟩, xm 4 13])
 (.seq (.reg [xf 7 14 1, xl 5 15 14, xf 12 16 1, xl 5 17 16, ⟨(some 18), .bslice 5 [(.s 15), (.s 17)], none⟩, xm 5 18])
 (.seq (.rangeS [xf 1 19 3, xo 20 19] (.s 20) 21 22 23 0 1
 (.seq (.reg [xe 24 22 2, xm 7 24])
 (.seq (.reg [xm 25 7])
 (.block 2 (.seq (.reg [⟨(some 36), .binI .eql (.s 25) (.c (.int .i32 110)), none⟩, xm 35 36])
 (.cond (.s 35) (.reg [xm 37 4, xf 2 38 1, xf 0 39 38, xo 40 39, ⟨(some 41), .bslice 1 [(.s 40)], none⟩, xa 1 42 37 41, xm 4 42])
 (.seq (.reg [⟨(some 44), .binI .eql (.s 25) (.c (.int .i32 102)), none⟩, xm 43 44])
 (.cond (.s 43) (.reg [xm 45 4, xf 4 46 1, xo 47 46, xc 18 48 [.s 47], xc 17 49 [.s 48, .c (.str [44])], ⟨(some 50), .bslice 1 [(.s 49)], none⟩, xa 1 51 45 50, xm 4 51])
 (.seq (.reg [⟨(some 53), .binI .eql (.s 25) (.c (.int .i32 119)), none⟩, xm 52 53])
 (.cond (.s 52) (.reg [xm 54 4, xf 4 55 1, xo 56 55, xc 18 57 [.s 56], xc 19 58 [.s 57], ⟨(some 59), .bslice 1 [(.s 58)], none⟩, xa 1 60 54 59, xm 4 60])
 (.seq (.reg [⟨(some 62), .binI .eql (.s 25) (.c (.int .i32 112)), none⟩, xm 61 62])
 (.cond (.s 61) (.reg [xm 63 4, xf 5 64 1, xo 65 64, xc 20 66 [.s 65], xc 19 67 [.s 66], ⟨(some 68), .bslice 1 [(.s 67)], none⟩, xa 1 69 63 68, xm 4 69])
 (.seq (.reg [xm 26 4, xm 27 5, ⟨(some 28), .idxA 5 (.s 27) (.c (.int .i64 0)), none⟩, xl 5 29 28, xc 21 30 [.s 29], ⟨(some 31), .bslice 1 [(.s 30)], none⟩, xa 1 32 26 31, xm 4 32])
 (.reg [xm 33 5, ⟨(some 34), .slc 5 (.s 33) (some (.c (.int .i64 1))) none none, none⟩, xm 5 34]))))))))))))))
 (.seq (.reg [xm 70 4, xc 17 71 [.s 70, .c (.str [32])], xm 2 71])
 (.ret))))))
theorem fn6 : IsFn prog 6 ac6 [.tmp 2] 72 := ⟨f6, ⟨[], []⟩, func6, by kernel_rfl, by kernel_rfl, by kernel_rfl, by kernel_rfl⟩
theorem nd_len {n : Nd} : n.enc.length = 5 := by rw [Nd.enc_eq]; rfl
theorem nd_one {n : Nd} : oneL n.enc = true := by rw [Nd.enc_eq]; rfl
def stT (c : Cmd) (σ : Store) (ks : List UInt8) (b i τ : Nat) : St :=
  ⟨[.any, .ptr (.loc 0) 0, .any, .any, .sl (.tk τ) 1 (encT (piecesT c (ks.take i)).1), .sl .no 5 ((piecesT c (ks.take i)).2.map Nd.enc)] ++ List.replicate 15 .any ++ [.raw (.pointer (some ⟨b, 0, none⟩))] ++ List.replicate 50 .any, [c.enc, [.str (formOf c.op).1, .str ks]], σ.setTip τ (i + 1)⟩
theorem ctext_calls (c : Cmd) {σ : Store} (hg : σ.box 0 = some formCells) (hw : 16 * c.wt + 64 ≤ big) : PCalls prog 6 [.agg c.enc] σ fun v σ' => v = .str (textC c) ∧ σ' = σ := by
  have hcw : c.wt = c.name.text.length + wsum c.names + psum c.pairs + c.left.wt + c.right.wt := rfl
  have hn1 := psum_word c.names
  have hp1 := psum_len c.pairs
  refine fn6.calls ?_
  simp only [slots, ac6, am, amo, amc, ams, Nat.reduceAdd, Nat.reduceEqDiff, decide_true, decide_false, Tree.rec_, Nd.rec_, Word.rec_, nd_len, nd_one, Int.reduceEq, Int.reduceLT, Int.reduceLE, Nat.reduceLT, Int.reduceToNat, Nat.reduceMul, encT_length, cfl, cfo, cfv]
  refine (of_calls c.op hg).mono ?_
  rintro v σ ⟨rfl, rfl⟩
  simp only [am, amo, amc, Nat.reduceAdd, Nat.reduceEqDiff, encs_length, List.length_map, decide_true, decide_false, Tree.rec_, Nd.rec_, Word.rec_, nd_len, nd_one, Int.reduceEq, Int.reduceLT, Int.reduceLE, Nat.reduceLT, Int.reduceToNat, Nat.reduceMul, encT_length, cfl, cfo, cfv]
  refine vc_rangeS ?_
  simp only [am, amo, amc, Nat.reduceAdd, Nat.reduceEqDiff, encs_length, List.length_map, decide_true, decide_false, Tree.rec_, Nd.rec_, Word.rec_, nd_len, nd_one, Int.reduceEq, Int.reduceLT, Int.reduceLE, Nat.reduceLT, Int.reduceToNat, Nat.reduceMul, encT_length, cfl, cfo, cfv]
  have hft := form_terms c.op
  have htx : textC c = joinS [32] (piecesT c (formOf c.op).2).1 := rfl
  have hkl := form_len c.op
  generalize hks : (formOf c.op).2 = ks at hft htx hkl
  refine ⟨ks, rfl, by rw [← hks]; exact form_ascii c.op, fun b i st' => ∃ τ : { τ : Nat // σ.tip τ = none }, st' = stT c σ ks b i τ.1, ?_, ?_, ?_, ?_⟩
  · intro b
    refine Upd.tokEnter 1 fun τ hτ => ⟨⟨τ, hτ⟩, ?_, ?_, rfl⟩
    · simp [stT, List.replicate, lto, encT, piecesT]
      exact ⟨VTo.tok rfl, VTo.le VLe.no⟩
    · simp [stT]
  · rintro b i _ ⟨τ, rfl⟩
    exact ⟨rfl, by simp [stT], by simp [stT]⟩
  · rintro b i k _ hk ⟨⟨τ, hτ⟩, rfl⟩
    have hi : i < ks.length := (List.getElem?_eq_some_iff.1 hk).1
    have hki : ks.take (i + 1) = ks.take i ++ [k] := by rw [take_succ_of hk]
    obtain ⟨o1, o2, o3, o4⟩ := pieces_ok c (ks.take i)
    have hsn := piecesT_snoc c (ks.take i) k
    rw [← hki] at hsn
    have ho3 : (encT (piecesT c (ks.take i)).1).length = i + 1 := by rw [encT_length, o3, List.length_take]; omega
    have hkk : ∀ n : UInt8, ((k.toNat : Nat) : Int) = (n.toNat : Nat) ↔ k = n := fun n => by
      constructor
      · intro h; exact UInt8.toNat_inj.1 (by omega)
      · rintro rfl; rfl
    have e110 : ((k.toNat : Nat) : Int) = 110 ↔ k = 110 := hkk 110
    have e102 : ((k.toNat : Nat) : Int) = 102 ↔ k = 102 := hkk 102
    have e119 : ((k.toNat : Nat) : Int) = 119 ↔ k = 119 := hkk 119
    have e112 : ((k.toNat : Nat) : Int) = 112 ↔ k = 112 := hkk 112
    have ht := hft i hi k hk
    simp only [stT, List.replicate, am]
    generalize hX : piecesT c (ks.take i) = X at *
    obtain ⟨rows, ts⟩ := X
    simp only at o1 o2 o3 o4 ho3
    simp only
    rw [hsn]
    simp only [stepC]
    have hlb : rows.length + 1 ≤ big := by
      have : (List.take i ks).length ≤ 3 := by rw [List.length_take]; omega
      simp only [big]; omega
    by_cases k1 : k = 110
    · have hp : pieceT k c (ts.headD .zero) = c.name.text := by subst k1; rfl
      have hq : isTerm k = false := by subst k1; rfl
      simp only [am, amo, amc, Nat.reduceAdd, Nat.reduceEqDiff, encs_length, List.length_map, decide_true, decide_false, Tree.rec_, Nd.rec_, Word.rec_, nd_len, nd_one, Int.reduceEq, Int.reduceLT, Int.reduceLE, Nat.reduceLT, Int.reduceToNat, Nat.reduceMul, encT_length, cfl, cfo, cfv, decide_eq_true (e110.2 k1), hp, hq]
      refine app_tk (by rw [ho3]; simp only [List.length_singleton, big] at *; omega) (by rw [ho3, setTip_tip_same]) ?_
      simp only [am, amo, amc, Nat.reduceAdd, Nat.reduceEqDiff, encs_length, List.length_map, decide_true, decide_false, Tree.rec_, Nd.rec_, Word.rec_, nd_len, nd_one, Int.reduceEq, Int.reduceLT, Int.reduceLE, Nat.reduceLT, Int.reduceToNat, Nat.reduceMul, encT_length, cfl, cfo, cfv, setTip_setTip, ho3]
      rw [encT_snoc]
      exact Upd.weak (by simp [am]) (by simp [am]) OLe.rfl ⟨⟨τ, hτ⟩, rfl⟩
    simp only [am, amo, amc, Nat.reduceAdd, Nat.reduceEqDiff, encs_length, List.length_map, decide_true, decide_false, Tree.rec_, Nd.rec_, Word.rec_, nd_len, nd_one, Int.reduceEq, Int.reduceLT, Int.reduceLE, Nat.reduceLT, Int.reduceToNat, Nat.reduceMul, encT_length, cfl, cfo, cfv, decide_eq_false (fun h => k1 (e110.1 h))]
    by_cases k2 : k = 102
    · have hp : pieceT k c (ts.headD .zero) = joinC (c.names.map Word.text) := by subst k2; rfl
      have hq : isTerm k = false := by subst k2; rfl
      simp only [am, amo, amc, Nat.reduceAdd, Nat.reduceEqDiff, encs_length, List.length_map, decide_true, decide_false, Tree.rec_, Nd.rec_, Word.rec_, nd_len, nd_one, Int.reduceEq, Int.reduceLT, Int.reduceLE, Nat.reduceLT, Int.reduceToNat, Nat.reduceMul, encT_length, cfl, cfo, cfv, decide_eq_true (e102.2 k2), hp, hq]
      refine (texts_calls c.names _ (by omega)).mono ?_
      rintro v σ ⟨rfl, rfl⟩
      simp only [am, amo, amc, Nat.reduceAdd, Nat.reduceEqDiff, encs_length, List.length_map, decide_true, decide_false, Tree.rec_, Nd.rec_, Word.rec_, nd_len, nd_one, Int.reduceEq, Int.reduceLT, Int.reduceLE, Nat.reduceLT, Int.reduceToNat, Nat.reduceMul, encT_length, cfl, cfo, cfv]
      refine (join_calls (c.names.map Word.text) [44] _ (by rw [List.length_map]; omega) (by rw [joinS_C]; omega)).mono ?_
      rintro v σ ⟨rfl, rfl⟩
      simp only [am, amo, amc, Nat.reduceAdd, Nat.reduceEqDiff, encs_length, List.length_map, decide_true, decide_false, Tree.rec_, Nd.rec_, Word.rec_, nd_len, nd_one, Int.reduceEq, Int.reduceLT, Int.reduceLE, Nat.reduceLT, Int.reduceToNat, Nat.reduceMul, encT_length, cfl, cfo, cfv, joinS_C]
      refine app_tk (by rw [ho3]; simp only [List.length_singleton, big] at *; omega) (by rw [ho3, setTip_tip_same]) ?_
      simp only [am, amo, amc, Nat.reduceAdd, Nat.reduceEqDiff, encs_length, List.length_map, decide_true, decide_false, Tree.rec_, Nd.rec_, Word.rec_, nd_len, nd_one, Int.reduceEq, Int.reduceLT, Int.reduceLE, Nat.reduceLT, Int.reduceToNat, Nat.reduceMul, encT_length, cfl, cfo, cfv, setTip_setTip, ho3]
      rw [encT_snoc]
      exact Upd.weak (by simp [am]) (by simp [am]) OLe.rfl ⟨⟨τ, hτ⟩, rfl⟩
    simp only [am, amo, amc, Nat.reduceAdd, Nat.reduceEqDiff, encs_length, List.length_map, decide_true, decide_false, Tree.rec_, Nd.rec_, Word.rec_, nd_len, nd_one, Int.reduceEq, Int.reduceLT, Int.reduceLE, Nat.reduceLT, Int.reduceToNat, Nat.reduceMul, encT_length, cfl, cfo, cfv, decide_eq_false (fun h => k2 (e102.1 h))]
    by_cases k3 : k = 119
    · have hp : pieceT k c (ts.headD .zero) = braceT (c.names.map Word.text) := by subst k3; rfl
      have hq : isTerm k = false := by subst k3; rfl
      simp only [am, amo, amc, Nat.reduceAdd, Nat.reduceEqDiff, encs_length, List.length_map, decide_true, decide_false, Tree.rec_, Nd.rec_, Word.rec_, nd_len, nd_one, Int.reduceEq, Int.reduceLT, Int.reduceLE, Nat.reduceLT, Int.reduceToNat, Nat.reduceMul, encT_length, cfl, cfo, cfv, decide_eq_true (e119.2 k3), hp, hq]
      refine (texts_calls c.names _ (by omega)).mono ?_
      rintro v σ ⟨rfl, rfl⟩
      simp only [am, amo, amc, Nat.reduceAdd, Nat.reduceEqDiff, encs_length, List.length_map, decide_true, decide_false, Tree.rec_, Nd.rec_, Word.rec_, nd_len, nd_one, Int.reduceEq, Int.reduceLT, Int.reduceLE, Nat.reduceLT, Int.reduceToNat, Nat.reduceMul, encT_length, cfl, cfo, cfv]
      refine (braces_calls (c.names.map Word.text) _ (by rw [List.length_map]; omega) (by omega)).mono ?_
      rintro v σ ⟨rfl, rfl⟩
      simp only [am, amo, amc, Nat.reduceAdd, Nat.reduceEqDiff, encs_length, List.length_map, decide_true, decide_false, Tree.rec_, Nd.rec_, Word.rec_, nd_len, nd_one, Int.reduceEq, Int.reduceLT, Int.reduceLE, Nat.reduceLT, Int.reduceToNat, Nat.reduceMul, encT_length, cfl, cfo, cfv]
      refine app_tk (by rw [ho3]; simp only [List.length_singleton, big] at *; omega) (by rw [ho3, setTip_tip_same]) ?_
      simp only [am, amo, amc, Nat.reduceAdd, Nat.reduceEqDiff, encs_length, List.length_map, decide_true, decide_false, Tree.rec_, Nd.rec_, Word.rec_, nd_len, nd_one, Int.reduceEq, Int.reduceLT, Int.reduceLE, Nat.reduceLT, Int.reduceToNat, Nat.reduceMul, encT_length, cfl, cfo, cfv, setTip_setTip, ho3]
      rw [encT_snoc]
      exact Upd.weak (by simp [am]) (by simp [am]) OLe.rfl ⟨⟨τ, hτ⟩, rfl⟩
    simp only [am, amo, amc, Nat.reduceAdd, Nat.reduceEqDiff, encs_length, List.length_map, decide_true, decide_false, Tree.rec_, Nd.rec_, Word.rec_, nd_len, nd_one, Int.reduceEq, Int.reduceLT, Int.reduceLE, Nat.reduceLT, Int.reduceToNat, Nat.reduceMul, encT_length, cfl, cfo, cfv, decide_eq_false (fun h => k3 (e119.1 h))]
    by_cases k4 : k = 112
    · have hp : pieceT k c (ts.headD .zero) = braceT (c.pairs.map pairT) := by subst k4; rfl
      have hq : isTerm k = false := by subst k4; rfl
      simp only [am, amo, amc, Nat.reduceAdd, Nat.reduceEqDiff, encs_length, List.length_map, decide_true, decide_false, Tree.rec_, Nd.rec_, Word.rec_, nd_len, nd_one, Int.reduceEq, Int.reduceLT, Int.reduceLE, Nat.reduceLT, Int.reduceToNat, Nat.reduceMul, encT_length, cfl, cfo, cfv, decide_eq_true (e112.2 k4), hp, hq]
      refine (pairsT_calls c.pairs _ (by omega) (by omega)).mono ?_
      rintro v σ ⟨rfl, rfl⟩
      simp only [am, amo, amc, Nat.reduceAdd, Nat.reduceEqDiff, encs_length, List.length_map, decide_true, decide_false, Tree.rec_, Nd.rec_, Word.rec_, nd_len, nd_one, Int.reduceEq, Int.reduceLT, Int.reduceLE, Nat.reduceLT, Int.reduceToNat, Nat.reduceMul, encT_length, cfl, cfo, cfv]
      refine (braces_calls (c.pairs.map pairT) _ (by rw [List.length_map]; omega) (by omega)).mono ?_
      rintro v σ ⟨rfl, rfl⟩
      simp only [am, amo, amc, Nat.reduceAdd, Nat.reduceEqDiff, encs_length, List.length_map, decide_true, decide_false, Tree.rec_, Nd.rec_, Word.rec_, nd_len, nd_one, Int.reduceEq, Int.reduceLT, Int.reduceLE, Nat.reduceLT, Int.reduceToNat, Nat.reduceMul, encT_length, cfl, cfo, cfv]
      refine app_tk (by rw [ho3]; simp only [List.length_singleton, big] at *; omega) (by rw [ho3, setTip_tip_same]) ?_
      simp only [am, amo, amc, Nat.reduceAdd, Nat.reduceEqDiff, encs_length, List.length_map, decide_true, decide_false, Tree.rec_, Nd.rec_, Word.rec_, nd_len, nd_one, Int.reduceEq, Int.reduceLT, Int.reduceLE, Nat.reduceLT, Int.reduceToNat, Nat.reduceMul, encT_length, cfl, cfo, cfv, setTip_setTip, ho3]
      rw [encT_snoc]
      exact Upd.weak (by simp [am]) (by simp [am]) OLe.rfl ⟨⟨τ, hτ⟩, rfl⟩
    simp only [am, amo, amc, Nat.reduceAdd, Nat.reduceEqDiff, encs_length, List.length_map, decide_true, decide_false, Tree.rec_, Nd.rec_, Word.rec_, nd_len, nd_one, Int.reduceEq, Int.reduceLT, Int.reduceLE, Nat.reduceLT, Int.reduceToNat, Nat.reduceMul, encT_length, cfl, cfo, cfv, decide_eq_false (fun h => k4 (e112.1 h))]
    have hq : isTerm k = true := by simp [isTerm, k1, k2, k3, k4]
    have ht2 := ht hq
    obtain ⟨n, ns, hts⟩ : ∃ n ns, ts = n :: ns := by
      rw [o4]
      match (List.filter isTerm (List.take i ks)).length, ht2 with
      | 0, _ => exact ⟨_, _, rfl⟩
      | 1, _ => exact ⟨_, _, rfl⟩
    have hnw : n.wt ≤ c.wt := o2 n (by rw [hts]; simp)
    have hp : pieceT k c (ts.headD .zero) = n.txt := by rw [hts]; simp [pieceT, k1, k2, k3, k4]
    have htt : ts.map Nd.enc = n.enc :: ns.map Nd.enc := by rw [hts]; rfl
    have htl : ts.tail = ns := by rw [hts]; rfl
    simp only [am, amo, amc, Nat.reduceAdd, Nat.reduceEqDiff, encs_length, List.length_map, decide_true, decide_false, Tree.rec_, Nd.rec_, Word.rec_, nd_len, nd_one, Int.reduceEq, Int.reduceLT, Int.reduceLE, Nat.reduceLT, Int.reduceToNat, Nat.reduceMul, encT_length, cfl, cfo, cfv, hp, hq, htl, htt]
    refine idxL_intro (by omega) (c := n.enc) (by simp) ?_
    simp only [am, amo, amc, Nat.reduceAdd, Nat.reduceEqDiff, encs_length, List.length_map, decide_true, decide_false, Tree.rec_, Nd.rec_, Word.rec_, nd_len, nd_one, Int.reduceEq, Int.reduceLT, Int.reduceLE, Nat.reduceLT, Int.reduceToNat, Nat.reduceMul, encT_length, cfl, cfo, cfv]
    refine (text_calls _ n _ (Nat.le_refl _) (by omega)).mono ?_
    rintro v σ ⟨rfl, rfl⟩
    simp only [am, amo, amc, Nat.reduceAdd, Nat.reduceEqDiff, encs_length, List.length_map, decide_true, decide_false, Tree.rec_, Nd.rec_, Word.rec_, nd_len, nd_one, Int.reduceEq, Int.reduceLT, Int.reduceLE, Nat.reduceLT, Int.reduceToNat, Nat.reduceMul, encT_length, cfl, cfo, cfv]
    refine app_tk (by rw [ho3]; simp only [List.length_singleton, big] at *; omega) (by rw [ho3, setTip_tip_same]) ?_
    simp only [am, amo, amc, Nat.reduceAdd, Nat.reduceEqDiff, encs_length, List.length_map, decide_true, decide_false, Tree.rec_, Nd.rec_, Word.rec_, nd_len, nd_one, Int.reduceEq, Int.reduceLT, Int.reduceLE, Nat.reduceLT, Int.reduceToNat, Nat.reduceMul, encT_length, cfl, cfo, cfv, setTip_setTip, ho3]
    refine slcL_from (a := 1) (by simp) ?_
    simp only [am, amo, amc, Nat.reduceAdd, Nat.reduceEqDiff, encs_length, List.length_map, decide_true, decide_false, Tree.rec_, Nd.rec_, Word.rec_, nd_len, nd_one, Int.reduceEq, Int.reduceLT, Int.reduceLE, Nat.reduceLT, Int.reduceToNat, Nat.reduceMul, encT_length, cfl, cfo, cfv]
    rw [encT_snoc]
    exact Upd.weak (by simp [am]) (by simp [am]) OLe.rfl ⟨⟨τ, hτ⟩, rfl⟩
  · rintro b _ ⟨⟨τ, hτ⟩, rfl⟩
    simp only [stT, List.replicate, am]
    rw [List.take_length]
    obtain ⟨o1, o2, o3, o4⟩ := pieces_ok c ks
    have hjl := joinS_len _ o1
    rw [o3] at hjl
    have hjb : (joinS [32] (piecesT c ks).1).length ≤ big := by
      have : (ks.length + 1) * (c.wt + 8 + 1) ≤ 4 * (c.wt + 8 + 1) := Nat.mul_le_mul_right _ (by omega)
      omega
    refine (PCalls.weak (join_calls (piecesT c ks).1 [32] (σ.setTip τ (ks.length + 1)) (by rw [o3]; simp only [big]; omega) hjb) ?_ OLe.rfl).mono ?_
    · simp [am]
    rintro v _ ⟨rfl, rfl⟩
    simp only [am, amo, amc, Nat.reduceAdd, Nat.reduceEqDiff, encs_length, List.length_map, decide_true, decide_false, Tree.rec_, Nd.rec_, Word.rec_, nd_len, nd_one, Int.reduceEq, Int.reduceLT, Int.reduceLE, Nat.reduceLT, Int.reduceToNat, Nat.reduceMul, encT_length, cfl, cfo, cfv]
    refine retK_intro rfl (sub_tip hτ) ⟨?_, rfl⟩
    rw [htx]; rfl
end Go.Proofs.Tryz

namespace Go.Proofs.Tryz
open Go.Am
set_option maxRecDepth 4000
set_option maxHeartbeats 4000000
def ac29 : AC := .seq (.reg [⟨(some 1), .box 17 (.s 0), none⟩, ⟨(some 2), .mv (.c (.bool false)), none⟩])
 (.seq (.seq (.reg [xf 0 3 1, xo 4 3, xc 53 5 [.s 4, .c (.int .i32 110)], xB .eql 6 5 0])
 (.cond (.s 6) (.seq (.reg [xf 2 7 1, xf 0 8 7, xo 9 8, ⟨(some 10), .binS .eql (.s 9) (.c (.str [])), none⟩, xm 2 10])
 (.ret))
 (.skip)))
 (.seq (.reg [xf 2 11 1, xf 0 12 11, xo 13 12, xc 54 14 [.s 13], xm 2 14])
 (.ret)))
theorem fn29 : IsFn prog 29 ac29 [.tmp 2] 15 := ⟨f29, ⟨[], []⟩, func29, by kernel_rfl, by kernel_rfl, by kernel_rfl, by kernel_rfl⟩
def ac30 : AC := .seq (.reg [⟨(some 1), .box 17 (.s 0), none⟩, ⟨(some 2), .mv (.c (.bool false)), none⟩])
 (.seq (.block 0 (.seq (.reg [xf 0 4 1, xo 5 4, xc 53 6 [.s 5, .c (.int .i32 119)], xB .gtr 7 6 0, xm 3 7])
 (.cond (.s 3) (.seq (.reg [xf 4 8 1, xo 9 8, xL 10 9, xB .gtr 11 10 0, xm 12 11, xg 12 (xf 4 13 1), xg 12 (xo 14 13), xg 12 (xc 18 15 [.s 14]), xg 12 (xc 55 16 [.s 15]), ⟨(some 17), .pick (.s 12) (.s 16) (.c (.bool false)), none⟩, xm 2 17])
 (.ret))
 (.seq (.reg [xf 0 19 1, xo 20 19, xc 53 21 [.s 20, .c (.int .i32 102)], xB .gtr 22 21 0, xm 18 22])
 (.cond (.s 18) (.seq (.reg [xf 4 23 1, xo 24 23, xL 25 24, xB .eql 26 25 1, xm 27 26, xg 27 (xf 4 28 1), xg 27 (xo 29 28), xg 27 (xc 18 30 [.s 29]), xg 27 (xc 55 31 [.s 30]), ⟨(some 32), .pick (.s 27) (.s 31) (.c (.bool false)), none⟩, xm 2 32])
 (.ret))
 (.skip))))))
 (.seq (.reg [xf 4 33 1, xo 34 33, xL 35 34, xB .eql 36 35 0, xm 2 36])
 (.ret)))
theorem fn30 : IsFn prog 30 ac30 [.tmp 2] 37 := ⟨f30, ⟨[], []⟩, func30, by kernel_rfl, by kernel_rfl, by kernel_rfl, by kernel_rfl⟩
def ac53 : AC := .seq (.reg [xi 4 0])
 (.seq (.reg [xi 5 0])
 (.seq (.rangeS [xm 8 0, xc 16 9 [.s 8], xw 1 10 9] (.s 10) 11 12 13 0 1
 (.seq (.reg [xe 14 12 2, xm 7 14])
 (.seq (.reg [xm 15 7, xm 16 1, xb .eql 17 15 16])
 (.cond (.s 17) (.reg [xm 18 5, xB .add 19 18 1, xm 5 19])
 (.skip)))))
 (.seq (.reg [xm 20 5, xm 4 20])
 (.ret))))
theorem fn53 : IsFn prog 53 ac53 [.tmp 4] 21 := ⟨f53, ⟨[], []⟩, func53, by kernel_rfl, by kernel_rfl, by kernel_rfl, by kernel_rfl⟩
def ac55 : AC := .seq (.reg [⟨(some 2), .mv (.c (.bool false)), none⟩])
 (.seq (.seq (.reg [xm 5 0, xL 6 5, xi 7 0])
 (.block 0 (.loop (.seq (.reg [xb .lss 8 7 6])
 (.seq (.cond (.s 8) (.skip)
 (.exit 0))
 (.seq (.block 1 (.seq (.reg [xA 1 9 5 7, xo 10 9, xm 4 10])
 (.seq (.reg [xm 11 4, xc 54 12 [.s 11], ⟨(some 13), .not (.s 12), none⟩])
 (.cond (.s 13) (.seq (.reg [⟨(some 2), .mv (.c (.bool false)), none⟩])
 (.ret))
 (.skip)))))
 (.reg [xB .add 14 7 1, xm 7 14])))))))
 (.seq (.reg [⟨(some 2), .mv (.c (.bool true)), none⟩])
 (.ret)))
theorem fn55 : IsFn prog 55 ac55 [.tmp 2] 15 := ⟨f55, ⟨[], []⟩, func55, by kernel_rfl, by kernel_rfl, by kernel_rfl, by kernel_rfl⟩
def stC (ks : List UInt8) (k : UInt8) (σ : Store) (b i : Nat) : St :=
  ⟨[.any, .int .i32 (k.toNat : Nat), .any, .any, .any, .int .i64 ((ks.take i).count k : Nat)] ++ List.replicate 5 .any ++ [.raw (.pointer (some ⟨b, 0, none⟩))] ++ List.replicate 9 .any, [], σ⟩
theorem count_calls (op : Int) (k : UInt8) {σ : Store} (hg : σ.box 0 = some formCells) : PCalls prog 53 [.int .i64 op, .int .i32 (k.toNat : Nat)] σ fun v σ' => v = .int .i64 (cntN op k : Nat) ∧ σ' = σ := by
  refine fn53.calls ?_
  simp only [slots, ac53, am, amo, amc, ams, Nat.reduceAdd, Nat.reduceEqDiff, decide_true, decide_false, Tree.rec_, Nd.rec_, Word.rec_, nd_len, nd_one, Int.reduceEq, Int.reduceLT, Int.reduceLE, Nat.reduceLT, Int.reduceToNat, Nat.reduceMul, encT_length, cfl, cfo, cfv]
  refine vc_rangeS ?_
  simp only [am, amo, amc, Nat.reduceAdd, Nat.reduceEqDiff, encs_length, List.length_map, decide_true, decide_false, Tree.rec_, Nd.rec_, Word.rec_, nd_len, nd_one, Int.reduceEq, Int.reduceLT, Int.reduceLE, Nat.reduceLT, Int.reduceToNat, Nat.reduceMul, encT_length, cfl, cfo, cfv]
  refine (of_calls op hg).mono ?_
  rintro v σ ⟨rfl, rfl⟩
  simp only [am, amo, amc, Nat.reduceAdd, Nat.reduceEqDiff, encs_length, List.length_map, decide_true, decide_false, Tree.rec_, Nd.rec_, Word.rec_, nd_len, nd_one, Int.reduceEq, Int.reduceLT, Int.reduceLE, Nat.reduceLT, Int.reduceToNat, Nat.reduceMul, encT_length, cfl, cfo, cfv]
  have hkl := form_len op
  have hcn : cntN op k = (formOf op).2.count k := rfl
  generalize hks : (formOf op).2 = ks at hkl hcn
  refine ⟨ks, rfl, by rw [← hks]; exact form_ascii op, fun b i st' => st' = stC ks k σ b i, ?_, ?_, ?_, ?_⟩
  · intro b
    refine Upd.weak (t' := (stC ks k σ b 0).t) ?_ LLLe.rfl OLe.rfl rfl
    simp [stC, List.replicate, am]
  · rintro b i _ rfl
    exact ⟨rfl, by simp [stC], by simp [stC]⟩
  · rintro b i c _ hc rfl
    have hi : i < ks.length := (List.getElem?_eq_some_iff.1 hc).1
    have hsn : (ks.take (i + 1)).count k = (ks.take i).count k + (if c = k then 1 else 0) := by
      rw [take_succ_of hc, List.count_append, List.count_singleton]; simp
    have hle : (ks.take i).count k ≤ 3 := Nat.le_trans List.count_le_length (by rw [List.length_take]; omega)
    have hkk : ((c.toNat : Nat) : Int) = (k.toNat : Nat) ↔ c = k := by
      constructor
      · intro h; exact UInt8.toNat_inj.1 (by omega)
      · rintro rfl; rfl
    simp only [stC, List.replicate, am]
    by_cases e : c = k
    · rw [if_pos e] at hsn
      simp only [am, amo, amc, Nat.reduceAdd, Nat.reduceEqDiff, encs_length, List.length_map, decide_true, decide_false, Tree.rec_, Nd.rec_, Word.rec_, nd_len, nd_one, Int.reduceEq, Int.reduceLT, Int.reduceLE, Nat.reduceLT, Int.reduceToNat, Nat.reduceMul, encT_length, cfl, cfo, cfv, decide_eq_true (hkk.2 e)]
      rw [wrap_i64 (by omega) (by omega)]
      exact Upd.weak (by simp [am, hsn]) LLLe.rfl OLe.rfl rfl
    · rw [if_neg e] at hsn
      simp only [am, amo, amc, Nat.reduceAdd, Nat.reduceEqDiff, encs_length, List.length_map, decide_true, decide_false, Tree.rec_, Nd.rec_, Word.rec_, nd_len, nd_one, Int.reduceEq, Int.reduceLT, Int.reduceLE, Nat.reduceLT, Int.reduceToNat, Nat.reduceMul, encT_length, cfl, cfo, cfv, decide_eq_false (fun h => e (hkk.1 h))]
      exact Upd.weak (by simp [am, hsn]) LLLe.rfl OLe.rfl rfl
  · rintro b _ rfl
    simp only [stC, List.replicate, am]
    rw [List.take_length]
    refine retK_intro rfl (Store.sub_refl _) ⟨?_, rfl⟩
    simp [V.erase, eraseL, hcn]
def invNm (l : List (List UInt8)) (σ : Store) (i : Nat) : St :=
  ⟨[.any, .any, .any, .any, .any, .sl .no 1 (encT l), .int .i64 l.length, .int .i64 (i : Nat)] ++ List.replicate 7 .any, [], σ⟩
theorem named_calls (l : List (List UInt8)) (σ : Store) (hl : l.length ≤ big) : PCalls prog 55 [.sl .no 1 (encT l)] σ fun v σ' => v = .bool (namedQ l) ∧ σ' = σ := by
  simp only [big] at hl
  refine fn55.calls ?_
  simp only [slots, ac55, am, amo, amc, ams, Nat.reduceAdd, Nat.reduceEqDiff, decide_true, decide_false, Tree.rec_, Nd.rec_, Word.rec_, nd_len, nd_one, Int.reduceEq, Int.reduceLT, Int.reduceLE, Nat.reduceLT, Int.reduceToNat, Nat.reduceMul, encT_length, cfl, cfo, cfv]
  refine vc_loop (fun p : { i : Nat // i ≤ l.length ∧ namedQ (l.take i) = true } => invNm l σ p.1) (fun p => l.length - p.1) ?_ ?_
  · refine Upd.enter ⟨0, by simp, by simp [namedQ]⟩ ?_ LLLe.rfl OLe.rfl
    simp [invNm, List.replicate, am]
  rintro ⟨i, hi, ha⟩
  simp only [invNm, List.replicate, am]
  by_cases hlt : i < l.length
  · simp only [am, amo, amc, Nat.reduceAdd, Nat.reduceEqDiff, encs_length, List.length_map, decide_true, decide_false, Tree.rec_, Nd.rec_, Word.rec_, nd_len, nd_one, Int.reduceEq, Int.reduceLT, Int.reduceLE, Nat.reduceLT, Int.reduceToNat, Nat.reduceMul, encT_length, cfl, cfo, cfv, decide_eq_true (show (i : Int) < l.length by omega)]
    refine idxL_intro (by omega) (encT_at (List.getElem?_eq_getElem hlt)) ?_
    simp only [am, amo, amc, Nat.reduceAdd, Nat.reduceEqDiff, encs_length, List.length_map, decide_true, decide_false, Tree.rec_, Nd.rec_, Word.rec_, nd_len, nd_one, Int.reduceEq, Int.reduceLT, Int.reduceLE, Nat.reduceLT, Int.reduceToNat, Nat.reduceMul, encT_length, cfl, cfo, cfv]
    refine (right_calls l[i] σ).mono ?_
    rintro v σ ⟨rfl, rfl⟩
    cases hr : nameR l[i]
    · simp only [am, amo, amc, Nat.reduceAdd, Nat.reduceEqDiff, encs_length, List.length_map, decide_true, decide_false, Tree.rec_, Nd.rec_, Word.rec_, nd_len, nd_one, Int.reduceEq, Int.reduceLT, Int.reduceLE, Nat.reduceLT, Int.reduceToNat, Nat.reduceMul, encT_length, cfl, cfo, cfv]
      have : namedQ l = false := by
        rw [namedQ, List.all_eq_false]
        exact ⟨l[i], List.getElem_mem hlt, by simp [hr]⟩
      refine retK_intro rfl (Store.sub_refl _) ⟨?_, rfl⟩
      simp [V.erase, eraseL, this]
    · simp only [am, amo, amc, Nat.reduceAdd, Nat.reduceEqDiff, encs_length, List.length_map, decide_true, decide_false, Tree.rec_, Nd.rec_, Word.rec_, nd_len, nd_one, Int.reduceEq, Int.reduceLT, Int.reduceLE, Nat.reduceLT, Int.reduceToNat, Nat.reduceMul, encT_length, cfl, cfo, cfv]
      rw [wrap_i64 (by omega) (by omega)]
      refine Upd.again (I := fun p : { i : Nat // i ≤ l.length ∧ namedQ (l.take i) = true } => invNm l σ p.1) (μ := fun p => l.length - p.1) ⟨i + 1, hlt, ?_⟩ (by simp; omega) (by simp [invNm, am, List.replicate]) LLLe.rfl OLe.rfl
      simp only [namedQ, List.take_succ_eq_append_getElem hlt, List.all_append, Bool.and_eq_true] at ha ⊢
      exact ⟨ha, by simp [hr]⟩
  · have : i = l.length := by omega
    subst this
    rw [List.take_length] at ha
    simp only [am, amo, amc, Nat.reduceAdd, Nat.reduceEqDiff, encs_length, List.length_map, decide_true, decide_false, Tree.rec_, Nd.rec_, Word.rec_, nd_len, nd_one, Int.reduceEq, Int.reduceLT, Int.reduceLE, Nat.reduceLT, Int.reduceToNat, Nat.reduceMul, encT_length, cfl, cfo, cfv, decide_eq_false (show ¬ (l.length : Int) < l.length by omega)]
    refine retK_intro rfl (Store.sub_refl _) ⟨?_, rfl⟩
    simp [V.erase, eraseL, ha]
theorem nameQ_calls (c : Cmd) {σ : Store} (hg : σ.box 0 = some formCells) : PCalls prog 29 [.agg c.enc] σ fun v σ' => v = .bool c.nameQ ∧ σ' = σ := by
  refine fn29.calls ?_
  simp only [slots, ac29, am, amo, amc, ams, Nat.reduceAdd, Nat.reduceEqDiff, decide_true, decide_false, Tree.rec_, Nd.rec_, Word.rec_, nd_len, nd_one, Int.reduceEq, Int.reduceLT, Int.reduceLE, Nat.reduceLT, Int.reduceToNat, Nat.reduceMul, encT_length, cfl, cfo, cfv]
  have h := fun (σ : Store) (hg : σ.box 0 = some formCells) => count_calls c.op 110 hg
  refine (h σ hg).mono ?_
  rintro v σ ⟨rfl, rfl⟩
  simp only [am, amo, amc, Nat.reduceAdd, Nat.reduceEqDiff, encs_length, List.length_map, decide_true, decide_false, Tree.rec_, Nd.rec_, Word.rec_, nd_len, nd_one, Int.reduceEq, Int.reduceLT, Int.reduceLE, Nat.reduceLT, Int.reduceToNat, Nat.reduceMul, encT_length, cfl, cfo, cfv]
  by_cases h0 : cntN c.op 110 = 0
  · simp only [am, amo, amc, Nat.reduceAdd, Nat.reduceEqDiff, encs_length, List.length_map, decide_true, decide_false, Tree.rec_, Nd.rec_, Word.rec_, nd_len, nd_one, Int.reduceEq, Int.reduceLT, Int.reduceLE, Nat.reduceLT, Int.reduceToNat, Nat.reduceMul, encT_length, cfl, cfo, cfv, decide_eq_true (show ((cntN c.op 110 : Nat) : Int) = 0 by omega)]
    refine retK_intro rfl (Store.sub_refl _) ⟨?_, rfl⟩
    simp [V.erase, eraseL, Cmd.nameQ, h0]
  · simp only [am, amo, amc, Nat.reduceAdd, Nat.reduceEqDiff, encs_length, List.length_map, decide_true, decide_false, Tree.rec_, Nd.rec_, Word.rec_, nd_len, nd_one, Int.reduceEq, Int.reduceLT, Int.reduceLE, Nat.reduceLT, Int.reduceToNat, Nat.reduceMul, encT_length, cfl, cfo, cfv, decide_eq_false (show ¬ ((cntN c.op 110 : Nat) : Int) = 0 by omega)]
    refine (right_calls c.name.text σ).mono ?_
    rintro v σ ⟨rfl, rfl⟩
    simp only [am, amo, amc, Nat.reduceAdd, Nat.reduceEqDiff, encs_length, List.length_map, decide_true, decide_false, Tree.rec_, Nd.rec_, Word.rec_, nd_len, nd_one, Int.reduceEq, Int.reduceLT, Int.reduceLE, Nat.reduceLT, Int.reduceToNat, Nat.reduceMul, encT_length, cfl, cfo, cfv]
    refine retK_intro rfl (Store.sub_refl _) ⟨?_, rfl⟩
    simp [V.erase, eraseL, Cmd.nameQ, h0]
theorem namesQ_calls (c : Cmd) {σ : Store} (hg : σ.box 0 = some formCells) (hn : c.names.length + 1 ≤ big) : PCalls prog 30 [.agg c.enc] σ fun v σ' => v = .bool c.namesQ ∧ σ' = σ := by
  have hnl : (c.names.map Word.text).length ≤ big := by rw [List.length_map]; omega
  have h := fun (σ : Store) (hg : σ.box 0 = some formCells) => count_calls c.op 119 hg
  have h' := fun (σ : Store) (hg : σ.box 0 = some formCells) => count_calls c.op 102 hg
  refine fn30.calls ?_
  simp only [slots, ac30, am, amo, amc, ams, Nat.reduceAdd, Nat.reduceEqDiff, decide_true, decide_false, Tree.rec_, Nd.rec_, Word.rec_, nd_len, nd_one, Int.reduceEq, Int.reduceLT, Int.reduceLE, Nat.reduceLT, Int.reduceToNat, Nat.reduceMul, encT_length, cfl, cfo, cfv]
  refine (h σ hg).mono ?_
  rintro v σ ⟨rfl, rfl⟩
  simp only [am, amo, amc, Nat.reduceAdd, Nat.reduceEqDiff, encs_length, List.length_map, decide_true, decide_false, Tree.rec_, Nd.rec_, Word.rec_, nd_len, nd_one, Int.reduceEq, Int.reduceLT, Int.reduceLE, Nat.reduceLT, Int.reduceToNat, Nat.reduceMul, encT_length, cfl, cfo, cfv]
  by_cases h0 : 0 < cntN c.op 119
  · simp only [am, amo, amc, Nat.reduceAdd, Nat.reduceEqDiff, encs_length, List.length_map, decide_true, decide_false, Tree.rec_, Nd.rec_, Word.rec_, nd_len, nd_one, Int.reduceEq, Int.reduceLT, Int.reduceLE, Nat.reduceLT, Int.reduceToNat, Nat.reduceMul, encT_length, cfl, cfo, cfv, decide_eq_true (show (0 : Int) < ((cntN c.op 119 : Nat) : Int) by omega), List.length_map]
    by_cases h1 : 0 < c.names.length
    · simp only [am, amo, amc, Nat.reduceAdd, Nat.reduceEqDiff, encs_length, List.length_map, decide_true, decide_false, Tree.rec_, Nd.rec_, Word.rec_, nd_len, nd_one, Int.reduceEq, Int.reduceLT, Int.reduceLE, Nat.reduceLT, Int.reduceToNat, Nat.reduceMul, encT_length, cfl, cfo, cfv, decide_eq_true (show (0 : Int) < ((c.names.length : Nat) : Int) by omega)]
      refine (texts_calls c.names σ hn).mono ?_
      rintro v σ ⟨rfl, rfl⟩
      simp only [am, amo, amc, Nat.reduceAdd, Nat.reduceEqDiff, encs_length, List.length_map, decide_true, decide_false, Tree.rec_, Nd.rec_, Word.rec_, nd_len, nd_one, Int.reduceEq, Int.reduceLT, Int.reduceLE, Nat.reduceLT, Int.reduceToNat, Nat.reduceMul, encT_length, cfl, cfo, cfv]
      refine (named_calls (c.names.map Word.text) σ hnl).mono ?_
      rintro v σ ⟨rfl, rfl⟩
      simp only [am, amo, amc, Nat.reduceAdd, Nat.reduceEqDiff, encs_length, List.length_map, decide_true, decide_false, Tree.rec_, Nd.rec_, Word.rec_, nd_len, nd_one, Int.reduceEq, Int.reduceLT, Int.reduceLE, Nat.reduceLT, Int.reduceToNat, Nat.reduceMul, encT_length, cfl, cfo, cfv]
      refine retK_intro rfl (Store.sub_refl _) ⟨?_, rfl⟩
      simp [V.erase, eraseL, Cmd.namesQ, h0, h1]
    · simp only [am, amo, amc, Nat.reduceAdd, Nat.reduceEqDiff, encs_length, List.length_map, decide_true, decide_false, Tree.rec_, Nd.rec_, Word.rec_, nd_len, nd_one, Int.reduceEq, Int.reduceLT, Int.reduceLE, Nat.reduceLT, Int.reduceToNat, Nat.reduceMul, encT_length, cfl, cfo, cfv, decide_eq_false (show ¬ (0 : Int) < ((c.names.length : Nat) : Int) by omega)]
      refine retK_intro rfl (Store.sub_refl _) ⟨?_, rfl⟩
      simp [V.erase, eraseL, Cmd.namesQ, h0, h1]
  · simp only [am, amo, amc, Nat.reduceAdd, Nat.reduceEqDiff, encs_length, List.length_map, decide_true, decide_false, Tree.rec_, Nd.rec_, Word.rec_, nd_len, nd_one, Int.reduceEq, Int.reduceLT, Int.reduceLE, Nat.reduceLT, Int.reduceToNat, Nat.reduceMul, encT_length, cfl, cfo, cfv, decide_eq_false (show ¬ (0 : Int) < ((cntN c.op 119 : Nat) : Int) by omega)]
    refine (h' σ hg).mono ?_
    rintro v σ ⟨rfl, rfl⟩
    simp only [am, amo, amc, Nat.reduceAdd, Nat.reduceEqDiff, encs_length, List.length_map, decide_true, decide_false, Tree.rec_, Nd.rec_, Word.rec_, nd_len, nd_one, Int.reduceEq, Int.reduceLT, Int.reduceLE, Nat.reduceLT, Int.reduceToNat, Nat.reduceMul, encT_length, cfl, cfo, cfv]
    by_cases h2 : 0 < cntN c.op 102
    · simp only [am, amo, amc, Nat.reduceAdd, Nat.reduceEqDiff, encs_length, List.length_map, decide_true, decide_false, Tree.rec_, Nd.rec_, Word.rec_, nd_len, nd_one, Int.reduceEq, Int.reduceLT, Int.reduceLE, Nat.reduceLT, Int.reduceToNat, Nat.reduceMul, encT_length, cfl, cfo, cfv, decide_eq_true (show (0 : Int) < ((cntN c.op 102 : Nat) : Int) by omega), List.length_map]
      by_cases h1 : c.names.length = 1
      · simp only [am, amo, amc, Nat.reduceAdd, Nat.reduceEqDiff, encs_length, List.length_map, decide_true, decide_false, Tree.rec_, Nd.rec_, Word.rec_, nd_len, nd_one, Int.reduceEq, Int.reduceLT, Int.reduceLE, Nat.reduceLT, Int.reduceToNat, Nat.reduceMul, encT_length, cfl, cfo, cfv, decide_eq_true (show ((c.names.length : Nat) : Int) = 1 by omega)]
        refine (texts_calls c.names σ hn).mono ?_
        rintro v σ ⟨rfl, rfl⟩
        simp only [am, amo, amc, Nat.reduceAdd, Nat.reduceEqDiff, encs_length, List.length_map, decide_true, decide_false, Tree.rec_, Nd.rec_, Word.rec_, nd_len, nd_one, Int.reduceEq, Int.reduceLT, Int.reduceLE, Nat.reduceLT, Int.reduceToNat, Nat.reduceMul, encT_length, cfl, cfo, cfv]
        refine (named_calls (c.names.map Word.text) σ hnl).mono ?_
        rintro v σ ⟨rfl, rfl⟩
        simp only [am, amo, amc, Nat.reduceAdd, Nat.reduceEqDiff, encs_length, List.length_map, decide_true, decide_false, Tree.rec_, Nd.rec_, Word.rec_, nd_len, nd_one, Int.reduceEq, Int.reduceLT, Int.reduceLE, Nat.reduceLT, Int.reduceToNat, Nat.reduceMul, encT_length, cfl, cfo, cfv]
        refine retK_intro rfl (Store.sub_refl _) ⟨?_, rfl⟩
        simp [V.erase, eraseL, Cmd.namesQ, h0, h1, h2]
      · simp only [am, amo, amc, Nat.reduceAdd, Nat.reduceEqDiff, encs_length, List.length_map, decide_true, decide_false, Tree.rec_, Nd.rec_, Word.rec_, nd_len, nd_one, Int.reduceEq, Int.reduceLT, Int.reduceLE, Nat.reduceLT, Int.reduceToNat, Nat.reduceMul, encT_length, cfl, cfo, cfv, decide_eq_false (show ¬ ((c.names.length : Nat) : Int) = 1 by omega)]
        refine retK_intro rfl (Store.sub_refl _) ⟨?_, rfl⟩
        simp [V.erase, eraseL, Cmd.namesQ, h0, h1, h2]
    · simp only [am, amo, amc, Nat.reduceAdd, Nat.reduceEqDiff, encs_length, List.length_map, decide_true, decide_false, Tree.rec_, Nd.rec_, Word.rec_, nd_len, nd_one, Int.reduceEq, Int.reduceLT, Int.reduceLE, Nat.reduceLT, Int.reduceToNat, Nat.reduceMul, encT_length, cfl, cfo, cfv, decide_eq_false (show ¬ (0 : Int) < ((cntN c.op 102 : Nat) : Int) by omega), List.length_map]
      have he : decide (((c.names.length : Nat) : Int) = 0) = decide (c.names.length = 0) := by simp
      refine retK_intro rfl (Store.sub_refl _) ⟨?_, rfl⟩
      simp [V.erase, eraseL, Cmd.namesQ, h0, h2, he]
end Go.Proofs.Tryz

namespace Go.Proofs.Tryz
open Go.Am
set_option maxRecDepth 4000
set_option maxHeartbeats 4000000
def ac10 : AC := .seq (.reg [⟨(some 1), .box 17 (.s 0), none⟩, ⟨(some 2), .mv (.c (.bool false)), none⟩])
 (.seq (.seq (.reg [xf 0 3 1, xo 4 3, xB .lss 5 4 0, xm 6 5, xh 6 (xf 0 7 1), xh 6 (xo 8 7), xh 6 (xB .gtr 9 8 15), ⟨(some 10), .pick (.s 6) (.c (.bool true)) (.s 9), none⟩])
 (.cond (.s 10) (.seq (.reg [⟨(some 2), .mv (.c (.bool false)), none⟩])
 (.ret))
 (.skip)))
 (.seq (.reg [xl 17 11 1, xc 29 12 [.s 11], xm 13 12, xg 13 (xl 17 14 1), xg 13 (xc 30 15 [.s 14]), ⟨(some 16), .pick (.s 13) (.s 15) (.c (.bool false)), none⟩, xm 17 16, xg 17 (xl 17 18 1), xg 17 (xc 31 19 [.s 18]), ⟨(some 20), .pick (.s 17) (.s 19) (.c (.bool false)), none⟩, xm 21 20, xg 21 (xl 17 22 1), xg 21 (xc 32 23 [.s 22]), ⟨(some 24), .pick (.s 21) (.s 23) (.c (.bool false)), none⟩, xm 2 24])
 (.ret)))
theorem fn10 : IsFn prog 10 ac10 [.tmp 2] 25 := ⟨f10, ⟨[], []⟩, func10, by kernel_rfl, by kernel_rfl, by kernel_rfl, by kernel_rfl⟩
def ac31 : AC := .seq (.reg [⟨(some 1), .box 17 (.s 0), none⟩, ⟨(some 2), .mv (.c (.bool false)), none⟩])
 (.seq (.seq (.reg [xf 0 5 1, xo 6 5, xc 53 7 [.s 6, .c (.int .i32 112)], xB .eql 8 7 0])
 (.cond (.s 8) (.seq (.reg [xf 5 9 1, xo 10 9, xL 11 10, xB .eql 12 11 0, xm 2 12])
 (.ret))
 (.skip)))
 (.seq (.seq (.reg [xf 5 13 1, xo 14 13, xL 15 14, xi 16 0])
 (.block 0 (.loop (.seq (.reg [xb .lss 17 16 15])
 (.seq (.cond (.s 17) (.skip)
 (.exit 0))
 (.seq (.block 1 (.seq (.reg [xA 4 18 14 16, xl 4 19 18, ⟨(some 4), .alloc [(.str []), (.int .i64 0), (.str []), (.int .i64 0)], none⟩, xs 4 4 19])
 (.seq (.reg [⟨(some 20), .idxP 2 2 (.s 4) (.c (.int .i64 0)), none⟩, xf 0 21 20, xo 22 21, xc 54 23 [.s 22], ⟨(some 24), .not (.s 23), none⟩, xm 25 24, ⟨(some 26), .idxP 2 2 (.s 4) (.c (.int .i64 1)), (some (25, false))⟩, xh 25 (xf 0 27 26), xh 25 (xo 28 27), xh 25 (xc 54 29 [.s 28]), ⟨(some 30), .not (.s 29), (some (25, false))⟩, ⟨(some 31), .pick (.s 25) (.c (.bool true)) (.s 30), none⟩])
 (.cond (.s 31) (.seq (.reg [⟨(some 2), .mv (.c (.bool false)), none⟩])
 (.ret))
 (.skip)))))
 (.reg [xB .add 32 16 1, xm 16 32])))))))
 (.seq (.reg [⟨(some 2), .mv (.c (.bool true)), none⟩])
 (.ret))))
theorem fn31 : IsFn prog 31 ac31 [.tmp 2] 33 := ⟨f31, ⟨[], []⟩, func31, by kernel_rfl, by kernel_rfl, by kernel_rfl, by kernel_rfl⟩
def ac32 : AC := .seq (.reg [⟨(some 1), .box 17 (.s 0), none⟩, ⟨(some 2), .mv (.c (.bool false)), none⟩])
 (.seq (.seq (.reg [xf 0 3 1, xo 4 3, xc 53 5 [.s 4, .c (.int .i32 116)], xB .gtr 6 5 0])
 (.cond (.s 6) (.seq (.reg [xf 7 7 1, xl 5 8 7, xc 56 9 [.s 8], xm 10 9, xg 10 (xf 12 11 1), xg 10 (xl 5 12 11), xg 10 (xc 56 13 [.s 12]), ⟨(some 14), .pick (.s 10) (.s 13) (.c (.bool false)), none⟩, xm 2 14])
 (.ret))
 (.skip)))
 (.seq (.seq (.reg [xf 0 15 1, xo 16 15, xc 53 17 [.s 16, .c (.int .i32 114)], xB .gtr 18 17 0])
 (.cond (.s 18) (.seq (.reg [xf 7 19 1, xl 5 20 19, xc 57 21 [.s 20], xm 22 21, xg 22 (xf 12 23 1), xg 22 (xl 5 24 23), xg 22 (xc 57 25 [.s 24]), ⟨(some 26), .pick (.s 22) (.s 25) (.c (.bool false)), none⟩, xm 2 26])
 (.ret))
 (.skip)))
 (.seq (.reg [xf 7 27 1, xl 5 28 27, ⟨(some 29), .build [(.int .i64 0), (.int .i64 0), (.str []), (.sl .full 2 []), (.sl .full 5 [])] [], none⟩, xc 27 30 [.s 28, .s 29], xm 31 30, xg 31 (xf 12 32 1), xg 31 (xl 5 33 32), ⟨(some 34), .build [(.int .i64 0), (.int .i64 0), (.str []), (.sl .full 2 []), (.sl .full 5 [])] [], (some (31, true))⟩, xg 31 (xc 27 35 [.s 33, .s 34]), ⟨(some 36), .pick (.s 31) (.s 35) (.c (.bool false)), none⟩, xm 2 36])
 (.ret))))
theorem fn32 : IsFn prog 32 ac32 [.tmp 2] 37 := ⟨f32, ⟨[], []⟩, func32, by kernel_rfl, by kernel_rfl, by kernel_rfl, by kernel_rfl⟩
def invPq (c : Cmd) (σ : Store) (i : Nat) : St :=
  ⟨[.any, .ptr (.loc 0) 0] ++ List.replicate 12 .any ++ [.sl .no 4 (c.pairs.map penc), .int .i64 c.pairs.length, .int .i64 (i : Nat)] ++ List.replicate 16 .any, [c.enc], σ⟩
theorem pairsQ_calls (c : Cmd) {σ : Store} (hg : σ.box 0 = some formCells) (hn : c.pairs.length + 1 ≤ big) : PCalls prog 31 [.agg c.enc] σ fun v σ' => v = .bool c.pairsQ ∧ σ' = σ := by
  have h := fun (σ : Store) (hg : σ.box 0 = some formCells) => count_calls c.op 112 hg
  simp only [big] at hn
  refine fn31.calls ?_
  simp only [slots, ac31, am, amo, amc, ams, Nat.reduceAdd, Nat.reduceEqDiff, decide_true, decide_false, Tree.rec_, Nd.rec_, Word.rec_, nd_len, nd_one, Int.reduceEq, Int.reduceLT, Int.reduceLE, Nat.reduceLT, Int.reduceToNat, Nat.reduceMul, encT_length, cfl, cfo, cfv, List.length_map, penc_tk]
  refine (h σ hg).mono ?_
  rintro v σ ⟨rfl, rfl⟩
  simp only [am, amo, amc, Nat.reduceAdd, Nat.reduceEqDiff, encs_length, List.length_map, decide_true, decide_false, Tree.rec_, Nd.rec_, Word.rec_, nd_len, nd_one, Int.reduceEq, Int.reduceLT, Int.reduceLE, Nat.reduceLT, Int.reduceToNat, Nat.reduceMul, encT_length, cfl, cfo, cfv, List.length_map, penc_tk]
  by_cases h0 : cntN c.op 112 = 0
  · simp only [am, amo, amc, Nat.reduceAdd, Nat.reduceEqDiff, encs_length, List.length_map, decide_true, decide_false, Tree.rec_, Nd.rec_, Word.rec_, nd_len, nd_one, Int.reduceEq, Int.reduceLT, Int.reduceLE, Nat.reduceLT, Int.reduceToNat, Nat.reduceMul, encT_length, cfl, cfo, cfv, List.length_map, penc_tk, decide_eq_true (show ((cntN c.op 112 : Nat) : Int) = 0 by omega)]
    have he : decide (((c.pairs.length : Nat) : Int) = 0) = decide (c.pairs.length = 0) := by simp
    refine retK_intro rfl (Store.sub_refl _) ⟨?_, rfl⟩
    simp [V.erase, eraseL, Cmd.pairsQ, h0, he]
  simp only [am, amo, amc, Nat.reduceAdd, Nat.reduceEqDiff, encs_length, List.length_map, decide_true, decide_false, Tree.rec_, Nd.rec_, Word.rec_, nd_len, nd_one, Int.reduceEq, Int.reduceLT, Int.reduceLE, Nat.reduceLT, Int.reduceToNat, Nat.reduceMul, encT_length, cfl, cfo, cfv, List.length_map, penc_tk, decide_eq_false (show ¬ ((cntN c.op 112 : Nat) : Int) = 0 by omega)]
  have hq : c.pairsQ = c.pairs.all pairQ := by unfold Cmd.pairsQ; rw [if_neg h0]
  refine vc_loop (fun p : { i : Nat // i ≤ c.pairs.length ∧ (c.pairs.take i).all pairQ = true } => invPq c σ p.1) (fun p => c.pairs.length - p.1) ?_ ?_
  · refine Upd.enter ⟨0, by simp, by simp⟩ ?_ LLLe.rfl OLe.rfl
    simp [invPq, List.replicate, am]
  rintro ⟨i, hi, ha⟩
  simp only [invPq, List.replicate, am]
  by_cases hlt : i < c.pairs.length
  · simp only [am, amo, amc, Nat.reduceAdd, Nat.reduceEqDiff, encs_length, List.length_map, decide_true, decide_false, Tree.rec_, Nd.rec_, Word.rec_, nd_len, nd_one, Int.reduceEq, Int.reduceLT, Int.reduceLE, Nat.reduceLT, Int.reduceToNat, Nat.reduceMul, encT_length, cfl, cfo, cfv, List.length_map, penc_tk, decide_eq_true (show (i : Int) < c.pairs.length by omega)]
    refine idxL_intro (by omega) (pencs_at (List.getElem?_eq_getElem hlt)) ?_
    simp only [am, amo, amc, Nat.reduceAdd, Nat.reduceEqDiff, encs_length, List.length_map, decide_true, decide_false, Tree.rec_, Nd.rec_, Word.rec_, nd_len, nd_one, Int.reduceEq, Int.reduceLT, Int.reduceLE, Nat.reduceLT, Int.reduceToNat, Nat.reduceMul, encT_length, cfl, cfo, cfv, List.length_map, penc_tk, penc]
    refine idxPL_ptr (by omega) (by omega) ?_
    simp only [am, amo, amc, Nat.reduceAdd, Nat.reduceEqDiff, encs_length, List.length_map, decide_true, decide_false, Tree.rec_, Nd.rec_, Word.rec_, nd_len, nd_one, Int.reduceEq, Int.reduceLT, Int.reduceLE, Nat.reduceLT, Int.reduceToNat, Nat.reduceMul, encT_length, cfl, cfo, cfv, List.length_map, penc_tk]
    refine (right_calls c.pairs[i].1.text σ).mono ?_
    rintro v σ ⟨rfl, rfl⟩
    have hno : pairQ c.pairs[i] = false → c.pairsQ = false := fun hf => by
      rw [hq, List.all_eq_false]
      exact ⟨c.pairs[i], List.getElem_mem hlt, by simp [hf]⟩
    cases hr : nameR c.pairs[i].1.text
    · simp only [am, amo, amc, Nat.reduceAdd, Nat.reduceEqDiff, encs_length, List.length_map, decide_true, decide_false, Tree.rec_, Nd.rec_, Word.rec_, nd_len, nd_one, Int.reduceEq, Int.reduceLT, Int.reduceLE, Nat.reduceLT, Int.reduceToNat, Nat.reduceMul, encT_length, cfl, cfo, cfv, List.length_map, penc_tk]
      refine retK_intro rfl (Store.sub_refl _) ⟨?_, rfl⟩
      simp [V.erase, eraseL, hno (by simp [pairQ, hr])]
    · simp only [am, amo, amc, Nat.reduceAdd, Nat.reduceEqDiff, encs_length, List.length_map, decide_true, decide_false, Tree.rec_, Nd.rec_, Word.rec_, nd_len, nd_one, Int.reduceEq, Int.reduceLT, Int.reduceLE, Nat.reduceLT, Int.reduceToNat, Nat.reduceMul, encT_length, cfl, cfo, cfv, List.length_map, penc_tk]
      refine idxPL_ptr (by omega) (by omega) ?_
      simp only [am, amo, amc, Nat.reduceAdd, Nat.reduceEqDiff, encs_length, List.length_map, decide_true, decide_false, Tree.rec_, Nd.rec_, Word.rec_, nd_len, nd_one, Int.reduceEq, Int.reduceLT, Int.reduceLE, Nat.reduceLT, Int.reduceToNat, Nat.reduceMul, encT_length, cfl, cfo, cfv, List.length_map, penc_tk]
      refine (right_calls c.pairs[i].2.text σ).mono ?_
      rintro v σ ⟨rfl, rfl⟩
      cases hr2 : nameR c.pairs[i].2.text
      · simp only [am, amo, amc, Nat.reduceAdd, Nat.reduceEqDiff, encs_length, List.length_map, decide_true, decide_false, Tree.rec_, Nd.rec_, Word.rec_, nd_len, nd_one, Int.reduceEq, Int.reduceLT, Int.reduceLE, Nat.reduceLT, Int.reduceToNat, Nat.reduceMul, encT_length, cfl, cfo, cfv, List.length_map, penc_tk]
        refine retK_intro rfl (Store.sub_refl _) ⟨?_, rfl⟩
        simp [V.erase, eraseL, hno (by simp [pairQ, hr2])]
      · simp only [am, amo, amc, Nat.reduceAdd, Nat.reduceEqDiff, encs_length, List.length_map, decide_true, decide_false, Tree.rec_, Nd.rec_, Word.rec_, nd_len, nd_one, Int.reduceEq, Int.reduceLT, Int.reduceLE, Nat.reduceLT, Int.reduceToNat, Nat.reduceMul, encT_length, cfl, cfo, cfv, List.length_map, penc_tk]
        rw [wrap_i64 (by omega) (by omega)]
        refine Upd.againD (I := fun p : { i : Nat // i ≤ c.pairs.length ∧ (c.pairs.take i).all pairQ = true } => invPq c σ p.1) (μ := fun p => c.pairs.length - p.1) ⟨i + 1, hlt, ?_⟩ (by simp; omega) (by simp [invPq, am, List.replicate]) (by simp [invPq, am]) OLe.rfl (by simp [invPq, List.replicate, loL, V.lo]) (by simp [invPq, Cmd.enc, Cmd.encP, Nd.enc_eq, loLL, loL, V.lo])
        rw [List.take_succ_eq_append_getElem hlt, List.all_append, ha]
        simp [pairQ, hr, hr2]
  · have : i = c.pairs.length := by omega
    subst this
    rw [List.take_length] at ha
    simp only [am, amo, amc, Nat.reduceAdd, Nat.reduceEqDiff, encs_length, List.length_map, decide_true, decide_false, Tree.rec_, Nd.rec_, Word.rec_, nd_len, nd_one, Int.reduceEq, Int.reduceLT, Int.reduceLE, Nat.reduceLT, Int.reduceToNat, Nat.reduceMul, encT_length, cfl, cfo, cfv, List.length_map, penc_tk, decide_eq_false (show ¬ (c.pairs.length : Int) < c.pairs.length by omega)]
    refine retK_intro rfl (Store.sub_refl _) ⟨?_, rfl⟩
    simp [V.erase, eraseL, hq, ha]
theorem zero_nd_enc : [V.int .i64 0, .int .i64 0, .str [], .sl .full 2 [], .sl .full 5 []].map V.erase = Nd.zero.enc := by rw [Nd.enc_eq]; rfl
theorem same_zero (n : Nd) (σ : Store) (hw : n.wt ≤ big) : PCalls prog 27 [.agg n.enc, .agg [.int .i64 0, .int .i64 0, .str [], .sl .full 2 [], .sl .full 5 []]] σ fun v σ' => v = .bool (n.sameQ .zero) ∧ σ' = σ := by
  refine PCalls.weak (same24_calls _ n .zero σ (Nat.le_refl _) hw) ?_ OLe.rfl
  simp only [LLe, VLe.rfl, and_true, true_and]
  rw [← zero_nd_enc]
  exact VLe.erase (v := .agg [.int .i64 0, .int .i64 0, .str [], .sl .full 2 [], .sl .full 5 []])
theorem termsQ_calls (c : Cmd) {σ : Store} (hg : σ.box 0 = some formCells) (hl : c.left.wt ≤ big) (hr : c.right.wt ≤ big) : PCalls prog 32 [.agg c.enc] σ fun v σ' => v = .bool c.termsQ ∧ σ' = σ := by
  have h := fun (σ : Store) (hg : σ.box 0 = some formCells) => count_calls c.op 116 hg
  have h' := fun (σ : Store) (hg : σ.box 0 = some formCells) => count_calls c.op 114 hg
  refine fn32.calls ?_
  simp only [slots, ac32, am, amo, amc, ams, Nat.reduceAdd, Nat.reduceEqDiff, decide_true, decide_false, Tree.rec_, Nd.rec_, Word.rec_, nd_len, nd_one, Int.reduceEq, Int.reduceLT, Int.reduceLE, Nat.reduceLT, Int.reduceToNat, Nat.reduceMul, encT_length, cfl, cfo, cfv, List.length_map, penc_tk]
  refine (h σ hg).mono ?_
  rintro v σ ⟨rfl, rfl⟩
  simp only [am, amo, amc, Nat.reduceAdd, Nat.reduceEqDiff, encs_length, List.length_map, decide_true, decide_false, Tree.rec_, Nd.rec_, Word.rec_, nd_len, nd_one, Int.reduceEq, Int.reduceLT, Int.reduceLE, Nat.reduceLT, Int.reduceToNat, Nat.reduceMul, encT_length, cfl, cfo, cfv, List.length_map, penc_tk]
  by_cases h0 : 0 < cntN c.op 116
  · simp only [am, amo, amc, Nat.reduceAdd, Nat.reduceEqDiff, encs_length, List.length_map, decide_true, decide_false, Tree.rec_, Nd.rec_, Word.rec_, nd_len, nd_one, Int.reduceEq, Int.reduceLT, Int.reduceLE, Nat.reduceLT, Int.reduceToNat, Nat.reduceMul, encT_length, cfl, cfo, cfv, List.length_map, penc_tk, decide_eq_true (show (0 : Int) < ((cntN c.op 116 : Nat) : Int) by omega)]
    refine (label_is_calls _ c.left σ (Nat.le_refl _) hl).mono ?_
    rintro v σ ⟨rfl, rfl⟩
    cases hq : c.left.labelQ
    · simp only [am, amo, amc, Nat.reduceAdd, Nat.reduceEqDiff, encs_length, List.length_map, decide_true, decide_false, Tree.rec_, Nd.rec_, Word.rec_, nd_len, nd_one, Int.reduceEq, Int.reduceLT, Int.reduceLE, Nat.reduceLT, Int.reduceToNat, Nat.reduceMul, encT_length, cfl, cfo, cfv, List.length_map, penc_tk]
      refine retK_intro rfl (Store.sub_refl _) ⟨?_, rfl⟩
      simp [V.erase, eraseL, Cmd.termsQ, h0, hq]
    · simp only [am, amo, amc, Nat.reduceAdd, Nat.reduceEqDiff, encs_length, List.length_map, decide_true, decide_false, Tree.rec_, Nd.rec_, Word.rec_, nd_len, nd_one, Int.reduceEq, Int.reduceLT, Int.reduceLE, Nat.reduceLT, Int.reduceToNat, Nat.reduceMul, encT_length, cfl, cfo, cfv, List.length_map, penc_tk]
      refine (label_is_calls _ c.right σ (Nat.le_refl _) hr).mono ?_
      rintro v σ ⟨rfl, rfl⟩
      simp only [am, amo, amc, Nat.reduceAdd, Nat.reduceEqDiff, encs_length, List.length_map, decide_true, decide_false, Tree.rec_, Nd.rec_, Word.rec_, nd_len, nd_one, Int.reduceEq, Int.reduceLT, Int.reduceLE, Nat.reduceLT, Int.reduceToNat, Nat.reduceMul, encT_length, cfl, cfo, cfv, List.length_map, penc_tk]
      refine retK_intro rfl (Store.sub_refl _) ⟨?_, rfl⟩
      simp [V.erase, eraseL, Cmd.termsQ, h0, hq]
  simp only [am, amo, amc, Nat.reduceAdd, Nat.reduceEqDiff, encs_length, List.length_map, decide_true, decide_false, Tree.rec_, Nd.rec_, Word.rec_, nd_len, nd_one, Int.reduceEq, Int.reduceLT, Int.reduceLE, Nat.reduceLT, Int.reduceToNat, Nat.reduceMul, encT_length, cfl, cfo, cfv, List.length_map, penc_tk, decide_eq_false (show ¬ (0 : Int) < ((cntN c.op 116 : Nat) : Int) by omega)]
  refine (h' σ hg).mono ?_
  rintro v σ ⟨rfl, rfl⟩
  simp only [am, amo, amc, Nat.reduceAdd, Nat.reduceEqDiff, encs_length, List.length_map, decide_true, decide_false, Tree.rec_, Nd.rec_, Word.rec_, nd_len, nd_one, Int.reduceEq, Int.reduceLT, Int.reduceLE, Nat.reduceLT, Int.reduceToNat, Nat.reduceMul, encT_length, cfl, cfo, cfv, List.length_map, penc_tk]
  by_cases h2 : 0 < cntN c.op 114
  · simp only [am, amo, amc, Nat.reduceAdd, Nat.reduceEqDiff, encs_length, List.length_map, decide_true, decide_false, Tree.rec_, Nd.rec_, Word.rec_, nd_len, nd_one, Int.reduceEq, Int.reduceLT, Int.reduceLE, Nat.reduceLT, Int.reduceToNat, Nat.reduceMul, encT_length, cfl, cfo, cfv, List.length_map, penc_tk, decide_eq_true (show (0 : Int) < ((cntN c.op 114 : Nat) : Int) by omega)]
    refine (row_is_calls c.left σ hl).mono ?_
    rintro v σ ⟨rfl, rfl⟩
    cases hq : c.left.rowQ
    · simp only [am, amo, amc, Nat.reduceAdd, Nat.reduceEqDiff, encs_length, List.length_map, decide_true, decide_false, Tree.rec_, Nd.rec_, Word.rec_, nd_len, nd_one, Int.reduceEq, Int.reduceLT, Int.reduceLE, Nat.reduceLT, Int.reduceToNat, Nat.reduceMul, encT_length, cfl, cfo, cfv, List.length_map, penc_tk]
      refine retK_intro rfl (Store.sub_refl _) ⟨?_, rfl⟩
      simp [V.erase, eraseL, Cmd.termsQ, h0, h2, hq]
    · simp only [am, amo, amc, Nat.reduceAdd, Nat.reduceEqDiff, encs_length, List.length_map, decide_true, decide_false, Tree.rec_, Nd.rec_, Word.rec_, nd_len, nd_one, Int.reduceEq, Int.reduceLT, Int.reduceLE, Nat.reduceLT, Int.reduceToNat, Nat.reduceMul, encT_length, cfl, cfo, cfv, List.length_map, penc_tk]
      refine (row_is_calls c.right σ hr).mono ?_
      rintro v σ ⟨rfl, rfl⟩
      simp only [am, amo, amc, Nat.reduceAdd, Nat.reduceEqDiff, encs_length, List.length_map, decide_true, decide_false, Tree.rec_, Nd.rec_, Word.rec_, nd_len, nd_one, Int.reduceEq, Int.reduceLT, Int.reduceLE, Nat.reduceLT, Int.reduceToNat, Nat.reduceMul, encT_length, cfl, cfo, cfv, List.length_map, penc_tk]
      refine retK_intro rfl (Store.sub_refl _) ⟨?_, rfl⟩
      simp [V.erase, eraseL, Cmd.termsQ, h0, h2, hq]
  simp only [am, amo, amc, Nat.reduceAdd, Nat.reduceEqDiff, encs_length, List.length_map, decide_true, decide_false, Tree.rec_, Nd.rec_, Word.rec_, nd_len, nd_one, Int.reduceEq, Int.reduceLT, Int.reduceLE, Nat.reduceLT, Int.reduceToNat, Nat.reduceMul, encT_length, cfl, cfo, cfv, List.length_map, penc_tk, decide_eq_false (show ¬ (0 : Int) < ((cntN c.op 114 : Nat) : Int) by omega)]
  refine (same_zero c.left σ hl).mono ?_
  rintro v σ ⟨rfl, rfl⟩
  cases hq : c.left.sameQ .zero
  · simp only [am, amo, amc, Nat.reduceAdd, Nat.reduceEqDiff, encs_length, List.length_map, decide_true, decide_false, Tree.rec_, Nd.rec_, Word.rec_, nd_len, nd_one, Int.reduceEq, Int.reduceLT, Int.reduceLE, Nat.reduceLT, Int.reduceToNat, Nat.reduceMul, encT_length, cfl, cfo, cfv, List.length_map, penc_tk]
    refine retK_intro rfl (Store.sub_refl _) ⟨?_, rfl⟩
    simp [V.erase, eraseL, Cmd.termsQ, h0, h2, hq]
  · simp only [am, amo, amc, Nat.reduceAdd, Nat.reduceEqDiff, encs_length, List.length_map, decide_true, decide_false, Tree.rec_, Nd.rec_, Word.rec_, nd_len, nd_one, Int.reduceEq, Int.reduceLT, Int.reduceLE, Nat.reduceLT, Int.reduceToNat, Nat.reduceMul, encT_length, cfl, cfo, cfv, List.length_map, penc_tk]
    refine (same_zero c.right σ hr).mono ?_
    rintro v σ ⟨rfl, rfl⟩
    simp only [am, amo, amc, Nat.reduceAdd, Nat.reduceEqDiff, encs_length, List.length_map, decide_true, decide_false, Tree.rec_, Nd.rec_, Word.rec_, nd_len, nd_one, Int.reduceEq, Int.reduceLT, Int.reduceLE, Nat.reduceLT, Int.reduceToNat, Nat.reduceMul, encT_length, cfl, cfo, cfv, List.length_map, penc_tk]
    refine retK_intro rfl (Store.sub_refl _) ⟨?_, rfl⟩
    simp [V.erase, eraseL, Cmd.termsQ, h0, h2, hq]
theorem cright_calls (c : Cmd) {σ : Store} (hg : σ.box 0 = some formCells) (hn : c.names.length + 1 ≤ big) (hp : c.pairs.length + 1 ≤ big) (hl : c.left.wt ≤ big) (hr : c.right.wt ≤ big) : PCalls prog 10 [.agg c.enc] σ fun v σ' => v = .bool c.rightQ ∧ σ' = σ := by
  have h1 := fun (σ : Store) (hg : σ.box 0 = some formCells) => nameQ_calls c hg
  have h2 := fun (σ : Store) (hg : σ.box 0 = some formCells) => namesQ_calls c hg hn
  have h3 := fun (σ : Store) (hg : σ.box 0 = some formCells) => pairsQ_calls c hg hp
  have h4 := fun (σ : Store) (hg : σ.box 0 = some formCells) => termsQ_calls c hg hl hr
  refine fn10.calls ?_
  simp only [slots, ac10, am, amo, amc, ams, Nat.reduceAdd, Nat.reduceEqDiff, decide_true, decide_false, Tree.rec_, Nd.rec_, Word.rec_, nd_len, nd_one, Int.reduceEq, Int.reduceLT, Int.reduceLE, Nat.reduceLT, Int.reduceToNat, Nat.reduceMul, encT_length, cfl, cfo, cfv, List.length_map, penc_tk]
  by_cases k1 : c.op < 0
  · simp only [am, amo, amc, Nat.reduceAdd, Nat.reduceEqDiff, encs_length, List.length_map, decide_true, decide_false, Tree.rec_, Nd.rec_, Word.rec_, nd_len, nd_one, Int.reduceEq, Int.reduceLT, Int.reduceLE, Nat.reduceLT, Int.reduceToNat, Nat.reduceMul, encT_length, cfl, cfo, cfv, List.length_map, penc_tk, decide_eq_true k1]
    refine retK_intro rfl (Store.sub_refl _) ⟨?_, rfl⟩
    simp [V.erase, eraseL, Cmd.rightQ, show ¬ (0 ≤ c.op ∧ c.op ≤ 15) by omega]
  simp only [am, amo, amc, Nat.reduceAdd, Nat.reduceEqDiff, encs_length, List.length_map, decide_true, decide_false, Tree.rec_, Nd.rec_, Word.rec_, nd_len, nd_one, Int.reduceEq, Int.reduceLT, Int.reduceLE, Nat.reduceLT, Int.reduceToNat, Nat.reduceMul, encT_length, cfl, cfo, cfv, List.length_map, penc_tk, decide_eq_false k1]
  by_cases k2 : 15 < c.op
  · simp only [am, amo, amc, Nat.reduceAdd, Nat.reduceEqDiff, encs_length, List.length_map, decide_true, decide_false, Tree.rec_, Nd.rec_, Word.rec_, nd_len, nd_one, Int.reduceEq, Int.reduceLT, Int.reduceLE, Nat.reduceLT, Int.reduceToNat, Nat.reduceMul, encT_length, cfl, cfo, cfv, List.length_map, penc_tk, decide_eq_true k2]
    refine retK_intro rfl (Store.sub_refl _) ⟨?_, rfl⟩
    simp [V.erase, eraseL, Cmd.rightQ, show ¬ (0 ≤ c.op ∧ c.op ≤ 15) by omega]
  have k3 : 0 ≤ c.op ∧ c.op ≤ 15 := by omega
  simp only [am, amo, amc, Nat.reduceAdd, Nat.reduceEqDiff, encs_length, List.length_map, decide_true, decide_false, Tree.rec_, Nd.rec_, Word.rec_, nd_len, nd_one, Int.reduceEq, Int.reduceLT, Int.reduceLE, Nat.reduceLT, Int.reduceToNat, Nat.reduceMul, encT_length, cfl, cfo, cfv, List.length_map, penc_tk, decide_eq_false k2]
  refine (h1 σ hg).mono ?_
  rintro v σ ⟨rfl, rfl⟩
  cases q1 : c.nameQ
  · simp only [am, amo, amc, Nat.reduceAdd, Nat.reduceEqDiff, encs_length, List.length_map, decide_true, decide_false, Tree.rec_, Nd.rec_, Word.rec_, nd_len, nd_one, Int.reduceEq, Int.reduceLT, Int.reduceLE, Nat.reduceLT, Int.reduceToNat, Nat.reduceMul, encT_length, cfl, cfo, cfv, List.length_map, penc_tk]
    refine retK_intro rfl (Store.sub_refl _) ⟨?_, rfl⟩
    simp [V.erase, eraseL, Cmd.rightQ, q1]
  simp only [am, amo, amc, Nat.reduceAdd, Nat.reduceEqDiff, encs_length, List.length_map, decide_true, decide_false, Tree.rec_, Nd.rec_, Word.rec_, nd_len, nd_one, Int.reduceEq, Int.reduceLT, Int.reduceLE, Nat.reduceLT, Int.reduceToNat, Nat.reduceMul, encT_length, cfl, cfo, cfv, List.length_map, penc_tk]
  refine (h2 σ hg).mono ?_
  rintro v σ ⟨rfl, rfl⟩
  cases q2 : c.namesQ
  · simp only [am, amo, amc, Nat.reduceAdd, Nat.reduceEqDiff, encs_length, List.length_map, decide_true, decide_false, Tree.rec_, Nd.rec_, Word.rec_, nd_len, nd_one, Int.reduceEq, Int.reduceLT, Int.reduceLE, Nat.reduceLT, Int.reduceToNat, Nat.reduceMul, encT_length, cfl, cfo, cfv, List.length_map, penc_tk]
    refine retK_intro rfl (Store.sub_refl _) ⟨?_, rfl⟩
    simp [V.erase, eraseL, Cmd.rightQ, q1, q2]
  simp only [am, amo, amc, Nat.reduceAdd, Nat.reduceEqDiff, encs_length, List.length_map, decide_true, decide_false, Tree.rec_, Nd.rec_, Word.rec_, nd_len, nd_one, Int.reduceEq, Int.reduceLT, Int.reduceLE, Nat.reduceLT, Int.reduceToNat, Nat.reduceMul, encT_length, cfl, cfo, cfv, List.length_map, penc_tk]
  refine (h3 σ hg).mono ?_
  rintro v σ ⟨rfl, rfl⟩
  cases q3 : c.pairsQ
  · simp only [am, amo, amc, Nat.reduceAdd, Nat.reduceEqDiff, encs_length, List.length_map, decide_true, decide_false, Tree.rec_, Nd.rec_, Word.rec_, nd_len, nd_one, Int.reduceEq, Int.reduceLT, Int.reduceLE, Nat.reduceLT, Int.reduceToNat, Nat.reduceMul, encT_length, cfl, cfo, cfv, List.length_map, penc_tk]
    refine retK_intro rfl (Store.sub_refl _) ⟨?_, rfl⟩
    simp [V.erase, eraseL, Cmd.rightQ, q1, q2, q3]
  simp only [am, amo, amc, Nat.reduceAdd, Nat.reduceEqDiff, encs_length, List.length_map, decide_true, decide_false, Tree.rec_, Nd.rec_, Word.rec_, nd_len, nd_one, Int.reduceEq, Int.reduceLT, Int.reduceLE, Nat.reduceLT, Int.reduceToNat, Nat.reduceMul, encT_length, cfl, cfo, cfv, List.length_map, penc_tk]
  refine (h4 σ hg).mono ?_
  rintro v σ ⟨rfl, rfl⟩
  simp only [am, amo, amc, Nat.reduceAdd, Nat.reduceEqDiff, encs_length, List.length_map, decide_true, decide_false, Tree.rec_, Nd.rec_, Word.rec_, nd_len, nd_one, Int.reduceEq, Int.reduceLT, Int.reduceLE, Nat.reduceLT, Int.reduceToNat, Nat.reduceMul, encT_length, cfl, cfo, cfv, List.length_map, penc_tk]
  refine retK_intro rfl (Store.sub_refl _) ⟨?_, rfl⟩
  simp [V.erase, eraseL, Cmd.rightQ, q1, q2, q3, k3]
end Go.Proofs.Tryz

namespace Go.Proofs.Tryz
open Go.Am
set_option maxRecDepth 4000
set_option maxHeartbeats 4000000
def ac24 : AC := .seq (.reg [⟨(some 1), .box 5 (.s 0), none⟩, ⟨(some 2), .mv (.c (.str [])), none⟩])
 (.seq (.seq (.reg [xf 0 3 1, xo 4 3])
 (.block 0 (.seq (.seq (.reg [xB .eql 6 4 1, xm 5 6])
 (.cond (.s 5) (.skip)
 (.reg [xB .eql 7 4 2, xm 5 7])))
 (.cond (.s 5) (.seq (.reg [xf 2 8 1, xo 9 8, xm 2 9])
 (.ret))
 (.seq (.reg [xB .eql 11 4 3, xm 10 11])
 (.cond (.s 10) (.seq (.reg [xf 3 12 1, xo 13 12, xc 50 14 [.c (.sl .full 5 []), .s 13], ⟨(some 15), .cat (.c (.str [123])) (.s 14), none⟩, ⟨(some 16), .cat (.s 15) (.c (.str [125])), none⟩, xm 2 16])
 (.ret))
 (.seq (.reg [xB .eql 18 4 4, xm 17 18])
 (.cond (.s 17) (.seq (.reg [xf 4 19 1, xo 20 19, xc 50 21 [.s 20, .c (.sl .full 2 [])], ⟨(some 22), .cat (.c (.str [40])) (.s 21), none⟩, ⟨(some 23), .cat (.s 22) (.c (.str [41])), none⟩, xm 2 23])
 (.ret))
 (.seq (.reg [xB .eql 25 4 5, xm 24 25])
 (.cond (.s 24) (.seq (.reg [xf 4 26 1, xo 27 26, xc 50 28 [.s 27, .c (.sl .full 2 [])], ⟨(some 29), .cat (.c (.str [91])) (.s 28), none⟩, ⟨(some 30), .cat (.s 29) (.c (.str [93])), none⟩, xm 2 30])
 (.ret))
 (.seq (.reg [xB .eql 32 4 6, xm 31 32])
 (.cond (.s 31) (.seq (.draw [(xf 2 33 1, []), (xo 34 33, [1]), (⟨(some 35), .cat (.s 34) (.c (.str [58, 123])), none⟩, []), (xf 3 36 1, []), (xo 37 36, []), (xc 50 38 [.c (.sl .full 5 []), .s 37], []), (⟨(some 39), .cat (.s 35) (.s 38), none⟩, []), (⟨(some 40), .cat (.s 39) (.c (.str [125])), none⟩, []), (xm 2 40, [])])
 (.ret))
 (.seq (.reg [xB .eql 42 4 7, xm 41 42])
 (.cond (.s 41) (.seq (.seq (.reg [xf 4 43 1, xo 44 43, xL 45 44, xB .eql 46 45 0])
 (.cond (.s 46) (.seq (.reg [⟨(some 2), .mv (.c (.str [35])), none⟩])
 (.ret))
 (.skip)))
 (.seq (.reg [xf 4 47 1, xo 48 47, ⟨(some 49), .idxA 5 (.s 48) (.c (.int .i64 0)), none⟩, xl 5 50 49, xc 24 51 [.s 50], ⟨(some 52), .cat (.c (.str [35])) (.s 51), none⟩, xm 2 52])
 (.ret)))
 (.seq (.reg [xB .eql 54 4 8, xm 53 54])
 (.cond (.s 53) (.seq (.reg [xf 4 55 1, xo 56 55, xc 50 57 [.s 56, .c (.sl .full 2 [])], ⟨(some 58), .cat (.c (.str [43, 40])) (.s 57), none⟩, ⟨(some 59), .cat (.s 58) (.c (.str [41])), none⟩, xm 2 59])
 (.ret))
 (.seq (.reg [xB .eql 61 4 9, xm 60 61])
 (.cond (.s 60) (.seq (.reg [xf 4 62 1, xo 63 62, xc 50 64 [.s 63, .c (.sl .full 2 [])], ⟨(some 65), .cat (.c (.str [38, 40])) (.s 64), none⟩, ⟨(some 66), .cat (.s 65) (.c (.str [41])), none⟩, xm 2 66])
 (.ret))
 (.seq (.reg [xB .eql 68 4 10, xm 67 68])
 (.cond (.s 67) (.seq (.seq (.reg [xf 3 69 1, xo 70 69, xL 71 70, xB .eql 72 71 0])
 (.cond (.s 72) (.seq (.reg [xf 4 73 1, xo 74 73, xc 50 75 [.s 74, .c (.sl .full 2 [])], ⟨(some 76), .cat (.c (.str [91])) (.s 75), none⟩, ⟨(some 77), .cat (.s 76) (.c (.str [93])), none⟩, xm 2 77])
 (.ret))
 (.skip)))
 (.seq (.draw [(xf 4 78 1, []), (xo 79 78, []), (xc 50 80 [.s 79, .c (.sl .full 2 [])], []), (⟨(some 81), .cat (.c (.str [91])) (.s 80), none⟩, []), (⟨(some 82), .cat (.s 81) (.c (.str [124])), none⟩, []), (xf 3 83 1, []), (xo 84 83, [0]), (xc 50 85 [.c (.sl .full 5 []), .s 84], []), (⟨(some 86), .cat (.s 82) (.s 85), none⟩, []), (⟨(some 87), .cat (.s 86) (.c (.str [93])), none⟩, []), (xm 2 87, [])])
 (.ret)))
 (.seq (.reg [xB .eql 89 4 11, xm 88 89])
 (.cond (.s 88) (.seq (.seq (.reg [xf 4 90 1, xo 91 90, xL 92 91, xB .eql 93 92 0])
 (.cond (.s 93) (.seq (.reg [xf 2 94 1, xo 95 94, ⟨(some 96), .cat (.s 95) (.c (.str [61])), none⟩, xm 2 96])
 (.ret))
 (.skip)))
 (.seq (.draw [(xf 2 97 1, []), (xo 98 97, [1]), (⟨(some 99), .cat (.s 98) (.c (.str [61])), none⟩, []), (xf 4 100 1, []), (xo 101 100, []), (⟨(some 102), .idxA 5 (.s 101) (.c (.int .i64 0)), none⟩, []), (xl 5 103 102, []), (xc 24 104 [.s 103], []), (⟨(some 105), .cat (.s 99) (.s 104), none⟩, []), (xm 2 105, [])])
 (.ret)))
 (.skip)))))))))))))))))))))))
 (.seq (.reg [⟨(some 2), .mv (.c (.str [])), none⟩])
 (.ret)))
theorem fn24 : IsFn prog 24 ac24 [.tmp 2] 106 := ⟨f24, ⟨[], []⟩, func24, by kernel_rfl, by kernel_rfl, by kernel_rfl, by kernel_rfl⟩
def ac50 : AC := .seq (.reg [⟨(some 4), .mv (.c (.str [])), none⟩])
 (.seq (.reg [⟨(some 5), .mv (.c (.str [])), none⟩])
 (.seq (.seq (.reg [xi 6 0])
 (.block 0 (.loop (.seq (.seq (.reg [xm 8 6, xm 9 0, xL 10 9, xb .lss 11 8 10])
 (.cond (.s 11) (.skip)
 (.exit 0)))
 (.seq (.block 1 (.seq (.seq (.reg [xm 14 6, xB .gtr 15 14 0])
 (.cond (.s 15) (.reg [xm 16 5, ⟨(some 17), .cat (.s 16) (.c (.str [44])), none⟩, xm 5 17])
 (.skip)))
 (.reg [xm 18 5, xm 19 0, xm 20 6, xA 5 21 19 20, xl 5 22 21, xc 24 23 [.s 22], ⟨(some 24), .cat (.s 18) (.s 23), none⟩, xm 5 24])))
 (.reg [xm 12 6, xB .add 13 12 1, xm 6 13]))))))
 (.seq (.seq (.reg [xi 7 0])
 (.block 2 (.loop (.seq (.seq (.reg [xm 25 7, xm 26 1, xL 27 26, xb .lss 28 25 27])
 (.cond (.s 28) (.skip)
 (.exit 2)))
 (.seq (.block 3 (.seq (.seq (.reg [xm 31 7, xB .gtr 32 31 0])
 (.cond (.s 32) (.reg [xm 33 5, ⟨(some 34), .cat (.s 33) (.c (.str [44])), none⟩, xm 5 34])
 (.skip)))
 (.reg [xm 35 5, xm 36 1, xm 37 7, xA 2 38 36 37, xf 0 39 38, xo 40 39, ⟨(some 41), .cat (.s 35) (.s 40), none⟩, xm 5 41])))
 (.reg [xm 29 7, xB .add 30 29 1, xm 7 30]))))))
 (.seq (.reg [xm 42 5, xm 4 42])
 (.ret)))))
theorem fn50 : IsFn prog 50 ac50 [.tmp 4] 43 := ⟨f50, ⟨[], []⟩, func50, by kernel_rfl, by kernel_rfl, by kernel_rfl, by kernel_rfl⟩
theorem joinC_pre (a b : List (List UInt8)) : (joinC a).length ≤ (joinC (a ++ b)).length := by
  cases a with
  | nil => simp [joinC]
  | cons x xs => simp only [joinC, List.cons_append, List.flatMap_append, List.length_append]; omega
theorem joinC_take (L : List (List UInt8)) (i : Nat) : (joinC (L.take i)).length ≤ (joinC L).length := by
  have := joinC_pre (L.take i) (L.drop i)
  rwa [List.take_append_drop] at this
theorem joinC_at {L : List (List UInt8)} {i : Nat} (h : i < L.length) : joinC (L.take (i + 1)) = joinC (L.take i) ++ (if 0 < i then [44] else []) ++ L[i] := by
  rw [take_succ_of (List.getElem?_eq_getElem h), joinC_snoc, List.length_take, Nat.min_eq_left (by omega)]
def inv53k (τ τ' : Tk) (l : List Nd) (w : List Word) (σ : Store) (i : Nat) : St :=
  ⟨[.sl τ 5 (l.map Nd.enc), .sl τ' 2 (w.map Word.enc), .any, .any, .any, .str (joinC ((l.map Nd.txt).take i)), .int .i64 (i : Nat)] ++ List.replicate 36 .any, [], σ⟩
def inv53w (τ' : Tk) (s : List UInt8) (w : List Word) (σ : Store) (i : Nat) : St :=
  ⟨[.any, .sl τ' 2 (w.map Word.enc), .any, .any, .any, .str (s ++ joinC ((w.map Word.text).take i)), .any, .int .i64 (i : Nat)] ++ List.replicate 35 .any, [], σ⟩
theorem list_calls {τ τ' : Tk} (l : List Nd) (w : List Word) (σ : Store) (hl : l.length ≤ big) (hw : w.length ≤ big) (hs : (joinC (l.map Nd.txt)).length + (joinC (w.map Word.text)).length ≤ big)
    (ih : ∀ m ∈ l, PCalls prog 24 [.agg m.enc] σ fun v σ' => v = .str m.txt ∧ σ' = σ) :
    PCalls prog 50 [.sl τ 5 (l.map Nd.enc), .sl τ' 2 (w.map Word.enc)] σ fun v σ' => v = .str (joinC (l.map Nd.txt) ++ joinC (w.map Word.text)) ∧ σ' = σ := by
  simp only [big] at hl hw hs
  refine fn50.calls ?_
  simp only [slots, ac50, am, amo, amc, ams, Nat.reduceAdd, Nat.reduceEqDiff, decide_true, decide_false, Tree.rec_, Nd.rec_, Word.rec_, Got.rec_, Nd.fl]
  refine vc_loop (fun p : { i : Nat // i ≤ l.length } => inv53k τ τ' l w σ p.1) (fun p => l.length - p.1) ?_ ?_
  · refine Upd.enter ⟨0, by simp⟩ ?_ LLLe.rfl OLe.rfl
    simp [inv53k, List.replicate, am, joinC]
  rintro ⟨i, hi⟩
  simp only [inv53k, List.replicate, am, List.length_map]
  refine vcIf_split ?_ ?_
  · intro hlt
    have hlt : i < l.length := by simpa using hlt
    have hat := joinC_at (L := l.map Nd.txt) (i := i) (by simpa using hlt)
    have hle := joinC_take (l.map Nd.txt) (i + 1)
    have wi : IntKind.i64.wrap ((i : Int) + 1) = (i : Int) + 1 := wrap_i64 (by omega) (by omega)
    rw [List.getElem_map] at hat
    rw [hat] at hle
    simp only [List.length_append] at hle
    simp only [am, amo, amc, Nat.reduceAdd, Nat.reduceEqDiff, encs_length, List.length_map, decide_true, decide_false, Tree.rec_, Nd.rec_, Word.rec_, Got.rec_, Nd.fl]
    by_cases h0 : 0 < i
    case' pos =>
      rw [if_pos h0] at hat hle
      simp only [List.length_cons, List.length_nil] at hle
      simp only [am, amo, amc, Nat.reduceAdd, Nat.reduceEqDiff, encs_length, List.length_map, decide_true, decide_false, Tree.rec_, Nd.rec_, Word.rec_, Got.rec_, Nd.fl, decide_eq_true (show (0 : Int) < i by omega)]
      refine ⟨by simp [big]; omega, ?_⟩
    case' neg =>
      rw [if_neg h0] at hat hle
      simp only [List.length_nil, List.append_nil] at hle hat
      simp only [am, amo, amc, Nat.reduceAdd, Nat.reduceEqDiff, encs_length, List.length_map, decide_true, decide_false, Tree.rec_, Nd.rec_, Word.rec_, Got.rec_, Nd.fl, decide_eq_false (show ¬ (0 : Int) < i by omega)]
    all_goals
      refine idxL_intro (by omega) (nencs_at (List.getElem?_eq_getElem hlt)) ?_
      simp only [am, amo, amc, Nat.reduceAdd, Nat.reduceEqDiff, encs_length, List.length_map, decide_true, decide_false, Tree.rec_, Nd.rec_, Word.rec_, Got.rec_, Nd.fl]
      refine (ih l[i] (List.getElem_mem hlt)).mono ?_
      rintro v σ ⟨rfl, rfl⟩
      simp only [am, amo, amc, Nat.reduceAdd, Nat.reduceEqDiff, encs_length, List.length_map, decide_true, decide_false, Tree.rec_, Nd.rec_, Word.rec_, Got.rec_, Nd.fl]
      refine ⟨by simp [big]; omega, ?_⟩
      simp only [am, amo, amc, Nat.reduceAdd, Nat.reduceEqDiff, encs_length, List.length_map, decide_true, decide_false, Tree.rec_, Nd.rec_, Word.rec_, Got.rec_, Nd.fl, wi]
      exact Upd.again ⟨i + 1, hlt⟩ (by simp; omega) (by simp [am, List.replicate, hat]) LLLe.rfl OLe.rfl
  intro hlt
  have hlt : i = l.length := by simp at hlt; omega
  subst hlt
  rw [show (l.map Nd.txt).take l.length = l.map Nd.txt by rw [← List.length_map (f := Nd.txt), List.take_length]]
  simp only [am, amo, amc, Nat.reduceAdd, Nat.reduceEqDiff, encs_length, List.length_map, decide_true, decide_false, Tree.rec_, Nd.rec_, Word.rec_, Got.rec_, Nd.fl]
  generalize joinC (l.map Nd.txt) = s at hs ⊢
  refine vc_loop (fun p : { i : Nat // i ≤ w.length } => inv53w τ' s w σ p.1) (fun p => w.length - p.1) ?_ ?_
  · refine Upd.enter ⟨0, by simp⟩ ?_ LLLe.rfl OLe.rfl
    simp [inv53w, List.replicate, am, joinC]
  rintro ⟨i, hi⟩
  simp only [inv53w, List.replicate, am, List.length_map]
  refine vcIf_split ?_ ?_
  · intro hlt
    have hlt : i < w.length := by simpa using hlt
    have hat := joinC_at (L := w.map Word.text) (i := i) (by simpa using hlt)
    have hle := joinC_take (w.map Word.text) (i + 1)
    have wi : IntKind.i64.wrap ((i : Int) + 1) = (i : Int) + 1 := wrap_i64 (by omega) (by omega)
    rw [List.getElem_map] at hat
    rw [hat] at hle
    simp only [List.length_append] at hle
    simp only [am, amo, amc, Nat.reduceAdd, Nat.reduceEqDiff, encs_length, List.length_map, decide_true, decide_false, Tree.rec_, Nd.rec_, Word.rec_, Got.rec_, Nd.fl]
    by_cases h0 : 0 < i
    case' pos =>
      rw [if_pos h0] at hat hle
      simp only [List.length_cons, List.length_nil] at hle
      simp only [am, amo, amc, Nat.reduceAdd, Nat.reduceEqDiff, encs_length, List.length_map, decide_true, decide_false, Tree.rec_, Nd.rec_, Word.rec_, Got.rec_, Nd.fl, decide_eq_true (show (0 : Int) < i by omega)]
      refine ⟨by simp [big]; omega, ?_⟩
    case' neg =>
      rw [if_neg h0] at hat hle
      simp only [List.length_nil, List.append_nil] at hle hat
      simp only [am, amo, amc, Nat.reduceAdd, Nat.reduceEqDiff, encs_length, List.length_map, decide_true, decide_false, Tree.rec_, Nd.rec_, Word.rec_, Got.rec_, Nd.fl, decide_eq_false (show ¬ (0 : Int) < i by omega)]
    all_goals
      refine idxL_intro (by omega) (wencs_at (List.getElem?_eq_getElem hlt)) ?_
      simp only [am, amo, amc, Nat.reduceAdd, Nat.reduceEqDiff, encs_length, List.length_map, decide_true, decide_false, Tree.rec_, Nd.rec_, Word.rec_, Got.rec_, Nd.fl, Word.enc]
      refine ⟨by simp [big]; omega, ?_⟩
      simp only [am, amo, amc, Nat.reduceAdd, Nat.reduceEqDiff, encs_length, List.length_map, decide_true, decide_false, Tree.rec_, Nd.rec_, Word.rec_, Got.rec_, Nd.fl, wi]
      exact Upd.again ⟨i + 1, hlt⟩ (by simp; omega) (by simp [am, List.replicate, hat]) LLLe.rfl OLe.rfl
  intro hlt
  have hlt : i = w.length := by simp at hlt; omega
  subst hlt
  rw [show (w.map Word.text).take w.length = w.map Word.text by rw [← List.length_map (f := Word.text), List.take_length]]
  simp only [am, amo, amc, Nat.reduceAdd, Nat.reduceEqDiff, encs_length, List.length_map, decide_true, decide_false, Tree.rec_, Nd.rec_, Word.rec_, Got.rec_, Nd.fl]
  refine retK_intro rfl (Store.sub_refl _) ⟨?_, rfl⟩
  simp [V.erase, eraseL]
theorem text2_calls : ∀ (k : Nat) (n : Nd) (σ : Store), n.wt ≤ k → n.wt ≤ big → PCalls prog 24 [.agg n.enc] σ fun v σ' => v = .str n.txt ∧ σ' = σ := by
  intro k
  induction k with
  | zero => intro n σ h _; cases n; simp only [Nd.wt] at h; omega
  | succ k ihk =>
    intro n σ hk hw
    have ih : ∀ m ∈ n.kids, ∀ σ, PCalls prog 24 [.agg m.enc] σ fun v σ' => v = .str m.txt ∧ σ' = σ := fun m hm σ => by
      have h1 := kid_wt hm
      exact ihk m σ (by omega) (by omega)
    have hn := wt_names n
    have h1 := ktext_len n.kids (txt_lens n.kids)
    have h2 := wtext_len n.names
    have h3 : n.text.length + wts n.kids + wsum n.names + 4 ≤ n.wt := by cases n; simp only [Nd.wt, Nd.kids, Nd.names, Nd.text]; omega
    have h4 := head_len n.kids (txt_lens n.kids)
    have hkids : PCalls prog 50 [.sl .no 5 (n.kids.map Nd.enc), .sl .full 2 []] σ fun v σ' => v = .str (joinC (txts n.kids)) ∧ σ' = σ := by
      have := list_calls (τ := .no) (τ' := .full) n.kids [] σ (by omega) (by simp) (by rw [← txts_map, show joinC (([] : List Word).map Word.text) = [] from rfl, List.length_nil]; omega) fun m hm => ih m hm σ
      simpa [joinC, ← txts_map] using this
    have hnames : PCalls prog 50 [.sl .full 5 [], .sl .no 2 (n.names.map Word.enc)] σ fun v σ' => v = .str (wtext n.names) ∧ σ' = σ := by
      have := list_calls (τ := .full) (τ' := .no) [] n.names σ (by simp) (by omega) (by rw [show joinC (n.names.map Word.text) = wtext n.names from rfl, show joinC (([] : List Nd).map Nd.txt) = [] from rfl, List.length_nil]; omega) fun m hm => ih m (by simp at hm) σ
      simpa [joinC, wtext] using this
    have e : n.txt = if n.kind = 1 ∨ n.kind = 2 then n.text else if n.kind = 3 then [123] ++ wtext n.names ++ [125] else if n.kind = 4 then [40] ++ joinC (txts n.kids) ++ [41] else if n.kind = 5 then [91] ++ joinC (txts n.kids) ++ [93]
        else if n.kind = 6 then n.text ++ [58, 123] ++ wtext n.names ++ [125] else if n.kind = 7 then [35] ++ headT (txts n.kids) else if n.kind = 8 then [43, 40] ++ joinC (txts n.kids) ++ [41] else if n.kind = 9 then [38, 40] ++ joinC (txts n.kids) ++ [41]
        else if n.kind = 10 then ([91] ++ joinC (txts n.kids)) ++ (if 0 < n.names.length then [124] ++ wtext n.names else []) ++ [93] else if n.kind = 11 then n.text ++ [61] ++ headT (txts n.kids) else [] := by cases n; rw [Nd.txt]; rfl
    rw [e]
    refine fn24.calls ?_
    simp only [slots, ac24, am, amo, amc, ams, Nat.reduceAdd, Nat.reduceEqDiff, decide_true, decide_false, Tree.rec_, Nd.rec_, Word.rec_, Got.rec_, Nd.fl]
    by_cases k1 : n.kind = 1
    · simp only [am, amo, amc, Nat.reduceAdd, Nat.reduceEqDiff, encs_length, List.length_map, decide_true, decide_false, Tree.rec_, Nd.rec_, Word.rec_, Got.rec_, Nd.fl, decide_eq_true k1]
      refine retK_intro rfl (Store.sub_refl _) ⟨?_, rfl⟩
      simp [V.erase, eraseL, k1]
    simp only [am, amo, amc, Nat.reduceAdd, Nat.reduceEqDiff, encs_length, List.length_map, decide_true, decide_false, Tree.rec_, Nd.rec_, Word.rec_, Got.rec_, Nd.fl, decide_eq_false k1]
    by_cases k2 : n.kind = 2
    · simp only [am, amo, amc, Nat.reduceAdd, Nat.reduceEqDiff, encs_length, List.length_map, decide_true, decide_false, Tree.rec_, Nd.rec_, Word.rec_, Got.rec_, Nd.fl, decide_eq_true k2]
      refine retK_intro rfl (Store.sub_refl _) ⟨?_, rfl⟩
      simp [V.erase, eraseL, k2]
    simp only [am, amo, amc, Nat.reduceAdd, Nat.reduceEqDiff, encs_length, List.length_map, decide_true, decide_false, Tree.rec_, Nd.rec_, Word.rec_, Got.rec_, Nd.fl, decide_eq_false k2]
    by_cases k3 : n.kind = 3
    · simp only [am, amo, amc, Nat.reduceAdd, Nat.reduceEqDiff, encs_length, List.length_map, decide_true, decide_false, Tree.rec_, Nd.rec_, Word.rec_, Got.rec_, Nd.fl, decide_eq_true k3]
      refine (hnames).mono ?_
      rintro v σ ⟨rfl, rfl⟩
      simp only [am, amo, amc, Nat.reduceAdd, Nat.reduceEqDiff, encs_length, List.length_map, decide_true, decide_false, Tree.rec_, Nd.rec_, Word.rec_, Got.rec_, Nd.fl]
      refine ⟨by simp; omega, by simp; omega, ?_⟩
      refine retK_intro rfl (Store.sub_refl _) ⟨?_, rfl⟩
      simp [V.erase, eraseL, k3]
    simp only [am, amo, amc, Nat.reduceAdd, Nat.reduceEqDiff, encs_length, List.length_map, decide_true, decide_false, Tree.rec_, Nd.rec_, Word.rec_, Got.rec_, Nd.fl, decide_eq_false k3]
    by_cases k4 : n.kind = 4
    · simp only [am, amo, amc, Nat.reduceAdd, Nat.reduceEqDiff, encs_length, List.length_map, decide_true, decide_false, Tree.rec_, Nd.rec_, Word.rec_, Got.rec_, Nd.fl, decide_eq_true k4]
      refine (hkids).mono ?_
      rintro v σ ⟨rfl, rfl⟩
      simp only [am, amo, amc, Nat.reduceAdd, Nat.reduceEqDiff, encs_length, List.length_map, decide_true, decide_false, Tree.rec_, Nd.rec_, Word.rec_, Got.rec_, Nd.fl]
      refine ⟨by simp; omega, by simp; omega, ?_⟩
      refine retK_intro rfl (Store.sub_refl _) ⟨?_, rfl⟩
      simp [V.erase, eraseL, k4]
    simp only [am, amo, amc, Nat.reduceAdd, Nat.reduceEqDiff, encs_length, List.length_map, decide_true, decide_false, Tree.rec_, Nd.rec_, Word.rec_, Got.rec_, Nd.fl, decide_eq_false k4]
    by_cases k5 : n.kind = 5
    · simp only [am, amo, amc, Nat.reduceAdd, Nat.reduceEqDiff, encs_length, List.length_map, decide_true, decide_false, Tree.rec_, Nd.rec_, Word.rec_, Got.rec_, Nd.fl, decide_eq_true k5]
      refine (hkids).mono ?_
      rintro v σ ⟨rfl, rfl⟩
      simp only [am, amo, amc, Nat.reduceAdd, Nat.reduceEqDiff, encs_length, List.length_map, decide_true, decide_false, Tree.rec_, Nd.rec_, Word.rec_, Got.rec_, Nd.fl]
      refine ⟨by simp; omega, by simp; omega, ?_⟩
      refine retK_intro rfl (Store.sub_refl _) ⟨?_, rfl⟩
      simp [V.erase, eraseL, k5]
    simp only [am, amo, amc, Nat.reduceAdd, Nat.reduceEqDiff, encs_length, List.length_map, decide_true, decide_false, Tree.rec_, Nd.rec_, Word.rec_, Got.rec_, Nd.fl, decide_eq_false k5]
    by_cases k6 : n.kind = 6
    · simp only [am, amo, amc, Nat.reduceAdd, Nat.reduceEqDiff, encs_length, List.length_map, decide_true, decide_false, Tree.rec_, Nd.rec_, Word.rec_, Got.rec_, Nd.fl, decide_eq_true k6]
      refine ⟨by simp; omega, ?_⟩
      refine CallD.intro (hnames) ?_
      simp only [am, amo, amc, Nat.reduceAdd, Nat.reduceEqDiff, encs_length, List.length_map, decide_true, decide_false, Tree.rec_, Nd.rec_, Word.rec_, Got.rec_, Nd.fl]
      refine ⟨by simp; omega, by simp; omega, ?_⟩
      refine retK_intro rfl (Store.sub_refl _) ⟨?_, rfl⟩
      simp [V.erase, eraseL, k6]
    simp only [am, amo, amc, Nat.reduceAdd, Nat.reduceEqDiff, encs_length, List.length_map, decide_true, decide_false, Tree.rec_, Nd.rec_, Word.rec_, Got.rec_, Nd.fl, decide_eq_false k6]
    by_cases k7 : n.kind = 7
    · simp only [am, amo, amc, Nat.reduceAdd, Nat.reduceEqDiff, encs_length, List.length_map, decide_true, decide_false, Tree.rec_, Nd.rec_, Word.rec_, Got.rec_, Nd.fl, decide_eq_true k7]
      cases hc : n.kids with
      | nil =>
        simp only [am, amo, amc, Nat.reduceAdd, Nat.reduceEqDiff, encs_length, List.length_map, decide_true, decide_false, Tree.rec_, Nd.rec_, Word.rec_, Got.rec_, Nd.fl, hc, List.map_nil, List.length_nil, Int.natCast_zero]
        refine retK_intro rfl (Store.sub_refl _) ⟨?_, rfl⟩
        simp [V.erase, eraseL, k7, hc, headT, txts]
      | cons m ms =>
        rw [hc] at h4
        simp only [txts, headT] at h4
        simp only [am, amo, amc, Nat.reduceAdd, Nat.reduceEqDiff, encs_length, List.length_map, decide_true, decide_false, Tree.rec_, Nd.rec_, Word.rec_, Got.rec_, Nd.fl, decide_eq_false (show ¬ (((m :: ms).length : Nat) : Int) = 0 by simp; omega), hc]
        refine idxL_intro (by omega) (c := m.enc) (by simp) ?_
        simp only [am, amo, amc, Nat.reduceAdd, Nat.reduceEqDiff, encs_length, List.length_map, decide_true, decide_false, Tree.rec_, Nd.rec_, Word.rec_, Got.rec_, Nd.fl]
        refine (ih m (by rw [hc]; simp) σ).mono ?_
        rintro v σ ⟨rfl, rfl⟩
        simp only [am, amo, amc, Nat.reduceAdd, Nat.reduceEqDiff, encs_length, List.length_map, decide_true, decide_false, Tree.rec_, Nd.rec_, Word.rec_, Got.rec_, Nd.fl]
        refine ⟨by have := wt_mem (n := m) (l := m :: ms) (by simp); have := txt_lens [m] m (by simp); simp; rw [hc] at h3; omega, ?_⟩
        refine retK_intro rfl (Store.sub_refl _) ⟨?_, rfl⟩
        simp [V.erase, eraseL, k7, headT, txts]
    simp only [am, amo, amc, Nat.reduceAdd, Nat.reduceEqDiff, encs_length, List.length_map, decide_true, decide_false, Tree.rec_, Nd.rec_, Word.rec_, Got.rec_, Nd.fl, decide_eq_false k7]
    by_cases k8 : n.kind = 8
    · simp only [am, amo, amc, Nat.reduceAdd, Nat.reduceEqDiff, encs_length, List.length_map, decide_true, decide_false, Tree.rec_, Nd.rec_, Word.rec_, Got.rec_, Nd.fl, decide_eq_true k8]
      refine (hkids).mono ?_
      rintro v σ ⟨rfl, rfl⟩
      simp only [am, amo, amc, Nat.reduceAdd, Nat.reduceEqDiff, encs_length, List.length_map, decide_true, decide_false, Tree.rec_, Nd.rec_, Word.rec_, Got.rec_, Nd.fl]
      refine ⟨by simp; omega, by simp; omega, ?_⟩
      refine retK_intro rfl (Store.sub_refl _) ⟨?_, rfl⟩
      simp [V.erase, eraseL, k8]
    simp only [am, amo, amc, Nat.reduceAdd, Nat.reduceEqDiff, encs_length, List.length_map, decide_true, decide_false, Tree.rec_, Nd.rec_, Word.rec_, Got.rec_, Nd.fl, decide_eq_false k8]
    by_cases k9 : n.kind = 9
    · simp only [am, amo, amc, Nat.reduceAdd, Nat.reduceEqDiff, encs_length, List.length_map, decide_true, decide_false, Tree.rec_, Nd.rec_, Word.rec_, Got.rec_, Nd.fl, decide_eq_true k9]
      refine (hkids).mono ?_
      rintro v σ ⟨rfl, rfl⟩
      simp only [am, amo, amc, Nat.reduceAdd, Nat.reduceEqDiff, encs_length, List.length_map, decide_true, decide_false, Tree.rec_, Nd.rec_, Word.rec_, Got.rec_, Nd.fl]
      refine ⟨by simp; omega, by simp; omega, ?_⟩
      refine retK_intro rfl (Store.sub_refl _) ⟨?_, rfl⟩
      simp [V.erase, eraseL, k9]
    simp only [am, amo, amc, Nat.reduceAdd, Nat.reduceEqDiff, encs_length, List.length_map, decide_true, decide_false, Tree.rec_, Nd.rec_, Word.rec_, Got.rec_, Nd.fl, decide_eq_false k9]
    by_cases k10 : n.kind = 10
    · simp only [am, amo, amc, Nat.reduceAdd, Nat.reduceEqDiff, encs_length, List.length_map, decide_true, decide_false, Tree.rec_, Nd.rec_, Word.rec_, Got.rec_, Nd.fl, decide_eq_true k10]
      by_cases hz : n.names.length = 0
      · simp only [am, amo, amc, Nat.reduceAdd, Nat.reduceEqDiff, encs_length, List.length_map, decide_true, decide_false, Tree.rec_, Nd.rec_, Word.rec_, Got.rec_, Nd.fl, hz, Int.natCast_zero]
        refine (hkids).mono ?_
        rintro v σ ⟨rfl, rfl⟩
        simp only [am, amo, amc, Nat.reduceAdd, Nat.reduceEqDiff, encs_length, List.length_map, decide_true, decide_false, Tree.rec_, Nd.rec_, Word.rec_, Got.rec_, Nd.fl]
        refine ⟨by simp; omega, by simp; omega, ?_⟩
        refine retK_intro rfl (Store.sub_refl _) ⟨?_, rfl⟩
        simp [V.erase, eraseL, k10, hz]
      · simp only [am, amo, amc, Nat.reduceAdd, Nat.reduceEqDiff, encs_length, List.length_map, decide_true, decide_false, Tree.rec_, Nd.rec_, Word.rec_, Got.rec_, Nd.fl, decide_eq_false (show ¬ ((n.names.length : Nat) : Int) = 0 by omega)]
        refine CallD.intro (hkids) ?_
        simp only [am, amo, amc, Nat.reduceAdd, Nat.reduceEqDiff, encs_length, List.length_map, decide_true, decide_false, Tree.rec_, Nd.rec_, Word.rec_, Got.rec_, Nd.fl]
        refine ⟨by simp; omega, by simp; omega, ?_⟩
        refine CallD.intro (hnames) ?_
        simp only [am, amo, amc, Nat.reduceAdd, Nat.reduceEqDiff, encs_length, List.length_map, decide_true, decide_false, Tree.rec_, Nd.rec_, Word.rec_, Got.rec_, Nd.fl]
        refine ⟨by simp; omega, by simp; omega, ?_⟩
        refine retK_intro rfl (Store.sub_refl _) ⟨?_, rfl⟩
        simp [V.erase, eraseL, k10, Nat.pos_of_ne_zero hz]
    simp only [am, amo, amc, Nat.reduceAdd, Nat.reduceEqDiff, encs_length, List.length_map, decide_true, decide_false, Tree.rec_, Nd.rec_, Word.rec_, Got.rec_, Nd.fl, decide_eq_false k10]
    by_cases k11 : n.kind = 11
    · simp only [am, amo, amc, Nat.reduceAdd, Nat.reduceEqDiff, encs_length, List.length_map, decide_true, decide_false, Tree.rec_, Nd.rec_, Word.rec_, Got.rec_, Nd.fl, decide_eq_true k11]
      cases hc : n.kids with
      | nil =>
        simp only [am, amo, amc, Nat.reduceAdd, Nat.reduceEqDiff, encs_length, List.length_map, decide_true, decide_false, Tree.rec_, Nd.rec_, Word.rec_, Got.rec_, Nd.fl, hc, List.map_nil, List.length_nil, Int.natCast_zero]
        refine ⟨by simp; omega, ?_⟩
        refine retK_intro rfl (Store.sub_refl _) ⟨?_, rfl⟩
        simp [V.erase, eraseL, k11, hc, headT, txts]
      | cons m ms =>
        simp only [am, amo, amc, Nat.reduceAdd, Nat.reduceEqDiff, encs_length, List.length_map, decide_true, decide_false, Tree.rec_, Nd.rec_, Word.rec_, Got.rec_, Nd.fl, decide_eq_false (show ¬ (((m :: ms).length : Nat) : Int) = 0 by simp; omega), hc]
        refine ⟨by simp; omega, ?_⟩
        refine idxL_intro (by omega) (c := m.enc) (by simp) ?_
        simp only [am, amo, amc, Nat.reduceAdd, Nat.reduceEqDiff, encs_length, List.length_map, decide_true, decide_false, Tree.rec_, Nd.rec_, Word.rec_, Got.rec_, Nd.fl]
        refine CallD.intro (ih m (by rw [hc]; simp) σ) ?_
        simp only [am, amo, amc, Nat.reduceAdd, Nat.reduceEqDiff, encs_length, List.length_map, decide_true, decide_false, Tree.rec_, Nd.rec_, Word.rec_, Got.rec_, Nd.fl]
        refine ⟨by have := wt_mem (n := m) (l := m :: ms) (by simp); have := txt_lens [m] m (by simp); simp; rw [hc] at h3; omega, ?_⟩
        refine retK_intro rfl (Store.sub_refl _) ⟨?_, rfl⟩
        simp [V.erase, eraseL, k11, headT, txts]
    simp only [am, amo, amc, Nat.reduceAdd, Nat.reduceEqDiff, encs_length, List.length_map, decide_true, decide_false, Tree.rec_, Nd.rec_, Word.rec_, Got.rec_, Nd.fl, decide_eq_false k11]
    refine retK_intro rfl (Store.sub_refl _) ⟨?_, rfl⟩
    simp [V.erase, eraseL, k1, k2, k3, k4, k5, k6, k7, k8, k9, k10, k11]
end Go.Proofs.Tryz
