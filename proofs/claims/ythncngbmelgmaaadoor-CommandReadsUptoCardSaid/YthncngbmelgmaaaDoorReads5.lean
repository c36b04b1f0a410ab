/-
  Part 5 of the proof of CommandReadsUptoCardSaid: a logic over the model, the forms of the functions that the law reaches, and what they compute.
-/
import Derived.Test.YthncngbmelgmaaaDoorProg
import Derived.Test.YthncngbmelgmaaaDoorReads4
set_option linter.unusedVariables false
set_option linter.unusedSimpArgs false
set_option linter.defProp false
set_option linter.unusedSectionVars false

namespace Go.Proofs.Tryd
open Go.Am
def ac87 : AC := .seq (.reg [⟨(some 2), .mv (.c (.bool false)), none⟩])
 (.seq (.reg [xm 3 0, xk 4 3, xf 3 5 4, xl 2 6 5, ⟨(some 7), .build [(.int .i64 0), (.int .i64 0)] [], none⟩, ⟨(some 8), .eqA false [1, 1] (.s 6) (.s 7), none⟩, xm 2 8])
 (.ret))
theorem fn87 : IsFn prog 87 ac87 [.tmp 2] 9 := ⟨f87, ⟨[], []⟩, func87, by kernel_rfl, by kernel_rfl, by kernel_rfl, by kernel_rfl⟩
def ac111 : AC := .seq (.reg [⟨(some 2), .alloc [(.str []), (.int .i64 0)], none⟩])
 (.seq (.reg [xm 4 0, xc 113 5 [.s 4, .c (.int .u8 97)], ⟨(some 3), .alloc [(.int .u8 0), (.str []), (.int .i64 0), (.sl .full 5 []), (.int .i64 0)], none⟩, xs 5 3 5])
 (.seq (.reg [xf 0 6 3, xf 1 7 6, xo 8 7, xf 0 9 3, xf 2 10 9, xo 11 10, ⟨(some 12), .build [(.str []), (.int .i64 0)] [(0, 1, (.s 8)), (1, 1, (.s 11))], none⟩, xs 2 2 12])
 (.ret)))
theorem fn111 : IsFn prog 111 ac111 [.cell 2 true 2] 13 := ⟨f111, ⟨[], []⟩, func111, by kernel_rfl, by kernel_rfl, by kernel_rfl, by kernel_rfl⟩
def ac112 : AC := .seq (.reg [⟨(some 4), .mv (.c (.bool false)), none⟩])
 (.seq (.draw [(xm 5 0, []), (xc 87 6 [.s 5], []), (xm 7 6, []), (xg 7 (xm 8 0), []), (xg 7 (xk 9 8), []), (xg 7 (xf 1 10 9), []), (xg 7 (xo 11 10), []), (xg 7 (xB .geq 12 11 0), []), (⟨(some 13), .pick (.s 7) (.s 12) (.c (.bool false)), none⟩, []), (xm 14 13, []), (xg 14 (xm 15 0), []), (xg 14 (xk 16 15), []), (xg 14 (xf 1 17 16), []), (xg 14 (xo 18 17), []), (xg 14 (xm 19 0), []), (xg 14 (xk 20 19), []), (xg 14 (xf 0 21 20), []), (xg 14 (xo 22 21), []), (xg 14 (xL 23 22), []), (xg 14 (xb .lss 24 18 23), []), (⟨(some 25), .pick (.s 14) (.s 24) (.c (.bool false)), none⟩, []), (xm 26 25, []), (xg 26 (xm 27 0), []), (xg 26 (xk 28 27), []), (xg 26 (xf 0 29 28), []), (xg 26 (xo 30 29), []), (xg 26 (xm 31 0), []), (xg 26 (xk 32 31), []), (xg 26 (xf 1 33 32), []), (xg 26 (xo 34 33), []), (xg 26 (xA 5 35 30 34), []), (xg 26 (xf 0 36 35), []), (xg 26 (xf 0 37 36), []), (xg 26 (xo 38 37), []), (xg 26 (xm 39 1), []), (xg 26 (xb .eql 40 38 39), []), (⟨(some 41), .pick (.s 26) (.s 40) (.c (.bool false)), none⟩, []), (xm 4 41, [])])
 (.ret))
theorem fn112 : IsFn prog 112 ac112 [.tmp 4] 42 := ⟨f112, ⟨[], []⟩, func112, by kernel_rfl, by kernel_rfl, by kernel_rfl, by kernel_rfl⟩
def ac113 : AC := .seq (.reg [⟨(some 4), .alloc [(.int .u8 0), (.str []), (.int .i64 0), (.sl .full 5 []), (.int .i64 0)], none⟩])
 (.seq (.seq (.reg [xm 5 0, xm 6 1, xc 112 7 [.s 5, .s 6], ⟨(some 8), .not (.s 7), none⟩])
 (.cond (.s 8) (.seq (.reg [xm 9 0, xc 123 10 [.s 9]])
 (.seq (.reg [⟨(some 11), .build [(.int .u8 0), (.str []), (.int .i64 0), (.sl .full 5 []), (.int .i64 0)] [], none⟩, xs 5 4 11])
 (.ret)))
 (.skip)))
 (.seq (.reg [xm 12 0, xk 13 12, xf 1 14 13, xo 15 14, xB .add 16 15 1, xk 17 12, xf 1 18 17, xs 1 18 16])
 (.seq (.draw [(xm 19 0, []), (xk 20 19, []), (xf 0 21 20, []), (xo 22 21, []), (xm 23 0, []), (xk 24 23, []), (xf 1 25 24, []), (xo 26 25, []), (xB .sub 27 26 1, []), (xA 5 28 22 27, []), (xl 5 29 28, []), (xs 5 4 29, [])])
 (.ret))))
theorem fn113 : IsFn prog 113 ac113 [.cell 4 true 5] 30 := ⟨f113, ⟨[], []⟩, func113, by kernel_rfl, by kernel_rfl, by kernel_rfl, by kernel_rfl⟩
def ac123 : AC := .seq (.seq (.reg [xm 2 0, xc 87 3 [.s 2], ⟨(some 4), .not (.s 3), none⟩])
 (.cond (.s 4) (.ret)
 (.skip)))
 (.seq (.reg [xm 5 0, xm 6 0, xk 7 6, xf 2 8 7, xo 9 8, ⟨(some 10), .build [(.int .i64 0), (.int .i64 0)] [(0, 1, (.c (.int .i64 2))), (1, 1, (.s 9))], none⟩, xk 11 5, xf 3 12 11, xs 2 12 10])
 (.seq (.draw [(xm 13 0, []), (xk 14 13, []), (xf 1 15 14, []), (xo 16 15, []), (xB .geq 17 16 0, []), (xm 18 17, []), (xg 18 (xm 19 0), []), (xg 18 (xk 20 19), []), (xg 18 (xf 1 21 20), []), (xg 18 (xo 22 21), []), (xg 18 (xm 23 0), []), (xg 18 (xk 24 23), []), (xg 18 (xf 0 25 24), []), (xg 18 (xo 26 25), []), (xg 18 (xL 27 26), []), (xg 18 (xb .lss 28 22 27), []), (⟨(some 29), .pick (.s 18) (.s 28) (.c (.bool false)), none⟩, [])])
 (.cond (.s 29) (.draw [(xm 30 0, []), (xm 31 0, []), (xk 32 31, []), (xf 0 33 32, []), (xo 34 33, []), (xm 35 0, []), (xk 36 35, []), (xf 1 37 36, []), (xo 38 37, []), (xA 5 39 34 38, []), (xf 0 40 39, []), (xf 2 41 40, []), (xo 42 41, []), (xk 43 30, []), (xf 3 44 43, []), (xf 1 45 44, []), (xs 1 45 42, [])])
 (.skip))))
theorem fn123 : IsFn prog 123 ac123 [] 46 := ⟨f123, ⟨[], []⟩, func123, by kernel_rfl, by kernel_rfl, by kernel_rfl, by kernel_rfl⟩
set_option maxRecDepth 4000
theorem ok_calls {r : Nat} {rd : Rdr} {σ : Store} (h : σ.box r = some rd.enc) : PCalls prog 87 [.ptr (.out r) 0] σ fun v σ' => v = .bool rd.ok ∧ σ' = σ := by
  refine fn87.calls ?_
  simp only [slots, ac87, ams, am, h, Rdr.enc]
  refine retK_intro rfl (Store.sub_refl _) ⟨?_, rfl⟩
  cases hb : rd.bad <;> simp [Rdr.ok, V.erase, hb, badC, badA]
theorem sees_calls {r : Nat} {rd : Rdr} {k : Int} {σ : Store} (h : σ.box r = some rd.enc) : PCalls prog 112 [.ptr (.out r) 0, .int .u8 k] σ fun v σ' => v = .bool (rd.sees k) ∧ σ' = σ := by
  refine fn112.calls ?_
  simp only [slots, ac112, ams, am]
  refine CallD.intro (ok_calls h) ?_
  simp only [am]
  cases hok : rd.ok
  · simp only [am]
    refine retK_intro rfl (Store.sub_refl _) ⟨?_, rfl⟩
    simp [Rdr.sees, hok, V.erase]
  · simp only [am, h, Rdr.enc]
    by_cases h0 : 0 ≤ rd.at_
    · simp only [am, h0, decide_true, h, Rdr.enc, encs_length]
      by_cases h1 : rd.at_ < rd.l.length
      · obtain ⟨j, hj⟩ := Int.eq_ofNat_of_zero_le h0
        have hj' : j < rd.l.length := by omega
        simp only [am, h1, decide_true, h, Rdr.enc]
        refine idxL_intro h0 (c := rd.l[j].enc) (by simp [encs_map, hj, hj']) ?_
        simp only [am, enc_eq]
        refine retK_intro rfl (Store.sub_refl _) ⟨?_, rfl⟩
        simp [Rdr.sees, isK, V.erase, hok, hj, hj']
      · simp only [am, h1, decide_false]
        refine retK_intro rfl (Store.sub_refl _) ⟨?_, rfl⟩
        have : rd.l[rd.at_.toNat]? = none := List.getElem?_eq_none (by omega)
        simp [Rdr.sees, isK, V.erase, this]
    · simp only [am, h0, decide_false]
      refine retK_intro rfl (Store.sub_refl _) ⟨?_, rfl⟩
      simp [Rdr.sees, isK, V.erase, h0]
theorem fail_calls {r : Nat} {rd : Rdr} {σ : Store} (h : σ.box r = some rd.enc) : PCalls prog 123 [.ptr (.out r) 0] σ fun v σ' => v = .tup [] ∧ σ' = σ.set r rd.fail.enc := by
  refine fn123.calls ?_
  simp only [slots, ac123, ams, am]
  refine (ok_calls h).mono ?_
  rintro v σ' ⟨rfl, rfl⟩
  cases hb : rd.bad with
  | some b =>
    simp only [am, Rdr.ok, hb, Option.isNone]
    refine retK_intro rfl (Store.sub_refl _) ⟨rfl, ?_⟩
    rw [Rdr.fail, hb]; exact (Store.set_id h).symm
  | none =>
    simp only [am, Rdr.ok, hb, Option.isNone, h, Rdr.enc, Nat.reduceAdd]
    by_cases h0 : 0 ≤ rd.at_
    · simp only [am, h0, decide_true, encs_length]
      by_cases h1 : rd.at_ < rd.l.length
      · obtain ⟨j, hj⟩ := Int.eq_ofNat_of_zero_le h0
        have hj' : j < rd.l.length := by omega
        simp only [am, h1, decide_true]
        refine idxL_intro h0 (c := rd.l[j].enc) (by simp [encs_map, hj, hj']) ?_
        simp only [am, enc_eq, Nat.reduceAdd]
        refine retK_intro rfl (Store.sub_refl _) ⟨rfl, ?_⟩
        simp [Rdr.fail, Rdr.spot, hb, hj, hj', Rdr.enc, badC, badA]
      · simp only [am, h1, decide_false]
        refine retK_intro rfl (Store.sub_refl _) ⟨rfl, ?_⟩
        have : rd.l[rd.at_.toNat]? = none := List.getElem?_eq_none (by omega)
        simp [Rdr.fail, Rdr.spot, hb, this, Rdr.enc, badC, badA]
    · simp only [am, h0, decide_false]
      refine retK_intro rfl (Store.sub_refl _) ⟨rfl, ?_⟩
      simp [Rdr.fail, Rdr.spot, hb, h0, Rdr.enc, badC, badA]
theorem take_calls {r : Nat} {rd : Rdr} {k : Int} {σ : Store} (h : σ.box r = some rd.enc) (hb : rd.l.length ≤ big) : PCalls prog 113 [.ptr (.out r) 0, .int .u8 k] σ fun v σ' => v = .agg (rd.take k).1.enc ∧ σ' = σ.set r (rd.take k).2.enc := by
  refine fn113.calls ?_
  simp only [slots, ac113, ams, am]
  refine (sees_calls h).mono ?_
  rintro v σ' ⟨rfl, rfl⟩
  cases hs : rd.sees k
  · simp only [am]
    refine (fail_calls h).mono ?_
    rintro v σ' ⟨rfl, rfl⟩
    simp only [am]
    refine retK_intro rfl (Store.sub_refl _) ⟨?_, ?_⟩
    · simp [Rdr.take, hs, V.erase, eraseL, Tree.zero, Tree.enc, encs]
    · simp [Rdr.take, hs]
  · have hs' := hs
    simp only [Rdr.sees, isK, Bool.and_eq_true, decide_eq_true_eq] at hs'
    obtain ⟨_, h0, hk⟩ := hs'
    have h1 : rd.at_.toNat < rd.l.length := by
      cases hq : rd.l[rd.at_.toNat]? with
      | none => rw [hq] at hk; simp at hk
      | some t => exact (List.getElem?_eq_some_iff.1 hq).1
    simp only [big] at hb
    simp only [am, h, Rdr.enc]
    rw [wrap_i64 (x := rd.at_ + 1) (by omega) (by omega), wrap_i64 (x := rd.at_ + 1 - 1) (by omega) (by omega)]
    refine idxL_intro (by omega) (c := rd.l[rd.at_.toNat].enc) (by rw [show (rd.at_ + 1 - 1).toNat = rd.at_.toNat by omega]; simp [encs_map, h1]) ?_
    simp only [am, enc_eq]
    refine retK_intro rfl (Store.sub_refl _) ⟨?_, ?_⟩
    · simp [Rdr.take, hs, V.erase, eraseL, h1, List.getD]
    · simp [Rdr.take, hs, Rdr.enc]
theorem word_calls {r : Nat} {rd : Rdr} {σ : Store} (h : σ.box r = some rd.enc) (hb : rd.l.length ≤ big) : PCalls prog 111 [.ptr (.out r) 0] σ fun v σ' => v = .agg rd.word.1.enc ∧ σ' = σ.set r rd.word.2.enc := by
  refine fn111.calls ?_
  simp only [slots, ac111, ams, am]
  refine (take_calls h hb).mono ?_
  rintro v σ' ⟨rfl, rfl⟩
  simp only [am, enc_eq, Nat.reduceAdd]
  refine retK_intro rfl (Store.sub_refl _) ⟨?_, ?_⟩
  · simp [Rdr.word, V.erase, eraseL, Word.enc]
  · simp [Rdr.word]
end Go.Proofs.Tryd

namespace Go.Proofs.Tryd
open Go.Am
def ac109 : AC := .seq (.reg [xm 4 1, ⟨(some 5), .callv (.s 4) [], none⟩])
 (.block 0 (.loop (.seq (.seq (.reg [xm 6 0, xc 112 7 [.s 6, .c (.int .u8 44)]])
 (.cond (.s 7) (.skip)
 (.exit 0)))
 (.block 1 (.seq (.reg [xm 8 0, xc 113 9 [.s 8, .c (.int .u8 44)]])
 (.reg [xm 10 1, ⟨(some 11), .callv (.s 10) [], none⟩]))))))
theorem fn109 : IsFn prog 109 ac109 [] 12 := ⟨f109, ⟨[], []⟩, func109, by kernel_rfl, by kernel_rfl, by kernel_rfl, by kernel_rfl⟩
set_option maxRecDepth 4000
structure Sys (α : Type) where
  F : α → Store
  rd : α → Rdr
  set : α → Rdr → α
  step : α → α
def Sys.go {α : Type} (S : Sys α) : Nat → α → α
  | 0, a => a
  | n + 1, a => if (S.rd a).sees 44 then S.go n (S.step (S.set a ((S.rd a).take 44).2)) else a
theorem sees_spec {rd : Rdr} {k : Int} (h : rd.sees k = true) : rd.bad = none ∧ 0 ≤ rd.at_ ∧ rd.at_ < rd.l.length := by
  simp only [Rdr.sees, Rdr.ok, isK, Bool.and_eq_true, decide_eq_true_eq, Option.isNone_iff_eq_none] at h
  obtain ⟨h1, h0, hk⟩ := h
  refine ⟨h1, h0, ?_⟩
  cases hq : rd.l[rd.at_.toNat]? with
  | none => rw [hq] at hk; simp at hk
  | some t => have := (List.getElem?_eq_some_iff.1 hq).1; omega
theorem some_calls {α : Type} (S : Sys α) (Inv : α → Prop) {g : FuncId} {cap : List V} {r : Nat} (hnol : nolL cap = true)
    (hbox : ∀ a, Inv a → (S.F a).box r = some (S.rd a).enc) (hlen : ∀ a, Inv a → (S.rd a).l.length ≤ big)
    (hset : ∀ a, Inv a → (S.rd a).sees 44 = true → (S.F a).set r ((S.rd a).take 44).2.enc = S.F (S.set a ((S.rd a).take 44).2))
    (hstep : ∀ a, Inv a → (S.rd a).sees 44 = true → PCalls prog g cap (S.F (S.set a ((S.rd a).take 44).2)) (fun v σ' => v = .tup [] ∧ σ' = S.F (S.step (S.set a ((S.rd a).take 44).2))) ∧
      Inv (S.step (S.set a ((S.rd a).take 44).2)) ∧ (S.rd (S.step (S.set a ((S.rd a).take 44).2))).l = (S.rd a).l ∧ (S.rd a).at_ + 1 ≤ (S.rd (S.step (S.set a ((S.rd a).take 44).2))).at_)
    {a : α} (h0 : PCalls prog g cap (S.F a) (fun v σ' => v = .tup [] ∧ σ' = S.F (S.step a))) (hI : Inv (S.step a)) {n : Nat} (hn : (S.rd (S.step a)).l.length ≤ n) :
    PCalls prog 109 [.ptr (.out r) 0, .fn (.func g) [] cap] (S.F a) fun v σ' => v = .tup [] ∧ σ' = S.F (S.go n (S.step a)) := by
  refine fn109.calls ?_
  simp only [slots, ac109, ams, am, hnol]
  refine h0.mono ?_
  rintro v σ' ⟨rfl, rfl⟩
  simp only [am]
  let I : { p : α × Nat // Inv p.1 ∧ ((S.rd p.1).l.length : Int) ≤ max (S.rd p.1).at_ 0 + p.2 ∧ S.go p.2 p.1 = S.go n (S.step a) } → St := fun p =>
    ⟨[.ptr (.out r) 0, .fn (.func g) [] cap] ++ List.replicate 10 .any, [], S.F p.1.1⟩
  refine vc_loop I (fun p => p.1.2) ?_ ?_
  · refine Upd.enter ⟨(S.step a, n), hI, by simp only; omega, rfl⟩ ?_ LLLe.rfl OLe.rfl
    simp [I, List.replicate, am]
  · rintro ⟨⟨b, m⟩, hb, hm, hgo⟩
    simp only [I, List.replicate, am]
    simp only at hb hm hgo
    refine (sees_calls (hbox b hb)).mono ?_
    rintro v σ' ⟨rfl, rfl⟩
    cases hs : (S.rd b).sees 44
    · simp only [am]
      refine retK_intro rfl (Store.sub_refl _) ⟨rfl, ?_⟩
      rw [← hgo]
      cases m <;> simp [Sys.go, hs]
    · obtain ⟨_, h1, h2⟩ := sees_spec hs
      simp only [am]
      refine (take_calls (hbox b hb) (hlen b hb)).mono ?_
      rintro v σ' ⟨rfl, rfl⟩
      simp only [am, hnol]
      obtain ⟨k1, k2, k3, k4⟩ := hstep b hb hs
      rw [hset b hb hs]
      refine k1.mono ?_
      rintro v σ' ⟨rfl, rfl⟩
      simp only [am]
      cases m with
      | zero => omega
      | succ m =>
        refine Upd.again ⟨(S.step (S.set b ((S.rd b).take 44).2), m), k2, ?_, ?_⟩ (by simp) ?_ LLLe.rfl OLe.rfl
        · rw [k3]; simp only; omega
        · rw [← hgo]; simp [Sys.go, hs]
        · simp [I, List.replicate, am]
end Go.Proofs.Tryd

namespace Go.Proofs.Tryd
open Go.Am
def ac107 : AC := .seq (.reg [xi 8 0])
 (.seq (.reg [xm 11 0, xm 12 1, xc 113 13 [.s 11, .s 12], ⟨(some 9), .alloc [(.int .u8 0), (.str []), (.int .i64 0), (.sl .full 5 []), (.int .i64 0)], none⟩, xs 5 9 13])
 (.seq (.seq (.reg [xm 14 0, xc 87 15 [.s 14], ⟨(some 16), .not (.s 15), none⟩])
 (.cond (.s 16) (.seq (.reg [xi 8 0])
 (.ret))
 (.skip)))
 (.seq (.reg [xf 3 17 9, xo 18 17, xf 4 19 9, xo 20 19, ⟨(some 21), .build [(.sl .full 5 []), (.int .i64 0), (.int .i64 0), (.int .i64 0), (.int .i64 0)] [(0, 1, (.s 18)), (2, 1, (.s 20))], none⟩, ⟨(some 22), .boxO 5 (.s 21), none⟩, xm 10 22])
 (.seq (.seq (.reg [xm 23 2, ⟨(some 24), .not (.s 23), none⟩, xm 25 24, xh 25 (xf 3 26 9), xh 25 (xo 27 26), xh 25 (xL 28 27), xh 25 (xB .gtr 29 28 0), ⟨(some 30), .pick (.s 25) (.c (.bool true)) (.s 29), none⟩])
 (.cond (.s 30) (.reg [xm 31 3, xm 32 10, ⟨(some 33), .callv (.s 31) [(.s 32)], none⟩])
 (.skip)))
 (.seq (.seq (.draw [(xm 34 10, []), (xc 87 35 [.s 34], []), (xm 36 35, []), (xg 36 (xm 37 10), []), (xg 36 (xk 38 37), []), (xg 36 (xf 1 39 38), []), (xg 36 (xo 40 39), []), (xg 36 (xm 41 10), []), (xg 36 (xk 42 41), []), (xg 36 (xf 0 43 42), []), (xg 36 (xo 44 43), []), (xg 36 (xL 45 44), []), (xg 36 (xb .lss 46 40 45), []), (⟨(some 47), .pick (.s 36) (.s 46) (.c (.bool false)), none⟩, [])])
 (.cond (.s 47) (.reg [xm 48 10, xc 123 49 [.s 48]])
 (.skip)))
 (.seq (.seq (.reg [xm 50 10, xc 87 51 [.s 50], ⟨(some 52), .not (.s 51), none⟩])
 (.cond (.s 52) (.reg [xm 53 0, xm 54 10, xk 55 54, xf 3 56 55, xl 2 57 56, xk 58 53, xf 3 59 58, xs 2 59 57])
 (.skip)))
 (.seq (.reg [xf 0 60 9, xf 2 61 60, xo 62 61, xm 8 62])
 (.ret))))))))
theorem fn107 : IsFn prog 107 ac107 [.tmp 8] 63 := ⟨f107, ⟨[22], []⟩, func107, by kernel_rfl, by kernel_rfl, by kernel_rfl, by kernel_rfl⟩
set_option maxRecDepth 4000
set_option maxHeartbeats 4000000
theorem within_calls {r : Nat} {rd : Rdr} {kind : Int} {empty : Bool} {g : FuncId} {cap : List V} {σ : Store} (hnol : nolL cap = true) (h : σ.box r = some rd.enc) (hlen : rd.l.length ≤ big) (hkids : (rd.take kind).1.kids.length ≤ big)
    (i1 : Rdr) (σe : Store) (hcb : (rd.take kind).2.ok = true → (empty = false ∨ (rd.take kind).1.kids.length ≠ 0) → ∀ q, σ.box q = none →
      PCalls prog g (.ptr (.out q) 0 :: cap) ((σ.set r (rd.take kind).2.enc).set q (rd.take kind).1.inner.enc) fun v σ' => v = .tup [] ∧ σ' = (σe.set r (rd.take kind).2.enc).set q i1.enc)
    (hno : empty = true → (rd.take kind).1.kids.length = 0 → i1 = (rd.take kind).1.inner ∧ σe = σ) (hq : ∀ q, σ.box q = none → σe.box q = none) (hl : i1.l = (rd.take kind).1.kids) :
    PCalls prog 107 [.ptr (.out r) 0, .int .u8 kind, .bool empty, .fn (.func g) [] cap] σ fun v σ' =>
      if (rd.take kind).2.ok = true then v = .int .i64 (rd.take kind).1.tok.pos ∧ σ' = σe.set r ((rd.take kind).2.under i1).enc else v = .int .i64 0 ∧ σ' = σ.set r (rd.take kind).2.enc := by
  refine fn107.calls ?_
  simp only [slots, ac107, ams, am]
  refine (take_calls h hlen).mono ?_
  rintro v σ' ⟨rfl, rfl⟩
  generalize ht : (rd.take kind).1 = t at *
  generalize hr1 : (rd.take kind).2 = rd1 at *
  simp only [am, enc_eq, Nat.reduceAdd]
  refine (ok_calls (Store.set_same _ _ _)).mono ?_
  rintro v σ' ⟨rfl, rfl⟩
  cases hok : rd1.ok
  · simp only [am]
    refine retK_intro rfl (Store.sub_refl _) ?_
    simp [V.erase]
  · have hbad : rd1.bad = none := by simpa [Rdr.ok] using hok
    simp only [am, Nat.reduceAdd]
    refine kO_intro fun q hqn => ?_
    have hqr : q ≠ r := by rintro rfl; rw [Store.set_same] at hqn; simp at hqn
    have hqn' : σ.box q = none := by rw [Store.set_other _ _ hqr] at hqn; exact hqn
    have hin : [V.sl .no 5 (encs t.kids), .int .i64 0, .int .i64 t.fin, .int .i64 0, .int .i64 0] = t.inner.enc := rfl
    simp only [am, hin]
    have hcl : ∀ i : Rdr, i.l = t.kids → ((σe.set r rd1.enc).set q i.enc).box q = some i.enc := fun i _ => Store.set_same _ _ _
    have hsub : ∀ (A B : List V), (σe.set r A).sub ((σe.set r A).set q B) := fun A B => by
      refine ⟨fun b cs hb => ?_, fun _ _ h => h⟩
      by_cases hbq : b = q
      · subst hbq; rw [Store.set_other _ _ hqr, hq b hqn'] at hb; simp at hb
      · rw [Store.set_other _ _ hbq]; exact hb
    have hsw : ∀ (A B C : List V), ((σe.set r A).set q B).set r C = (σe.set r C).set q B := fun A B C => by rw [Store.set_comm hqr, Store.set_set]
    have hci : ((σe.set r rd1.enc).set q i1.enc).box q = some i1.enc := Store.set_same _ _ _
    by_cases hc : empty = false ∨ t.kids.length ≠ 0
    case' neg =>
      have hE : empty = true := by cases empty <;> simp at hc ⊢
      have hk : t.kids.length = 0 := by
        rcases Nat.eq_zero_or_pos t.kids.length with h | h
        · exact h
        · exact absurd (.inr (by omega)) hc
      obtain ⟨e1, e2⟩ := hno hE hk
      simp only [am, hE, encs_length, hk, Int.natCast_zero, Int.lt_irrefl, decide_false]
      rw [← e1, ← e2]
    case' pos =>
      have hgo := hcb hok hc q hqn'
      cases hE : empty
      case' true =>
        have hk : 0 < t.kids.length := by
          rcases hc with h | h
          · rw [hE] at h; simp at h
          · omega
        simp only [am, encs_length, Int.natCast_pos, hk, decide_true]
      all_goals
        simp only [am, hnol]
        refine hgo.mono ?_
        rintro v σ' ⟨rfl, rfl⟩
        simp only [am]
    all_goals
      refine CallD.intro (ok_calls hci) ?_
      have hbox1 : ∀ (i : Rdr), ((σe.set r rd1.enc).set q i.enc).box r = some rd1.enc := fun i => by rw [Store.set_other _ _ (Ne.symm hqr), Store.set_same]
      have fin : ∀ (i : Rdr) (x : List V), x = (rd1.under i1).enc → (σe.set r (rd1.under i1).enc).sub (((σe.set r rd1.enc).set q i.enc).set r x) := fun i x hx => by
        rw [hx, hsw]; exact hsub _ _
      cases hio : i1.ok
      · have hcl : i1.close = i1 := by simp [Rdr.close, hio]
        simp only [am]
        refine (ok_calls hci).mono ?_
        rintro v σ' ⟨rfl, rfl⟩
        simp only [am, hio, hbox1, Rdr.ex, Nat.reduceAdd]
        exact retK_intro rfl (fin i1 _ (by rw [Rdr.under, hcl]; rfl)) ⟨rfl, rfl⟩
      · simp only [am, Rdr.ex, hl, encs_length]
        by_cases hlt : i1.at_ < t.kids.length
        · have hcl : i1.close = i1.fail := by simp [Rdr.close, hio, hl, hlt]
          simp only [am, hlt, decide_true]
          refine (fail_calls hci).mono ?_
          rintro v σ' ⟨rfl, rfl⟩
          simp only [am]
          refine (ok_calls (Store.set_same _ _ _)).mono ?_
          rintro v σ' ⟨rfl, rfl⟩
          have hf : i1.fail.ok = false := by
            have : i1.bad = none := by simpa [Rdr.ok] using hio
            simp [Rdr.fail, this, Rdr.ok]
          simp only [am, hf, hbox1, Rdr.ex, Nat.reduceAdd]
          exact retK_intro rfl (fin i1.fail _ (by rw [Rdr.under, hcl]; rfl)) ⟨rfl, rfl⟩
        · have hcl : i1.close = i1 := by simp [Rdr.close, hl, hlt]
          have hu : rd1.under i1 = rd1 := by
            have : i1.bad = none := by simpa [Rdr.ok] using hio
            rw [Rdr.under, hcl, this, ← hbad]
          simp only [am, hlt, decide_false]
          refine (ok_calls hci).mono ?_
          rintro v σ' ⟨rfl, rfl⟩
          simp only [am, hio]
          refine retK_intro rfl ?_ ⟨rfl, rfl⟩
          rw [hu]
          exact hsub _ _
end Go.Proofs.Tryd

namespace Go.Proofs.Tryd
open Go.Am
def ac86 : AC := .seq (.reg [⟨(some 4), .mv (.c (.sl .full 2 [])), none⟩, xi 5 0])
 (.seq (.reg [⟨(some 6), .allocO [(.sl .full 2 [])], none⟩])
 (.seq (.upd (.reg [xm 8 0, xm 9 1, ⟨(some 10), .mkfn (.func 108) [] [(.s 6)], none⟩, xc 107 11 [.s 8, .c (.int .u8 123), .s 9, .s 10], xm 7 11]))
 (.seq (.reg [xo 12 6, xm 13 7, xm 4 12, xm 5 13])
 (.ret))))
theorem fn86 : IsFn prog 86 ac86 [.tmp 4, .tmp 5] 14 := ⟨f86, ⟨[6], [2]⟩, func86, by kernel_rfl, by kernel_rfl, by kernel_rfl, by kernel_rfl⟩
def ac108 : AC := .seq (.reg [⟨(some 2), .boxO 1 (.s 0), none⟩])
 (.reg [xo 3 2, ⟨(some 4), .mkfn (.func 110) [] [(.s 1), (.s 2)], none⟩, xc 109 5 [.s 3, .s 4]])
theorem fn108 : IsFn prog 108 ac108 [] 6 := ⟨f108, ⟨[2], []⟩, func108, by kernel_rfl, by kernel_rfl, by kernel_rfl, by kernel_rfl⟩
def ac110 : AC := .draw [(xo 2 0, [1]), (xo 3 1, []), (xc 111 4 [.s 3], []), (⟨(some 5), .bslice 2 [(.s 4)], none⟩, []), (xa 2 6 2 5, []), (xs 1 0 6, [])]
theorem fn110 : IsFn prog 110 ac110 [] 7 := ⟨f110, ⟨[], []⟩, func110, by kernel_rfl, by kernel_rfl, by kernel_rfl, by kernel_rfl⟩
set_option maxRecDepth 4000
set_option maxHeartbeats 4000000
theorem words11_calls {o p r τ : Nat} {rows : List (List V)} {rd : Rdr} {σ : Store} (ho : σ.box o = some [.sl (.tk τ) 2 rows]) (hp : σ.box p = some [.ptr (.out r) 0]) (hr : σ.box r = some rd.enc) (hor : o ≠ r)
    (ht : σ.tip τ = some rows.length) (hb : rows.length + 1 ≤ big) (hlen : rd.l.length ≤ big) :
    PCalls prog 110 [.ptr (.out o) 0, .ptr (.out p) 0] σ fun v σ' => v = .tup [] ∧ σ' = ((σ.set r rd.word.2.enc).set o [.sl (.tk τ) 2 (rows ++ [rd.word.1.enc])]).setTip τ (rows.length + 1) := by
  refine fn110.calls ?_
  simp only [slots, ac110, ams, am, ho, hp]
  refine CallD.intro (word_calls hr hlen) ?_
  simp only [am, Word.enc]
  refine appD_tk (by simpa using hb) ht ?_
  have h1 : (σ.set r rd.word.2.enc).box o = some [.sl (.tk τ) 2 rows] := by rw [Store.set_other _ _ hor]; exact ho
  simp only [am, h1, ho]
  exact retK_intro rfl (Store.sub_refl _) ⟨rfl, rfl⟩
def gStore (σ : Store) (q o τ k : Nat) (rd : Rdr) (rows : List (List V)) : Store := ((σ.set q rd.enc).set o [.sl (.tk τ) k rows]).setTip τ rows.length
def wSys (σ : Store) (q o τ : Nat) : Sys (Rdr × List Word) := ⟨fun a => gStore σ q o τ 2 a.1 (a.2.map Word.enc), fun a => a.1, fun a r => (r, a.2), wStep⟩
theorem go_goG {β : Type} (F : Rdr × List β → Store) (step : Rdr × List β → Rdr × List β) : ∀ (n : Nat) (a : Rdr × List β), Sys.go ⟨F, fun a => a.1, fun a r => (r, a.2), step⟩ n a = goG step n a
  | 0, _ => rfl
  | n + 1, a => by simp only [Sys.go, goG, go_goG F step n]
theorem gStore_q {σ : Store} {q o τ k : Nat} {rd : Rdr} {rows : List (List V)} (h : q ≠ o) : (gStore σ q o τ k rd rows).box q = some rd.enc := by
  simp [gStore, Store.setTip, Store.set, h]
theorem gStore_o {σ : Store} {q o τ k : Nat} {rd : Rdr} {rows : List (List V)} : (gStore σ q o τ k rd rows).box o = some [.sl (.tk τ) k rows] := by
  simp [gStore, Store.setTip, Store.set]
theorem gStore_p {σ : Store} {q o τ k p : Nat} {rd : Rdr} {rows : List (List V)} (h : p ≠ q) (h' : p ≠ o) : (gStore σ q o τ k rd rows).box p = σ.box p := by
  simp [gStore, Store.setTip, Store.set, h, h']
theorem gStore_other {σ : Store} {q o τ k p : Nat} {rd : Rdr} {rows : List (List V)} {cs : List V} (h : p ≠ q) (h' : p ≠ o) : (gStore σ q o τ k rd rows).set p cs = gStore (σ.set p cs) q o τ k rd rows := by
  have : ((σ.set q rd.enc).set o [.sl (.tk τ) k rows]).set p cs = ((σ.set p cs).set q rd.enc).set o [.sl (.tk τ) k rows] := by
    rw [Store.set_comm (Ne.symm h'), Store.set_comm (b := q) (Ne.symm h)]
  show (((σ.set q rd.enc).set o [.sl (.tk τ) k rows]).set p cs).setTip τ rows.length = _
  rw [this]; rfl
theorem sub_set {σ : Store} {p : Nat} {cs : List V} (h : σ.box p = none) : σ.sub (σ.set p cs) := by
  refine ⟨fun b ds hb => ?_, fun _ _ h => h⟩
  have : b ≠ p := by rintro rfl; rw [h] at hb; simp at hb
  rw [Store.set_other _ _ this]; exact hb
theorem gStore_tip {σ : Store} {q o τ k : Nat} {rd : Rdr} {rows : List (List V)} : (gStore σ q o τ k rd rows).tip τ = some rows.length := by
  simp [gStore, Store.setTip]
theorem gStore_set {σ : Store} {q o τ k : Nat} {rd rd' : Rdr} {rows : List (List V)} (h : q ≠ o) : (gStore σ q o τ k rd rows).set q rd'.enc = gStore σ q o τ k rd' rows := by
  have : ((σ.set q rd.enc).set o [.sl (.tk τ) k rows]).set q rd'.enc = (σ.set q rd'.enc).set o [.sl (.tk τ) k rows] := by rw [Store.set_comm (Ne.symm h), Store.set_set]
  show (((σ.set q rd.enc).set o [.sl (.tk τ) k rows]).set q rd'.enc).setTip τ rows.length = _
  rw [this]; rfl
theorem gStore_put {σ : Store} {q o τ k : Nat} {rd rd' : Rdr} {rows : List (List V)} {c : List V} (h : q ≠ o) : (((gStore σ q o τ k rd rows).set q rd'.enc).set o [.sl (.tk τ) k (rows ++ [c])]).setTip τ (rows.length + 1) = gStore σ q o τ k rd' (rows ++ [c]) := by
  rw [gStore_set h]
  unfold gStore
  rw [List.length_append, List.length_cons, List.length_nil]
  show ((((σ.set q rd'.enc).set o [.sl (.tk τ) k rows]).set o [.sl (.tk τ) k (rows ++ [c])]).setTip τ rows.length).setTip τ (rows.length + 1) = _
  rw [Store.set_set, setTip_setTip]
def Pace {β : Type} (l : List Tree) (a : Rdr × List β) : Prop := a.1.l = l ∧ 0 ≤ a.1.at_ ∧ a.1.at_ ≤ l.length ∧ (a.1.bad = none → (a.2.length : Int) ≤ a.1.at_)
theorem pace_word {l : List Tree} {a : Rdr × List Word} (h : Pace l a) (hb : a.1.bad = none) : Pace l (wStep a) ∧ a.1.at_ ≤ (wStep a).1.at_ := by
  obtain ⟨h1, h2, h3, h4⟩ := h
  have h4 := h4 hb
  rcases a.1.take_at 97 with ⟨_, k1, k2, k3, k4⟩ | ⟨_, k1, k2⟩
  · refine ⟨⟨?_, ?_, ?_, fun _ => ?_⟩, ?_⟩ <;> simp only [wStep, Rdr.word, Rdr.take_l, k1, List.length_append, List.length_cons, List.length_nil]
    · exact h1
    · omega
    · rw [h1] at k4; omega
    · omega
    · omega
  · refine ⟨⟨?_, ?_, ?_, fun hq => absurd hq k2⟩, ?_⟩ <;> simp only [wStep, Rdr.word, Rdr.take_l, k1]
    · exact h1
    · exact h2
    · exact h3
    · omega
theorem pace_take {β : Type} {l : List Tree} {a : Rdr × List β} (h : Pace l a) (hs : a.1.sees 44 = true) : Pace l ((a.1.take 44).2, a.2) ∧ (a.1.take 44).2.bad = none ∧ (a.1.take 44).2.at_ = a.1.at_ + 1 := by
  obtain ⟨h1, h2, h3, h4⟩ := h
  rcases a.1.take_at 44 with ⟨_, k1, k2, k3, k4⟩ | ⟨k0, _⟩
  · have hb : a.1.bad = none := by
      simp only [Rdr.sees, Rdr.ok, Bool.and_eq_true, Option.isNone_iff_eq_none] at hs
      exact hs.1
    have := h4 hb
    rw [h1] at k4
    exact ⟨⟨by simp only [Rdr.take_l]; exact h1, by simp only [k1]; omega, by simp only [k1]; omega, fun _ => by simp only [k1]; omega⟩, k2, k1⟩
  · rw [hs] at k0; simp at k0
theorem words1_calls {o q τ : Nat} {rd : Rdr} {σ : Store} (hqo : q ≠ o) (hat : rd.at_ = 0) (hbad : rd.bad = none) (hlen : rd.l.length + 1 ≤ big) :
    PCalls prog 108 [.ptr (.out q) 0, .ptr (.out o) 0] (gStore σ q o τ 2 rd []) fun v σ' => v = .tup [] ∧ σ' = gStore σ q o τ 2 (someG wStep rd).1 ((someG wStep rd).2.map Word.enc) := by
  refine fn108.calls ?_
  simp only [slots, ac108, ams, am]
  refine kO_intro fun p hp => ?_
  have hpq : p ≠ q := by rintro rfl; rw [gStore_q hqo] at hp; simp at hp
  have hpo : p ≠ o := by rintro rfl; rw [gStore_o] at hp; simp at hp
  rw [gStore_other hpq hpo]
  simp only [am, gStore_p hpq hpo]
  have hstep : ∀ a : Rdr × List Word, Pace rd.l a → a.1.bad = none → PCalls prog 110 [.ptr (.out o) 0, .ptr (.out p) 0] (gStore (σ.set p [.ptr (.out q) 0]) q o τ 2 a.1 (a.2.map Word.enc)) fun v σ' =>
      v = .tup [] ∧ σ' = gStore (σ.set p [.ptr (.out q) 0]) q o τ 2 (wStep a).1 ((wStep a).2.map Word.enc) := fun a hp' hb => by
    have hl := hp'.2.2.2 hb
    have hl2 := hp'.2.2.1
    refine (words11_calls gStore_o (by rw [gStore_p hpq hpo, Store.set_same]) (gStore_q hqo) (Ne.symm hqo) gStore_tip (by rw [List.length_map]; omega) (by rw [hp'.1]; omega)).mono ?_
    rintro v σ' ⟨rfl, rfl⟩
    refine ⟨rfl, ?_⟩
    rw [gStore_put hqo]
    simp [wStep]
  have h0 : Pace rd.l (rd, ([] : List Word)) := ⟨rfl, by simp [hat], by simp [hat], fun _ => by simp [hat]⟩
  obtain ⟨p1, _⟩ := pace_word h0 hbad
  refine (some_calls (wSys (σ.set p [.ptr (.out q) 0]) q o τ) (Pace rd.l) (a := (rd, [])) (n := rd.l.length) (by simp [am]) (fun a h => gStore_q hqo) (fun a h => ?_) (fun a h hs => gStore_set hqo) (fun a h hs => ?_) (hstep _ h0 hbad) p1 ?_).mono ?_
  · show a.1.l.length ≤ big
    rw [h.1]; omega
  · obtain ⟨k1, k2, k3⟩ := pace_take h hs
    obtain ⟨k4, k5⟩ := pace_word k1 k2
    refine ⟨hstep _ k1 k2, k4, ?_, ?_⟩
    · exact k4.1.trans h.1.symm
    · show a.1.at_ + 1 ≤ _
      simp only at k5
      rw [k3] at k5
      exact k5
  · show (wStep (rd, [])).1.l.length ≤ rd.l.length
    rw [p1.1]; omega
  rintro v σ' ⟨rfl, rfl⟩
  simp only [am]
  refine retK_intro rfl (σ' := gStore σ q o τ 2 (someG wStep rd).1 ((someG wStep rd).2.map Word.enc)) ?_ ⟨rfl, rfl⟩
  have e : (wSys (σ.set p [.ptr (.out q) 0]) q o τ).F ((wSys (σ.set p [.ptr (.out q) 0]) q o τ).go rd.l.length ((wSys (σ.set p [.ptr (.out q) 0]) q o τ).step (rd, []))) = gStore (σ.set p [.ptr (.out q) 0]) q o τ 2 (someG wStep rd).1 ((someG wStep rd).2.map Word.enc) := by
    unfold wSys
    rw [go_goG]
    rfl
  rw [e, ← gStore_other hpq hpo]
  exact sub_set (by rw [gStore_p hpq hpo]; rw [gStore_p hpq hpo] at hp; exact hp)
theorem go_l {β : Type} {l : List Tree} {step : Rdr × List β → Rdr × List β} (hs : ∀ a, a.1.l = l → (step a).1.l = l) : ∀ (n : Nat) (a : Rdr × List β), a.1.l = l → (goG step n a).1.l = l
  | 0, _, h => h
  | n + 1, a, h => by
    simp only [goG]
    split
    · exact go_l hs n _ (hs _ (by rw [Rdr.take_l]; exact h))
    · exact h
theorem inside_l {β : Type} {step : Rdr × List β → Rdr × List β} (hs : ∀ l a, a.1.l = l → (step a).1.l = l) (empty : Bool) (t : Tree) : (Rdr.inside step empty t).1.l = t.kids := by
  unfold Rdr.inside
  split
  · rfl
  · exact go_l (hs _) _ _ (hs _ _ rfl)
theorem wStep_l (l : List Tree) (a : Rdr × List Word) (h : a.1.l = l) : (wStep a).1.l = l := by simp [wStep, Rdr.word, Rdr.take_l, h]
theorem words_calls {r : Nat} {empty : Bool} {rd : Rdr} {σ : Store} (h : σ.box r = some rd.enc) (hlen : rd.l.length ≤ big) (hkids : (rd.take 123).1.kids.length + 1 ≤ big) :
    PCalls prog 86 [.ptr (.out r) 0, .bool empty] σ fun v σ' => v = .tup [.sl .no 2 ((rd.words empty).1.1.map Word.enc), .int .i64 (rd.words empty).1.2] ∧ σ' = σ.set r (rd.words empty).2.enc := by
  refine fn86.calls ?_
  simp only [slots, ac86, ams, am]
  refine kO_intro fun o ho => ?_
  have hor : o ≠ r := by rintro rfl; rw [h] at ho; simp at ho
  simp only [am]
  refine Upd.tok 0 fun τ hτ => ⟨_, _, _, LTo.rfl, rfl, fun i c hc => ⟨c, hc, LTo.rfl⟩, OTo.set (cs := [.sl .full 2 []]) (cs' := [.sl (.tk τ) 2 []]) (Store.set_same _ _ _) ⟨VTo.tok rfl, trivial⟩, ?_⟩
  simp only [am]
  have h1 : ((σ.set o [.sl (.tk τ) 2 []]).setTip τ 0).box r = some rd.enc := by
    show (σ.set o _).box r = _
    rw [Store.set_other _ _ (Ne.symm hor)]; exact h
  have hne : ∀ q, ((σ.set o [V.sl (.tk τ) 2 []]).setTip τ 0).box q = none → q ≠ o ∧ q ≠ r ∧ σ.box q = none := fun q hq => by
    have hqo : q ≠ o := by rintro rfl; rw [show ((σ.set q [V.sl (.tk τ) 2 []]).setTip τ 0).box q = _ from Store.set_same _ _ _] at hq; simp at hq
    have hq' : σ.box q = none := by rw [← Store.set_other σ [V.sl (.tk τ) 2 []] hqo]; exact hq
    exact ⟨hqo, by rintro rfl; rw [h] at hq'; simp at hq', hq'⟩
  generalize hin : Rdr.inside wStep empty (rd.take 123).1 = ins
  have hinl : ins.1.l = (rd.take 123).1.kids := by rw [← hin]; exact inside_l wStep_l _ _
  refine (within_calls (kind := 123) (by simp [am]) h1 hlen (by omega) ins.1 ((σ.set o [.sl (.tk τ) 2 (ins.2.map Word.enc)]).setTip τ (ins.2.map Word.enc).length) ?_ ?_ ?_ hinl).mono ?_
  · intro hok hc q hq
    obtain ⟨hqo, hqr, _⟩ := hne q hq
    have e1 : (((σ.set o [V.sl (.tk τ) 2 []]).setTip τ 0).set r (rd.take 123).2.enc).set q (rd.take 123).1.inner.enc = gStore (σ.set r (rd.take 123).2.enc) q o τ 2 (rd.take 123).1.inner [] := by
      unfold gStore
      rw [Store.set_comm (b := q) hqo, Store.set_comm (b := r) (Ne.symm hor)]
      rfl
    have e2 : (((σ.set o [V.sl (.tk τ) 2 (ins.2.map Word.enc)]).setTip τ (ins.2.map Word.enc).length).set r (rd.take 123).2.enc).set q ins.1.enc = gStore (σ.set r (rd.take 123).2.enc) q o τ 2 ins.1 (ins.2.map Word.enc) := by
      unfold gStore
      rw [Store.set_comm (b := q) hqo, Store.set_comm (b := r) (Ne.symm hor)]
      rfl
    have e3 : ins = someG wStep (rd.take 123).1.inner := by
      rw [← hin, Rdr.inside, if_neg]
      rintro ⟨q1, q2⟩
      rcases hc with hc | hc
      · rw [q1] at hc; simp at hc
      · exact hc q2
    rw [e1, e2, e3]
    exact words1_calls hqo rfl rfl hkids
  · intro q1 q2
    have : ins = ((rd.take 123).1.inner, []) := by rw [← hin, Rdr.inside, if_pos ⟨q1, q2⟩]
    rw [this]
    exact ⟨rfl, rfl⟩
  · intro q hq
    obtain ⟨hqo, _, hq'⟩ := hne q hq
    show (σ.set o _).box q = none
    rw [Store.set_other _ _ hqo]; exact hq'
  rintro v σ' hv
  have hdrop : ∀ (A B : List V) (n : Nat), (σ.set r A).sub (((σ.set o B).setTip τ n).set r A) := fun A B n => by
    refine ⟨fun b cs hb => ?_, fun υ m hm => ?_⟩
    · have hbo : b ≠ o := by rintro rfl; rw [Store.set_other _ _ hor, ho] at hb; simp at hb
      by_cases hbr : b = r
      · subst hbr; rw [Store.set_same] at hb ⊢; exact hb
      · rw [Store.set_other _ _ hbr] at hb ⊢
        show (σ.set o B).box b = _
        rw [Store.set_other _ _ hbo]; exact hb
    · have hm' : σ.tip υ = some m := hm
      have hne' : υ ≠ τ := by rintro rfl; rw [show (σ.set o [V.sl .full 2 []]).tip υ = σ.tip υ from rfl] at hτ; rw [hτ] at hm'; simp at hm'
      show ((σ.set o B).setTip τ n).tip υ = some m
      rw [setTip_tip_ne hne']; exact hm'
  split at hv
  · rename_i hok
    obtain ⟨rfl, rfl⟩ := hv
    have hb : (((σ.set o [V.sl (.tk τ) 2 (ins.2.map Word.enc)]).setTip τ (ins.2.map Word.enc).length).set r ((rd.take 123).2.under ins.1).enc).box o = some [V.sl (.tk τ) 2 (ins.2.map Word.enc)] := by
      rw [Store.set_other _ _ hor]; exact Store.set_same _ _ _
    simp only [am, hb]
    refine retK_intro rfl (hdrop _ _ _) ⟨?_, ?_⟩
    · simp [Rdr.words, Rdr.bracket, hok, hin, V.erase, eraseL]
    · simp [Rdr.words, Rdr.bracket, hok, hin]
  · rename_i hok
    obtain ⟨rfl, rfl⟩ := hv
    have hb : (((σ.set o [V.sl (.tk τ) 2 []]).setTip τ 0).set r (rd.take 123).2.enc).box o = some [V.sl (.tk τ) 2 []] := by
      rw [Store.set_other _ _ hor]; exact Store.set_same _ _ _
    simp only [am, hb]
    refine retK_intro rfl (hdrop _ _ _) ⟨?_, ?_⟩
    · simp [Rdr.words, Rdr.bracket, hok, V.erase, eraseL]
    · simp [Rdr.words, Rdr.bracket, hok]
end Go.Proofs.Tryd

namespace Go.Proofs.Tryd
open Go.Am
def ac124 : AC := .seq (.reg [⟨(some 3), .boxO 1 (.s 0), none⟩])
 (.reg [xo 4 3, ⟨(some 5), .mkfn (.func 125) [] [(.s 1), (.s 2), (.s 3)], none⟩, xc 109 6 [.s 4, .s 5]])
theorem fn124 : IsFn prog 124 ac124 [] 7 := ⟨f124, ⟨[3], []⟩, func124, by kernel_rfl, by kernel_rfl, by kernel_rfl, by kernel_rfl⟩
def ac125 : AC := .hole [(xo 3 0, [1]), (xo 4 1, []), (xo 5 2, []), (⟨(some 6), .callv (.s 4) [(.s 5)], none⟩, []), (xL 7 3, []), (⟨(some 8), .bslice 5 [(.c (.agg [(.int .i64 0), (.int .i64 0), (.str []), (.sl .full 2 []), (.sl .full 5 [])]))], none⟩, []), (⟨(some 9), .mv (.c .any), none⟩, []), (⟨(some 10), .mv (.c .any), none⟩, []), (⟨none, .mv (.c .any), none⟩, []), (⟨none, .mv (.c .any), none⟩, [])] ⟨5, (.s 3), (.s 8), (.s 7), (.s 6), (.s 0), none, 9, 10, 20⟩
theorem fn125 : IsFn prog 125 ac125 [] 11 := ⟨f125, ⟨[], []⟩, func125, by kernel_rfl, by kernel_rfl, by kernel_rfl, by kernel_rfl⟩
set_option maxRecDepth 4000
set_option maxHeartbeats 4000000
theorem Nd.wd {n : Nd} : (V.agg n.enc).wd = some 5 := by rw [Nd.enc_eq]; rfl
theorem Nd.one {n : Nd} : oneL n.enc = true := by rw [Nd.enc_eq]; rfl
theorem Nd.nol {n : Nd} : nolL n.enc = true := by rw [Nd.enc_eq]; rfl
theorem Nd.er {n : Nd} : eraseL n.enc = n.enc := by rw [Nd.enc_eq]; rfl
theorem kids11_calls {o f p q τ : Nat} {g : FuncId} {rows : List (List V)} {rd' : Rdr} {n : Nd} {σ : Store} (ho : σ.box o = some [.sl (.tk τ) 5 rows]) (hf : σ.box f = some [.fn (.func g) [] []]) (hp : σ.box p = some [.ptr (.out q) 0])
    (hoq : o ≠ q) (ht : σ.tip τ = some rows.length) (hb : rows.length + 1 ≤ big) (hone : PCalls prog g [.ptr (.out q) 0] σ fun v σ' => v = .agg n.enc ∧ σ' = σ.set q rd'.enc) :
    PCalls prog 125 [.ptr (.out o) 0, .ptr (.out f) 0, .ptr (.out p) 0] σ fun v σ' => v = .tup [] ∧ σ' = ((σ.set q rd'.enc).set o [.sl (.tk τ) 5 (rows ++ [n.enc])]).setTip τ (rows.length + 1) := by
  refine fn125.calls ?_
  simp only [slots, ac125, ams, am, ho, hp, hf]
  refine CallD.intro hone ?_
  have h1 : (σ.set q rd'.enc).box o = some [.sl (.tk τ) 5 rows] := by rw [Store.set_other _ _ hoq]; exact ho
  simp only [am, h1, ho]
  refine hole_intro (τ := τ) (m := rows) (cs := n.enc) (p := .ptr (.out o) 0) rfl rfl rfl hb ht ⟨Nd.wd, Nd.one, Nd.nol⟩ Nd.er (by simp [am]) rfl (by simp only [ev, am, h1]; rfl) ?_
  simp only [am]
  exact retK_intro rfl (Store.sub_refl _) ⟨rfl, rfl⟩
theorem pace_one {β : Type} {one : Rdr → β × Rdr} (ho : Reads one) {l : List Tree} {a : Rdr × List β} (h : Pace l a) (hb : a.1.bad = none) : Pace l (oStep one a) ∧ a.1.at_ ≤ (oStep one a).1.at_ := by
  obtain ⟨h1, h2, h3, h4⟩ := h
  have h4 := h4 hb
  obtain ⟨k1, k2, k3⟩ := ho.go a.1 h2 (by rw [h1]; exact h3)
  refine ⟨⟨by simp only [oStep, ho.l]; exact h1, by simp only [oStep]; omega, by simp only [oStep]; rw [h1] at k2; exact k2, fun hq => ?_⟩, k1⟩
  have := k3 hq
  simp only [oStep, List.length_append, List.length_cons, List.length_nil]
  omega
def kSys (one : Rdr → Nd × Rdr) (σ : Store) (q o τ : Nat) : Sys (Rdr × List Nd) := ⟨fun a => gStore σ q o τ 5 a.1 (a.2.map Nd.enc), fun a => a.1, fun a r => (r, a.2), oStep one⟩
theorem kids1_calls {o f q τ : Nat} {g : FuncId} {one : Rdr → Nd × Rdr} (hr : Reads one) {rd : Rdr} {σ : Store} (hqo : q ≠ o) (hfq : f ≠ q) (hfo : f ≠ o) (hf : σ.box f = some [.fn (.func g) [] []]) (hat : rd.at_ = 0) (hbad : rd.bad = none) (hlen : rd.l.length + 1 ≤ big)
    (hone : ∀ (r : Rdr) (σ : Store), r.l = rd.l → 0 ≤ r.at_ → r.at_ ≤ rd.l.length → σ.box q = some r.enc → PCalls prog g [.ptr (.out q) 0] σ fun v σ' => v = .agg (one r).1.enc ∧ σ' = σ.set q (one r).2.enc) :
    PCalls prog 124 [.ptr (.out q) 0, .ptr (.out o) 0, .ptr (.out f) 0] (gStore σ q o τ 5 rd []) fun v σ' => v = .tup [] ∧ σ' = gStore σ q o τ 5 (someG (oStep one) rd).1 ((someG (oStep one) rd).2.map Nd.enc) := by
  refine fn124.calls ?_
  simp only [slots, ac124, ams, am]
  refine kO_intro fun p hp => ?_
  have hpq : p ≠ q := by rintro rfl; rw [gStore_q hqo] at hp; simp at hp
  have hpo : p ≠ o := by rintro rfl; rw [gStore_o] at hp; simp at hp
  have hpf : f ≠ p := by rintro rfl; rw [gStore_p hpq hpo, hf] at hp; simp at hp
  rw [gStore_other hpq hpo]
  simp only [am, gStore_p hpq hpo]
  have hstep : ∀ a : Rdr × List Nd, Pace rd.l a → a.1.bad = none → PCalls prog 125 [.ptr (.out o) 0, .ptr (.out f) 0, .ptr (.out p) 0] (gStore (σ.set p [.ptr (.out q) 0]) q o τ 5 a.1 (a.2.map Nd.enc)) fun v σ' =>
      v = .tup [] ∧ σ' = gStore (σ.set p [.ptr (.out q) 0]) q o τ 5 (oStep one a).1 ((oStep one a).2.map Nd.enc) := fun a hp' hb => by
    have hl := hp'.2.2.2 hb
    have hl2 := hp'.2.2.1
    refine (kids11_calls gStore_o (by rw [gStore_p hfq hfo, Store.set_other _ _ hpf]; exact hf) (by rw [gStore_p hpq hpo, Store.set_same]) (Ne.symm hqo) gStore_tip (by rw [List.length_map]; omega) (hone a.1 _ hp'.1 hp'.2.1 hl2 (gStore_q hqo))).mono ?_
    rintro v σ' ⟨rfl, rfl⟩
    refine ⟨rfl, ?_⟩
    rw [gStore_put hqo]
    simp [oStep]
  have h0 : Pace rd.l (rd, ([] : List Nd)) := ⟨rfl, by simp [hat], by simp [hat], fun _ => by simp [hat]⟩
  obtain ⟨p1, _⟩ := pace_one hr h0 hbad
  refine (some_calls (kSys one (σ.set p [.ptr (.out q) 0]) q o τ) (Pace rd.l) (a := (rd, [])) (n := rd.l.length) (by simp [am]) (fun a h => gStore_q hqo) (fun a h => ?_) (fun a h hs => gStore_set hqo) (fun a h hs => ?_) (hstep _ h0 hbad) p1 ?_).mono ?_
  · show a.1.l.length ≤ big
    rw [h.1]; omega
  · obtain ⟨k1, k2, k3⟩ := pace_take h hs
    obtain ⟨k4, k5⟩ := pace_one hr k1 k2
    refine ⟨hstep _ k1 k2, k4, ?_, ?_⟩
    · exact k4.1.trans h.1.symm
    · show a.1.at_ + 1 ≤ _
      simp only at k5
      rw [k3] at k5
      exact k5
  · show (oStep one (rd, [])).1.l.length ≤ rd.l.length
    rw [p1.1]; omega
  rintro v σ' ⟨rfl, rfl⟩
  simp only [am]
  refine retK_intro rfl (σ' := gStore σ q o τ 5 (someG (oStep one) rd).1 ((someG (oStep one) rd).2.map Nd.enc)) ?_ ⟨rfl, rfl⟩
  have e : (kSys one (σ.set p [.ptr (.out q) 0]) q o τ).F ((kSys one (σ.set p [.ptr (.out q) 0]) q o τ).go rd.l.length ((kSys one (σ.set p [.ptr (.out q) 0]) q o τ).step (rd, []))) = gStore (σ.set p [.ptr (.out q) 0]) q o τ 5 (someG (oStep one) rd).1 ((someG (oStep one) rd).2.map Nd.enc) := by
    unfold kSys
    rw [go_goG]
    rfl
  rw [e, ← gStore_other hpq hpo]
  exact sub_set (by rw [gStore_p hpq hpo]; rw [gStore_p hpq hpo] at hp; exact hp)
end Go.Proofs.Tryd

namespace Go.Proofs.Tryd
open Go.Am
def ac114 : AC := .seq (.reg [⟨(some 7), .boxO 1 (.s 3), none⟩, ⟨(some 8), .mv (.c (.sl .full 5 [])), none⟩, xi 9 0])
 (.seq (.reg [⟨(some 10), .allocO [(.sl .full 5 [])], none⟩])
 (.seq (.upd (.reg [xm 12 0, xm 13 1, xm 14 2, ⟨(some 15), .mkfn (.func 124) [] [(.s 10), (.s 7)], none⟩, xc 107 16 [.s 12, .s 13, .s 14, .s 15], xm 11 16]))
 (.seq (.reg [xo 17 10, xm 18 11, xm 8 17, xm 9 18])
 (.ret))))
theorem fn114 : IsFn prog 114 ac114 [.tmp 8, .tmp 9] 19 := ⟨f114, ⟨[7, 10], [2]⟩, func114, by kernel_rfl, by kernel_rfl, by kernel_rfl, by kernel_rfl⟩
set_option maxRecDepth 4000
set_option maxHeartbeats 4000000
theorem Store.sub_trans {a b c : Store} (h : a.sub b) (k : b.sub c) : a.sub c := ⟨fun x cs hx => k.1 x cs (h.1 x cs hx), fun x n hx => k.2 x n (h.2 x n hx)⟩
theorem sub_both {a b : Store} {r : Nat} {A : List V} (h : a.sub b) : (a.set r A).sub (b.set r A) := by
  refine ⟨fun x cs hx => ?_, h.2⟩
  by_cases hr : x = r
  · subst hr; rw [Store.set_same] at hx ⊢; exact hx
  · rw [Store.set_other _ _ hr] at hx ⊢; exact h.1 x cs hx
theorem oStep_l {β : Type} {one : Rdr → β × Rdr} (h : Reads one) (l : List Tree) (a : Rdr × List β) (ha : a.1.l = l) : (oStep one a).1.l = l := by simp [oStep, h.l, ha]
theorem kids_calls {r : Nat} {empty : Bool} {kind : Int} {g : FuncId} {one : Rdr → Nd × Rdr} (hone : Reads one) {rd : Rdr} {σ : Store} (h : σ.box r = some rd.enc) (hlen : rd.l.length ≤ big) (hkids : (rd.take kind).1.kids.length + 1 ≤ big)
    (hcalls : ∀ (q : Nat) (i : Rdr) (σ : Store), i.l = (rd.take kind).1.kids → 0 ≤ i.at_ → i.at_ ≤ i.l.length → σ.box q = some i.enc → PCalls prog g [.ptr (.out q) 0] σ fun v σ' => v = .agg (one i).1.enc ∧ σ' = σ.set q (one i).2.enc) :
    PCalls prog 114 [.ptr (.out r) 0, .int .u8 kind, .bool empty, .fn (.func g) [] []] σ fun v σ' => v = .tup [.sl .no 5 ((rd.nodes one kind empty).1.1.map Nd.enc), .int .i64 (rd.nodes one kind empty).1.2] ∧ σ' = σ.set r (rd.nodes one kind empty).2.enc := by
  refine fn114.calls ?_
  simp only [slots, ac114, ams, am]
  refine kO_intro fun f hf => ?_
  have hfr : f ≠ r := by rintro rfl; rw [h] at hf; simp at hf
  simp only [am]
  refine kO_intro fun o ho => ?_
  have hfo : f ≠ o := by rintro rfl; rw [Store.set_same] at ho; simp at ho
  have hor : o ≠ r := by rintro rfl; rw [Store.set_other _ _ (Ne.symm hfr), h] at ho; simp at ho
  generalize hσ : σ.set f [.fn (.func g) [] []] = σf at ho ⊢
  have hff : σf.box f = some [.fn (.func g) [] []] := by rw [← hσ]; exact Store.set_same _ _ _
  have hfσ : σ.sub σf := by rw [← hσ]; exact sub_set hf
  have h : σf.box r = some rd.enc := by rw [← hσ, Store.set_other _ _ (Ne.symm hfr)]; exact h
  simp only [am]
  refine Upd.tok 0 fun τ hτ => ⟨_, _, _, LTo.rfl, rfl, fun i c hc => ⟨c, hc, LTo.rfl⟩, OTo.set (cs := [.sl .full 5 []]) (cs' := [.sl (.tk τ) 5 []]) (Store.set_same _ _ _) ⟨VTo.tok rfl, trivial⟩, ?_⟩
  simp only [am]
  have h1 : ((σf.set o [.sl (.tk τ) 5 []]).setTip τ 0).box r = some rd.enc := by
    show (σf.set o _).box r = _
    rw [Store.set_other _ _ (Ne.symm hor)]; exact h
  have hne : ∀ q, ((σf.set o [V.sl (.tk τ) 5 []]).setTip τ 0).box q = none → q ≠ o ∧ q ≠ r ∧ σf.box q = none := fun q hq => by
    have hqo : q ≠ o := by rintro rfl; rw [show ((σf.set q [V.sl (.tk τ) 5 []]).setTip τ 0).box q = _ from Store.set_same _ _ _] at hq; simp at hq
    have hq' : σf.box q = none := by rw [← Store.set_other σf [V.sl (.tk τ) 5 []] hqo]; exact hq
    exact ⟨hqo, by rintro rfl; rw [h] at hq'; simp at hq', hq'⟩
  generalize hin : Rdr.inside (oStep one) empty (rd.take kind).1 = ins
  have hinl : ins.1.l = (rd.take kind).1.kids := by rw [← hin]; exact inside_l (oStep_l hone) _ _
  refine (within_calls (kind := kind) (by simp [am]) h1 hlen (by omega) ins.1 ((σf.set o [.sl (.tk τ) 5 (ins.2.map Nd.enc)]).setTip τ (ins.2.map Nd.enc).length) ?_ ?_ ?_ hinl).mono ?_
  · intro hok hc q hq
    obtain ⟨hqo, hqr, _⟩ := hne q hq
    have e1 : (((σf.set o [V.sl (.tk τ) 5 []]).setTip τ 0).set r (rd.take kind).2.enc).set q (rd.take kind).1.inner.enc = gStore (σf.set r (rd.take kind).2.enc) q o τ 5 (rd.take kind).1.inner [] := by
      unfold gStore
      rw [Store.set_comm (b := q) hqo, Store.set_comm (b := r) (Ne.symm hor)]
      rfl
    have e2 : (((σf.set o [V.sl (.tk τ) 5 (ins.2.map Nd.enc)]).setTip τ (ins.2.map Nd.enc).length).set r (rd.take kind).2.enc).set q ins.1.enc = gStore (σf.set r (rd.take kind).2.enc) q o τ 5 ins.1 (ins.2.map Nd.enc) := by
      unfold gStore
      rw [Store.set_comm (b := q) hqo, Store.set_comm (b := r) (Ne.symm hor)]
      rfl
    have e3 : ins = someG (oStep one) (rd.take kind).1.inner := by
      rw [← hin, Rdr.inside, if_neg]
      rintro ⟨q1, q2⟩
      rcases hc with hc | hc
      · rw [q1] at hc; simp at hc
      · exact hc q2
    rw [e1, e2, e3]
    refine kids1_calls hone hqo ?_ hfo (by rw [Store.set_other _ _ hfr]; exact hff) rfl rfl hkids (fun i σ' h1 h2 h3 h4 => hcalls q i σ' h1 h2 (by rw [h1]; exact h3) h4)
    rintro rfl
    rw [show ((σf.set o [V.sl (.tk τ) 5 []]).setTip τ 0).box f = (σf.set o [V.sl (.tk τ) 5 []]).box f from rfl, Store.set_other _ _ hfo, hff] at hq
    simp at hq
  · intro q1 q2
    have : ins = ((rd.take kind).1.inner, []) := by rw [← hin, Rdr.inside, if_pos ⟨q1, q2⟩]
    rw [this]
    exact ⟨rfl, rfl⟩
  · intro q hq
    obtain ⟨hqo, _, hq'⟩ := hne q hq
    show (σf.set o _).box q = none
    rw [Store.set_other _ _ hqo]; exact hq'
  rintro v σ' hv
  have hdrop : ∀ (A B : List V) (n : Nat), (σ.set r A).sub (((σf.set o B).setTip τ n).set r A) := fun A B n => by
    refine Store.sub_trans (sub_both hfσ) ?_
    refine ⟨fun b cs hb => ?_, fun υ m hm => ?_⟩
    · have hbo : b ≠ o := by rintro rfl; rw [Store.set_other _ _ hor, ho] at hb; simp at hb
      by_cases hbr : b = r
      · subst hbr; rw [Store.set_same] at hb ⊢; exact hb
      · rw [Store.set_other _ _ hbr] at hb ⊢
        show (σf.set o B).box b = _
        rw [Store.set_other _ _ hbo]; exact hb
    · have hm' : σf.tip υ = some m := hm
      have hne' : υ ≠ τ := by rintro rfl; rw [show (σf.set o [V.sl .full 5 []]).tip υ = σf.tip υ from rfl] at hτ; rw [hτ] at hm'; simp at hm'
      show ((σf.set o B).setTip τ n).tip υ = some m
      rw [setTip_tip_ne hne']; exact hm'
  split at hv
  · rename_i hok
    obtain ⟨rfl, rfl⟩ := hv
    have hb : (((σf.set o [V.sl (.tk τ) 5 (ins.2.map Nd.enc)]).setTip τ (ins.2.map Nd.enc).length).set r ((rd.take kind).2.under ins.1).enc).box o = some [V.sl (.tk τ) 5 (ins.2.map Nd.enc)] := by
      rw [Store.set_other _ _ hor]; exact Store.set_same _ _ _
    simp only [am, hb]
    refine retK_intro rfl (hdrop _ _ _) ⟨?_, ?_⟩
    · simp [Rdr.nodes, Rdr.bracket, hok, hin, V.erase, eraseL]
    · simp [Rdr.nodes, Rdr.bracket, hok, hin]
  · rename_i hok
    obtain ⟨rfl, rfl⟩ := hv
    have hb : (((σf.set o [V.sl (.tk τ) 5 []]).setTip τ 0).set r (rd.take kind).2.enc).box o = some [V.sl (.tk τ) 5 []] := by
      rw [Store.set_other _ _ hor]; exact Store.set_same _ _ _
    simp only [am, hb]
    refine retK_intro rfl (hdrop _ _ _) ⟨?_, ?_⟩
    · simp [Rdr.nodes, Rdr.bracket, hok, V.erase, eraseL]
    · simp [Rdr.nodes, Rdr.bracket, hok]
end Go.Proofs.Tryd

namespace Go.Proofs.Tryd
open Go.Am
def ac127 : AC := .seq (.reg [⟨(some 2), .alloc [(.int .i64 0), (.int .i64 0), (.str []), (.sl .full 2 []), (.sl .full 5 [])], none⟩])
 (.seq (.reg [xm 6 0, xc 111 7 [.s 6], ⟨(some 3), .alloc [(.str []), (.int .i64 0)], none⟩, xs 2 3 7])
 (.seq (.reg [xm 8 0, xc 113 9 [.s 8, .c (.int .u8 58)]])
 (.seq (.reg [xm 11 0, xc 86 12 [.s 11, .c (.bool true)], xm 10 12, xe 13 10 0, xe 14 10 1, xm 4 13, xm 5 14])
 (.seq (.reg [xf 1 15 3, xo 16 15, xf 0 17 3, xo 18 17, xm 19 4, ⟨(some 20), .build [(.int .i64 0), (.int .i64 0), (.str []), (.sl .full 2 []), (.sl .full 5 [])] [(0, 1, (.c (.int .i64 6))), (1, 1, (.s 16)), (2, 1, (.s 18)), (3, 1, (.s 19))], none⟩, xs 5 2 20])
 (.ret)))))
theorem fn127 : IsFn prog 127 ac127 [.cell 2 true 5] 21 := ⟨f127, ⟨[], []⟩, func127, by kernel_rfl, by kernel_rfl, by kernel_rfl, by kernel_rfl⟩
set_option maxRecDepth 4000
set_option maxHeartbeats 4000000
theorem rule_calls {r : Nat} {rd : Rdr} {σ : Store} (h : σ.box r = some rd.enc) (hlen : rd.l.length ≤ big) (hk : ∀ (x : Rdr) (k : Int), x.l = rd.l → (x.take k).1.kids.length + 1 ≤ big) :
    PCalls prog 127 [.ptr (.out r) 0] σ fun v σ' => v = .agg rd.rule.1.enc ∧ σ' = σ.set r rd.rule.2.enc := by
  refine fn127.calls ?_
  simp only [slots, ac127, ams, am]
  refine (word_calls h hlen).mono ?_
  rintro v σ' ⟨rfl, rfl⟩
  simp only [am, Word.enc]
  refine (take_calls (Store.set_same _ _ _) (by simp [Rdr.word, Rdr.take_l, hlen])).mono ?_
  rintro v σ' ⟨rfl, rfl⟩
  simp only [am]
  refine (words_calls (Store.set_same _ _ _) (by simp [Rdr.word, Rdr.take_l, hlen]) (hk _ _ (by simp [Rdr.word, Rdr.take_l]))).mono ?_
  rintro v σ' ⟨rfl, rfl⟩
  simp only [am, Nat.reduceAdd]
  refine retK_intro rfl (Store.sub_refl _) ⟨?_, rfl⟩
  simp [Rdr.rule, V.erase, eraseL, Nd.enc, nencs]
end Go.Proofs.Tryd

namespace Go.Proofs.Tryd
open Go.Am
def ac126 : AC := .seq (.reg [⟨(some 2), .alloc [(.int .i64 0), (.int .i64 0), (.str []), (.sl .full 2 []), (.sl .full 5 [])], none⟩])
 (.seq (.reg [⟨(some 5), .build [(.int .i64 0), (.int .i64 0), (.str []), (.sl .full 2 []), (.sl .full 5 [])] [], none⟩, ⟨(some 3), .alloc [(.int .i64 0), (.int .i64 0), (.str []), (.sl .full 2 []), (.sl .full 5 [])], none⟩, xs 5 3 5])
 (.seq (.block 0 (.seq (.reg [xm 14 0, xc 112 15 [.s 14, .c (.int .u8 123)], xm 13 15])
 (.cond (.s 13) (.seq (.reg [xf 0 16 3, ⟨none, .store 1 (.s 16) (.c (.int .i64 3)), none⟩])
 (.reg [xm 18 0, xc 86 19 [.s 18, .c (.bool true)], xm 17 19, xe 20 17 0, xe 21 17 1, xf 3 22 3, xs 1 22 20, xf 1 23 3, xs 1 23 21]))
 (.seq (.reg [xm 25 0, xc 112 26 [.s 25, .c (.int .u8 40)], xm 24 26])
 (.cond (.s 24) (.seq (.reg [xf 0 27 3, ⟨none, .store 1 (.s 27) (.c (.int .i64 4)), none⟩])
 (.reg [xm 29 0, xc 114 30 [.s 29, .c (.int .u8 40), .c (.bool false), .c (.fn (.func 126) [] [])], xm 28 30, xe 31 28 0, xe 32 28 1, xf 4 33 3, xs 1 33 31, xf 1 34 3, xs 1 34 32]))
 (.seq (.reg [xm 36 0, xc 112 37 [.s 36, .c (.int .u8 91)], xm 35 37])
 (.cond (.s 35) (.seq (.reg [xf 0 38 3, ⟨none, .store 1 (.s 38) (.c (.int .i64 5)), none⟩])
 (.reg [xm 40 0, xc 114 41 [.s 40, .c (.int .u8 91), .c (.bool true), .c (.fn (.func 127) [] [])], xm 39 41, xe 42 39 0, xe 43 39 1, xf 4 44 3, xs 1 44 42, xf 1 45 3, xs 1 45 43]))
 (.seq (.reg [xm 6 0, xc 111 7 [.s 6], ⟨(some 4), .alloc [(.str []), (.int .i64 0)], none⟩, xs 2 4 7])
 (.reg [xf 1 8 4, xo 9 8, xf 0 10 4, xo 11 10, ⟨(some 12), .build [(.int .i64 0), (.int .i64 0), (.str []), (.sl .full 2 []), (.sl .full 5 [])] [(0, 1, (.c (.int .i64 2))), (1, 1, (.s 9)), (2, 1, (.s 11))], none⟩, xs 5 3 12])))))))))
 (.seq (.reg [xl 5 46 3, xs 5 2 46])
 (.ret))))
theorem fn126 : IsFn prog 126 ac126 [.cell 2 true 5] 47 := ⟨f126, ⟨[], []⟩, func126, by kernel_rfl, by kernel_rfl, by kernel_rfl, by kernel_rfl⟩
set_option maxRecDepth 4000
set_option maxHeartbeats 4000000
theorem sees_nil {r : Rdr} {k : Int} (h : manys r.l = 0) : r.sees k = false := by
  have : r.l = [] := List.eq_nil_of_length_eq_zero (by have := manys_ge r.l; omega)
  simp [Rdr.sees, isK, this]
theorem kids_big {l : List Tree} {x : Rdr} {k : Int} (hm : manys l + 1 ≤ big) (h : x.l = l) : (x.take k).1.kids.length + 1 ≤ big := by
  have h1 := (x.take_many k).1
  have h2 := manys_ge (x.take k).1.kids
  rw [h] at h1
  omega
theorem constant_calls : ∀ (n : Nat) {r : Nat} {rd : Rdr} {σ : Store} (_ : σ.box r = some rd.enc) (_ : manys rd.l ≤ n) (_ : manys rd.l + 1 ≤ big),
    PCalls prog 126 [.ptr (.out r) 0] σ fun v σ' => v = .agg (Rdr.constant n rd).1.enc ∧ σ' = σ.set r (Rdr.constant n rd).2.enc := by
  intro n
  induction n with
  | zero =>
    intro r rd σ h hn hm
    have hlen := manys_ge rd.l
    refine fn126.calls ?_
    simp only [slots, ac126, ams, am]
    refine (sees_calls h).mono ?_
    rintro v σ' ⟨rfl, rfl⟩
    simp only [am, sees_nil (Nat.le_zero.1 hn)]
    refine (sees_calls h).mono ?_
    rintro v σ' ⟨rfl, rfl⟩
    simp only [am, sees_nil (Nat.le_zero.1 hn)]
    refine (sees_calls h).mono ?_
    rintro v σ' ⟨rfl, rfl⟩
    simp only [am, sees_nil (Nat.le_zero.1 hn)]
    refine (word_calls h (by omega)).mono ?_
    rintro v σ' ⟨rfl, rfl⟩
    simp only [am, Word.enc, Nat.reduceAdd]
    refine retK_intro rfl (Store.sub_refl _) ⟨?_, rfl⟩
    simp [Rdr.constant, Rdr.leaf, V.erase, eraseL, Nd.enc, nencs]
  | succ n ih =>
    intro r rd σ h hn hm
    have hlen := manys_ge rd.l
    refine fn126.calls ?_
    simp only [slots, ac126, ams, am]
    refine (sees_calls h).mono ?_
    rintro v σ' ⟨rfl, rfl⟩
    cases h1 : rd.sees 123
    case' true =>
      simp only [am, Nat.reduceAdd]
      refine (words_calls h (by omega) (kids_big hm rfl)).mono ?_
      rintro v σ' ⟨rfl, rfl⟩
      simp only [am, Nat.reduceAdd]
      refine retK_intro rfl (Store.sub_refl _) ⟨?_, by simp [Rdr.constant, h1]⟩
      simp [Rdr.constant, h1, V.erase, eraseL, Nd.enc, nencs]
    case' false =>
      simp only [am]
      refine (sees_calls h).mono ?_
      rintro v σ' ⟨rfl, rfl⟩
      cases h2 : rd.sees 40
    case' false.true =>
      have hk : manys (rd.take 40).1.kids + 1 ≤ manys rd.l := (rd.take_many 40).2 (by
        rcases rd.take_at 40 with ⟨_, _, e, _, _⟩ | ⟨e, _, _⟩
        · exact e
        · rw [h2] at e; simp at e)
      simp only [am, Nat.reduceAdd]
      refine (kids_calls (reads_of (goes_constant n)) h (by omega) (kids_big hm rfl) (fun q i σ' e1 _ _ e4 => ih e4 (by rw [e1]; omega) (by rw [e1]; omega))).mono ?_
      rintro v σ' ⟨rfl, rfl⟩
      simp only [am, Nat.reduceAdd]
      refine retK_intro rfl (Store.sub_refl _) ⟨?_, by simp [Rdr.constant, h1, h2]⟩
      simp [Rdr.constant, h1, h2, V.erase, eraseL, Nd.enc, nencs_map]
    case' false.false =>
      simp only [am]
      refine (sees_calls h).mono ?_
      rintro v σ' ⟨rfl, rfl⟩
      cases h3 : rd.sees 91
    case' false.false.true =>
      simp only [am, Nat.reduceAdd]
      refine (kids_calls (reads_of goes_rule) h (by omega) (kids_big hm rfl) (fun q i σ' e1 _ _ e4 => rule_calls e4 (by have g1 := manys_ge i.l; have g2 := (rd.take_many 91).1; rw [← e1] at g2; omega) (fun x k ex => kids_big (by have g2 := (rd.take_many 91).1; rw [← e1] at g2; omega) ex))).mono ?_
      rintro v σ' ⟨rfl, rfl⟩
      simp only [am, Nat.reduceAdd]
      refine retK_intro rfl (Store.sub_refl _) ⟨?_, by simp [Rdr.constant, h1, h2, h3]⟩
      simp [Rdr.constant, h1, h2, h3, V.erase, eraseL, Nd.enc, nencs_map]
    case' false.false.false =>
      simp only [am]
      refine (word_calls h (by omega)).mono ?_
      rintro v σ' ⟨rfl, rfl⟩
      simp only [am, Word.enc, Nat.reduceAdd]
      refine retK_intro rfl (Store.sub_refl _) ⟨?_, by simp [Rdr.constant, Rdr.leaf, h1, h2, h3]⟩
      simp [Rdr.constant, Rdr.leaf, h1, h2, h3, V.erase, eraseL, Nd.enc, nencs]
end Go.Proofs.Tryd

namespace Go.Proofs.Tryd
open Go.Am
def ac115 : AC := .seq (.reg [⟨(some 2), .alloc [(.int .i64 0), (.int .i64 0), (.str []), (.sl .full 2 []), (.sl .full 5 [])], none⟩])
 (.seq (.seq (.reg [xm 5 0, xc 112 6 [.s 5, .c (.int .u8 35)]])
 (.cond (.s 6) (.seq (.reg [xm 7 0, xc 113 8 [.s 7, .c (.int .u8 35)], ⟨(some 3), .alloc [(.int .u8 0), (.str []), (.int .i64 0), (.sl .full 5 []), (.int .i64 0)], none⟩, xs 5 3 8])
 (.seq (.draw [(xf 0 9 3, []), (xf 2 10 9, []), (xo 11 10, [1]), (xm 12 0, []), (xc 126 13 [.s 12], []), (⟨(some 14), .bslice 5 [(.s 13)], none⟩, []), (⟨(some 15), .build [(.int .i64 0), (.int .i64 0), (.str []), (.sl .full 2 []), (.sl .full 5 [])] [(0, 1, (.c (.int .i64 7))), (1, 1, (.s 11)), (4, 1, (.s 14))], none⟩, []), (xs 5 2 15, [])])
 (.ret)))
 (.skip)))
 (.seq (.reg [xm 16 0, xc 111 17 [.s 16], ⟨(some 4), .alloc [(.str []), (.int .i64 0)], none⟩, xs 2 4 17])
 (.seq (.reg [xf 1 18 4, xo 19 18, xf 0 20 4, xo 21 20, ⟨(some 22), .build [(.int .i64 0), (.int .i64 0), (.str []), (.sl .full 2 []), (.sl .full 5 [])] [(0, 1, (.c (.int .i64 1))), (1, 1, (.s 19)), (2, 1, (.s 21))], none⟩, xs 5 2 22])
 (.ret))))
theorem fn115 : IsFn prog 115 ac115 [.cell 2 true 5] 23 := ⟨f115, ⟨[], []⟩, func115, by kernel_rfl, by kernel_rfl, by kernel_rfl, by kernel_rfl⟩
def ac118 : AC := .seq (.reg [⟨(some 2), .alloc [(.int .i64 0), (.int .i64 0), (.str []), (.sl .full 2 []), (.sl .full 5 [])], none⟩])
 (.seq (.reg [xm 4 0, xc 111 5 [.s 4], ⟨(some 3), .alloc [(.str []), (.int .i64 0)], none⟩, xs 2 3 5])
 (.seq (.reg [xm 6 0, xc 113 7 [.s 6, .c (.int .u8 61)]])
 (.seq (.draw [(xf 1 8 3, []), (xo 9 8, [1]), (xf 0 10 3, []), (xo 11 10, [1]), (xm 12 0, []), (xc 115 13 [.s 12], []), (⟨(some 14), .bslice 5 [(.s 13)], none⟩, []), (⟨(some 15), .build [(.int .i64 0), (.int .i64 0), (.str []), (.sl .full 2 []), (.sl .full 5 [])] [(0, 1, (.c (.int .i64 11))), (1, 1, (.s 9)), (2, 1, (.s 11)), (4, 1, (.s 14))], none⟩, []), (xs 5 2 15, [])])
 (.ret))))
theorem fn118 : IsFn prog 118 ac118 [.cell 2 true 5] 16 := ⟨f118, ⟨[], []⟩, func118, by kernel_rfl, by kernel_rfl, by kernel_rfl, by kernel_rfl⟩
set_option maxRecDepth 4000
set_option maxHeartbeats 4000000
theorem Nd.len {n : Nd} : n.enc.length = 5 := by rw [Nd.enc_eq]; rfl
theorem Tree.ld {t : Tree} : ∀ {n : Nat}, t.enc.drop n = [V.int .u8 t.tok.kind, .str t.tok.text, .int .i64 t.tok.pos, .sl .no 5 (encs t.kids), .int .i64 t.fin].drop n := fun {n} => by rw [enc_eq]
theorem atom_calls {n r : Nat} {rd : Rdr} {σ : Store} (h : σ.box r = some rd.enc) (hn : manys rd.l ≤ n) (hm : manys rd.l + 1 ≤ big) :
    PCalls prog 115 [.ptr (.out r) 0] σ fun v σ' => v = .agg (rd.atom n).1.enc ∧ σ' = σ.set r (rd.atom n).2.enc := by
  have hlen := manys_ge rd.l
  refine fn115.calls ?_
  simp only [slots, ac115, ams, am]
  refine (sees_calls h).mono ?_
  rintro v σ' ⟨rfl, rfl⟩
  cases h1 : rd.sees 35
  case' true =>
    simp only [am]
    refine (take_calls h (by omega)).mono ?_
    rintro v σ' ⟨rfl, rfl⟩
    simp only [am, enc_eq, Nat.reduceAdd]
    refine CallD.intro (constant_calls n (Store.set_same _ _ _) (by rw [Rdr.take_l]; exact hn) (by rw [Rdr.take_l]; exact hm)) ?_
    simp only [am, Nd.len, Nd.one, Nd.nol, Nd.er, Nat.reduceAdd]
    refine retK_intro rfl (Store.sub_refl _) ⟨?_, by simp [Rdr.atom, h1]⟩
    simp [Rdr.atom, h1, V.erase, eraseL, Nd.enc, nencs]
  case' false =>
    simp only [am]
    refine (word_calls h (by omega)).mono ?_
    rintro v σ' ⟨rfl, rfl⟩
    simp only [am, Word.enc, Nat.reduceAdd]
    refine retK_intro rfl (Store.sub_refl _) ⟨?_, by simp [Rdr.atom, Rdr.leaf, h1]⟩
    simp [Rdr.atom, Rdr.leaf, h1, V.erase, eraseL, Nd.enc, nencs]
theorem field_calls {n r : Nat} {rd : Rdr} {σ : Store} (h : σ.box r = some rd.enc) (hn : manys rd.l ≤ n) (hm : manys rd.l + 1 ≤ big) :
    PCalls prog 118 [.ptr (.out r) 0] σ fun v σ' => v = .agg (rd.field n).1.enc ∧ σ' = σ.set r (rd.field n).2.enc := by
  have hlen := manys_ge rd.l
  refine fn118.calls ?_
  simp only [slots, ac118, ams, am]
  refine (word_calls h (by omega)).mono ?_
  rintro v σ' ⟨rfl, rfl⟩
  simp only [am, Word.enc, Nat.reduceAdd]
  have e1 : rd.word.2.l = rd.l := by simp [Rdr.word, Rdr.take_l]
  refine (take_calls (Store.set_same _ _ _) (by rw [e1]; omega)).mono ?_
  rintro v σ' ⟨rfl, rfl⟩
  simp only [am, Nat.reduceAdd]
  refine CallD.intro (atom_calls (n := n) (Store.set_same _ _ _) (by rw [Rdr.take_l, e1]; exact hn) (by rw [Rdr.take_l, e1]; exact hm)) ?_
  simp only [am, Nd.len, Nd.one, Nd.nol, Nd.er, Nat.reduceAdd]
  refine retK_intro rfl (Store.sub_refl _) ⟨?_, by simp [Rdr.field]⟩
  simp [Rdr.field, V.erase, eraseL, Nd.enc, nencs]
end Go.Proofs.Tryd

namespace Go.Proofs.Tryd
open Go.Am
def ac89 : AC := .seq (.reg [⟨(some 2), .alloc [(.int .i64 0), (.int .i64 0), (.str []), (.sl .full 2 []), (.sl .full 5 [])], none⟩])
 (.seq (.seq (.reg [⟨(some 9), .bslice 1 [(.c (.int .u8 43)), (.c (.int .u8 38))], none⟩, xL 10 9, xi 11 0])
 (.block 0 (.loop (.seq (.reg [xb .lss 12 11 10])
 (.seq (.cond (.s 12) (.skip)
 (.exit 0))
 (.seq (.block 1 (.seq (.reg [xA 1 13 9 11, xo 14 13, xm 4 14])
 (.seq (.seq (.reg [xm 15 0, xm 16 4, xc 112 17 [.s 15, .s 16], ⟨(some 18), .not (.s 17), none⟩])
 (.cond (.s 18) (.exit 1)
 (.skip)))
 (.seq (.reg [xm 19 0, xm 20 4, xc 113 21 [.s 19, .s 20], ⟨(some 5), .alloc [(.int .u8 0), (.str []), (.int .i64 0), (.sl .full 5 []), (.int .i64 0)], none⟩, xs 5 5 21])
 (.seq (.reg [xi 6 8])
 (.seq (.seq (.reg [xm 22 4, xu .eql 23 22 38])
 (.cond (.s 23) (.reg [xi 6 9])
 (.skip)))
 (.seq (.reg [xm 25 0, xc 114 26 [.s 25, .c (.int .u8 40), .c (.bool false), .c (.fn (.func 89) [] [])], xm 24 26, xe 27 24 0, xe 28 24 1, xm 7 27, xm 8 28])
 (.seq (.reg [xm 29 6, xf 0 30 5, xf 2 31 30, xo 32 31, xm 33 7, ⟨(some 34), .build [(.int .i64 0), (.int .i64 0), (.str []), (.sl .full 2 []), (.sl .full 5 [])] [(0, 1, (.s 29)), (1, 1, (.s 32)), (4, 1, (.s 33))], none⟩, xs 5 2 34])
 (.ret)))))))))
 (.reg [xB .add 35 11 1, xm 11 35])))))))
 (.seq (.reg [xm 36 0, xc 115 37 [.s 36], xs 5 2 37])
 (.ret)))
theorem fn89 : IsFn prog 89 ac89 [.cell 2 true 5] 38 := ⟨f89, ⟨[], []⟩, func89, by kernel_rfl, by kernel_rfl, by kernel_rfl, by kernel_rfl⟩
set_option maxRecDepth 4000
set_option maxHeartbeats 4000000
def inv44 (r : Nat) (rd : Rdr) (σ : Store) (i : { i : Nat // i ≤ 2 ∧ (1 ≤ i → rd.sees 43 = false) ∧ (2 ≤ i → rd.sees 38 = false) }) : St :=
  ⟨[.ptr (.out r) 0, .any, .ptr (.loc 0) 0, .any, .any, .any, .any, .any, .any, .sl .full 1 [[.int .u8 43], [.int .u8 38]], .int .i64 2, .int .i64 (i.1 : Nat)] ++ List.replicate 26 .any,
    [[.int .i64 0, .int .i64 0, .str [], .sl .full 2 [], .sl .full 5 []]], σ⟩
theorem Nd.ovr {n : Nd} {a b c d e : V} : over [a, b, c, d, e] n.enc = n.enc := by rw [Nd.enc_eq]; rfl
theorem Nd.tk {n : Nd} : takeN 5 n.enc = some n.enc := by rw [Nd.enc_eq]; rfl
theorem take_less (r : Rdr) (k : Int) : manys (r.take k).1.kids + 1 ≤ manys r.l ∨ manys (r.take k).1.kids = 0 := by
  rcases r.take_at k with ⟨_, _, e, _, _⟩ | ⟨e, _, _⟩
  · exact .inl ((r.take_many k).2 e)
  · right; simp [Rdr.take, e, Tree.zero, Tree.kids, manys]
theorem label_leaf {n : Nat} {rd : Rdr} (h1 : rd.sees 43 = false) (h2 : rd.sees 38 = false) (hn : manys rd.l ≤ n) : Rdr.label n rd = rd.atom n := by
  cases n with
  | zero => simp [Rdr.label, Rdr.atom, sees_nil (Nat.le_zero.1 hn)]
  | succ n => simp [Rdr.label, h1, h2]
theorem label_step {n : Nat} (ih : ∀ m, n = m + 1 → ∀ {r : Nat} {rd : Rdr} {σ : Store} (_ : σ.box r = some rd.enc) (_ : manys rd.l ≤ m) (_ : manys rd.l + 1 ≤ big),
    PCalls prog 89 [.ptr (.out r) 0] σ fun v σ' => v = .agg (Rdr.label m rd).1.enc ∧ σ' = σ.set r (Rdr.label m rd).2.enc) {r : Nat} {rd : Rdr} {σ : Store} (h : σ.box r = some rd.enc) (hn : manys rd.l ≤ n) (hm : manys rd.l + 1 ≤ big) :
    PCalls prog 89 [.ptr (.out r) 0] σ fun v σ' => v = .agg (Rdr.label n rd).1.enc ∧ σ' = σ.set r (Rdr.label n rd).2.enc := by
  have hlen := manys_ge rd.l
  have hpos : ∀ k, rd.sees k = true → ∃ m, n = m + 1 := fun k hk => by
    cases n with
    | zero => rw [sees_nil (Nat.le_zero.1 hn)] at hk; simp at hk
    | succ m => exact ⟨m, rfl⟩
  have kids : ∀ (m : Nat) (k : Int), n = m + 1 → ∀ (q : Nat) (i : Rdr) (σ : Store), i.l = ((rd.take k).2.take 40).1.kids → 0 ≤ i.at_ → i.at_ ≤ i.l.length → σ.box q = some i.enc → PCalls prog 89 [.ptr (.out q) 0] σ fun v σ' => v = .agg (Rdr.label m i).1.enc ∧ σ' = σ.set q (Rdr.label m i).2.enc := fun m k e q i σ e1 _ _ e4 => by
    have g1 := ((rd.take k).2.take_many 40).1
    have g2 := take_less (rd.take k).2 40
    rw [Rdr.take_l, ← e1] at g1 g2
    exact ih m e e4 (by omega) (by omega)
  refine fn89.calls ?_
  simp only [slots, ac89, ams, am]
  refine vc_loop (fun i => inv44 r rd σ i) (fun i => 2 - i.1) ?_ ?_
  · refine Upd.enter ⟨0, by omega, by omega, by omega⟩ ?_ ?_ OLe.rfl
    · simp [inv44, List.replicate, am]
    · simp [inv44, am]
  · rintro ⟨i, hi, hi1, hi2⟩
    simp only [inv44, List.replicate, am]
    have hcase : i = 0 ∨ i = 1 ∨ i = 2 := by omega
    rcases hcase with rfl | rfl | rfl
    · simp only [am, show (((0 : Nat) : Int) < 2) = True by simp, decide_true]
      refine idxL_intro (by omega) (c := [.int .u8 43]) rfl ?_
      simp only [am]
      refine (sees_calls h).mono ?_
      rintro v σ' ⟨rfl, rfl⟩
      cases h1 : rd.sees 43
      · simp only [am]
        rw [wrap_i64 (by omega) (by omega)]
        exact Upd.again ⟨1, by omega, fun _ => rfl, by omega⟩ (by simp) (by simp [am]) LLLe.rfl OLe.rfl
      · have eqD : decide ((43 : Int) = 38) = false := by simp
        obtain ⟨m, rfl⟩ := hpos _ h1
        simp only [am]
        refine (take_calls h (by omega)).mono ?_
        rintro v σ' ⟨rfl, rfl⟩
        simp only [am, enc_eq, Nat.reduceAdd, decide_true, eqD]
        refine (kids_calls (reads_of (goes_label m)) (Store.set_same _ _ _) (by rw [Rdr.take_l]; omega) (kids_big hm (Rdr.take_l _ _)) (kids m 43 rfl)).mono ?_
        rintro v σ' ⟨rfl, rfl⟩
        simp only [am, Nat.reduceAdd]
        refine retK_intro rfl (Store.sub_refl _) ⟨?_, by simp [Rdr.label, h1]⟩
        simp [Rdr.label, h1, V.erase, eraseL, Nd.enc, nencs_map]
    · have hs1 := hi1 (by omega)
      simp only [am, show (((1 : Nat) : Int) < 2) = True by simp, decide_true]
      refine idxL_intro (by omega) (c := [.int .u8 38]) rfl ?_
      simp only [am]
      refine (sees_calls h).mono ?_
      rintro v σ' ⟨rfl, rfl⟩
      cases h1 : rd.sees 38
      · simp only [am]
        rw [wrap_i64 (by omega) (by omega)]
        exact Upd.again ⟨2, by omega, fun _ => hs1, fun _ => rfl⟩ (by simp) (by simp [am]) LLLe.rfl OLe.rfl
      · have eqD : decide ((38 : Int) = 38) = true := by simp
        obtain ⟨m, rfl⟩ := hpos _ h1
        simp only [am]
        refine (take_calls h (by omega)).mono ?_
        rintro v σ' ⟨rfl, rfl⟩
        simp only [am, enc_eq, Nat.reduceAdd, decide_true, eqD]
        refine (kids_calls (reads_of (goes_label m)) (Store.set_same _ _ _) (by rw [Rdr.take_l]; omega) (kids_big hm (Rdr.take_l _ _)) (kids m 38 rfl)).mono ?_
        rintro v σ' ⟨rfl, rfl⟩
        simp only [am, Nat.reduceAdd]
        refine retK_intro rfl (Store.sub_refl _) ⟨?_, by simp [Rdr.label, hs1, h1]⟩
        simp [Rdr.label, hs1, h1, V.erase, eraseL, Nd.enc, nencs_map]
    · have hs1 := hi1 (by omega)
      have hs2 := hi2 (by omega)
      simp only [am, show (((2 : Nat) : Int) < 2) = False by simp, decide_false]
      refine (atom_calls h hn hm).mono ?_
      rintro v σ' ⟨rfl, rfl⟩
      simp only [am, Nd.len, Nd.one, Nd.ovr, Nd.tk]
      rw [label_leaf hs1 hs2 hn]
      refine retK_intro (by simp only [am, Nd.nol]) (Store.sub_refl _) ⟨?_, rfl⟩
      simp only [am, Nd.er]
theorem label_calls : ∀ (n : Nat) {r : Nat} {rd : Rdr} {σ : Store} (_ : σ.box r = some rd.enc) (_ : manys rd.l ≤ n) (_ : manys rd.l + 1 ≤ big),
    PCalls prog 89 [.ptr (.out r) 0] σ fun v σ' => v = .agg (Rdr.label n rd).1.enc ∧ σ' = σ.set r (Rdr.label n rd).2.enc := by
  intro n
  induction n with
  | zero => exact fun h hn hm => label_step (fun m e => by omega) h hn hm
  | succ n ih => exact fun h hn hm => label_step (fun m e => by obtain rfl : n = m := by omega
                                                                exact ih) h hn hm
end Go.Proofs.Tryd

namespace Go.Proofs.Tryd
open Go.Am
def ac117 : AC := .hole [(xf 4 2 0, []), (xo 3 2, [1]), (xo 4 1, []), (xc 118 5 [.s 4], []), (xL 6 3, []), (⟨(some 7), .bslice 5 [(.c (.agg [(.int .i64 0), (.int .i64 0), (.str []), (.sl .full 2 []), (.sl .full 5 [])]))], none⟩, []), (⟨(some 8), .mv (.c .any), none⟩, []), (⟨(some 9), .mv (.c .any), none⟩, []), (⟨none, .mv (.c .any), none⟩, []), (⟨(some 10), .mv (.c .any), none⟩, []), (⟨none, .mv (.c .any), none⟩, [])] ⟨5, (.s 3), (.s 7), (.s 6), (.s 5), (.s 0), (some 4), 8, 9, 10⟩
theorem fn117 : IsFn prog 117 ac117 [] 11 := ⟨f117, ⟨[], []⟩, func117, by kernel_rfl, by kernel_rfl, by kernel_rfl, by kernel_rfl⟩
set_option maxRecDepth 4000
set_option maxHeartbeats 4000000
def rCells (τ : Nat) (names rows : List (List V)) : List V := [.int .i64 10, .int .i64 0, .str [], .sl .full 2 names, .sl (.tk τ) 5 rows]
theorem row11_calls {n o p q τ : Nat} {names rows : List (List V)} {rd : Rdr} {σ : Store} (ho : σ.box o = some (rCells τ names rows)) (hp : σ.box p = some [.ptr (.out q) 0]) (hq : σ.box q = some rd.enc)
    (hoq : o ≠ q) (ht : σ.tip τ = some rows.length) (hb : rows.length + 1 ≤ big) (hn : manys rd.l ≤ n) (hm : manys rd.l + 1 ≤ big) :
    PCalls prog 117 [.ptr (.out o) 0, .ptr (.out p) 0] σ fun v σ' => v = .tup [] ∧ σ' = ((σ.set q (rd.field n).2.enc).set o (rCells τ names (rows ++ [(rd.field n).1.enc]))).setTip τ (rows.length + 1) := by
  unfold rCells at ho ⊢
  refine fn117.calls ?_
  simp only [slots, ac117, ams, am, ho, hp]
  refine CallD.intro (field_calls (n := n) hq hn hm) ?_
  have h1 : (σ.set q (rd.field n).2.enc).box o = some [.int .i64 10, .int .i64 0, .str [], .sl .full 2 names, .sl (.tk τ) 5 rows] := by rw [Store.set_other _ _ hoq]; exact ho
  simp only [am, h1, ho]
  refine hole_intro (τ := τ) (m := rows) (cs := (rd.field n).1.enc) (p := .ptr (.out o) 4) rfl rfl rfl hb ht ⟨Nd.wd, Nd.one, Nd.nol⟩ Nd.er (by simp [am]) rfl (by simp only [ev, am, h1]; rfl) ?_
  simp only [am]
  exact retK_intro rfl (Store.sub_refl _) ⟨rfl, rfl⟩
end Go.Proofs.Tryd

namespace Go.Proofs.Tryd
open Go.Am
def ac116 : AC := .seq (.reg [⟨(some 2), .boxO 1 (.s 0), none⟩])
 (.seq (.seq (.reg [xo 3 2, xc 112 4 [.s 3, .c (.int .u8 124)], ⟨(some 5), .not (.s 4), none⟩])
 (.cond (.s 5) (.reg [xo 6 2, ⟨(some 7), .mkfn (.func 117) [] [(.s 1), (.s 2)], none⟩, xc 109 8 [.s 6, .s 7]])
 (.skip)))
 (.seq (.reg [xo 9 2, xc 112 10 [.s 9, .c (.int .u8 124)]])
 (.cond (.s 10) (.seq (.reg [xo 11 2, xc 113 12 [.s 11, .c (.int .u8 124)]])
 (.reg [xo 13 2, xc 111 14 [.s 13], ⟨(some 15), .bslice 2 [(.s 14)], none⟩, xf 3 16 1, xs 1 16 15]))
 (.skip))))
theorem fn116 : IsFn prog 116 ac116 [] 17 := ⟨f116, ⟨[2], []⟩, func116, by kernel_rfl, by kernel_rfl, by kernel_rfl, by kernel_rfl⟩
set_option maxRecDepth 4000
set_option maxHeartbeats 4000000
def gRow (σ : Store) (q o τ : Nat) (rd : Rdr) (names rows : List (List V)) : Store := ((σ.set q rd.enc).set o (rCells τ names rows)).setTip τ rows.length
theorem gRow_q {σ : Store} {q o τ : Nat} {rd : Rdr} {names rows : List (List V)} (h : q ≠ o) : (gRow σ q o τ rd names rows).box q = some rd.enc := by
  simp [gRow, Store.setTip, Store.set, h]
theorem gRow_o {σ : Store} {q o τ : Nat} {rd : Rdr} {names rows : List (List V)} : (gRow σ q o τ rd names rows).box o = some (rCells τ names rows) := by
  simp [gRow, Store.setTip, Store.set]
theorem gRow_p {σ : Store} {q o τ p : Nat} {rd : Rdr} {names rows : List (List V)} (h : p ≠ q) (h' : p ≠ o) : (gRow σ q o τ rd names rows).box p = σ.box p := by
  simp [gRow, Store.setTip, Store.set, h, h']
theorem gRow_other {σ : Store} {q o τ p : Nat} {rd : Rdr} {names rows : List (List V)} {cs : List V} (h : p ≠ q) (h' : p ≠ o) : (gRow σ q o τ rd names rows).set p cs = gRow (σ.set p cs) q o τ rd names rows := by
  have : ((σ.set q rd.enc).set o (rCells τ names rows)).set p cs = ((σ.set p cs).set q rd.enc).set o (rCells τ names rows) := by
    rw [Store.set_comm (Ne.symm h'), Store.set_comm (b := q) (Ne.symm h)]
  show (((σ.set q rd.enc).set o (rCells τ names rows)).set p cs).setTip τ rows.length = _
  rw [this]; rfl
theorem gRow_tip {σ : Store} {q o τ : Nat} {rd : Rdr} {names rows : List (List V)} : (gRow σ q o τ rd names rows).tip τ = some rows.length := by
  simp [gRow, Store.setTip]
theorem gRow_set {σ : Store} {q o τ : Nat} {rd rd' : Rdr} {names rows : List (List V)} (h : q ≠ o) : (gRow σ q o τ rd names rows).set q rd'.enc = gRow σ q o τ rd' names rows := by
  have : ((σ.set q rd.enc).set o (rCells τ names rows)).set q rd'.enc = (σ.set q rd'.enc).set o (rCells τ names rows) := by rw [Store.set_comm (Ne.symm h), Store.set_set]
  show (((σ.set q rd.enc).set o (rCells τ names rows)).set q rd'.enc).setTip τ rows.length = _
  rw [this]; rfl
theorem gRow_names {σ : Store} {q o τ : Nat} {rd : Rdr} {names names' rows : List (List V)} : (gRow σ q o τ rd names rows).set o (rCells τ names' rows) = gRow σ q o τ rd names' rows := by
  show (((σ.set q rd.enc).set o (rCells τ names rows)).set o (rCells τ names' rows)).setTip τ rows.length = _
  rw [Store.set_set]; rfl
theorem gRow_put {σ : Store} {q o τ : Nat} {rd rd' : Rdr} {names rows : List (List V)} {c : List V} (h : q ≠ o) : (((gRow σ q o τ rd names rows).set q rd'.enc).set o (rCells τ names (rows ++ [c]))).setTip τ (rows.length + 1) = gRow σ q o τ rd' names (rows ++ [c]) := by
  rw [gRow_set h]
  unfold gRow
  rw [List.length_append, List.length_cons, List.length_nil]
  show ((((σ.set q rd'.enc).set o (rCells τ names rows)).set o (rCells τ names (rows ++ [c]))).setTip τ rows.length).setTip τ (rows.length + 1) = _
  rw [Store.set_set, setTip_setTip]
def rSys (one : Rdr → Nd × Rdr) (σ : Store) (q o τ : Nat) : Sys (Rdr × List Nd) := ⟨fun a => gRow σ q o τ a.1 [] (a.2.map Nd.enc), fun a => a.1, fun a r => (r, a.2), oStep one⟩
theorem someG_l {one : Rdr → Nd × Rdr} (h : Reads one) (r : Rdr) : (someG (oStep one) r).1.l = r.l := go_l (oStep_l h _) _ _ (oStep_l h _ _ rfl)
theorem row1_calls {n o q τ : Nat} {rd : Rdr} {σ : Store} (hqo : q ≠ o) (hat : rd.at_ = 0) (hbad : rd.bad = none) (hn : manys rd.l ≤ n) (hm : manys rd.l + 1 ≤ big) :
    PCalls prog 116 [.ptr (.out q) 0, .ptr (.out o) 0] (gRow σ q o τ rd [] []) fun v σ' => v = .tup [] ∧ σ' = gRow σ q o τ (rd.rowIn n).1.1 ((rd.rowIn n).2.map Word.enc) ((rd.rowIn n).1.2.map Nd.enc) := by
  have hlen := manys_ge rd.l
  have hfield : Reads (Rdr.field n) := reads_of (goes_field n)
  refine fn116.calls ?_
  simp only [slots, ac116, ams, am]
  refine kO_intro fun p hp => ?_
  have hpq : p ≠ q := by rintro rfl; rw [gRow_q hqo] at hp; simp at hp
  have hpo : p ≠ o := by rintro rfl; rw [gRow_o] at hp; simp at hp
  rw [gRow_p hpq hpo] at hp
  rw [gRow_other hpq hpo]
  have hsp : ∀ a b c, (gRow (σ.set p [.ptr (.out q) 0]) q o τ a b c).box p = some [.ptr (.out q) 0] := fun a b c => by rw [gRow_p hpq hpo, Store.set_same]
  have hfin : ∀ a b c, (gRow σ q o τ a b c).sub (gRow (σ.set p [.ptr (.out q) 0]) q o τ a b c) := fun a b c => by
    rw [← gRow_other hpq hpo]; exact sub_set (by rw [gRow_p hpq hpo]; exact hp)
  simp only [am, hsp]
  refine (sees_calls (gRow_q hqo)).mono ?_
  rintro v σ' ⟨rfl, rfl⟩
  cases h1 : rd.sees 124
  all_goals simp only [am, hsp]
  case' false =>
    have hstep : ∀ a : Rdr × List Nd, Pace rd.l a → a.1.bad = none → PCalls prog 117 [.ptr (.out o) 0, .ptr (.out p) 0] (gRow (σ.set p [.ptr (.out q) 0]) q o τ a.1 [] (a.2.map Nd.enc)) fun v σ' =>
        v = .tup [] ∧ σ' = gRow (σ.set p [.ptr (.out q) 0]) q o τ (oStep (Rdr.field n) a).1 [] ((oStep (Rdr.field n) a).2.map Nd.enc) := fun a hp' hb => by
      have hl := hp'.2.2.2 hb
      have hl2 := hp'.2.2.1
      refine (row11_calls (n := n) gRow_o (hsp _ _ _) (gRow_q hqo) (Ne.symm hqo) gRow_tip (by rw [List.length_map]; omega) (by rw [hp'.1]; exact hn) (by rw [hp'.1]; exact hm)).mono ?_
      rintro v σ' ⟨rfl, rfl⟩
      refine ⟨rfl, ?_⟩
      rw [gRow_put hqo]
      simp [oStep]
    have h0 : Pace rd.l (rd, ([] : List Nd)) := ⟨rfl, by simp [hat], by simp [hat], fun _ => by simp [hat]⟩
    obtain ⟨p1, _⟩ := pace_one hfield h0 hbad
    refine (some_calls (rSys (Rdr.field n) (σ.set p [.ptr (.out q) 0]) q o τ) (Pace rd.l) (a := (rd, [])) (n := rd.l.length) (by simp [am]) (fun a h => gRow_q hqo) (fun a h => ?_) (fun a h hs => gRow_set hqo) (fun a h hs => ?_) (hstep _ h0 hbad) p1 ?_).mono ?_
    · show a.1.l.length ≤ big
      rw [h.1]; omega
    · obtain ⟨k1, k2, k3⟩ := pace_take h hs
      obtain ⟨k4, k5⟩ := pace_one hfield k1 k2
      refine ⟨hstep _ k1 k2, k4, ?_, ?_⟩
      · exact k4.1.trans h.1.symm
      · show a.1.at_ + 1 ≤ _
        simp only at k5
        rw [k3] at k5
        exact k5
    · show (oStep (Rdr.field n) (rd, [])).1.l.length ≤ rd.l.length
      rw [p1.1]; omega
    rintro v σ' ⟨rfl, rfl⟩
    have e : (rSys (Rdr.field n) (σ.set p [.ptr (.out q) 0]) q o τ).F ((rSys (Rdr.field n) (σ.set p [.ptr (.out q) 0]) q o τ).go rd.l.length ((rSys (Rdr.field n) (σ.set p [.ptr (.out q) 0]) q o τ).step (rd, []))) = gRow (σ.set p [.ptr (.out q) 0]) q o τ (someG (oStep (Rdr.field n)) rd).1 [] ((someG (oStep (Rdr.field n)) rd).2.map Nd.enc) := by
      unfold rSys
      rw [go_goG]
      rfl
    rw [e]
    have hl := someG_l hfield rd
    have hres : rd.rowIn n = if (someG (oStep (Rdr.field n)) rd).1.sees 124 = true then ((((someG (oStep (Rdr.field n)) rd).1.take 124).2.word.2, (someG (oStep (Rdr.field n)) rd).2), [((someG (oStep (Rdr.field n)) rd).1.take 124).2.word.1]) else (someG (oStep (Rdr.field n)) rd, []) := by
      simp only [Rdr.rowIn, h1, Bool.false_eq_true, if_false]
    generalize someG (oStep (Rdr.field n)) rd = a at hl hres ⊢
    simp only [am, hsp]
  case' true =>
    have hres : rd.rowIn n = if rd.sees 124 = true then (((rd.take 124).2.word.2, []), [(rd.take 124).2.word.1]) else ((rd, []), []) := by
      simp only [Rdr.rowIn, h1, if_true]
    have hl : rd.l = rd.l := rfl
    rw [show gRow (σ.set p [.ptr (.out q) 0]) q o τ rd [] [] = gRow (σ.set p [.ptr (.out q) 0]) q o τ (rd, ([] : List Nd)).1 [] ((rd, ([] : List Nd)).2.map Nd.enc) from rfl]
    have hres : rd.rowIn n = if (rd, ([] : List Nd)).1.sees 124 = true then ((((rd, ([] : List Nd)).1.take 124).2.word.2, (rd, ([] : List Nd)).2), [((rd, ([] : List Nd)).1.take 124).2.word.1]) else ((rd, ([] : List Nd)), []) := hres
    have hl : (rd, ([] : List Nd)).1.l = rd.l := rfl
    generalize (rd, ([] : List Nd)) = a at hl hres ⊢
  all_goals
    refine (sees_calls (gRow_q hqo)).mono ?_
    rintro v σ' ⟨rfl, rfl⟩
    cases h2 : a.1.sees 124
    · simp only [am, hres, h2]
      exact retK_intro rfl (hfin _ _ _) ⟨rfl, rfl⟩
    · simp only [am, hsp]
      refine (take_calls (gRow_q hqo) (by rw [hl]; omega)).mono ?_
      rintro v σ' ⟨rfl, rfl⟩
      rw [gRow_set hqo]
      simp only [am, hsp]
      refine (word_calls (gRow_q hqo) (by rw [Rdr.take_l, hl]; omega)).mono ?_
      rintro v σ' ⟨rfl, rfl⟩
      rw [gRow_set hqo]
      simp only [am, hsp, Word.enc, gRow_o, rCells, Nat.reduceAdd]
      rw [show [V.int .i64 10, .int .i64 0, .str [], .sl .full 2 [[.str (a.1.take 124).2.word.1.text, .int .i64 (a.1.take 124).2.word.1.pos]], .sl (.tk τ) 5 (a.2.map Nd.enc)] = rCells τ ([(a.1.take 124).2.word.1].map Word.enc) (a.2.map Nd.enc) from rfl, gRow_names]
      exact retK_intro rfl (hfin _ _ _) ⟨rfl, by rw [hres, if_pos h2]⟩
end Go.Proofs.Tryd

namespace Go.Proofs.Tryd
open Go.Am
def ac90 : AC := .seq (.reg [⟨(some 2), .alloc [(.int .i64 0), (.int .i64 0), (.str []), (.sl .full 2 []), (.sl .full 5 [])], none⟩])
 (.seq (.seq (.reg [xm 5 0, xc 112 6 [.s 5, .c (.int .u8 91)], ⟨(some 7), .not (.s 6), none⟩])
 (.cond (.s 7) (.seq (.reg [xm 8 0, xc 111 9 [.s 8], ⟨(some 3), .alloc [(.str []), (.int .i64 0)], none⟩, xs 2 3 9])
 (.seq (.reg [xf 1 10 3, xo 11 10, xf 0 12 3, xo 13 12, ⟨(some 14), .build [(.int .i64 0), (.int .i64 0), (.str []), (.sl .full 2 []), (.sl .full 5 [])] [(0, 1, (.c (.int .i64 1))), (1, 1, (.s 11)), (2, 1, (.s 13))], none⟩, xs 5 2 14])
 (.ret)))
 (.skip)))
 (.seq (.reg [⟨(some 15), .build [(.int .i64 0), (.int .i64 0), (.str []), (.sl .full 2 []), (.sl .full 5 [])] [(0, 1, (.c (.int .i64 10)))], none⟩, ⟨(some 4), .allocO [(.int .i64 0), (.int .i64 0), (.str []), (.sl .full 2 []), (.sl .full 5 [])], none⟩, xs 5 4 15])
 (.seq (.upd (.reg [xm 16 0, ⟨(some 17), .mkfn (.func 116) [] [(.s 4)], none⟩, xc 107 18 [.s 16, .c (.int .u8 91), .c (.bool true), .s 17], xf 1 19 4, xs 1 19 18]))
 (.seq (.reg [xl 5 20 4, xs 5 2 20])
 (.ret)))))
theorem fn90 : IsFn prog 90 ac90 [.cell 2 true 5] 21 := ⟨f90, ⟨[4], [5]⟩, func90, by kernel_rfl, by kernel_rfl, by kernel_rfl, by kernel_rfl⟩
set_option maxRecDepth 4000
set_option maxHeartbeats 4000000
theorem sub_skip {a b : Store} {o : Nat} {C : List V} (h : a.sub b) (k : a.box o = none) : a.sub (b.set o C) := by
  refine ⟨fun x cs hx => ?_, h.2⟩
  have : x ≠ o := by rintro rfl; rw [k] at hx; simp at hx
  rw [Store.set_other _ _ this]; exact h.1 x cs hx
theorem rowIn_l {n : Nat} (i : Rdr) : (i.rowIn n).1.1.l = i.l := by
  have hfield : Reads (Rdr.field n) := reads_of (goes_field n)
  cases h1 : i.sees 124
  · cases h2 : (someG (oStep (Rdr.field n)) i).1.sees 124 <;> simp [Rdr.rowIn, h1, h2, Rdr.word, Rdr.take_l, someG_l hfield]
  · simp [Rdr.rowIn, h1, Rdr.word, Rdr.take_l]
theorem rowOf_l {n : Nat} (t : Tree) : (Rdr.rowOf n t).1.1.l = t.kids := by
  unfold Rdr.rowOf
  split
  · rfl
  · rw [rowIn_l]; rfl
theorem row_calls {n r : Nat} {rd : Rdr} {σ : Store} (h : σ.box r = some rd.enc) (hn : manys rd.l ≤ n) (hm : manys rd.l + 1 ≤ big) :
    PCalls prog 90 [.ptr (.out r) 0] σ fun v σ' => v = .agg (rd.row n).1.enc ∧ σ' = σ.set r (rd.row n).2.enc := by
  have hlen := manys_ge rd.l
  refine fn90.calls ?_
  simp only [slots, ac90, ams, am]
  refine (sees_calls h).mono ?_
  rintro v σ ⟨rfl, rfl⟩
  cases h1 : rd.sees 91
  · simp only [am]
    refine (word_calls h (by omega)).mono ?_
    rintro v σ' ⟨rfl, rfl⟩
    simp only [am, Word.enc, Nat.reduceAdd]
    refine retK_intro rfl (Store.sub_refl _) ⟨?_, by simp [Rdr.row, Rdr.leaf, h1]⟩
    simp [Rdr.row, Rdr.leaf, h1, V.erase, eraseL, Nd.enc, nencs]
  · simp only [am]
    refine kO_intro fun o ho => ?_
    have hor : o ≠ r := by rintro rfl; rw [h] at ho; simp at ho
    simp only [am]
    refine Upd.tok 0 fun τ hτ => ⟨_, _, _, LTo.rfl, rfl, fun i c hc => ⟨c, hc, LTo.rfl⟩, OTo.set (cs := [.int .i64 10, .int .i64 0, .str [], .sl .full 2 [], .sl .full 5 []]) (cs' := rCells τ [] []) (Store.set_same _ _ _) ⟨VTo.same, VTo.same, VTo.same, VTo.same, VTo.tok rfl, trivial⟩, ?_⟩
    simp only [am]
    have h1' : ((σ.set o (rCells τ [] [])).setTip τ 0).box r = some rd.enc := by
      show (σ.set o _).box r = _
      rw [Store.set_other _ _ (Ne.symm hor)]; exact h
    have hne : ∀ q, ((σ.set o (rCells τ [] [])).setTip τ 0).box q = none → q ≠ o ∧ q ≠ r ∧ σ.box q = none := fun q hq => by
      have hqo : q ≠ o := by rintro rfl; rw [show ((σ.set q (rCells τ [] [])).setTip τ 0).box q = _ from Store.set_same _ _ _] at hq; simp at hq
      have hq' : σ.box q = none := by rw [← Store.set_other σ (rCells τ [] []) hqo]; exact hq
      exact ⟨hqo, by rintro rfl; rw [h] at hq'; simp at hq', hq'⟩
    have hkids : manys (rd.take 91).1.kids ≤ manys rd.l := (rd.take_many 91).1
    have hklen := manys_ge (rd.take 91).1.kids
    generalize hin : Rdr.rowOf n (rd.take 91).1 = ins
    have hinl : ins.1.1.l = (rd.take 91).1.kids := by rw [← hin]; exact rowOf_l _
    refine (within_calls (kind := 91) (by simp [am]) h1' (by omega) (by omega) ins.1.1 ((σ.set o (rCells τ (ins.2.map Word.enc) (ins.1.2.map Nd.enc))).setTip τ (ins.1.2.map Nd.enc).length) ?_ ?_ ?_ hinl).mono ?_
    · intro hok hc q hq
      obtain ⟨hqo, hqr, _⟩ := hne q hq
      have e1 : (((σ.set o (rCells τ [] [])).setTip τ 0).set r (rd.take 91).2.enc).set q (rd.take 91).1.inner.enc = gRow (σ.set r (rd.take 91).2.enc) q o τ (rd.take 91).1.inner [] [] := by
        unfold gRow
        rw [Store.set_comm (b := q) hqo, Store.set_comm (b := r) (Ne.symm hor)]
        rfl
      have e2 : (((σ.set o (rCells τ (ins.2.map Word.enc) (ins.1.2.map Nd.enc))).setTip τ (ins.1.2.map Nd.enc).length).set r (rd.take 91).2.enc).set q ins.1.1.enc = gRow (σ.set r (rd.take 91).2.enc) q o τ ins.1.1 (ins.2.map Word.enc) (ins.1.2.map Nd.enc) := by
        unfold gRow
        rw [Store.set_comm (b := q) hqo, Store.set_comm (b := r) (Ne.symm hor)]
        rfl
      have e3 : ins = (rd.take 91).1.inner.rowIn n := by
        rw [← hin, Rdr.rowOf, if_neg]
        rcases hc with hc | hc
        · simp at hc
        · exact hc
      rw [e1, e2, e3]
      exact row1_calls hqo rfl rfl (by show manys (rd.take 91).1.kids ≤ n; omega) (by show manys (rd.take 91).1.kids + 1 ≤ big; omega)
    · intro q1 q2
      have : ins = (((rd.take 91).1.inner, []), []) := by rw [← hin, Rdr.rowOf, if_pos q2]
      rw [this]
      exact ⟨rfl, rfl⟩
    · intro q hq
      obtain ⟨hqo, _, hq'⟩ := hne q hq
      show (σ.set o _).box q = none
      rw [Store.set_other _ _ hqo]; exact hq'
    rintro v σ' hv
    have hdrop : ∀ (A B : List V) (n : Nat), (σ.set r A).sub (((σ.set o B).setTip τ n).set r A) := fun A B n => by
      refine ⟨fun b cs hb => ?_, fun υ m hm => ?_⟩
      · have hbo : b ≠ o := by rintro rfl; rw [Store.set_other _ _ hor, ho] at hb; simp at hb
        by_cases hbr : b = r
        · subst hbr; rw [Store.set_same] at hb ⊢; exact hb
        · rw [Store.set_other _ _ hbr] at hb ⊢
          show (σ.set o B).box b = _
          rw [Store.set_other _ _ hbo]; exact hb
      · have hm' : σ.tip υ = some m := hm
        have hne' : υ ≠ τ := by rintro rfl; rw [show (σ.set o [V.int .i64 10, .int .i64 0, .str [], .sl .full 2 [], .sl .full 5 []]).tip υ = σ.tip υ from rfl] at hτ; rw [hτ] at hm'; simp at hm'
        show ((σ.set o B).setTip τ n).tip υ = some m
        rw [setTip_tip_ne hne']; exact hm'
    have hok : (rd.take 91).2.ok = true := by
      rcases rd.take_at 91 with ⟨_, _, e, _, _⟩ | ⟨e, _, _⟩
      · simp [Rdr.ok, e]
      · rw [h1] at e; simp at e
    rw [if_pos hok] at hv
    obtain ⟨rfl, rfl⟩ := hv
    have hb : (((σ.set o (rCells τ (ins.2.map Word.enc) (ins.1.2.map Nd.enc))).setTip τ (ins.1.2.map Nd.enc).length).set r ((rd.take 91).2.under ins.1.1).enc).box o = some (rCells τ (ins.2.map Word.enc) (ins.1.2.map Nd.enc)) := by
      rw [Store.set_other _ _ hor]; exact Store.set_same _ _ _
    simp only [rCells] at hb hdrop ⊢
    simp only [am, hb, Nat.reduceAdd]
    refine retK_intro rfl (sub_skip (hdrop _ _ _) (by rw [Store.set_other _ _ hor]; exact ho)) ⟨?_, by simp [Rdr.row, h1, hin]⟩
    simp [Rdr.row, h1, hin, V.erase, eraseL, Nd.enc, nencs_map]
end Go.Proofs.Tryd

namespace Go.Proofs.Tryd
open Go.Am
def ac56 : AC := .seq (.reg [⟨(some 6), .mv (.c (.sl .full 2 [])), none⟩, ⟨(some 7), .alloc [(.int .i64 0), (.int .i64 0)], none⟩])
 (.seq (.reg [xm 11 0, xm 12 1, xm 13 2, ⟨(some 14), .build [(.sl .full 5 []), (.int .i64 0), (.int .i64 0), (.int .i64 0), (.int .i64 0)] [(0, 1, (.s 11)), (1, 1, (.s 12)), (2, 1, (.s 13))], none⟩, ⟨(some 15), .boxO 5 (.s 14), none⟩, xm 8 15])
 (.seq (.reg [xm 17 8, xc 86 18 [.s 17, .c (.bool false)], xm 16 18, xe 19 16 0, xe 20 16 1, xm 9 19, xm 10 20])
 (.seq (.seq (.reg [xm 21 8, xc 87 22 [.s 21], ⟨(some 23), .not (.s 22), none⟩])
 (.cond (.s 23) (.seq (.draw [(xm 24 8, []), (xk 25 24, []), (xf 3 26 25, []), (xl 2 27 26, []), (⟨(some 6), .mv (.c (.sl .full 2 [])), none⟩, []), (xs 2 7 27, [])])
 (.ret))
 (.skip)))
 (.seq (.reg [xm 28 9, ⟨(some 29), .build [(.int .i64 0), (.int .i64 0)] [], none⟩, xm 6 28, xs 2 7 29])
 (.ret)))))
theorem fn56 : IsFn prog 56 ac56 [.tmp 6, .cell 7 true 2] 30 := ⟨f56, ⟨[15], []⟩, func56, by kernel_rfl, by kernel_rfl, by kernel_rfl, by kernel_rfl⟩
def ac59 : AC := .seq (.reg [⟨(some 6), .alloc [(.int .i64 0), (.int .i64 0), (.str []), (.sl .full 2 []), (.sl .full 5 [])], none⟩, xi 7 0, ⟨(some 8), .alloc [(.int .i64 0), (.int .i64 0)], none⟩])
 (.seq (.reg [xm 9 0, xm 10 1, xm 11 2, xc 88 12 [.s 9, .s 10, .s 11, .c (.fn (.func 89) [] [])], xe 13 12 0, xe 14 12 1, xe 15 12 2, xs 5 6 13, xm 7 14, xs 2 8 15])
 (.ret))
theorem fn59 : IsFn prog 59 ac59 [.cell 6 true 5, .tmp 7, .cell 8 true 2] 16 := ⟨f59, ⟨[], []⟩, func59, by kernel_rfl, by kernel_rfl, by kernel_rfl, by kernel_rfl⟩
def ac60 : AC := .seq (.reg [⟨(some 6), .alloc [(.int .i64 0), (.int .i64 0), (.str []), (.sl .full 2 []), (.sl .full 5 [])], none⟩, xi 7 0, ⟨(some 8), .alloc [(.int .i64 0), (.int .i64 0)], none⟩])
 (.seq (.reg [xm 9 0, xm 10 1, xm 11 2, xc 88 12 [.s 9, .s 10, .s 11, .c (.fn (.func 90) [] [])], xe 13 12 0, xe 14 12 1, xe 15 12 2, xs 5 6 13, xm 7 14, xs 2 8 15])
 (.ret))
theorem fn60 : IsFn prog 60 ac60 [.cell 6 true 5, .tmp 7, .cell 8 true 2] 16 := ⟨f60, ⟨[], []⟩, func60, by kernel_rfl, by kernel_rfl, by kernel_rfl, by kernel_rfl⟩
def ac88 : AC := .seq (.reg [⟨(some 8), .alloc [(.int .i64 0), (.int .i64 0), (.str []), (.sl .full 2 []), (.sl .full 5 [])], none⟩, xi 9 0, ⟨(some 10), .alloc [(.int .i64 0), (.int .i64 0)], none⟩])
 (.seq (.reg [xm 13 0, xm 14 1, xm 15 2, ⟨(some 16), .build [(.sl .full 5 []), (.int .i64 0), (.int .i64 0), (.int .i64 0), (.int .i64 0)] [(0, 1, (.s 13)), (1, 1, (.s 14)), (2, 1, (.s 15))], none⟩, ⟨(some 17), .boxO 5 (.s 16), none⟩, xm 11 17])
 (.seq (.reg [xm 18 3, xm 19 11, ⟨(some 20), .callv (.s 18) [(.s 19)], none⟩, ⟨(some 12), .alloc [(.int .i64 0), (.int .i64 0), (.str []), (.sl .full 2 []), (.sl .full 5 [])], none⟩, xs 5 12 20])
 (.seq (.seq (.reg [xm 21 11, xc 87 22 [.s 21], ⟨(some 23), .not (.s 22), none⟩])
 (.cond (.s 23) (.seq (.draw [(⟨(some 24), .build [(.int .i64 0), (.int .i64 0), (.str []), (.sl .full 2 []), (.sl .full 5 [])] [], none⟩, []), (xm 25 11, []), (xk 26 25, []), (xf 3 27 26, []), (xl 2 28 27, [1]), (xs 5 8 24, []), (xi 9 0, []), (xs 2 10 28, [])])
 (.ret))
 (.skip)))
 (.seq (.draw [(xl 5 29 12, []), (xm 30 11, []), (xk 31 30, []), (xf 1 32 31, []), (xo 33 32, [1]), (⟨(some 34), .build [(.int .i64 0), (.int .i64 0)] [], none⟩, []), (xs 5 8 29, []), (xm 9 33, []), (xs 2 10 34, [])])
 (.ret)))))
theorem fn88 : IsFn prog 88 ac88 [.cell 8 true 5, .tmp 9, .cell 10 true 2] 35 := ⟨f88, ⟨[17], []⟩, func88, by kernel_rfl, by kernel_rfl, by kernel_rfl, by kernel_rfl⟩
set_option maxRecDepth 4000
set_option maxHeartbeats 4000000
def fenc (b : Option Int) : V := .agg [.int .i64 (badC b), .int .i64 (badA b)]
theorem read_calls {g : FuncId} {one : Rdr → Nd × Rdr} {l : List Tree} {at_ fin : Int} {σ : Store}
    (hone : ∀ q (σ : Store), σ.box q = some (⟨l, at_, fin, none⟩ : Rdr).enc → PCalls prog g [.ptr (.out q) 0] σ fun v σ' => v = .agg (one ⟨l, at_, fin, none⟩).1.enc ∧ σ' = σ.set q (one ⟨l, at_, fin, none⟩).2.enc) :
    PCalls prog 88 [.sl .no 5 (encs l), .int .i64 at_, .int .i64 fin, .fn (.func g) [] []] σ fun v σ' => v = .tup [.agg (readAt one l at_ fin).1.enc, .int .i64 (readAt one l at_ fin).2.1, fenc (readAt one l at_ fin).2.2] ∧ σ' = σ := by
  refine fn88.calls ?_
  simp only [slots, ac88, ams, am]
  refine kO_intro fun q hq => ?_
  rw [show [V.sl .no 5 (encs l), .int .i64 at_, .int .i64 fin, .int .i64 0, .int .i64 0] = (⟨l, at_, fin, none⟩ : Rdr).enc from rfl]
  simp only [am]
  refine (hone q _ (Store.set_same _ _ _)).mono ?_
  rintro v σ' ⟨rfl, rfl⟩
  have hb := Store.set_same σ q (one ⟨l, at_, fin, none⟩).2.enc
  have hres : readAt one l at_ fin = match (one ⟨l, at_, fin, none⟩).2.bad with | some b => (.zero, 0, some b) | none => ((one ⟨l, at_, fin, none⟩).1, (one ⟨l, at_, fin, none⟩).2.at_, none) := rfl
  generalize one ⟨l, at_, fin, none⟩ = o at hb hres ⊢
  simp only [am, Nd.len, Nd.one, Nd.nol, Nd.er, Nd.ovr, Nd.tk, Nd.wd]
  refine (ok_calls (Store.set_same _ _ _)).mono ?_
  rintro v σ' ⟨rfl, rfl⟩
  cases h : o.2.bad with
  | some b =>
    simp only [am, Rdr.ok, h, Option.isNone, Rdr.ex, Nat.reduceAdd]
    rw [h] at hres
    refine retK_intro rfl (sub_set hq) ⟨?_, rfl⟩
    simp [hres, V.erase, eraseL, Nd.zero, Nd.enc, nencs, fenc]
  | none =>
    simp only [am, Rdr.ok, h, Option.isNone, Rdr.ex, Nat.reduceAdd, Nd.len, Nd.one, Nd.nol, Nd.er, Nd.ovr, Nd.tk, Nd.wd]
    rw [h] at hres
    refine retK_intro (by simp only [am, Nd.nol]) (sub_set hq) ⟨?_, rfl⟩
    simp [hres, V.erase, eraseL, fenc, Nd.er, badC, badA]
theorem Label_calls {n : Nat} {l : List Tree} {at_ fin : Int} {σ : Store} (hn : manys l ≤ n) (hm : manys l + 1 ≤ big) :
    PCalls prog 59 [.sl .no 5 (encs l), .int .i64 at_, .int .i64 fin] σ fun v σ' => v = .tup [.agg (readAt (Rdr.label n) l at_ fin).1.enc, .int .i64 (readAt (Rdr.label n) l at_ fin).2.1, fenc (readAt (Rdr.label n) l at_ fin).2.2] ∧ σ' = σ := by
  refine fn59.calls ?_
  simp only [slots, ac59, ams, am]
  refine (read_calls (one := Rdr.label n) (fun q σ h => label_calls n h hn hm)).mono ?_
  rintro v σ ⟨rfl, rfl⟩
  generalize readAt (Rdr.label n) l at_ fin = o
  simp only [am, fenc, Nd.len, Nd.ovr, Nd.tk, Nd.one, Nd.wd]
  refine retK_intro (by simp only [am, Nd.nol]) (Store.sub_refl _) ⟨?_, rfl⟩
  simp [V.erase, eraseL, Nd.er]
theorem Row_calls {n : Nat} {l : List Tree} {at_ fin : Int} {σ : Store} (hn : manys l ≤ n) (hm : manys l + 1 ≤ big) :
    PCalls prog 60 [.sl .no 5 (encs l), .int .i64 at_, .int .i64 fin] σ fun v σ' => v = .tup [.agg (readAt (Rdr.row n) l at_ fin).1.enc, .int .i64 (readAt (Rdr.row n) l at_ fin).2.1, fenc (readAt (Rdr.row n) l at_ fin).2.2] ∧ σ' = σ := by
  refine fn60.calls ?_
  simp only [slots, ac60, ams, am]
  refine (read_calls (one := Rdr.row n) (fun q σ h => row_calls (n := n) h hn hm)).mono ?_
  rintro v σ ⟨rfl, rfl⟩
  generalize readAt (Rdr.row n) l at_ fin = o
  simp only [am, fenc, Nd.len, Nd.ovr, Nd.tk, Nd.one, Nd.wd]
  refine retK_intro (by simp only [am, Nd.nol]) (Store.sub_refl _) ⟨?_, rfl⟩
  simp [V.erase, eraseL, Nd.er]
theorem Words_calls {l : List Tree} {at_ fin : Int} {σ : Store} (hm : manys l + 1 ≤ big) :
    PCalls prog 56 [.sl .no 5 (encs l), .int .i64 at_, .int .i64 fin] σ fun v σ' => v = .tup [.sl .no 2 ((wordsAt l at_ fin).1.map Word.enc), fenc (wordsAt l at_ fin).2] ∧ σ' = σ := by
  have hlen := manys_ge l
  refine fn56.calls ?_
  simp only [slots, ac56, ams, am]
  refine kO_intro fun q hq => ?_
  rw [show [V.sl .no 5 (encs l), .int .i64 at_, .int .i64 fin, .int .i64 0, .int .i64 0] = (⟨l, at_, fin, none⟩ : Rdr).enc from rfl]
  simp only [am]
  refine (words_calls (Store.set_same _ _ _) (by simp only; omega) (kids_big hm rfl)).mono ?_
  rintro v σ' ⟨rfl, rfl⟩
  have hb := Store.set_same σ q ((⟨l, at_, fin, none⟩ : Rdr).words false).2.enc
  have hres : wordsAt l at_ fin = match ((⟨l, at_, fin, none⟩ : Rdr).words false).2.bad with | some b => ([], some b) | none => (((⟨l, at_, fin, none⟩ : Rdr).words false).1.1, none) := rfl
  generalize (⟨l, at_, fin, none⟩ : Rdr).words false = o at hb hres ⊢
  simp only [am]
  refine (ok_calls (Store.set_same _ _ _)).mono ?_
  rintro v σ' ⟨rfl, rfl⟩
  cases h : o.2.bad with
  | some b =>
    simp only [am, Rdr.ok, h, Option.isNone, Rdr.ex, Nat.reduceAdd]
    rw [h] at hres
    refine retK_intro rfl (sub_set hq) ⟨?_, rfl⟩
    simp [hres, V.erase, eraseL, fenc]
  | none =>
    simp only [am, Rdr.ok, h, Option.isNone]
    rw [h] at hres
    refine retK_intro rfl (sub_set hq) ⟨?_, rfl⟩
    simp [hres, V.erase, eraseL, fenc, badC, badA]
end Go.Proofs.Tryd

namespace Go.Proofs.Tryd
open Go.Am
set_option maxRecDepth 4000
set_option maxHeartbeats 4000000
def ac91 : AC := .seq (.reg [⟨(some 6), .mv (.c (.bool false)), none⟩])
 (.seq (.reg [xm 7 1, xB .geq 8 7 0, xm 9 8, xg 9 (xm 10 1), xg 9 (xm 11 0), xg 9 (xL 12 11), xg 9 (xb .lss 13 10 12), ⟨(some 14), .pick (.s 9) (.s 13) (.c (.bool false)), none⟩, xm 15 14, xg 15 (xm 16 0), xg 15 (xm 17 1), xg 15 (xA 5 18 16 17), xg 15 (xf 0 19 18), xg 15 (xf 0 20 19), xg 15 (xo 21 20), xg 15 (xm 22 2), xg 15 (xb .eql 23 21 22), ⟨(some 24), .pick (.s 15) (.s 23) (.c (.bool false)), none⟩, xm 6 24])
 (.ret))
theorem fn91 : IsFn prog 91 ac91 [.tmp 6] 25 := ⟨f91, ⟨[], []⟩, func91, by kernel_rfl, by kernel_rfl, by kernel_rfl, by kernel_rfl⟩
def ac92 : AC := .seq (.reg [⟨(some 6), .alloc [(.int .i64 0), (.int .i64 0), (.str []), (.sl .full 2 []), (.sl .full 5 []), (.int .i64 0), (.bool false), (.int .i64 0)], none⟩])
 (.seq (.seq (.reg [xm 7 1, xB .geq 8 7 0, xm 9 8, xg 9 (xm 10 1), xg 9 (xm 11 0), xg 9 (xL 12 11), xg 9 (xb .lss 13 10 12), ⟨(some 14), .pick (.s 9) (.s 13) (.c (.bool false)), none⟩])
 (.cond (.s 14) (.seq (.reg [xm 15 0, xm 16 1, xA 5 17 15 16, xf 0 18 17, xf 2 19 18, xo 20 19, ⟨(some 21), .build [(.int .i64 0), (.int .i64 0), (.str []), (.sl .full 2 []), (.sl .full 5 []), (.int .i64 0), (.bool false), (.int .i64 0)] [(6, 1, (.c (.bool true))), (7, 1, (.s 20))], none⟩, xs 8 6 21])
 (.ret))
 (.skip)))
 (.seq (.reg [xm 22 2, ⟨(some 23), .build [(.int .i64 0), (.int .i64 0), (.str []), (.sl .full 2 []), (.sl .full 5 []), (.int .i64 0), (.bool false), (.int .i64 0)] [(6, 1, (.c (.bool true))), (7, 1, (.s 22))], none⟩, xs 8 6 23])
 (.ret)))
theorem fn92 : IsFn prog 92 ac92 [.cell 6 true 8] 24 := ⟨f92, ⟨[], []⟩, func92, by kernel_rfl, by kernel_rfl, by kernel_rfl, by kernel_rfl⟩
def ac96 : AC := .seq (.reg [⟨(some 8), .mv (.c (.sl .full 5 [])), none⟩, ⟨(some 9), .alloc [(.int .i64 0), (.int .i64 0), (.str []), (.sl .full 2 []), (.sl .full 5 []), (.int .i64 0), (.bool false), (.int .i64 0)], none⟩])
 (.seq (.reg [⟨(some 10), .mv (.c (.sl .full 5 [])), none⟩])
 (.block 0 (.loop (.block 1 (.seq (.reg [xm 12 0, xm 13 1, xm 14 2, xm 15 3, xc 97 16 [.s 12, .s 13, .s 14, .s 15], ⟨(some 11), .alloc [(.int .i64 0), (.int .i64 0), (.str []), (.sl .full 2 []), (.sl .full 5 []), (.int .i64 0), (.bool false), (.int .i64 0)], none⟩, xs 8 11 16])
 (.seq (.seq (.reg [xf 6 17 11, xo 18 17])
 (.cond (.s 18) (.seq (.draw [(xl 8 19 11, []), (⟨(some 8), .mv (.c (.sl .full 5 [])), none⟩, []), (xs 8 9 19, [])])
 (.ret))
 (.skip)))
 (.seq (.reg [xm 20 10, xf 0 21 11, xl 5 22 21, ⟨(some 23), .bslice 5 [(.s 22)], none⟩, xa 5 24 20 23, xm 10 24])
 (.seq (.seq (.reg [xm 25 1, xf 5 26 11, xo 27 26, xc 91 28 [.s 25, .s 27, .c (.int .u8 44)], ⟨(some 29), .not (.s 28), none⟩])
 (.cond (.s 29) (.seq (.draw [(xm 30 10, []), (xl 8 31 11, []), (xm 8 30, []), (xs 8 9 31, [])])
 (.ret))
 (.skip)))
 (.reg [xf 5 32 11, xo 33 32, xB .add 34 33 1, xm 2 34])))))))))
theorem fn96 : IsFn prog 96 ac96 [.tmp 8, .cell 9 true 8] 35 := ⟨f96, ⟨[], []⟩, func96, by kernel_rfl, by kernel_rfl, by kernel_rfl, by kernel_rfl⟩
def ac97 : AC := .seq (.reg [⟨(some 8), .alloc [(.int .i64 0), (.int .i64 0), (.str []), (.sl .full 2 []), (.sl .full 5 []), (.int .i64 0), (.bool false), (.int .i64 0)], none⟩])
 (.seq (.seq (.reg [xm 9 0])
 (.block 0 (.seq (.reg [xB .eql 11 9 1, xm 10 11])
 (.cond (.s 10) (.seq (.reg [xm 12 1, xm 13 2, xm 14 3, xc 95 15 [.s 12, .s 13, .s 14], xs 8 8 15])
 (.ret))
 (.seq (.reg [xB .eql 17 9 2, xm 16 17])
 (.cond (.s 16) (.seq (.reg [xm 18 1, xm 19 2, xm 20 3, xc 119 21 [.s 18, .s 19, .s 20], xs 8 8 21])
 (.ret))
 (.seq (.reg [xB .eql 23 9 3, xm 22 23])
 (.cond (.s 22) (.seq (.reg [xm 24 1, xm 25 2, xm 26 3, xc 65 27 [.s 24, .s 25, .s 26], xs 8 8 27])
 (.ret))
 (.seq (.reg [xB .eql 29 9 4, xm 28 29])
 (.cond (.s 28) (.seq (.reg [xm 30 1, xm 31 2, xm 32 3, xc 120 33 [.s 30, .s 31, .s 32], xs 8 8 33])
 (.ret))
 (.seq (.reg [xB .eql 35 9 5, xm 34 35])
 (.cond (.s 34) (.seq (.seq (.reg [xm 36 1, xm 37 2, xc 91 38 [.s 36, .s 37, .c (.int .u8 43)], xm 39 38, xh 39 (xm 40 1), xh 39 (xm 41 2), xh 39 (xc 91 42 [.s 40, .s 41, .c (.int .u8 38)]), ⟨(some 43), .pick (.s 39) (.c (.bool true)) (.s 42), none⟩])
 (.cond (.s 43) (.seq (.reg [xm 44 1, xm 45 2, xm 46 3, xc 92 47 [.s 44, .s 45, .s 46], xs 8 8 47])
 (.ret))
 (.skip)))
 (.seq (.reg [xm 48 1, xm 49 2, xm 50 3, xc 65 51 [.s 48, .s 49, .s 50], xs 8 8 51])
 (.ret)))
 (.skip)))))))))))))
 (.seq (.seq (.reg [xm 52 1, xm 53 2, xc 91 54 [.s 52, .s 53, .c (.int .u8 97)], ⟨(some 55), .not (.s 54), none⟩])
 (.cond (.s 55) (.seq (.reg [xm 56 1, xm 57 2, xm 58 3, xc 92 59 [.s 56, .s 57, .s 58], xs 8 8 59])
 (.ret))
 (.skip)))
 (.seq (.draw [(xm 60 1, []), (xm 61 2, []), (xA 5 62 60 61, []), (xf 0 63 62, []), (xf 2 64 63, []), (xo 65 64, []), (xm 66 1, []), (xm 67 2, []), (xA 5 68 66 67, []), (xf 0 69 68, []), (xf 1 70 69, []), (xo 71 70, []), (⟨(some 72), .build [(.int .i64 0), (.int .i64 0), (.str []), (.sl .full 2 []), (.sl .full 5 [])] [(1, 1, (.s 65)), (2, 1, (.s 71))], none⟩, []), (xm 73 2, []), (xB .add 74 73 1, []), (⟨(some 75), .build [(.int .i64 0), (.int .i64 0), (.str []), (.sl .full 2 []), (.sl .full 5 []), (.int .i64 0), (.bool false), (.int .i64 0)] [(0, 5, (.s 72)), (5, 1, (.s 74))], none⟩, []), (xs 8 8 75, [])])
 (.ret))))
theorem fn97 : IsFn prog 97 ac97 [.cell 8 true 8] 76 := ⟨f97, ⟨[], []⟩, func97, by kernel_rfl, by kernel_rfl, by kernel_rfl, by kernel_rfl⟩
theorem is_calls (l : List Tree) (i : Int) (k : Int) (σ : Store) : PCalls prog 91 [.sl .no 5 (encs l), .int .i64 i, .int .u8 k] σ fun v σ' => v = .bool (isK l i k) ∧ σ' = σ := by
  refine fn91.calls ?_
  simp only [slots, ac91, am, amo, amc, ams, Nat.reduceAdd, Nat.reduceEqDiff, decide_true, decide_false]
  by_cases h0 : 0 ≤ i
  · simp only [am, h0, decide_true, encs_length]
    by_cases h1 : i < l.length
    · obtain ⟨j, rfl⟩ := Int.eq_ofNat_of_zero_le h0
      have hj : j < l.length := by omega
      simp only [am, amo, amc, Nat.reduceAdd, Nat.reduceEqDiff, encs_length, List.length_map, decide_true, decide_false, h1, decide_true]
      refine idxL_intro h0 (c := l[j].enc) (by simp [encs_map, hj]) ?_
      simp only [am, amo, amc, Nat.reduceAdd, Nat.reduceEqDiff, encs_length, List.length_map, decide_true, decide_false, enc_eq]
      refine retK_intro rfl (Store.sub_refl _) ⟨?_, rfl⟩
      simp [V.erase, eraseL, isK, hj]
    · simp only [am, amo, amc, Nat.reduceAdd, Nat.reduceEqDiff, encs_length, List.length_map, decide_true, decide_false, h1, decide_false]
      have : l[i.toNat]? = none := List.getElem?_eq_none (by omega)
      refine retK_intro rfl (Store.sub_refl _) ⟨?_, rfl⟩
      simp [V.erase, eraseL, isK, this]
  · simp only [am, amo, amc, Nat.reduceAdd, Nat.reduceEqDiff, encs_length, List.length_map, decide_true, decide_false, h0, decide_false]
    refine retK_intro rfl (Store.sub_refl _) ⟨?_, rfl⟩
    simp [V.erase, eraseL, isK, h0]
theorem wrong_calls (l : List Tree) (i fin : Int) (σ : Store) : PCalls prog 92 [.sl .no 5 (encs l), .int .i64 i, .int .i64 fin] σ fun v σ' => v = .agg (wrongAt l i fin).enc ∧ σ' = σ := by
  refine fn92.calls ?_
  simp only [slots, ac92, am, amo, amc, ams, Nat.reduceAdd, Nat.reduceEqDiff, decide_true, decide_false]
  by_cases h0 : 0 ≤ i
  · simp only [am, h0, decide_true, encs_length]
    by_cases h1 : i < l.length
    · obtain ⟨j, rfl⟩ := Int.eq_ofNat_of_zero_le h0
      have hj : j < l.length := by omega
      simp only [am, amo, amc, Nat.reduceAdd, Nat.reduceEqDiff, encs_length, List.length_map, decide_true, decide_false, h1, decide_true]
      refine idxL_intro h0 (c := l[j].enc) (by simp [encs_map, hj]) ?_
      simp only [am, amo, amc, Nat.reduceAdd, Nat.reduceEqDiff, encs_length, List.length_map, decide_true, decide_false, enc_eq, Nat.reduceAdd]
      refine retK_intro rfl (Store.sub_refl _) ⟨?_, rfl⟩
      simp [V.erase, eraseL, wrongAt, spotOf, Got.enc, Nd.zero, Nd.kind, Nd.pos, Nd.text, Nd.names, Nd.kids, hj]
    · simp only [am, amo, amc, Nat.reduceAdd, Nat.reduceEqDiff, encs_length, List.length_map, decide_true, decide_false, h1, decide_false]
      have : l[i.toNat]? = none := List.getElem?_eq_none (by omega)
      refine retK_intro rfl (Store.sub_refl _) ⟨?_, rfl⟩
      simp [V.erase, eraseL, wrongAt, spotOf, Got.enc, Nd.zero, Nd.kind, Nd.pos, Nd.text, Nd.names, Nd.kids, this]
  · simp only [am, amo, amc, Nat.reduceAdd, Nat.reduceEqDiff, encs_length, List.length_map, decide_true, decide_false, h0, decide_false]
    refine retK_intro rfl (Store.sub_refl _) ⟨?_, rfl⟩
    simp [V.erase, eraseL, wrongAt, spotOf, Got.enc, Nd.zero, Nd.kind, Nd.pos, Nd.text, Nd.names, Nd.kids, h0]
theorem name_calls (l : List Tree) (i fin : Int) (σ : Store) (hb : l.length ≤ big) : PCalls prog 97 [.int .i64 6, .sl .no 5 (encs l), .int .i64 i, .int .i64 fin] σ fun v σ' => v = .agg (nameAt l i fin).enc ∧ σ' = σ := by
  refine fn97.calls ?_
  simp only [slots, ac97, am, amo, amc, ams, Nat.reduceAdd, Nat.reduceEqDiff, decide_true, decide_false]
  simp only [am, amo, amc, Nat.reduceAdd, Nat.reduceEqDiff, encs_length, List.length_map, decide_true, decide_false, show decide ((6 : Int) = 1) = false from rfl, show decide ((6 : Int) = 2) = false from rfl, show decide ((6 : Int) = 3) = false from rfl, show decide ((6 : Int) = 4) = false from rfl, show decide ((6 : Int) = 5) = false from rfl]
  refine (is_calls l i 97 σ).mono ?_
  rintro v σ ⟨rfl, rfl⟩
  cases h : isK l i 97
  · simp only [am, amo, amc, Nat.reduceAdd, Nat.reduceEqDiff, encs_length, List.length_map, decide_true, decide_false]
    refine (wrong_calls l i fin σ).mono ?_
    rintro v σ ⟨rfl, rfl⟩
    simp only [am, amo, amc, Nat.reduceAdd, Nat.reduceEqDiff, encs_length, List.length_map, decide_true, decide_false, Got.enc]
    refine retK_intro rfl (Store.sub_refl _) ⟨?_, rfl⟩
    simp [V.erase, eraseL, nameAt, h, Got.enc]
  · obtain ⟨j, t, rfl, hj, hk, hl⟩ := isK_spec h
    simp only [big] at hb
    simp only [am, amo, amc, Nat.reduceAdd, Nat.reduceEqDiff, encs_length, List.length_map, decide_true, decide_false]
    refine idxL_intro (by omega) (encs_at hj) ?_
    simp only [am, amo, amc, Nat.reduceAdd, Nat.reduceEqDiff, encs_length, List.length_map, decide_true, decide_false, enc_eq, Nat.reduceAdd]
    refine idxL_intro (by omega) (encs_at hj) ?_
    simp only [am, amo, amc, Nat.reduceAdd, Nat.reduceEqDiff, encs_length, List.length_map, decide_true, decide_false, enc_eq, Nat.reduceAdd]
    rw [wrap_i64 (by omega) (by omega)]
    refine retK_intro rfl (Store.sub_refl _) ⟨?_, rfl⟩
    simp [V.erase, eraseL, nameAt, h, Got.enc, tokAt, hj, Nd.kind, Nd.pos, Nd.text, Nd.names, Nd.kids]
theorem nameAt_next {l : List Tree} {at_ : Nat} {fin : Int} {g : Got} (h : nameAt l at_ fin = g) (hb : g.bad = false) : g.next = (at_ : Int) + 1 ∧ at_ < l.length := by
  unfold nameAt at h
  split at h
  · rename_i hk
    obtain ⟨j, t, e, _, _, hl⟩ := isK_spec hk
    subst h
    exact ⟨rfl, by omega⟩
  · subst h; simp [wrongAt] at hb
def nz8 : List V := [.int .i64 0, .int .i64 0, .str [], .sl .full 2 [], .sl .full 5 [], .int .i64 0, .bool false, .int .i64 0]
def inv66 (l : List Tree) (fin : Int) (σ : Store) (at_ τ : Nat) (out : List Nd) : St :=
  ⟨[.int .i64 6, .sl .no 5 (encs l), .int .i64 (at_ : Nat), .int .i64 fin] ++ List.replicate 4 .any ++ [.any, .ptr (.loc 0) 0, .sl (.tk τ) 5 (out.map Nd.enc)] ++ List.replicate 24 .any, [nz8], σ.setTip τ out.length⟩
theorem some_ref_calls (l : List Tree) (fin : Int) (σ : Store) (hb : l.length + 1 ≤ big) : PCalls prog 96 [.int .i64 6, .sl .no 5 (encs l), .int .i64 0, .int .i64 fin] σ fun v σ' => v = .tup [.sl .no 5 ((someAt (fun i => nameAt l i fin) l (l.length + 1) 0 []).1.map Nd.enc), .agg (someAt (fun i => nameAt l i fin) l (l.length + 1) 0 []).2.enc] ∧ σ' = σ := by
  generalize hR : someAt (fun i => nameAt l i fin) l (l.length + 1) 0 [] = R
  refine fn96.calls ?_
  simp only [slots, ac96, am, amo, amc, ams, Nat.reduceAdd, Nat.reduceEqDiff, decide_true, decide_false]
  let I : { p : Nat × Nat × Nat × List Nd // σ.tip p.2.2.1 = none ∧ someAt (fun i => nameAt l i fin) l p.1 (p.2.1 : Nat) p.2.2.2 = R ∧ p.2.2.2.length ≤ p.2.1 ∧ p.2.1 ≤ l.length ∧ l.length + 1 ≤ p.2.1 + p.1 } → St := fun p => inv66 l fin σ p.1.2.1 p.1.2.2.1 p.1.2.2.2
  refine vc_loop I (fun p => p.1.1) ?_ ?_
  · refine Upd.tokEnter 0 fun τ hτ => ⟨⟨(l.length + 1, 0, τ, []), hτ, hR, by simp, by simp, by simp⟩, ?_, rfl, rfl⟩
    simp [I, inv66, List.replicate, lto]
  · rintro ⟨⟨m, at_, τ, out⟩, hτ, hR, h1, h2, h3⟩
    simp only at hτ hR h1 h2 h3
    have hm : ∃ k, m = k + 1 := ⟨m - 1, by omega⟩
    obtain ⟨m, rfl⟩ := hm
    simp only [I, inv66, List.replicate, am, nz8]
    refine (name_calls l at_ fin _ (by omega)).mono ?_
    rintro v σ' ⟨rfl, rfl⟩
    simp only [someAt] at hR
    generalize hg : nameAt l at_ fin = g at *
    simp only [am, amo, amc, Nat.reduceAdd, Nat.reduceEqDiff, encs_length, List.length_map, decide_true, decide_false, Got.enc, Nat.reduceAdd]
    cases hbad : g.bad
    · rw [hbad] at hR
      simp only [am, amo, amc, Nat.reduceAdd, Nat.reduceEqDiff, encs_length, List.length_map, decide_true, decide_false]
      have hK := nameAt_next hg hbad
      refine app_tk (by simp; omega) (by simp [setTip_tip_same]) ?_
      simp only [am, amo, amc, Nat.reduceAdd, Nat.reduceEqDiff, encs_length, List.length_map, decide_true, decide_false, setTip_setTip]
      refine (is_calls l g.next 44 _).mono ?_
      rintro v σ' ⟨rfl, rfl⟩
      cases h44 : isK l g.next 44
      · simp only [am, amo, amc, Nat.reduceAdd, Nat.reduceEqDiff, encs_length, List.length_map, decide_true, decide_false]
        refine retK_intro rfl (sub_tip hτ) ⟨?_, rfl⟩
        rw [h44] at hR
        simp only [Bool.false_eq_true, if_false] at hR
        simp [V.erase, eraseL, ← hR, Got.enc, hbad, Nd.enc_eq]
      · obtain ⟨j, t, hj, hjt, hk, hjl⟩ := isK_spec h44
        simp only [big] at hb
        simp only [am, amo, amc, Nat.reduceAdd, Nat.reduceEqDiff, encs_length, List.length_map, decide_true, decide_false]
        rw [wrap_i64 (by omega) (by omega)]
        rw [h44] at hR
        simp only [Bool.false_eq_true, if_false, if_true] at hR
        refine Upd.againD ⟨(m, at_ + 2, τ, out ++ [g.node]), hτ, ?_, by simp; omega, by simp only; omega, by simp only; omega⟩ (by simp) ?_ ?_ ?_ rfl rfl
        · rw [← hR]; congr 1; simp only; omega
        · simp [inv66, List.replicate, am, Nd.enc_eq]; omega
        · simp [inv66, am, nz8]
        · simp [inv66, OLe.rfl]
    · rw [hbad] at hR
      simp only [am, amo, amc, Nat.reduceAdd, Nat.reduceEqDiff, encs_length, List.length_map, decide_true, decide_false]
      refine retK_intro rfl (sub_tip hτ) ⟨?_, rfl⟩
      simp [V.erase, eraseL, ← hR, Got.enc, hbad]
end Go.Proofs.Tryd

namespace Go.Proofs.Tryd
open Go.Am
set_option maxRecDepth 4000
set_option maxHeartbeats 4000000
def ac63 : AC := .seq (.reg [⟨(some 6), .mv (.c (.sl .full 2 [])), none⟩, ⟨(some 7), .alloc [(.int .i64 0), (.int .i64 0), (.str []), (.sl .full 2 []), (.sl .full 5 []), (.int .i64 0), (.bool false), (.int .i64 0)], none⟩])
 (.seq (.seq (.reg [xm 10 0, xm 11 1, xc 91 12 [.s 10, .s 11, .c (.int .u8 123)], ⟨(some 13), .not (.s 12), none⟩])
 (.cond (.s 13) (.seq (.reg [xm 14 0, xm 15 1, xm 16 2, xc 92 17 [.s 14, .s 15, .s 16], ⟨(some 6), .mv (.c (.sl .full 2 [])), none⟩, xs 8 7 17])
 (.ret))
 (.skip)))
 (.seq (.reg [xm 19 0, xm 20 1, xA 5 21 19 20, xl 5 22 21, xc 93 23 [.c (.int .i64 6), .s 22, .c (.bool false)], xm 18 23, xe 24 18 0, xe 25 18 1, ⟨(some 9), .alloc [(.int .i64 0), (.int .i64 0), (.str []), (.sl .full 2 []), (.sl .full 5 []), (.int .i64 0), (.bool false), (.int .i64 0)], none⟩, xm 8 24, xs 8 9 25])
 (.seq (.draw [(xm 26 8, []), (xc 94 27 [.s 26], []), (xl 8 28 9, [0]), (xm 6 27, []), (xs 8 7 28, [])])
 (.ret))))
theorem fn63 : IsFn prog 63 ac63 [.tmp 6, .cell 7 true 8] 29 := ⟨f63, ⟨[], []⟩, func63, by kernel_rfl, by kernel_rfl, by kernel_rfl, by kernel_rfl⟩
def ac93 : AC := .seq (.reg [⟨(some 4), .box 5 (.s 1), none⟩, ⟨(some 6), .mv (.c (.sl .full 5 [])), none⟩, ⟨(some 7), .alloc [(.int .i64 0), (.int .i64 0), (.str []), (.sl .full 2 []), (.sl .full 5 []), (.int .i64 0), (.bool false), (.int .i64 0)], none⟩])
 (.seq (.seq (.reg [xm 10 2, xm 11 10, xg 11 (xf 3 12 4), xg 11 (xo 13 12), xg 11 (xL 14 13), xg 11 (xB .eql 15 14 0), ⟨(some 16), .pick (.s 11) (.s 15) (.c (.bool false)), none⟩])
 (.cond (.s 16) (.seq (.reg [⟨(some 17), .build [(.int .i64 0), (.int .i64 0), (.str []), (.sl .full 2 []), (.sl .full 5 []), (.int .i64 0), (.bool false), (.int .i64 0)] [], none⟩, ⟨(some 6), .mv (.c (.sl .full 5 [])), none⟩, xs 8 7 17])
 (.ret))
 (.skip)))
 (.seq (.reg [xm 19 0, xf 3 20 4, xo 21 20, xf 4 22 4, xo 23 22, xc 96 24 [.s 19, .s 21, .c (.int .i64 0), .s 23], xm 18 24, xe 25 18 0, xe 26 18 1, ⟨(some 9), .alloc [(.int .i64 0), (.int .i64 0), (.str []), (.sl .full 2 []), (.sl .full 5 []), (.int .i64 0), (.bool false), (.int .i64 0)], none⟩, xm 8 25, xs 8 9 26])
 (.seq (.seq (.reg [xf 6 27 9, xo 28 27, ⟨(some 29), .not (.s 28), none⟩, xm 30 29, xg 30 (xf 5 31 9), xg 30 (xo 32 31), xg 30 (xf 3 33 4), xg 30 (xo 34 33), xg 30 (xL 35 34), xg 30 (xb .lss 36 32 35), ⟨(some 37), .pick (.s 30) (.s 36) (.c (.bool false)), none⟩])
 (.cond (.s 37) (.seq (.reg [xf 3 38 4, xo 39 38, xf 5 40 9, xo 41 40, xf 4 42 4, xo 43 42, xc 92 44 [.s 39, .s 41, .s 43], ⟨(some 6), .mv (.c (.sl .full 5 [])), none⟩, xs 8 7 44])
 (.ret))
 (.skip)))
 (.seq (.draw [(xm 45 8, []), (xl 8 46 9, []), (xm 6 45, []), (xs 8 7 46, [])])
 (.ret)))))
theorem fn93 : IsFn prog 93 ac93 [.tmp 6, .cell 7 true 8] 47 := ⟨f93, ⟨[], []⟩, func93, by kernel_rfl, by kernel_rfl, by kernel_rfl, by kernel_rfl⟩
def ac94 : AC := .seq (.reg [⟨(some 2), .mv (.c (.sl .full 2 [])), none⟩])
 (.seq (.reg [⟨(some 3), .mv (.c (.sl .full 2 [])), none⟩])
 (.seq (.seq (.reg [xi 4 0])
 (.block 0 (.loop (.seq (.seq (.reg [xm 5 4, xm 6 0, xL 7 6, xb .lss 8 5 7])
 (.cond (.s 8) (.skip)
 (.exit 0)))
 (.seq (.block 1 (.draw [(xm 11 3, []), (xm 12 0, []), (xm 13 4, []), (xA 5 14 12 13, []), (xf 2 15 14, []), (xo 16 15, []), (xm 17 0, []), (xm 18 4, []), (xA 5 19 17 18, []), (xf 1 20 19, []), (xo 21 20, []), (⟨(some 22), .build [(.str []), (.int .i64 0)] [(0, 1, (.s 16)), (1, 1, (.s 21))], none⟩, []), (⟨(some 23), .bslice 2 [(.s 22)], none⟩, []), (xa 2 24 11 23, []), (xm 3 24, [])]))
 (.reg [xm 9 4, xB .add 10 9 1, xm 4 10]))))))
 (.seq (.reg [xm 25 3, xm 2 25])
 (.ret))))
theorem fn94 : IsFn prog 94 ac94 [.tmp 2] 26 := ⟨f94, ⟨[], []⟩, func94, by kernel_rfl, by kernel_rfl, by kernel_rfl, by kernel_rfl⟩
def inv36 (l : List Nd) (σ : Store) (i τ : Nat) : St :=
  ⟨[.sl .no 5 (l.map Nd.enc), .any, .any, .sl (.tk τ) 2 ((wordsOf (l.take i)).map Word.enc), .int .i64 (i : Nat)] ++ List.replicate 21 .any, [], σ.setTip τ i⟩
theorem names_ref_calls (l : List Nd) (σ : Store) (hb : l.length ≤ big) : PCalls prog 94 [.sl .no 5 (l.map Nd.enc)] σ fun v σ' => v = .sl .no 2 ((wordsOf l).map Word.enc) ∧ σ' = σ := by
  refine fn94.calls ?_
  simp only [slots, ac94, am, amo, amc, ams, Nat.reduceAdd, Nat.reduceEqDiff, decide_true, decide_false, Tree.rec_, Nd.rec_, Word.rec_, Got.rec_]
  refine vc_loop (fun p : { p : Nat × Nat // σ.tip p.2 = none ∧ p.1 ≤ l.length } => inv36 l σ p.1.1 p.1.2) (fun p => l.length - p.1.1) ?_ ?_
  · refine Upd.tokEnter 0 fun τ hτ => ⟨⟨(0, τ), hτ, by simp⟩, ?_, rfl, rfl⟩
    simp [inv36, List.replicate, lto, wordsOf]
  · rintro ⟨⟨i, τ⟩, hτ, hi⟩
    simp only at hτ hi
    simp only [inv36, List.replicate, am, List.length_map]
    refine vcIf_split ?_ ?_
    · intro hlt
      have hlt : i < l.length := by simpa using hlt
      have hn : l[i]? = some l[i] := by simp [hlt]
      have hwl : (wordsOf (l.take i)).length = i := by simp [wordsOf]; omega
      simp only [big] at hb
      simp only [am, amo, amc, Nat.reduceAdd, Nat.reduceEqDiff, encs_length, List.length_map, decide_true, decide_false, Tree.rec_, Nd.rec_, Word.rec_, Got.rec_]
      refine idxL_intro (by omega) (nencs_at hn) ?_
      simp only [am, amo, amc, Nat.reduceAdd, Nat.reduceEqDiff, encs_length, List.length_map, decide_true, decide_false, Tree.rec_, Nd.rec_, Word.rec_, Got.rec_, Nd.enc_eq, Nat.reduceAdd]
      refine idxL_intro (by omega) (nencs_at hn) ?_
      simp only [am, amo, amc, Nat.reduceAdd, Nat.reduceEqDiff, encs_length, List.length_map, decide_true, decide_false, Tree.rec_, Nd.rec_, Word.rec_, Got.rec_, Nd.enc_eq, Nat.reduceAdd]
      refine appD_tk (by rw [List.length_map, hwl]; simp [big]; omega) (by rw [List.length_map, setTip_tip_same, hwl]) ?_
      simp only [am, amo, amc, Nat.reduceAdd, Nat.reduceEqDiff, encs_length, List.length_map, decide_true, decide_false, Tree.rec_, Nd.rec_, Word.rec_, Got.rec_, setTip_setTip]
      rw [wrap_i64 (by omega) (by omega)]
      refine Upd.again ⟨(i + 1, τ), hτ, hlt⟩ (by simp; omega) ?_ LLLe.rfl (by rw [hwl]; exact OLe.rfl)
      have e : (wordsOf (l.take (i + 1))).map Word.enc = (wordsOf (l.take i)).map Word.enc ++ [[.str l[i].text, .int .i64 l[i].pos]] := by rw [take_succ_of hn]; simp only [wordsOf, List.map_append, List.map_cons, List.map_nil, Word.enc]
      simp only [am, e]; simp
    · intro hlt
      have hlt : i = l.length := by simp at hlt; omega
      subst hlt
      simp only [am, amo, amc, Nat.reduceAdd, Nat.reduceEqDiff, encs_length, List.length_map, decide_true, decide_false, Tree.rec_, Nd.rec_, Word.rec_, Got.rec_]
      refine retK_intro rfl (sub_tip hτ) ⟨?_, rfl⟩
      simp [V.erase]
theorem whole_calls (t : Tree) (empty : Bool) (σ : Store) (hb : t.kids.length + 1 ≤ big) : PCalls prog 93 [.int .i64 6, .agg t.enc, .bool empty] σ fun v σ' => v = .tup [.sl .no 5 ((wholeAt nameAt t empty).1.map Nd.enc), .agg (wholeAt nameAt t empty).2.enc] ∧ σ' = σ := by
  refine fn93.calls ?_
  simp only [slots, ac93, am, ams, enc_eq, Nat.reduceAdd, encs_length]
  have main : ∀ (hne : ¬(empty = true ∧ t.kids.length = 0)), wholeAt nameAt t empty = if (someAt (fun i => nameAt t.kids i t.fin) t.kids (t.kids.length + 1) 0 []).2.bad = false ∧ (someAt (fun i => nameAt t.kids i t.fin) t.kids (t.kids.length + 1) 0 []).2.next < t.kids.length then ([], wrongAt t.kids (someAt (fun i => nameAt t.kids i t.fin) t.kids (t.kids.length + 1) 0 []).2.next t.fin) else (someAt (fun i => nameAt t.kids i t.fin) t.kids (t.kids.length + 1) 0 []) := fun hne => by
    unfold wholeAt
    rw [if_neg hne]
  by_cases hc : empty = true ∧ t.kids.length = 0
  · obtain ⟨rfl, hk⟩ := hc
    simp only [am, amo, amc, Nat.reduceAdd, Nat.reduceEqDiff, encs_length, List.length_map, decide_true, decide_false, Tree.rec_, Nd.rec_, Word.rec_, Got.rec_, encs_length, hk, Int.natCast_zero, decide_true]
    refine retK_intro rfl (Store.sub_refl _) ⟨?_, rfl⟩
    simp [V.erase, eraseL, wholeAt, hk, Got.enc, Nd.zero, Nd.kind, Nd.pos, Nd.text, Nd.names, Nd.kids]
  · have main := main hc
    cases empty
    case' true =>
      have hk : ¬((t.kids.length : Int) = 0) := by simp at hc ⊢; exact hc
      simp only [am, amo, amc, Nat.reduceAdd, Nat.reduceEqDiff, encs_length, List.length_map, decide_true, decide_false, Tree.rec_, Nd.rec_, Word.rec_, Got.rec_, encs_length, hk, decide_false]
    case' false =>
      simp only [am, amo, amc, Nat.reduceAdd, Nat.reduceEqDiff, encs_length, List.length_map, decide_true, decide_false, Tree.rec_, Nd.rec_, Word.rec_, Got.rec_]
    all_goals
      refine (some_ref_calls t.kids t.fin σ hb).mono ?_
      rintro v σ ⟨rfl, rfl⟩
      generalize (someAt (fun i => nameAt t.kids i t.fin) t.kids (t.kids.length + 1) 0 []) = R at main ⊢
      simp only [am, amo, amc, Nat.reduceAdd, Nat.reduceEqDiff, encs_length, List.length_map, decide_true, decide_false, Tree.rec_, Nd.rec_, Word.rec_, Got.rec_, Got.enc, Nat.reduceAdd, encs_length]
      cases hbad : R.2.bad
      · simp only [am, amo, amc, Nat.reduceAdd, Nat.reduceEqDiff, encs_length, List.length_map, decide_true, decide_false, Tree.rec_, Nd.rec_, Word.rec_, Got.rec_]
        by_cases hn : R.2.next < t.kids.length
        · simp only [am, amo, amc, Nat.reduceAdd, Nat.reduceEqDiff, encs_length, List.length_map, decide_true, decide_false, Tree.rec_, Nd.rec_, Word.rec_, Got.rec_, hn, decide_true]
          refine (wrong_calls t.kids R.2.next t.fin σ).mono ?_
          rintro v σ ⟨rfl, rfl⟩
          simp only [am, amo, amc, Nat.reduceAdd, Nat.reduceEqDiff, encs_length, List.length_map, decide_true, decide_false, Tree.rec_, Nd.rec_, Word.rec_, Got.rec_, Got.enc]
          refine retK_intro rfl (Store.sub_refl _) ⟨?_, rfl⟩
          simp [V.erase, eraseL, main, hbad, hn, Got.enc]
        · simp only [am, amo, amc, Nat.reduceAdd, Nat.reduceEqDiff, encs_length, List.length_map, decide_true, decide_false, Tree.rec_, Nd.rec_, Word.rec_, Got.rec_, hn, decide_false]
          refine retK_intro rfl (Store.sub_refl _) ⟨?_, rfl⟩
          simp [V.erase, eraseL, main, hbad, hn, Got.enc]
      · simp only [am, amo, amc, Nat.reduceAdd, Nat.reduceEqDiff, encs_length, List.length_map, decide_true, decide_false, Tree.rec_, Nd.rec_, Word.rec_, Got.rec_]
        refine retK_intro rfl (Store.sub_refl _) ⟨?_, rfl⟩
        simp [V.erase, eraseL, main, hbad, Got.enc]
theorem Words_ref_calls (l : List Tree) (i fin : Int) (σ : Store) (hm : manys l + 1 ≤ big) : PCalls prog 63 [.sl .no 5 (encs l), .int .i64 i, .int .i64 fin] σ fun v σ' => v = .tup [.sl .no 2 ((refWords l i fin).1.map Word.enc), .agg (refWords l i fin).2.enc] ∧ σ' = σ := by
  refine fn63.calls ?_
  simp only [slots, ac63, am, amo, amc, ams, Nat.reduceAdd, Nat.reduceEqDiff, decide_true, decide_false, Tree.rec_, Nd.rec_, Word.rec_, Got.rec_]
  refine (is_calls l i 123 σ).mono ?_
  rintro v σ ⟨rfl, rfl⟩
  cases h : isK l i 123
  · simp only [am, amo, amc, Nat.reduceAdd, Nat.reduceEqDiff, encs_length, List.length_map, decide_true, decide_false, Tree.rec_, Nd.rec_, Word.rec_, Got.rec_]
    refine (wrong_calls l i fin σ).mono ?_
    rintro v σ ⟨rfl, rfl⟩
    simp only [am, amo, amc, Nat.reduceAdd, Nat.reduceEqDiff, encs_length, List.length_map, decide_true, decide_false, Tree.rec_, Nd.rec_, Word.rec_, Got.rec_, Got.enc]
    refine retK_intro rfl (Store.sub_refl _) ⟨?_, rfl⟩
    simp [V.erase, eraseL, refWords, h, Got.enc]
  · obtain ⟨j, t, rfl, hj, hk, hl⟩ := isK_spec h
    have ht : treeAt l (j : Nat) = t := by simp [treeAt, hj]
    have hmk : t.kids.length + 1 ≤ manys l := by
      have h1 := manys_kids hl
      have h2 := manys_ge t.kids
      have h3 : l[j] = t := by rw [List.getElem?_eq_getElem hl] at hj; simpa using hj
      rw [h3] at h1; omega
    simp only [am, amo, amc, Nat.reduceAdd, Nat.reduceEqDiff, encs_length, List.length_map, decide_true, decide_false, Tree.rec_, Nd.rec_, Word.rec_, Got.rec_]
    refine idxL_intro (by omega) (encs_at hj) ?_
    simp only [am, amo, amc, Nat.reduceAdd, Nat.reduceEqDiff, encs_length, List.length_map, decide_true, decide_false, Tree.rec_, Nd.rec_, Word.rec_, Got.rec_]
    refine (whole_calls t false σ (by omega)).mono ?_
    rintro v σ ⟨rfl, rfl⟩
    have hres : refWords l (j : Nat) fin = (wordsOf (wholeAt nameAt t false).1, (wholeAt nameAt t false).2) := by simp [refWords, h, ht]
    have hlen : (wholeAt nameAt t false).1.length ≤ t.kids.length + 1 := whole_len t false
    generalize wholeAt nameAt t false = R at hres hlen ⊢
    simp only [am, amo, amc, Nat.reduceAdd, Nat.reduceEqDiff, encs_length, List.length_map, decide_true, decide_false, Tree.rec_, Nd.rec_, Word.rec_, Got.rec_, Got.enc]
    refine CallD.intro (names_ref_calls R.1 σ (by omega)) ?_
    simp only [am, amo, amc, Nat.reduceAdd, Nat.reduceEqDiff, encs_length, List.length_map, decide_true, decide_false, Tree.rec_, Nd.rec_, Word.rec_, Got.rec_, Got.enc]
    refine retK_intro rfl (Store.sub_refl _) ⟨?_, rfl⟩
    simp [V.erase, eraseL, hres, Got.enc]
end Go.Proofs.Tryd

namespace Go.Proofs.Tryd
open Go.Am
set_option maxRecDepth 4000
set_option maxHeartbeats 4000000
def invSome (what : Int) (l : List Tree) (fin : Int) (σ : Store) (at_ τ : Nat) (out : List Nd) : St :=
  ⟨[.int .i64 what, .sl .no 5 (encs l), .int .i64 (at_ : Nat), .int .i64 fin] ++ List.replicate 4 .any ++ [.any, .ptr (.loc 0) 0, .sl (.tk τ) 5 (out.map Nd.enc)] ++ List.replicate 24 .any, [nz8], σ.setTip τ out.length⟩
theorem someG_calls (what : Int) (one : List Tree → Int → Int → Got) (hadv : Adv one) (l : List Tree) (fin : Int) (σ : Store) (hb : l.length + 1 ≤ big)
    (hone : ∀ (a : Nat), a ≤ l.length → ∀ (σ : Store), PCalls prog 97 [.int .i64 what, .sl .no 5 (encs l), .int .i64 (a : Nat), .int .i64 fin] σ fun v σ' => v = .agg (one l a fin).enc ∧ σ' = σ) :
    PCalls prog 96 [.int .i64 what, .sl .no 5 (encs l), .int .i64 0, .int .i64 fin] σ fun v σ' => v = .tup [.sl .no 5 ((someAt (fun i => one l i fin) l (l.length + 1) 0 []).1.map Nd.enc), .agg (someAt (fun i => one l i fin) l (l.length + 1) 0 []).2.enc] ∧ σ' = σ := by
  generalize hR : someAt (fun i => one l i fin) l (l.length + 1) 0 [] = R
  refine fn96.calls ?_
  simp only [slots, ac96, am, amo, amc, ams, Nat.reduceAdd, Nat.reduceEqDiff, decide_true, decide_false, Tree.rec_, Nd.rec_, Word.rec_, Got.rec_, Int.reduceEq, Int.reduceLT, Int.reduceLE]
  let I : { p : Nat × Nat × Nat × List Nd // σ.tip p.2.2.1 = none ∧ someAt (fun i => one l i fin) l p.1 (p.2.1 : Nat) p.2.2.2 = R ∧ p.2.2.2.length ≤ p.2.1 ∧ p.2.1 ≤ l.length ∧ l.length + 1 ≤ p.2.1 + p.1 } → St := fun p => invSome what l fin σ p.1.2.1 p.1.2.2.1 p.1.2.2.2
  refine vc_loop I (fun p => p.1.1) ?_ ?_
  · refine Upd.tokEnter 0 fun τ hτ => ⟨⟨(l.length + 1, 0, τ, []), hτ, hR, by simp, by simp, by simp⟩, ?_, rfl, rfl⟩
    simp [I, invSome, List.replicate, lto]
  · rintro ⟨⟨m, at_, τ, out⟩, hτ, hR, h1, h2, h3⟩
    simp only at hτ hR h1 h2 h3
    have hm : ∃ k, m = k + 1 := ⟨m - 1, by omega⟩
    obtain ⟨m, rfl⟩ := hm
    simp only [I, invSome, List.replicate, am, nz8]
    refine (hone at_ h2 _).mono ?_
    rintro v σ' ⟨rfl, rfl⟩
    simp only [someAt] at hR
    have hK := hadv l at_ fin
    generalize hg : one l at_ fin = g at *
    simp only [am, amo, amc, Nat.reduceAdd, Nat.reduceEqDiff, encs_length, List.length_map, decide_true, decide_false, Tree.rec_, Nd.rec_, Word.rec_, Got.rec_, Int.reduceEq, Int.reduceLT, Int.reduceLE, Got.enc, Nat.reduceAdd]
    cases hbad : g.bad
    · rw [hbad] at hR
      simp only [am, amo, amc, Nat.reduceAdd, Nat.reduceEqDiff, encs_length, List.length_map, decide_true, decide_false, Tree.rec_, Nd.rec_, Word.rec_, Got.rec_, Int.reduceEq, Int.reduceLT, Int.reduceLE]
      have hK := hK hbad
      refine app_tk (by simp; omega) (by simp [setTip_tip_same]) ?_
      simp only [am, amo, amc, Nat.reduceAdd, Nat.reduceEqDiff, encs_length, List.length_map, decide_true, decide_false, Tree.rec_, Nd.rec_, Word.rec_, Got.rec_, Int.reduceEq, Int.reduceLT, Int.reduceLE, setTip_setTip]
      refine (is_calls l g.next 44 _).mono ?_
      rintro v σ' ⟨rfl, rfl⟩
      cases h44 : isK l g.next 44
      · simp only [am, amo, amc, Nat.reduceAdd, Nat.reduceEqDiff, encs_length, List.length_map, decide_true, decide_false, Tree.rec_, Nd.rec_, Word.rec_, Got.rec_, Int.reduceEq, Int.reduceLT, Int.reduceLE]
        refine retK_intro rfl (sub_tip hτ) ⟨?_, rfl⟩
        rw [h44] at hR
        simp only [Bool.false_eq_true, if_false] at hR
        simp [V.erase, eraseL, ← hR, Got.enc, hbad, Nd.enc_eq]
      · have hlt := isK_lt h44
        simp only [big] at hb
        obtain ⟨b, hb'⟩ := Int.eq_ofNat_of_zero_le hlt.1
        simp only [am, amo, amc, Nat.reduceAdd, Nat.reduceEqDiff, encs_length, List.length_map, decide_true, decide_false, Tree.rec_, Nd.rec_, Word.rec_, Got.rec_, Int.reduceEq, Int.reduceLT, Int.reduceLE]
        rw [wrap_i64 (by omega) (by omega)]
        rw [h44] at hR
        simp only [Bool.false_eq_true, if_false, if_true] at hR
        refine Upd.againD ⟨(m, b + 1, τ, out ++ [g.node]), hτ, ?_, by simp; omega, by simp only; omega, by simp only; omega⟩ (by simp) ?_ ?_ ?_ rfl rfl
        · rw [← hR]; congr 1; simp only; omega
        · simp [invSome, List.replicate, am, Nd.enc_eq]; omega
        · simp [invSome, am, nz8]
        · simp [invSome, OLe.rfl]
    · rw [hbad] at hR
      simp only [am, amo, amc, Nat.reduceAdd, Nat.reduceEqDiff, encs_length, List.length_map, decide_true, decide_false, Tree.rec_, Nd.rec_, Word.rec_, Got.rec_, Int.reduceEq, Int.reduceLT, Int.reduceLE]
      refine retK_intro rfl (sub_tip hτ) ⟨?_, rfl⟩
      simp [V.erase, eraseL, ← hR, Got.enc, hbad]
theorem wholeG_calls (what : Int) (one : List Tree → Int → Int → Got) (hadv : Adv one) (t : Tree) (empty : Bool) (σ : Store) (hb : t.kids.length + 1 ≤ big)
    (hone : ∀ (a : Nat), a ≤ t.kids.length → ∀ (σ : Store), PCalls prog 97 [.int .i64 what, .sl .no 5 (encs t.kids), .int .i64 (a : Nat), .int .i64 t.fin] σ fun v σ' => v = .agg (one t.kids a t.fin).enc ∧ σ' = σ) :
    PCalls prog 93 [.int .i64 what, .agg t.enc, .bool empty] σ fun v σ' => v = .tup [.sl .no 5 ((wholeAt one t empty).1.map Nd.enc), .agg (wholeAt one t empty).2.enc] ∧ σ' = σ := by
  refine fn93.calls ?_
  simp only [slots, ac93, am, ams, am, enc_eq, Nat.reduceAdd, encs_length]
  have main : ∀ (hne : ¬(empty = true ∧ t.kids.length = 0)), wholeAt one t empty = if (someAt (fun i => one t.kids i t.fin) t.kids (t.kids.length + 1) 0 []).2.bad = false ∧ (someAt (fun i => one t.kids i t.fin) t.kids (t.kids.length + 1) 0 []).2.next < t.kids.length then ([], wrongAt t.kids (someAt (fun i => one t.kids i t.fin) t.kids (t.kids.length + 1) 0 []).2.next t.fin) else (someAt (fun i => one t.kids i t.fin) t.kids (t.kids.length + 1) 0 []) := fun hne => by
    unfold wholeAt
    rw [if_neg hne]
  by_cases hc : empty = true ∧ t.kids.length = 0
  · obtain ⟨rfl, hk⟩ := hc
    simp only [am, amo, amc, Nat.reduceAdd, Nat.reduceEqDiff, encs_length, List.length_map, decide_true, decide_false, Tree.rec_, Nd.rec_, Word.rec_, Got.rec_, Int.reduceEq, Int.reduceLT, Int.reduceLE, encs_length, hk, Int.natCast_zero, decide_true]
    refine retK_intro rfl (Store.sub_refl _) ⟨?_, rfl⟩
    simp [V.erase, eraseL, wholeAt, hk, Got.enc, Nd.zero, Nd.kind, Nd.pos, Nd.text, Nd.names, Nd.kids]
  · have main := main hc
    cases empty
    case' true =>
      have hk : ¬((t.kids.length : Int) = 0) := by simp at hc ⊢; exact hc
      simp only [am, amo, amc, Nat.reduceAdd, Nat.reduceEqDiff, encs_length, List.length_map, decide_true, decide_false, Tree.rec_, Nd.rec_, Word.rec_, Got.rec_, Int.reduceEq, Int.reduceLT, Int.reduceLE, encs_length, hk, decide_false]
    case' false =>
      simp only [am, amo, amc, Nat.reduceAdd, Nat.reduceEqDiff, encs_length, List.length_map, decide_true, decide_false, Tree.rec_, Nd.rec_, Word.rec_, Got.rec_, Int.reduceEq, Int.reduceLT, Int.reduceLE]
    all_goals
      refine (someG_calls what one hadv t.kids t.fin σ hb hone).mono ?_
      rintro v σ ⟨rfl, rfl⟩
      generalize (someAt (fun i => one t.kids i t.fin) t.kids (t.kids.length + 1) 0 []) = R at main ⊢
      simp only [am, amo, amc, Nat.reduceAdd, Nat.reduceEqDiff, encs_length, List.length_map, decide_true, decide_false, Tree.rec_, Nd.rec_, Word.rec_, Got.rec_, Int.reduceEq, Int.reduceLT, Int.reduceLE, Got.enc, Nat.reduceAdd, encs_length]
      cases hbad : R.2.bad
      · simp only [am, amo, amc, Nat.reduceAdd, Nat.reduceEqDiff, encs_length, List.length_map, decide_true, decide_false, Tree.rec_, Nd.rec_, Word.rec_, Got.rec_, Int.reduceEq, Int.reduceLT, Int.reduceLE]
        by_cases hn : R.2.next < t.kids.length
        · simp only [am, amo, amc, Nat.reduceAdd, Nat.reduceEqDiff, encs_length, List.length_map, decide_true, decide_false, Tree.rec_, Nd.rec_, Word.rec_, Got.rec_, Int.reduceEq, Int.reduceLT, Int.reduceLE, hn, decide_true]
          refine (wrong_calls t.kids R.2.next t.fin σ).mono ?_
          rintro v σ ⟨rfl, rfl⟩
          simp only [am, amo, amc, Nat.reduceAdd, Nat.reduceEqDiff, encs_length, List.length_map, decide_true, decide_false, Tree.rec_, Nd.rec_, Word.rec_, Got.rec_, Int.reduceEq, Int.reduceLT, Int.reduceLE, Got.enc]
          refine retK_intro rfl (Store.sub_refl _) ⟨?_, rfl⟩
          simp [V.erase, eraseL, main, hbad, hn, Got.enc]
        · simp only [am, amo, amc, Nat.reduceAdd, Nat.reduceEqDiff, encs_length, List.length_map, decide_true, decide_false, Tree.rec_, Nd.rec_, Word.rec_, Got.rec_, Int.reduceEq, Int.reduceLT, Int.reduceLE, hn, decide_false]
          refine retK_intro rfl (Store.sub_refl _) ⟨?_, rfl⟩
          simp [V.erase, eraseL, main, hbad, hn, Got.enc]
      · simp only [am, amo, amc, Nat.reduceAdd, Nat.reduceEqDiff, encs_length, List.length_map, decide_true, decide_false, Tree.rec_, Nd.rec_, Word.rec_, Got.rec_, Int.reduceEq, Int.reduceLT, Int.reduceLE]
        refine retK_intro rfl (Store.sub_refl _) ⟨?_, rfl⟩
        simp [V.erase, eraseL, main, hbad, Got.enc]
end Go.Proofs.Tryd

namespace Go.Proofs.Tryd
open Go.Am
set_option maxRecDepth 4000
set_option maxHeartbeats 4000000
def ac95 : AC := .seq (.reg [⟨(some 6), .alloc [(.int .i64 0), (.int .i64 0), (.str []), (.sl .full 2 []), (.sl .full 5 []), (.int .i64 0), (.bool false), (.int .i64 0)], none⟩])
 (.seq (.seq (.reg [xm 12 0, xm 13 1, xc 91 14 [.s 12, .s 13, .c (.int .u8 97)]])
 (.cond (.s 14) (.seq (.draw [(xm 15 0, []), (xm 16 1, []), (xA 5 17 15 16, []), (xf 0 18 17, []), (xf 2 19 18, []), (xo 20 19, []), (xm 21 0, []), (xm 22 1, []), (xA 5 23 21 22, []), (xf 0 24 23, []), (xf 1 25 24, []), (xo 26 25, []), (⟨(some 27), .build [(.int .i64 0), (.int .i64 0), (.str []), (.sl .full 2 []), (.sl .full 5 [])] [(0, 1, (.c (.int .i64 2))), (1, 1, (.s 20)), (2, 1, (.s 26))], none⟩, []), (xm 28 1, []), (xB .add 29 28 1, []), (⟨(some 30), .build [(.int .i64 0), (.int .i64 0), (.str []), (.sl .full 2 []), (.sl .full 5 []), (.int .i64 0), (.bool false), (.int .i64 0)] [(0, 5, (.s 27)), (5, 1, (.s 29))], none⟩, []), (xs 8 6 30, [])])
 (.ret))
 (.skip)))
 (.seq (.reg [xi 7 0, xi 8 0])
 (.seq (.seq (.reg [xm 31 0, xm 32 1, xc 91 33 [.s 31, .s 32, .c (.int .u8 123)]])
 (.cond (.s 33) (.reg [xi 7 6, xi 8 3])
 (.seq (.reg [xm 34 0, xm 35 1, xc 91 36 [.s 34, .s 35, .c (.int .u8 40)]])
 (.cond (.s 36) (.reg [xi 7 1, xi 8 4])
 (.seq (.reg [xm 37 0, xm 38 1, xc 91 39 [.s 37, .s 38, .c (.int .u8 91)]])
 (.cond (.s 39) (.reg [xi 7 2, xi 8 5])
 (.seq (.reg [xm 40 0, xm 41 1, xm 42 2, xc 92 43 [.s 40, .s 41, .s 42], xs 8 6 43])
 (.ret))))))))
 (.seq (.reg [xm 45 7, xm 46 0, xm 47 1, xA 5 48 46 47, xl 5 49 48, xm 50 8, xB .neq 51 50 4, xc 93 52 [.s 45, .s 49, .s 51], xm 44 52, xe 53 44 0, xe 54 44 1, ⟨(some 10), .alloc [(.int .i64 0), (.int .i64 0), (.str []), (.sl .full 2 []), (.sl .full 5 []), (.int .i64 0), (.bool false), (.int .i64 0)], none⟩, xm 9 53, xs 8 10 54])
 (.seq (.seq (.reg [xf 6 55 10, xo 56 55])
 (.cond (.s 56) (.seq (.reg [xl 8 57 10, xs 8 6 57])
 (.ret))
 (.skip)))
 (.seq (.reg [xm 58 8, xm 59 0, xm 60 1, xA 5 61 59 60, xf 0 62 61, xf 2 63 62, xo 64 63, xm 65 9, ⟨(some 66), .build [(.int .i64 0), (.int .i64 0), (.str []), (.sl .full 2 []), (.sl .full 5 [])] [(0, 1, (.s 58)), (1, 1, (.s 64)), (4, 1, (.s 65))], none⟩, ⟨(some 11), .alloc [(.int .i64 0), (.int .i64 0), (.str []), (.sl .full 2 []), (.sl .full 5 [])], none⟩, xs 5 11 66])
 (.seq (.seq (.reg [xm 67 8, xB .eql 68 67 3])
 (.cond (.s 68) (.seq (.reg [xm 69 9, xc 94 70 [.s 69], xf 3 71 11, xs 1 71 70])
 (.reg [xf 4 72 11, ⟨none, .store 1 (.s 72) (.c (.sl .full 5 [])), none⟩]))
 (.skip)))
 (.seq (.reg [xl 5 73 11, xm 74 1, xB .add 75 74 1, ⟨(some 76), .build [(.int .i64 0), (.int .i64 0), (.str []), (.sl .full 2 []), (.sl .full 5 []), (.int .i64 0), (.bool false), (.int .i64 0)] [(0, 5, (.s 73)), (5, 1, (.s 75))], none⟩, xs 8 6 76])
 (.ret)))))))))
theorem fn95 : IsFn prog 95 ac95 [.cell 6 true 8] 77 := ⟨f95, ⟨[], []⟩, func95, by kernel_rfl, by kernel_rfl, by kernel_rfl, by kernel_rfl⟩
def ac119 : AC := .seq (.reg [⟨(some 6), .alloc [(.int .i64 0), (.int .i64 0), (.str []), (.sl .full 2 []), (.sl .full 5 []), (.int .i64 0), (.bool false), (.int .i64 0)], none⟩])
 (.seq (.seq (.reg [xi 7 0])
 (.block 0 (.loop (.seq (.seq (.reg [xm 11 7, xB .lss 12 11 3])
 (.cond (.s 12) (.skip)
 (.exit 0)))
 (.seq (.block 1 (.seq (.reg [⟨(some 15), .bslice 1 [(.c (.int .u8 97)), (.c (.int .u8 58)), (.c (.int .u8 123))], none⟩, xm 8 15])
 (.seq (.reg [xm 16 0, xm 17 1, xm 18 7, xb .add 19 17 18, xm 20 8, xm 21 7, xA 1 22 20 21, xo 23 22, xc 91 24 [.s 16, .s 19, .s 23], ⟨(some 25), .not (.s 24), none⟩])
 (.cond (.s 25) (.seq (.reg [xm 26 0, xm 27 1, xm 28 7, xb .add 29 27 28, xm 30 2, xc 92 31 [.s 26, .s 29, .s 30], xs 8 6 31])
 (.ret))
 (.skip)))))
 (.reg [xm 13 7, xB .add 14 13 1, xm 7 14]))))))
 (.seq (.reg [xm 33 0, xm 34 1, xB .add 35 34 2, xA 5 36 33 35, xl 5 37 36, xc 93 38 [.c (.int .i64 6), .s 37, .c (.bool true)], xm 32 38, xe 39 32 0, xe 40 32 1, ⟨(some 10), .alloc [(.int .i64 0), (.int .i64 0), (.str []), (.sl .full 2 []), (.sl .full 5 []), (.int .i64 0), (.bool false), (.int .i64 0)], none⟩, xm 9 39, xs 8 10 40])
 (.seq (.seq (.reg [xf 6 41 10, xo 42 41])
 (.cond (.s 42) (.seq (.reg [xl 8 43 10, xs 8 6 43])
 (.ret))
 (.skip)))
 (.seq (.draw [(xm 44 0, []), (xm 45 1, []), (xA 5 46 44 45, []), (xf 0 47 46, []), (xf 2 48 47, []), (xo 49 48, [1]), (xm 50 0, []), (xm 51 1, []), (xA 5 52 50 51, []), (xf 0 53 52, []), (xf 1 54 53, []), (xo 55 54, [1]), (xm 56 9, []), (xc 94 57 [.s 56], []), (⟨(some 58), .build [(.int .i64 0), (.int .i64 0), (.str []), (.sl .full 2 []), (.sl .full 5 [])] [(0, 1, (.c (.int .i64 6))), (1, 1, (.s 49)), (2, 1, (.s 55)), (3, 1, (.s 57))], none⟩, []), (xm 59 1, []), (xB .add 60 59 3, []), (⟨(some 61), .build [(.int .i64 0), (.int .i64 0), (.str []), (.sl .full 2 []), (.sl .full 5 []), (.int .i64 0), (.bool false), (.int .i64 0)] [(0, 5, (.s 58)), (5, 1, (.s 60))], none⟩, []), (xs 8 6 61, [])])
 (.ret)))))
theorem fn119 : IsFn prog 119 ac119 [.cell 6 true 8] 62 := ⟨f119, ⟨[], []⟩, func119, by kernel_rfl, by kernel_rfl, by kernel_rfl, by kernel_rfl⟩
theorem tree_at {l : List Tree} {j : Nat} {t : Tree} (h : l[j]? = some t) : treeAt l (j : Nat) = t ∧ tokAt l (j : Nat) = t.tok := by simp [treeAt, tokAt, h]
theorem kid_many {l : List Tree} {j : Nat} {t : Tree} (h : l[j]? = some t) : manys t.kids + 1 ≤ manys l := by
  have hl := (List.getElem?_eq_some_iff.1 h).1
  have h1 := manys_kids hl
  have h3 : l[j] = t := by rw [List.getElem?_eq_getElem hl] at h; simpa using h
  rw [h3] at h1; exact h1
def ConstC (n : Nat) (l : List Tree) : Prop := ∀ (a fin : Int) (σ : Store), PCalls prog 95 [.sl .no 5 (encs l), .int .i64 a, .int .i64 fin] σ fun v σ' => v = .agg (constG n l a fin).enc ∧ σ' = σ
def LabelC (n : Nat) (l : List Tree) : Prop := ∀ (a fin : Int) (σ : Store), PCalls prog 65 [.sl .no 5 (encs l), .int .i64 a, .int .i64 fin] σ fun v σ' => v = .agg (labelG n l a fin).enc ∧ σ' = σ
theorem one1_calls {n : Nat} {l : List Tree} (h : ConstC n l) (a fin : Int) (σ : Store) : PCalls prog 97 [.int .i64 1, .sl .no 5 (encs l), .int .i64 a, .int .i64 fin] σ fun v σ' => v = .agg (constG n l a fin).enc ∧ σ' = σ := by
  refine fn97.calls ?_
  simp only [slots, ac97, am, amo, amc, ams, Nat.reduceAdd, Nat.reduceEqDiff, decide_true, decide_false, Tree.rec_, Nd.rec_, Word.rec_, Got.rec_, Int.reduceEq, Int.reduceLT, Int.reduceLE]
  refine (h a fin σ).mono ?_
  rintro v σ ⟨rfl, rfl⟩
  simp only [am, amo, amc, Nat.reduceAdd, Nat.reduceEqDiff, encs_length, List.length_map, decide_true, decide_false, Tree.rec_, Nd.rec_, Word.rec_, Got.rec_, Int.reduceEq, Int.reduceLT, Int.reduceLE, Got.enc]
  refine retK_intro rfl (Store.sub_refl _) ⟨?_, rfl⟩
  simp [V.erase, eraseL, Got.enc]
theorem one3_calls {n : Nat} {l : List Tree} (h : LabelC n l) (a fin : Int) (σ : Store) : PCalls prog 97 [.int .i64 3, .sl .no 5 (encs l), .int .i64 a, .int .i64 fin] σ fun v σ' => v = .agg (labelG n l a fin).enc ∧ σ' = σ := by
  refine fn97.calls ?_
  simp only [slots, ac97, am, amo, amc, ams, Nat.reduceAdd, Nat.reduceEqDiff, decide_true, decide_false, Tree.rec_, Nd.rec_, Word.rec_, Got.rec_, Int.reduceEq, Int.reduceLT, Int.reduceLE]
  refine (h a fin σ).mono ?_
  rintro v σ ⟨rfl, rfl⟩
  simp only [am, amo, amc, Nat.reduceAdd, Nat.reduceEqDiff, encs_length, List.length_map, decide_true, decide_false, Tree.rec_, Nd.rec_, Word.rec_, Got.rec_, Int.reduceEq, Int.reduceLT, Int.reduceLE, Got.enc]
  refine retK_intro rfl (Store.sub_refl _) ⟨?_, rfl⟩
  simp [V.erase, eraseL, Got.enc]
theorem one5_calls {n : Nat} {l : List Tree} (h : LabelC n l) (a fin : Int) (σ : Store) : PCalls prog 97 [.int .i64 5, .sl .no 5 (encs l), .int .i64 a, .int .i64 fin] σ fun v σ' => v = .agg (atomG n l a fin).enc ∧ σ' = σ := by
  refine fn97.calls ?_
  simp only [slots, ac97, am, amo, amc, ams, Nat.reduceAdd, Nat.reduceEqDiff, decide_true, decide_false, Tree.rec_, Nd.rec_, Word.rec_, Got.rec_, Int.reduceEq, Int.reduceLT, Int.reduceLE]
  refine (is_calls l a 43 σ).mono ?_
  rintro v σ ⟨rfl, rfl⟩
  cases h43 : isK l a 43
  · simp only [am, amo, amc, Nat.reduceAdd, Nat.reduceEqDiff, encs_length, List.length_map, decide_true, decide_false, Tree.rec_, Nd.rec_, Word.rec_, Got.rec_, Int.reduceEq, Int.reduceLT, Int.reduceLE]
    refine (is_calls l a 38 σ).mono ?_
    rintro v σ ⟨rfl, rfl⟩
    cases h38 : isK l a 38
    · simp only [am, amo, amc, Nat.reduceAdd, Nat.reduceEqDiff, encs_length, List.length_map, decide_true, decide_false, Tree.rec_, Nd.rec_, Word.rec_, Got.rec_, Int.reduceEq, Int.reduceLT, Int.reduceLE]
      refine (h a fin σ).mono ?_
      rintro v σ ⟨rfl, rfl⟩
      simp only [am, amo, amc, Nat.reduceAdd, Nat.reduceEqDiff, encs_length, List.length_map, decide_true, decide_false, Tree.rec_, Nd.rec_, Word.rec_, Got.rec_, Int.reduceEq, Int.reduceLT, Int.reduceLE, Got.enc]
      refine retK_intro rfl (Store.sub_refl _) ⟨?_, rfl⟩
      simp [V.erase, eraseL, Got.enc, atomG, h43, h38]
    · simp only [am, amo, amc, Nat.reduceAdd, Nat.reduceEqDiff, encs_length, List.length_map, decide_true, decide_false, Tree.rec_, Nd.rec_, Word.rec_, Got.rec_, Int.reduceEq, Int.reduceLT, Int.reduceLE]
      refine (wrong_calls l a fin σ).mono ?_
      rintro v σ ⟨rfl, rfl⟩
      simp only [am, amo, amc, Nat.reduceAdd, Nat.reduceEqDiff, encs_length, List.length_map, decide_true, decide_false, Tree.rec_, Nd.rec_, Word.rec_, Got.rec_, Int.reduceEq, Int.reduceLT, Int.reduceLE, Got.enc]
      refine retK_intro rfl (Store.sub_refl _) ⟨?_, rfl⟩
      simp [V.erase, eraseL, Got.enc, atomG, h43, h38]
  · simp only [am, amo, amc, Nat.reduceAdd, Nat.reduceEqDiff, encs_length, List.length_map, decide_true, decide_false, Tree.rec_, Nd.rec_, Word.rec_, Got.rec_, Int.reduceEq, Int.reduceLT, Int.reduceLE]
    refine (wrong_calls l a fin σ).mono ?_
    rintro v σ ⟨rfl, rfl⟩
    simp only [am, amo, amc, Nat.reduceAdd, Nat.reduceEqDiff, encs_length, List.length_map, decide_true, decide_false, Tree.rec_, Nd.rec_, Word.rec_, Got.rec_, Int.reduceEq, Int.reduceLT, Int.reduceLE, Got.enc]
    refine retK_intro rfl (Store.sub_refl _) ⟨?_, rfl⟩
    simp [V.erase, eraseL, Got.enc, atomG, h43]
def kinds3 : List (List V) := [[.int .u8 97], [.int .u8 58], [.int .u8 123]]
def kindN (k : Nat) : Int := if k = 0 then 97 else if k = 1 then 58 else 123
def invRule (l : List Tree) (a fin : Int) (σ : Store) (k : Nat) : St :=
  ⟨[.sl .no 5 (encs l), .int .i64 a, .int .i64 fin, .any, .any, .any, .ptr (.loc 0) 0, .int .i64 (k : Nat)] ++ List.replicate 54 .any, [nz8], σ⟩
theorem rule_ref_calls (l : List Tree) (a fin : Int) (σ : Store) (hm : manys l + 1 ≤ big) (ha : -1000 ≤ a) (ha2 : a ≤ big) : PCalls prog 119 [.sl .no 5 (encs l), .int .i64 a, .int .i64 fin] σ fun v σ' => v = .agg (ruleG l a fin).enc ∧ σ' = σ := by
  have hlen := manys_ge l
  simp only [big] at hm ha2
  have wk : ∀ k : Nat, k ≤ 3 → IntKind.i64.wrap (a + (k : Int)) = a + (k : Int) := fun k hk => wrap_i64 (by omega) (by omega)
  refine fn119.calls ?_
  simp only [slots, ac119, am, amo, amc, ams, Nat.reduceAdd, Nat.reduceEqDiff, decide_true, decide_false, Tree.rec_, Nd.rec_, Word.rec_, Got.rec_, Int.reduceEq, Int.reduceLT, Int.reduceLE]
  refine vc_loop (fun p : { k : Nat // k ≤ 3 ∧ ∀ j, j < k → isK l (a + (j : Nat)) (kindN j) = true } => invRule l a fin σ p.1) (fun p => 3 - p.1) ?_ ?_
  · refine Upd.enter ⟨0, by simp, by simp⟩ ?_ LLLe.rfl OLe.rfl
    simp [invRule, List.replicate, am]
  · rintro ⟨k, hk, hall⟩
    simp only [invRule, List.replicate, am, nz8]
    by_cases hlt : k < 3
    · simp only [am, amo, amc, Nat.reduceAdd, Nat.reduceEqDiff, encs_length, List.length_map, decide_true, decide_false, Tree.rec_, Nd.rec_, Word.rec_, Got.rec_, Int.reduceEq, Int.reduceLT, Int.reduceLE, decide_eq_true (show (k : Int) < 3 by omega)]
      rw [show ([[V.int .u8 97], [V.int .u8 58], [V.int .u8 123]] : List (List V)) = kinds3 from rfl]
      refine idxL_intro (by omega) (c := [.int .u8 (kindN k)]) (by match k, hlt with | 0, _ => rfl | 1, _ => rfl | 2, _ => rfl) ?_
      simp only [am, amo, amc, Nat.reduceAdd, Nat.reduceEqDiff, encs_length, List.length_map, decide_true, decide_false, Tree.rec_, Nd.rec_, Word.rec_, Got.rec_, Int.reduceEq, Int.reduceLT, Int.reduceLE, wk k hk]
      refine (is_calls l (a + (k : Nat)) (kindN k) σ).mono ?_
      rintro v σ ⟨rfl, rfl⟩
      cases hc : isK l (a + (k : Nat)) (kindN k)
      · simp only [am, amo, amc, Nat.reduceAdd, Nat.reduceEqDiff, encs_length, List.length_map, decide_true, decide_false, Tree.rec_, Nd.rec_, Word.rec_, Got.rec_, Int.reduceEq, Int.reduceLT, Int.reduceLE, wk k hk]
        refine (wrong_calls l (a + (k : Nat)) fin σ).mono ?_
        rintro v σ ⟨rfl, rfl⟩
        simp only [am, amo, amc, Nat.reduceAdd, Nat.reduceEqDiff, encs_length, List.length_map, decide_true, decide_false, Tree.rec_, Nd.rec_, Word.rec_, Got.rec_, Int.reduceEq, Int.reduceLT, Int.reduceLE, Got.enc]
        refine retK_intro rfl (Store.sub_refl _) ⟨?_, rfl⟩
        have hres : ruleG l a fin = wrongAt l (a + (k : Nat)) fin := by
          unfold ruleG
          match k, hlt with
          | 0, _ => rw [if_pos (by simpa [kindN] using hc)]; simp
          | 1, _ =>
            have h0 := hall 0 (by omega)
            rw [if_neg (by simpa [kindN] using h0), if_pos (by simpa [kindN] using hc)]; rfl
          | 2, _ =>
            have h0 := hall 0 (by omega)
            have h1 := hall 1 (by omega)
            rw [if_neg (by simpa [kindN] using h0), if_neg (by simpa [kindN] using h1), if_pos (by simpa [kindN] using hc)]; rfl
        rw [hres]
        simp [V.erase, eraseL, Got.enc]
      · have wi : IntKind.i64.wrap ((k : Int) + 1) = ((k + 1 : Nat) : Int) := by rw [wrap_i64 (by omega) (by omega)]; simp
        simp only [am, amo, amc, Nat.reduceAdd, Nat.reduceEqDiff, encs_length, List.length_map, decide_true, decide_false, Tree.rec_, Nd.rec_, Word.rec_, Got.rec_, Int.reduceEq, Int.reduceLT, Int.reduceLE, wi]
        refine Upd.again ⟨k + 1, by omega, fun j hj => ?_⟩ (by simp; omega) (by simp [List.replicate, am]) (by simp [am, nz8]) OLe.rfl
        by_cases e : j = k
        · subst e; exact hc
        · exact hall j (by omega)
    · obtain rfl : k = 3 := by omega
      have h0 : isK l a 97 = true := by simpa [kindN] using hall 0 (by omega)
      have h1 : isK l (a + 1) 58 = true := hall 1 (by omega)
      have h2 : isK l (a + 2) 123 = true := hall 2 (by omega)
      obtain ⟨j, t0, rfl, hj0, _, hl0⟩ := isK_spec h0
      obtain ⟨j2, t, hj2, hj, _, hl⟩ := isK_spec h2
      obtain rfl : j2 = j + 2 := by omega
      have w2 : IntKind.i64.wrap ((j : Int) + 2) = ((j + 2 : Nat) : Int) := by rw [wrap_i64 (by omega) (by omega)]; simp
      have w3 : IntKind.i64.wrap ((j : Int) + 3) = (j : Int) + 3 := wrap_i64 (by omega) (by omega)
      have hk := kid_many hj
      obtain ⟨_, htk⟩ := tree_at hj0
      have ht : treeAt l ((j : Int) + 2) = t := (tree_at hj).1
      have hres : ruleG l (j : Nat) fin = if (wholeAt nameAt t true).2.bad = true then (wholeAt nameAt t true).2 else ⟨.mk 6 t0.tok.pos t0.tok.text (wordsOf (wholeAt nameAt t true).1) [], (j : Int) + 3, false, 0⟩ := by simp [ruleG, h0, h1, h2, ht, htk]
      simp only [am, amo, amc, Nat.reduceAdd, Nat.reduceEqDiff, encs_length, List.length_map, decide_true, decide_false, Tree.rec_, Nd.rec_, Word.rec_, Got.rec_, Int.reduceEq, Int.reduceLT, Int.reduceLE, show (((3 : Nat) : Int) < 3) = False by simp, w2]
      refine idxL_intro (by omega) (encs_at hj) ?_
      simp only [am, amo, amc, Nat.reduceAdd, Nat.reduceEqDiff, encs_length, List.length_map, decide_true, decide_false, Tree.rec_, Nd.rec_, Word.rec_, Got.rec_, Int.reduceEq, Int.reduceLT, Int.reduceLE]
      refine (whole_calls t true σ (by have := manys_ge t.kids; simp only [big]; omega)).mono ?_
      rintro v σ ⟨rfl, rfl⟩
      have hwl := whole_len (one := nameAt) t true
      have hkl := manys_ge t.kids
      generalize wholeAt nameAt t true = R at hres hwl ⊢
      simp only [am, amo, amc, Nat.reduceAdd, Nat.reduceEqDiff, encs_length, List.length_map, decide_true, decide_false, Tree.rec_, Nd.rec_, Word.rec_, Got.rec_, Int.reduceEq, Int.reduceLT, Int.reduceLE, Got.enc]
      cases hbad : R.2.bad
      · simp only [am, amo, amc, Nat.reduceAdd, Nat.reduceEqDiff, encs_length, List.length_map, decide_true, decide_false, Tree.rec_, Nd.rec_, Word.rec_, Got.rec_, Int.reduceEq, Int.reduceLT, Int.reduceLE]
        refine idxL_intro (by omega) (encs_at hj0) ?_
        simp only [am, amo, amc, Nat.reduceAdd, Nat.reduceEqDiff, encs_length, List.length_map, decide_true, decide_false, Tree.rec_, Nd.rec_, Word.rec_, Got.rec_, Int.reduceEq, Int.reduceLT, Int.reduceLE, Tree.fl]
        refine idxL_intro (by omega) (encs_at hj0) ?_
        simp only [am, amo, amc, Nat.reduceAdd, Nat.reduceEqDiff, encs_length, List.length_map, decide_true, decide_false, Tree.rec_, Nd.rec_, Word.rec_, Got.rec_, Int.reduceEq, Int.reduceLT, Int.reduceLE, Tree.fl]
        refine CallD.intro (names_ref_calls R.1 σ (by simp only [big]; omega)) ?_
        simp only [am, amo, amc, Nat.reduceAdd, Nat.reduceEqDiff, encs_length, List.length_map, decide_true, decide_false, Tree.rec_, Nd.rec_, Word.rec_, Got.rec_, Int.reduceEq, Int.reduceLT, Int.reduceLE, w3, Tree.fl]
        refine retK_intro rfl (Store.sub_refl _) ⟨?_, rfl⟩
        simp [V.erase, eraseL, hres, hbad, Got.enc, Nd.kind, Nd.pos, Nd.text, Nd.names, Nd.kids]
      · simp only [am, amo, amc, Nat.reduceAdd, Nat.reduceEqDiff, encs_length, List.length_map, decide_true, decide_false, Tree.rec_, Nd.rec_, Word.rec_, Got.rec_, Int.reduceEq, Int.reduceLT, Int.reduceLE]
        refine retK_intro rfl (Store.sub_refl _) ⟨?_, rfl⟩
        simp [V.erase, eraseL, hres, hbad, Got.enc]
theorem one2_calls {l : List Tree} (hm : manys l + 1 ≤ big) (a : Nat) (ha : a ≤ big) (fin : Int) (σ : Store) : PCalls prog 97 [.int .i64 2, .sl .no 5 (encs l), .int .i64 (a : Nat), .int .i64 fin] σ fun v σ' => v = .agg (ruleG l a fin).enc ∧ σ' = σ := by
  refine fn97.calls ?_
  simp only [slots, ac97, am, amo, amc, ams, Nat.reduceAdd, Nat.reduceEqDiff, decide_true, decide_false, Tree.rec_, Nd.rec_, Word.rec_, Got.rec_, Int.reduceEq, Int.reduceLT, Int.reduceLE]
  refine (rule_ref_calls l a fin σ hm (by omega) (by omega)).mono ?_
  rintro v σ ⟨rfl, rfl⟩
  simp only [am, amo, amc, Nat.reduceAdd, Nat.reduceEqDiff, encs_length, List.length_map, decide_true, decide_false, Tree.rec_, Nd.rec_, Word.rec_, Got.rec_, Int.reduceEq, Int.reduceLT, Int.reduceLE, Got.enc]
  refine retK_intro rfl (Store.sub_refl _) ⟨?_, rfl⟩
  simp [V.erase, eraseL, Got.enc]
theorem const_ref_calls : ∀ (n : Nat) (l : List Tree), manys l ≤ n → manys l + 1 ≤ big → ConstC n l := by
  intro n
  induction n with
  | zero =>
    intro l hn hm a fin σ
    obtain rfl : l = [] := by cases l with | nil => rfl | cons t ts => simp only [manys] at hn; omega
    have hk : ∀ k, isK [] a k = false := fun k => by simp [isK]
    refine fn95.calls ?_
    simp only [slots, ac95, am, amo, amc, ams, Nat.reduceAdd, Nat.reduceEqDiff, decide_true, decide_false, Tree.rec_, Nd.rec_, Word.rec_, Got.rec_, Int.reduceEq, Int.reduceLT, Int.reduceLE]
    refine (is_calls [] a 97 σ).mono ?_
    rintro v σ ⟨rfl, rfl⟩
    simp only [am, amo, amc, Nat.reduceAdd, Nat.reduceEqDiff, encs_length, List.length_map, decide_true, decide_false, Tree.rec_, Nd.rec_, Word.rec_, Got.rec_, Int.reduceEq, Int.reduceLT, Int.reduceLE, hk]
    refine (is_calls [] a 123 σ).mono ?_
    rintro v σ ⟨rfl, rfl⟩
    simp only [am, amo, amc, Nat.reduceAdd, Nat.reduceEqDiff, encs_length, List.length_map, decide_true, decide_false, Tree.rec_, Nd.rec_, Word.rec_, Got.rec_, Int.reduceEq, Int.reduceLT, Int.reduceLE, hk]
    refine (is_calls [] a 40 σ).mono ?_
    rintro v σ ⟨rfl, rfl⟩
    simp only [am, amo, amc, Nat.reduceAdd, Nat.reduceEqDiff, encs_length, List.length_map, decide_true, decide_false, Tree.rec_, Nd.rec_, Word.rec_, Got.rec_, Int.reduceEq, Int.reduceLT, Int.reduceLE, hk]
    refine (is_calls [] a 91 σ).mono ?_
    rintro v σ ⟨rfl, rfl⟩
    simp only [am, amo, amc, Nat.reduceAdd, Nat.reduceEqDiff, encs_length, List.length_map, decide_true, decide_false, Tree.rec_, Nd.rec_, Word.rec_, Got.rec_, Int.reduceEq, Int.reduceLT, Int.reduceLE, hk]
    refine (wrong_calls [] a fin σ).mono ?_
    rintro v σ ⟨rfl, rfl⟩
    simp only [am, amo, amc, Nat.reduceAdd, Nat.reduceEqDiff, encs_length, List.length_map, decide_true, decide_false, Tree.rec_, Nd.rec_, Word.rec_, Got.rec_, Int.reduceEq, Int.reduceLT, Int.reduceLE, Got.enc]
    refine retK_intro rfl (Store.sub_refl _) ⟨?_, rfl⟩
    simp [V.erase, eraseL, Got.enc, constG, leafG, hk]
  | succ n ih =>
    intro l hn hm a fin σ
    have hlen := manys_ge l
    refine fn95.calls ?_
    simp only [slots, ac95, am, amo, amc, ams, Nat.reduceAdd, Nat.reduceEqDiff, decide_true, decide_false, Tree.rec_, Nd.rec_, Word.rec_, Got.rec_, Int.reduceEq, Int.reduceLT, Int.reduceLE]
    refine (is_calls l a 97 σ).mono ?_
    rintro v σ ⟨rfl, rfl⟩
    cases h97 : isK l a 97
    · simp only [am, amo, amc, Nat.reduceAdd, Nat.reduceEqDiff, encs_length, List.length_map, decide_true, decide_false, Tree.rec_, Nd.rec_, Word.rec_, Got.rec_, Int.reduceEq, Int.reduceLT, Int.reduceLE]
      refine (is_calls l a 123 σ).mono ?_
      rintro v σ ⟨rfl, rfl⟩
      cases h123 : isK l a 123
      · simp only [am, amo, amc, Nat.reduceAdd, Nat.reduceEqDiff, encs_length, List.length_map, decide_true, decide_false, Tree.rec_, Nd.rec_, Word.rec_, Got.rec_, Int.reduceEq, Int.reduceLT, Int.reduceLE]
        refine (is_calls l a 40 σ).mono ?_
        rintro v σ ⟨rfl, rfl⟩
        cases h40 : isK l a 40
        · simp only [am, amo, amc, Nat.reduceAdd, Nat.reduceEqDiff, encs_length, List.length_map, decide_true, decide_false, Tree.rec_, Nd.rec_, Word.rec_, Got.rec_, Int.reduceEq, Int.reduceLT, Int.reduceLE]
          refine (is_calls l a 91 σ).mono ?_
          rintro v σ ⟨rfl, rfl⟩
          cases h91 : isK l a 91
          · simp only [am, amo, amc, Nat.reduceAdd, Nat.reduceEqDiff, encs_length, List.length_map, decide_true, decide_false, Tree.rec_, Nd.rec_, Word.rec_, Got.rec_, Int.reduceEq, Int.reduceLT, Int.reduceLE]
            refine (wrong_calls l a fin σ).mono ?_
            rintro v σ ⟨rfl, rfl⟩
            simp only [am, amo, amc, Nat.reduceAdd, Nat.reduceEqDiff, encs_length, List.length_map, decide_true, decide_false, Tree.rec_, Nd.rec_, Word.rec_, Got.rec_, Int.reduceEq, Int.reduceLT, Int.reduceLE, Got.enc]
            refine retK_intro rfl (Store.sub_refl _) ⟨?_, rfl⟩
            simp [V.erase, eraseL, Got.enc, constG, h97, h123, h40, h91]
          · obtain ⟨j, t, rfl, hj, _, hl⟩ := isK_spec h91
            have hk := kid_many hj
            have hkl := manys_ge t.kids
            obtain ⟨ht, htk⟩ := tree_at hj
            have w1 : IntKind.i64.wrap ((j : Int) + 1) = (j : Int) + 1 := by simp only [big] at hm; exact wrap_i64 (by omega) (by omega)
            have hres : constG (n + 1) l (j : Nat) fin = inG (wholeAt ruleG t true) (fun ks => .mk 5 t.tok.pos [] [] ks) ((j : Int) + 1) := by simp [constG, h97, h123, h40, h91, ht, htk]
            simp only [am, amo, amc, Nat.reduceAdd, Nat.reduceEqDiff, encs_length, List.length_map, decide_true, decide_false, Tree.rec_, Nd.rec_, Word.rec_, Got.rec_, Int.reduceEq, Int.reduceLT, Int.reduceLE]
            refine idxL_intro (by omega) (encs_at hj) ?_
            simp only [am, amo, amc, Nat.reduceAdd, Nat.reduceEqDiff, encs_length, List.length_map, decide_true, decide_false, Tree.rec_, Nd.rec_, Word.rec_, Got.rec_, Int.reduceEq, Int.reduceLT, Int.reduceLE]
            refine (wholeG_calls 2 ruleG adv_rule t true σ (by omega) (fun a ha σ => one2_calls (by omega) a (by omega) t.fin σ)).mono ?_
            rintro v σ ⟨rfl, rfl⟩
            generalize wholeAt ruleG t true = R at hres ⊢
            simp only [am, amo, amc, Nat.reduceAdd, Nat.reduceEqDiff, encs_length, List.length_map, decide_true, decide_false, Tree.rec_, Nd.rec_, Word.rec_, Got.rec_, Int.reduceEq, Int.reduceLT, Int.reduceLE, Got.enc]
            cases hbad : R.2.bad
            · simp only [am, amo, amc, Nat.reduceAdd, Nat.reduceEqDiff, encs_length, List.length_map, decide_true, decide_false, Tree.rec_, Nd.rec_, Word.rec_, Got.rec_, Int.reduceEq, Int.reduceLT, Int.reduceLE]
              refine idxL_intro (by omega) (encs_at hj) ?_
              simp only [am, amo, amc, Nat.reduceAdd, Nat.reduceEqDiff, encs_length, List.length_map, decide_true, decide_false, Tree.rec_, Nd.rec_, Word.rec_, Got.rec_, Int.reduceEq, Int.reduceLT, Int.reduceLE, Tree.fl]
              simp only [am, amo, amc, Nat.reduceAdd, Nat.reduceEqDiff, encs_length, List.length_map, decide_true, decide_false, Tree.rec_, Nd.rec_, Word.rec_, Got.rec_, Int.reduceEq, Int.reduceLT, Int.reduceLE, w1]
              refine retK_intro rfl (Store.sub_refl _) ⟨?_, rfl⟩
              simp [V.erase, eraseL, hres, inG, hbad, Got.enc, Nd.kind, Nd.pos, Nd.text, Nd.names, Nd.kids]
            · simp only [am, amo, amc, Nat.reduceAdd, Nat.reduceEqDiff, encs_length, List.length_map, decide_true, decide_false, Tree.rec_, Nd.rec_, Word.rec_, Got.rec_, Int.reduceEq, Int.reduceLT, Int.reduceLE]
              refine retK_intro rfl (Store.sub_refl _) ⟨?_, rfl⟩
              simp [V.erase, eraseL, hres, inG, hbad, Got.enc]
        · obtain ⟨j, t, rfl, hj, _, hl⟩ := isK_spec h40
          have hk := kid_many hj
          obtain ⟨ht, htk⟩ := tree_at hj
          have w1 : IntKind.i64.wrap ((j : Int) + 1) = (j : Int) + 1 := by simp only [big] at hm; exact wrap_i64 (by omega) (by omega)
          have hres : constG (n + 1) l (j : Nat) fin = inG (wholeAt (constG n) t false) (fun ks => .mk 4 t.tok.pos [] [] ks) ((j : Int) + 1) := by simp [constG, h97, h123, h40, ht, htk]
          simp only [am, amo, amc, Nat.reduceAdd, Nat.reduceEqDiff, encs_length, List.length_map, decide_true, decide_false, Tree.rec_, Nd.rec_, Word.rec_, Got.rec_, Int.reduceEq, Int.reduceLT, Int.reduceLE]
          refine idxL_intro (by omega) (encs_at hj) ?_
          simp only [am, amo, amc, Nat.reduceAdd, Nat.reduceEqDiff, encs_length, List.length_map, decide_true, decide_false, Tree.rec_, Nd.rec_, Word.rec_, Got.rec_, Int.reduceEq, Int.reduceLT, Int.reduceLE]
          refine (wholeG_calls 1 (constG n) (adv_const n) t false σ (by have := manys_ge t.kids; omega) (fun a _ σ => one1_calls (ih t.kids (by omega) (by omega)) a t.fin σ)).mono ?_
          rintro v σ ⟨rfl, rfl⟩
          generalize wholeAt (constG n) t false = R at hres ⊢
          simp only [am, amo, amc, Nat.reduceAdd, Nat.reduceEqDiff, encs_length, List.length_map, decide_true, decide_false, Tree.rec_, Nd.rec_, Word.rec_, Got.rec_, Int.reduceEq, Int.reduceLT, Int.reduceLE, Got.enc]
          cases hbad : R.2.bad
          · simp only [am, amo, amc, Nat.reduceAdd, Nat.reduceEqDiff, encs_length, List.length_map, decide_true, decide_false, Tree.rec_, Nd.rec_, Word.rec_, Got.rec_, Int.reduceEq, Int.reduceLT, Int.reduceLE]
            refine idxL_intro (by omega) (encs_at hj) ?_
            simp only [am, amo, amc, Nat.reduceAdd, Nat.reduceEqDiff, encs_length, List.length_map, decide_true, decide_false, Tree.rec_, Nd.rec_, Word.rec_, Got.rec_, Int.reduceEq, Int.reduceLT, Int.reduceLE, Tree.fl]
            simp only [am, amo, amc, Nat.reduceAdd, Nat.reduceEqDiff, encs_length, List.length_map, decide_true, decide_false, Tree.rec_, Nd.rec_, Word.rec_, Got.rec_, Int.reduceEq, Int.reduceLT, Int.reduceLE, w1]
            refine retK_intro rfl (Store.sub_refl _) ⟨?_, rfl⟩
            simp [V.erase, eraseL, hres, inG, hbad, Got.enc, Nd.kind, Nd.pos, Nd.text, Nd.names, Nd.kids]
          · simp only [am, amo, amc, Nat.reduceAdd, Nat.reduceEqDiff, encs_length, List.length_map, decide_true, decide_false, Tree.rec_, Nd.rec_, Word.rec_, Got.rec_, Int.reduceEq, Int.reduceLT, Int.reduceLE]
            refine retK_intro rfl (Store.sub_refl _) ⟨?_, rfl⟩
            simp [V.erase, eraseL, hres, inG, hbad, Got.enc]
      · obtain ⟨j, t, rfl, hj, _, hl⟩ := isK_spec h123
        have hk := kid_many hj
        have hkl := manys_ge t.kids
        obtain ⟨ht, htk⟩ := tree_at hj
        have w1 : IntKind.i64.wrap ((j : Int) + 1) = (j : Int) + 1 := by simp only [big] at hm; exact wrap_i64 (by omega) (by omega)
        have hres : constG (n + 1) l (j : Nat) fin = inG (wholeAt nameAt t true) (fun ks => .mk 3 t.tok.pos [] (wordsOf ks) []) ((j : Int) + 1) := by simp [constG, h97, h123, ht, htk]
        simp only [am, amo, amc, Nat.reduceAdd, Nat.reduceEqDiff, encs_length, List.length_map, decide_true, decide_false, Tree.rec_, Nd.rec_, Word.rec_, Got.rec_, Int.reduceEq, Int.reduceLT, Int.reduceLE]
        refine idxL_intro (by omega) (encs_at hj) ?_
        simp only [am, amo, amc, Nat.reduceAdd, Nat.reduceEqDiff, encs_length, List.length_map, decide_true, decide_false, Tree.rec_, Nd.rec_, Word.rec_, Got.rec_, Int.reduceEq, Int.reduceLT, Int.reduceLE]
        refine (whole_calls t true σ (by omega)).mono ?_
        rintro v σ ⟨rfl, rfl⟩
        have hwl := whole_len (one := nameAt) t true
        generalize wholeAt nameAt t true = R at hres hwl ⊢
        simp only [am, amo, amc, Nat.reduceAdd, Nat.reduceEqDiff, encs_length, List.length_map, decide_true, decide_false, Tree.rec_, Nd.rec_, Word.rec_, Got.rec_, Int.reduceEq, Int.reduceLT, Int.reduceLE, Got.enc]
        cases hbad : R.2.bad
        · simp only [am, amo, amc, Nat.reduceAdd, Nat.reduceEqDiff, encs_length, List.length_map, decide_true, decide_false, Tree.rec_, Nd.rec_, Word.rec_, Got.rec_, Int.reduceEq, Int.reduceLT, Int.reduceLE]
          refine idxL_intro (by omega) (encs_at hj) ?_
          simp only [am, amo, amc, Nat.reduceAdd, Nat.reduceEqDiff, encs_length, List.length_map, decide_true, decide_false, Tree.rec_, Nd.rec_, Word.rec_, Got.rec_, Int.reduceEq, Int.reduceLT, Int.reduceLE, Tree.fl]
          refine (names_ref_calls R.1 σ (by omega)).mono ?_
          rintro v σ ⟨rfl, rfl⟩
          simp only [am, amo, amc, Nat.reduceAdd, Nat.reduceEqDiff, encs_length, List.length_map, decide_true, decide_false, Tree.rec_, Nd.rec_, Word.rec_, Got.rec_, Int.reduceEq, Int.reduceLT, Int.reduceLE, w1]
          refine retK_intro rfl (Store.sub_refl _) ⟨?_, rfl⟩
          simp [V.erase, eraseL, hres, inG, hbad, Got.enc, Nd.kind, Nd.pos, Nd.text, Nd.names, Nd.kids]
        · simp only [am, amo, amc, Nat.reduceAdd, Nat.reduceEqDiff, encs_length, List.length_map, decide_true, decide_false, Tree.rec_, Nd.rec_, Word.rec_, Got.rec_, Int.reduceEq, Int.reduceLT, Int.reduceLE]
          refine retK_intro rfl (Store.sub_refl _) ⟨?_, rfl⟩
          simp [V.erase, eraseL, hres, inG, hbad, Got.enc]
    · obtain ⟨j, t, rfl, hj, _, hl⟩ := isK_spec h97
      obtain ⟨ht, htk⟩ := tree_at hj
      have w1 : IntKind.i64.wrap ((j : Int) + 1) = (j : Int) + 1 := by simp only [big] at hm; exact wrap_i64 (by omega) (by omega)
      simp only [am, amo, amc, Nat.reduceAdd, Nat.reduceEqDiff, encs_length, List.length_map, decide_true, decide_false, Tree.rec_, Nd.rec_, Word.rec_, Got.rec_, Int.reduceEq, Int.reduceLT, Int.reduceLE]
      refine idxL_intro (by omega) (encs_at hj) ?_
      simp only [am, amo, amc, Nat.reduceAdd, Nat.reduceEqDiff, encs_length, List.length_map, decide_true, decide_false, Tree.rec_, Nd.rec_, Word.rec_, Got.rec_, Int.reduceEq, Int.reduceLT, Int.reduceLE, Tree.fl]
      refine idxL_intro (by omega) (encs_at hj) ?_
      simp only [am, amo, amc, Nat.reduceAdd, Nat.reduceEqDiff, encs_length, List.length_map, decide_true, decide_false, Tree.rec_, Nd.rec_, Word.rec_, Got.rec_, Int.reduceEq, Int.reduceLT, Int.reduceLE, Tree.fl, w1]
      refine retK_intro rfl (Store.sub_refl _) ⟨?_, rfl⟩
      simp [V.erase, eraseL, constG, leafG, h97, htk, Got.enc, Nd.kind, Nd.pos, Nd.text, Nd.names, Nd.kids]
end Go.Proofs.Tryd

namespace Go.Proofs.Tryd
open Go.Am
set_option maxRecDepth 4000
set_option maxHeartbeats 4000000
def ac65 : AC := .seq (.reg [⟨(some 6), .alloc [(.int .i64 0), (.int .i64 0), (.str []), (.sl .full 2 []), (.sl .full 5 []), (.int .i64 0), (.bool false), (.int .i64 0)], none⟩])
 (.seq (.seq (.reg [xm 11 0, xm 12 1, xc 91 13 [.s 11, .s 12, .c (.int .u8 97)]])
 (.cond (.s 13) (.seq (.draw [(xm 14 0, []), (xm 15 1, []), (xA 5 16 14 15, []), (xf 0 17 16, []), (xf 2 18 17, []), (xo 19 18, []), (xm 20 0, []), (xm 21 1, []), (xA 5 22 20 21, []), (xf 0 23 22, []), (xf 1 24 23, []), (xo 25 24, []), (⟨(some 26), .build [(.int .i64 0), (.int .i64 0), (.str []), (.sl .full 2 []), (.sl .full 5 [])] [(0, 1, (.c (.int .i64 1))), (1, 1, (.s 19)), (2, 1, (.s 25))], none⟩, []), (xm 27 1, []), (xB .add 28 27 1, []), (⟨(some 29), .build [(.int .i64 0), (.int .i64 0), (.str []), (.sl .full 2 []), (.sl .full 5 []), (.int .i64 0), (.bool false), (.int .i64 0)] [(0, 5, (.s 26)), (5, 1, (.s 28))], none⟩, []), (xs 8 6 29, [])])
 (.ret))
 (.skip)))
 (.seq (.seq (.reg [xm 30 0, xm 31 1, xc 91 32 [.s 30, .s 31, .c (.int .u8 35)]])
 (.cond (.s 32) (.seq (.reg [xm 33 0, xm 34 1, xB .add 35 34 1, xm 36 2, xc 95 37 [.s 33, .s 35, .s 36], ⟨(some 7), .alloc [(.int .i64 0), (.int .i64 0), (.str []), (.sl .full 2 []), (.sl .full 5 []), (.int .i64 0), (.bool false), (.int .i64 0)], none⟩, xs 8 7 37])
 (.seq (.seq (.reg [xf 6 38 7, xo 39 38, ⟨(some 40), .not (.s 39), none⟩])
 (.cond (.s 40) (.draw [(xm 41 0, []), (xm 42 1, []), (xA 5 43 41 42, []), (xf 0 44 43, []), (xf 2 45 44, []), (xo 46 45, []), (xf 0 47 7, []), (xl 5 48 47, []), (⟨(some 49), .bslice 5 [(.s 48)], none⟩, []), (⟨(some 50), .build [(.int .i64 0), (.int .i64 0), (.str []), (.sl .full 2 []), (.sl .full 5 [])] [(0, 1, (.c (.int .i64 7))), (1, 1, (.s 46)), (4, 1, (.s 49))], none⟩, []), (xf 0 51 7, []), (xs 5 51 50, [])])
 (.skip)))
 (.seq (.reg [xl 8 52 7, xs 8 6 52])
 (.ret))))
 (.skip)))
 (.seq (.seq (.reg [xm 53 0, xm 54 1, xc 91 55 [.s 53, .s 54, .c (.int .u8 43)], ⟨(some 56), .not (.s 55), none⟩, xm 57 56, xg 57 (xm 58 0), xg 57 (xm 59 1), xg 57 (xc 91 60 [.s 58, .s 59, .c (.int .u8 38)]), ⟨(some 61), .not (.s 60), (some (57, true))⟩, ⟨(some 62), .pick (.s 57) (.s 61) (.c (.bool false)), none⟩])
 (.cond (.s 62) (.seq (.reg [xm 63 0, xm 64 1, xm 65 2, xc 92 66 [.s 63, .s 64, .s 65], xs 8 6 66])
 (.ret))
 (.skip)))
 (.seq (.seq (.reg [xm 67 0, xm 68 1, xB .add 69 68 1, xc 91 70 [.s 67, .s 69, .c (.int .u8 40)], ⟨(some 71), .not (.s 70), none⟩])
 (.cond (.s 71) (.seq (.reg [xm 72 0, xm 73 1, xB .add 74 73 1, xm 75 2, xc 92 76 [.s 72, .s 74, .s 75], xs 8 6 76])
 (.ret))
 (.skip)))
 (.seq (.reg [xm 78 0, xm 79 1, xB .add 80 79 1, xA 5 81 78 80, xl 5 82 81, xc 93 83 [.c (.int .i64 3), .s 82, .c (.bool false)], xm 77 83, xe 84 77 0, xe 85 77 1, ⟨(some 9), .alloc [(.int .i64 0), (.int .i64 0), (.str []), (.sl .full 2 []), (.sl .full 5 []), (.int .i64 0), (.bool false), (.int .i64 0)], none⟩, xm 8 84, xs 8 9 85])
 (.seq (.seq (.reg [xf 6 86 9, xo 87 86])
 (.cond (.s 87) (.seq (.reg [xl 8 88 9, xs 8 6 88])
 (.ret))
 (.skip)))
 (.seq (.reg [xi 10 8])
 (.seq (.seq (.reg [xm 89 0, xm 90 1, xc 91 91 [.s 89, .s 90, .c (.int .u8 38)]])
 (.cond (.s 91) (.reg [xi 10 9])
 (.skip)))
 (.seq (.reg [xm 92 10, xm 93 0, xm 94 1, xA 5 95 93 94, xf 0 96 95, xf 2 97 96, xo 98 97, xm 99 8, ⟨(some 100), .build [(.int .i64 0), (.int .i64 0), (.str []), (.sl .full 2 []), (.sl .full 5 [])] [(0, 1, (.s 92)), (1, 1, (.s 98)), (4, 1, (.s 99))], none⟩, xm 101 1, xB .add 102 101 2, ⟨(some 103), .build [(.int .i64 0), (.int .i64 0), (.str []), (.sl .full 2 []), (.sl .full 5 []), (.int .i64 0), (.bool false), (.int .i64 0)] [(0, 5, (.s 100)), (5, 1, (.s 102))], none⟩, xs 8 6 103])
 (.ret))))))))))
theorem fn65 : IsFn prog 65 ac65 [.cell 6 true 8] 104 := ⟨f65, ⟨[], []⟩, func65, by kernel_rfl, by kernel_rfl, by kernel_rfl, by kernel_rfl⟩
def ac66 : AC := .seq (.reg [⟨(some 6), .alloc [(.int .i64 0), (.int .i64 0), (.str []), (.sl .full 2 []), (.sl .full 5 []), (.int .i64 0), (.bool false), (.int .i64 0)], none⟩])
 (.seq (.seq (.reg [xm 13 0, xm 14 1, xc 91 15 [.s 13, .s 14, .c (.int .u8 97)]])
 (.cond (.s 15) (.seq (.reg [xm 16 0, xm 17 1, xm 18 2, xc 65 19 [.s 16, .s 17, .s 18], xs 8 6 19])
 (.ret))
 (.skip)))
 (.seq (.seq (.reg [xm 20 0, xm 21 1, xc 91 22 [.s 20, .s 21, .c (.int .u8 91)], ⟨(some 23), .not (.s 22), none⟩])
 (.cond (.s 23) (.seq (.reg [xm 24 0, xm 25 1, xm 26 2, xc 92 27 [.s 24, .s 25, .s 26], xs 8 6 27])
 (.ret))
 (.skip)))
 (.seq (.reg [xm 28 0, xm 29 1, xA 5 30 28 29, xl 5 31 30, ⟨(some 7), .alloc [(.int .u8 0), (.str []), (.int .i64 0), (.sl .full 5 []), (.int .i64 0)], none⟩, xs 5 7 31])
 (.seq (.reg [xf 0 32 7, xf 2 33 32, xo 34 33, ⟨(some 35), .build [(.int .i64 0), (.int .i64 0), (.str []), (.sl .full 2 []), (.sl .full 5 [])] [(0, 1, (.c (.int .i64 10))), (1, 1, (.s 34))], none⟩, ⟨(some 8), .alloc [(.int .i64 0), (.int .i64 0), (.str []), (.sl .full 2 []), (.sl .full 5 [])], none⟩, xs 5 8 35])
 (.seq (.reg [xi 9 0])
 (.seq (.seq (.reg [xf 3 36 7, xo 37 36, xL 38 37, xB .gtr 39 38 0, xm 40 39, xg 40 (xf 3 41 7), xg 40 (xo 42 41), xg 40 (xc 91 43 [.s 42, .c (.int .i64 0), .c (.int .u8 124)]), ⟨(some 44), .not (.s 43), (some (40, true))⟩, ⟨(some 45), .pick (.s 40) (.s 44) (.c (.bool false)), none⟩])
 (.cond (.s 45) (.seq (.reg [xf 3 47 7, xo 48 47, xf 4 49 7, xo 50 49, xc 96 51 [.c (.int .i64 4), .s 48, .c (.int .i64 0), .s 50], xm 46 51, xe 52 46 0, xe 53 46 1, ⟨(some 11), .alloc [(.int .i64 0), (.int .i64 0), (.str []), (.sl .full 2 []), (.sl .full 5 []), (.int .i64 0), (.bool false), (.int .i64 0)], none⟩, xm 10 52, xs 8 11 53])
 (.seq (.seq (.reg [xf 6 54 11, xo 55 54])
 (.cond (.s 55) (.seq (.reg [xl 8 56 11, xs 8 6 56])
 (.ret))
 (.skip)))
 (.seq (.reg [xm 57 10, xf 4 58 8, xs 1 58 57])
 (.reg [xf 5 59 11, xo 60 59, xm 9 60]))))
 (.skip)))
 (.seq (.seq (.reg [xf 3 61 7, xo 62 61, xm 63 9, xc 91 64 [.s 62, .s 63, .c (.int .u8 124)]])
 (.cond (.s 64) (.seq (.reg [xf 3 65 7, xo 66 65, xm 67 9, xB .add 68 67 1, xf 4 69 7, xo 70 69, xc 97 71 [.c (.int .i64 6), .s 66, .s 68, .s 70], ⟨(some 12), .alloc [(.int .i64 0), (.int .i64 0), (.str []), (.sl .full 2 []), (.sl .full 5 []), (.int .i64 0), (.bool false), (.int .i64 0)], none⟩, xs 8 12 71])
 (.seq (.seq (.reg [xf 6 72 12, xo 73 72])
 (.cond (.s 73) (.seq (.reg [xl 8 74 12, xs 8 6 74])
 (.ret))
 (.skip)))
 (.seq (.reg [xf 0 75 12, xl 5 76 75, ⟨(some 77), .bslice 5 [(.s 76)], none⟩, xc 94 78 [.s 77], xf 3 79 8, xs 1 79 78])
 (.reg [xf 5 80 12, xo 81 80, xm 9 81]))))
 (.skip)))
 (.seq (.seq (.reg [xm 82 9, xf 3 83 7, xo 84 83, xL 85 84, xb .lss 86 82 85])
 (.cond (.s 86) (.seq (.reg [xf 3 87 7, xo 88 87, xm 89 9, xf 4 90 7, xo 91 90, xc 92 92 [.s 88, .s 89, .s 91], xs 8 6 92])
 (.ret))
 (.skip)))
 (.seq (.reg [xl 5 93 8, xm 94 1, xB .add 95 94 1, ⟨(some 96), .build [(.int .i64 0), (.int .i64 0), (.str []), (.sl .full 2 []), (.sl .full 5 []), (.int .i64 0), (.bool false), (.int .i64 0)] [(0, 5, (.s 93)), (5, 1, (.s 95))], none⟩, xs 8 6 96])
 (.ret))))))))))
theorem fn66 : IsFn prog 66 ac66 [.cell 6 true 8] 97 := ⟨f66, ⟨[], []⟩, func66, by kernel_rfl, by kernel_rfl, by kernel_rfl, by kernel_rfl⟩
def ac120 : AC := .seq (.reg [⟨(some 6), .alloc [(.int .i64 0), (.int .i64 0), (.str []), (.sl .full 2 []), (.sl .full 5 []), (.int .i64 0), (.bool false), (.int .i64 0)], none⟩])
 (.seq (.seq (.reg [xm 8 0, xm 9 1, xc 91 10 [.s 8, .s 9, .c (.int .u8 97)], ⟨(some 11), .not (.s 10), none⟩])
 (.cond (.s 11) (.seq (.reg [xm 12 0, xm 13 1, xm 14 2, xc 92 15 [.s 12, .s 13, .s 14], xs 8 6 15])
 (.ret))
 (.skip)))
 (.seq (.seq (.reg [xm 16 0, xm 17 1, xB .add 18 17 1, xc 91 19 [.s 16, .s 18, .c (.int .u8 61)], ⟨(some 20), .not (.s 19), none⟩])
 (.cond (.s 20) (.seq (.reg [xm 21 0, xm 22 1, xB .add 23 22 1, xm 24 2, xc 92 25 [.s 21, .s 23, .s 24], xs 8 6 25])
 (.ret))
 (.skip)))
 (.seq (.reg [xm 26 0, xm 27 1, xB .add 28 27 2, xm 29 2, xc 97 30 [.c (.int .i64 5), .s 26, .s 28, .s 29], ⟨(some 7), .alloc [(.int .i64 0), (.int .i64 0), (.str []), (.sl .full 2 []), (.sl .full 5 []), (.int .i64 0), (.bool false), (.int .i64 0)], none⟩, xs 8 7 30])
 (.seq (.seq (.reg [xf 6 31 7, xo 32 31, ⟨(some 33), .not (.s 32), none⟩])
 (.cond (.s 33) (.draw [(xm 34 0, []), (xm 35 1, []), (xA 5 36 34 35, []), (xf 0 37 36, []), (xf 2 38 37, []), (xo 39 38, []), (xm 40 0, []), (xm 41 1, []), (xA 5 42 40 41, []), (xf 0 43 42, []), (xf 1 44 43, []), (xo 45 44, []), (xf 0 46 7, []), (xl 5 47 46, []), (⟨(some 48), .bslice 5 [(.s 47)], none⟩, []), (⟨(some 49), .build [(.int .i64 0), (.int .i64 0), (.str []), (.sl .full 2 []), (.sl .full 5 [])] [(0, 1, (.c (.int .i64 11))), (1, 1, (.s 39)), (2, 1, (.s 45)), (4, 1, (.s 48))], none⟩, []), (xf 0 50 7, []), (xs 5 50 49, [])])
 (.skip)))
 (.seq (.reg [xl 8 51 7, xs 8 6 51])
 (.ret))))))
theorem fn120 : IsFn prog 120 ac120 [.cell 6 true 8] 52 := ⟨f120, ⟨[], []⟩, func120, by kernel_rfl, by kernel_rfl, by kernel_rfl, by kernel_rfl⟩
theorem label_ref_calls : ∀ (n : Nat) (l : List Tree), manys l ≤ n → manys l + 1 ≤ big → LabelC n l := by
  intro n
  induction n with
  | zero =>
    intro l hn hm a fin σ
    obtain rfl : l = [] := by cases l with | nil => rfl | cons t ts => simp only [manys] at hn; omega
    have hk : ∀ a k, isK [] a k = false := fun a k => by simp [isK]
    refine fn65.calls ?_
    simp only [slots, ac65, am, amo, amc, ams, Nat.reduceAdd, Nat.reduceEqDiff, decide_true, decide_false, Tree.rec_, Nd.rec_, Word.rec_, Got.rec_, Int.reduceEq, Int.reduceLT, Int.reduceLE]
    refine (is_calls [] a 97 σ).mono ?_
    rintro v σ ⟨rfl, rfl⟩
    simp only [am, amo, amc, Nat.reduceAdd, Nat.reduceEqDiff, encs_length, List.length_map, decide_true, decide_false, Tree.rec_, Nd.rec_, Word.rec_, Got.rec_, Int.reduceEq, Int.reduceLT, Int.reduceLE, hk]
    refine (is_calls [] a 35 σ).mono ?_
    rintro v σ ⟨rfl, rfl⟩
    simp only [am, amo, amc, Nat.reduceAdd, Nat.reduceEqDiff, encs_length, List.length_map, decide_true, decide_false, Tree.rec_, Nd.rec_, Word.rec_, Got.rec_, Int.reduceEq, Int.reduceLT, Int.reduceLE, hk]
    refine (is_calls [] a 43 σ).mono ?_
    rintro v σ ⟨rfl, rfl⟩
    simp only [am, amo, amc, Nat.reduceAdd, Nat.reduceEqDiff, encs_length, List.length_map, decide_true, decide_false, Tree.rec_, Nd.rec_, Word.rec_, Got.rec_, Int.reduceEq, Int.reduceLT, Int.reduceLE, hk]
    refine (is_calls [] a 38 σ).mono ?_
    rintro v σ ⟨rfl, rfl⟩
    simp only [am, amo, amc, Nat.reduceAdd, Nat.reduceEqDiff, encs_length, List.length_map, decide_true, decide_false, Tree.rec_, Nd.rec_, Word.rec_, Got.rec_, Int.reduceEq, Int.reduceLT, Int.reduceLE, hk]
    refine (wrong_calls [] a fin σ).mono ?_
    rintro v σ ⟨rfl, rfl⟩
    simp only [am, amo, amc, Nat.reduceAdd, Nat.reduceEqDiff, encs_length, List.length_map, decide_true, decide_false, Tree.rec_, Nd.rec_, Word.rec_, Got.rec_, Int.reduceEq, Int.reduceLT, Int.reduceLE, Got.enc]
    refine retK_intro rfl (Store.sub_refl _) ⟨?_, rfl⟩
    simp [V.erase, eraseL, Got.enc, labelG, leafG, hk]
  | succ n ih =>
    intro l hn hm a fin σ
    have hlen := manys_ge l
    have w1 : ∀ j : Nat, j ≤ l.length → IntKind.i64.wrap ((j : Int) + 1) = ((j + 1 : Nat) : Int) := fun j hj => by simp only [big] at hm; rw [wrap_i64 (by omega) (by omega)]; simp
    have w2 : ∀ j : Nat, j ≤ l.length → IntKind.i64.wrap ((j : Int) + 2) = ((j + 2 : Nat) : Int) := fun j hj => by simp only [big] at hm; rw [wrap_i64 (by omega) (by omega)]; simp
    refine fn65.calls ?_
    simp only [slots, ac65, am, amo, amc, ams, Nat.reduceAdd, Nat.reduceEqDiff, decide_true, decide_false, Tree.rec_, Nd.rec_, Word.rec_, Got.rec_, Int.reduceEq, Int.reduceLT, Int.reduceLE]
    refine (is_calls l a 97 σ).mono ?_
    rintro v σ ⟨rfl, rfl⟩
    cases h97 : isK l a 97
    · simp only [am, amo, amc, Nat.reduceAdd, Nat.reduceEqDiff, encs_length, List.length_map, decide_true, decide_false, Tree.rec_, Nd.rec_, Word.rec_, Got.rec_, Int.reduceEq, Int.reduceLT, Int.reduceLE]
      refine (is_calls l a 35 σ).mono ?_
      rintro v σ ⟨rfl, rfl⟩
      cases h35 : isK l a 35
      · simp only [am, amo, amc, Nat.reduceAdd, Nat.reduceEqDiff, encs_length, List.length_map, decide_true, decide_false, Tree.rec_, Nd.rec_, Word.rec_, Got.rec_, Int.reduceEq, Int.reduceLT, Int.reduceLE]
        refine (is_calls l a 43 σ).mono ?_
        rintro v σ ⟨rfl, rfl⟩
        cases h43 : isK l a 43
        case' true =>
          obtain ⟨j, t0, rfl, hj0, _, hl0⟩ := isK_spec h43
          have h38 : isK l (j : Nat) 38 = false := by
            cases hq : isK l (j : Nat) 38 with
            | false => rfl
            | true =>
              obtain ⟨j', t', e, hj', hk', _⟩ := isK_spec hq
              obtain rfl : j' = j := by omega
              rw [hj0] at hj'; simp only [Option.some.injEq] at hj'; subst hj'; omega
          simp only [am, amo, amc, Nat.reduceAdd, Nat.reduceEqDiff, encs_length, List.length_map, decide_true, decide_false, Tree.rec_, Nd.rec_, Word.rec_, Got.rec_, Int.reduceEq, Int.reduceLT, Int.reduceLE, w1 j (by omega)]
        case' false =>
          simp only [am, amo, amc, Nat.reduceAdd, Nat.reduceEqDiff, encs_length, List.length_map, decide_true, decide_false, Tree.rec_, Nd.rec_, Word.rec_, Got.rec_, Int.reduceEq, Int.reduceLT, Int.reduceLE]
          refine (is_calls l a 38 σ).mono ?_
          rintro v σ ⟨rfl, rfl⟩
          cases h38 : isK l a 38
          · simp only [am, amo, amc, Nat.reduceAdd, Nat.reduceEqDiff, encs_length, List.length_map, decide_true, decide_false, Tree.rec_, Nd.rec_, Word.rec_, Got.rec_, Int.reduceEq, Int.reduceLT, Int.reduceLE]
            refine (wrong_calls l a fin σ).mono ?_
            rintro v σ ⟨rfl, rfl⟩
            simp only [am, amo, amc, Nat.reduceAdd, Nat.reduceEqDiff, encs_length, List.length_map, decide_true, decide_false, Tree.rec_, Nd.rec_, Word.rec_, Got.rec_, Int.reduceEq, Int.reduceLT, Int.reduceLE, Got.enc]
            refine retK_intro rfl (Store.sub_refl _) ⟨?_, rfl⟩
            simp [V.erase, eraseL, Got.enc, labelG, h97, h35, h43, h38]
          obtain ⟨j, t0, rfl, hj0, _, hl0⟩ := isK_spec h38
          simp only [am, amo, amc, Nat.reduceAdd, Nat.reduceEqDiff, encs_length, List.length_map, decide_true, decide_false, Tree.rec_, Nd.rec_, Word.rec_, Got.rec_, Int.reduceEq, Int.reduceLT, Int.reduceLE, w1 j (by omega)]
        all_goals
          obtain ⟨_, htk⟩ := tree_at hj0
          refine (is_calls l ((j + 1 : Nat) : Int) 40 σ).mono ?_
          rintro v σ ⟨rfl, rfl⟩
          cases h40 : isK l ((j + 1 : Nat) : Int) 40
          · simp only [am, amo, amc, Nat.reduceAdd, Nat.reduceEqDiff, encs_length, List.length_map, decide_true, decide_false, Tree.rec_, Nd.rec_, Word.rec_, Got.rec_, Int.reduceEq, Int.reduceLT, Int.reduceLE, w1 j (by omega)]
            refine (wrong_calls l ((j + 1 : Nat) : Int) fin σ).mono ?_
            rintro v σ ⟨rfl, rfl⟩
            simp only [am, amo, amc, Nat.reduceAdd, Nat.reduceEqDiff, encs_length, List.length_map, decide_true, decide_false, Tree.rec_, Nd.rec_, Word.rec_, Got.rec_, Int.reduceEq, Int.reduceLT, Int.reduceLE, Got.enc]
            have h40' : isK l ((j : Int) + 1) 40 = false := h40
            have e : ((j + 1 : Nat) : Int) = (j : Int) + 1 := rfl
            refine retK_intro rfl (Store.sub_refl _) ⟨?_, rfl⟩
            simp [V.erase, eraseL, Got.enc, labelG, h97, h35, h43, h38, h40', e]
          · obtain ⟨j2, t, hj2, hj, _, hl⟩ := isK_spec h40
            obtain rfl : j2 = j + 1 := by omega
            have hk := kid_many hj
            have hkl := manys_ge t.kids
            have ht : treeAt l ((j : Int) + 1) = t := (tree_at hj).1
            have h40' : isK l ((j : Int) + 1) 40 = true := h40
            have hres : labelG (n + 1) l (j : Nat) fin = inG (wholeAt (labelG n) t false) (fun ks => .mk (if isK l (j : Nat) 38 = true then 9 else 8) t0.tok.pos [] [] ks) ((j : Int) + 2) := by simp [labelG, h97, h35, h43, h38, h40', ht, htk]
            simp only [am, amo, amc, Nat.reduceAdd, Nat.reduceEqDiff, encs_length, List.length_map, decide_true, decide_false, Tree.rec_, Nd.rec_, Word.rec_, Got.rec_, Int.reduceEq, Int.reduceLT, Int.reduceLE, w1 j (by omega)]
            refine idxL_intro (by omega) (encs_at hj) ?_
            simp only [am, amo, amc, Nat.reduceAdd, Nat.reduceEqDiff, encs_length, List.length_map, decide_true, decide_false, Tree.rec_, Nd.rec_, Word.rec_, Got.rec_, Int.reduceEq, Int.reduceLT, Int.reduceLE]
            refine (wholeG_calls 3 (labelG n) (adv_label n) t false σ (by omega) (fun a _ σ => one3_calls (ih t.kids (by omega) (by omega)) a t.fin σ)).mono ?_
            rintro v σ ⟨rfl, rfl⟩
            generalize wholeAt (labelG n) t false = R at hres ⊢
            simp only [am, amo, amc, Nat.reduceAdd, Nat.reduceEqDiff, encs_length, List.length_map, decide_true, decide_false, Tree.rec_, Nd.rec_, Word.rec_, Got.rec_, Int.reduceEq, Int.reduceLT, Int.reduceLE, Got.enc]
            cases hbad : R.2.bad
            · simp only [am, amo, amc, Nat.reduceAdd, Nat.reduceEqDiff, encs_length, List.length_map, decide_true, decide_false, Tree.rec_, Nd.rec_, Word.rec_, Got.rec_, Int.reduceEq, Int.reduceLT, Int.reduceLE]
              refine (is_calls l (j : Nat) 38 σ).mono ?_
              rintro v σ ⟨rfl, rfl⟩
              simp only [am, amo, amc, Nat.reduceAdd, Nat.reduceEqDiff, encs_length, List.length_map, decide_true, decide_false, Tree.rec_, Nd.rec_, Word.rec_, Got.rec_, Int.reduceEq, Int.reduceLT, Int.reduceLE, h38]
              refine idxL_intro (by omega) (encs_at hj0) ?_
              simp only [am, amo, amc, Nat.reduceAdd, Nat.reduceEqDiff, encs_length, List.length_map, decide_true, decide_false, Tree.rec_, Nd.rec_, Word.rec_, Got.rec_, Int.reduceEq, Int.reduceLT, Int.reduceLE, Tree.fl, w2 j (by omega)]
              refine retK_intro rfl (Store.sub_refl _) ⟨?_, rfl⟩
              simp [V.erase, eraseL, hres, inG, hbad, Got.enc, Nd.kind, Nd.pos, Nd.text, Nd.names, Nd.kids, h38]
            · simp only [am, amo, amc, Nat.reduceAdd, Nat.reduceEqDiff, encs_length, List.length_map, decide_true, decide_false, Tree.rec_, Nd.rec_, Word.rec_, Got.rec_, Int.reduceEq, Int.reduceLT, Int.reduceLE]
              refine retK_intro rfl (Store.sub_refl _) ⟨?_, rfl⟩
              simp [V.erase, eraseL, hres, inG, hbad, Got.enc]
      · obtain ⟨j, t0, rfl, hj0, _, hl0⟩ := isK_spec h35
        obtain ⟨_, htk⟩ := tree_at hj0
        have hres : labelG (n + 1) l (j : Nat) fin = (constG (n + 1) l ((j : Int) + 1) fin).put fun m => .mk 7 t0.tok.pos [] [] [m] := by simp [labelG, h97, h35, htk]
        simp only [am, amo, amc, Nat.reduceAdd, Nat.reduceEqDiff, encs_length, List.length_map, decide_true, decide_false, Tree.rec_, Nd.rec_, Word.rec_, Got.rec_, Int.reduceEq, Int.reduceLT, Int.reduceLE, w1 j (by omega)]
        refine (const_ref_calls (n + 1) l hn hm ((j + 1 : Nat) : Int) fin σ).mono ?_
        rintro v σ ⟨rfl, rfl⟩
        have e : constG (n + 1) l ((j : Int) + 1) fin = constG (n + 1) l ((j + 1 : Nat) : Int) fin := rfl
        rw [e] at hres
        generalize constG (n + 1) l ((j + 1 : Nat) : Int) fin = g at hres ⊢
        simp only [am, amo, amc, Nat.reduceAdd, Nat.reduceEqDiff, encs_length, List.length_map, decide_true, decide_false, Tree.rec_, Nd.rec_, Word.rec_, Got.rec_, Int.reduceEq, Int.reduceLT, Int.reduceLE, Got.enc]
        cases hbad : g.bad
        · simp only [am, amo, amc, Nat.reduceAdd, Nat.reduceEqDiff, encs_length, List.length_map, decide_true, decide_false, Tree.rec_, Nd.rec_, Word.rec_, Got.rec_, Int.reduceEq, Int.reduceLT, Int.reduceLE]
          refine idxL_intro (by omega) (encs_at hj0) ?_
          simp only [am, amo, amc, Nat.reduceAdd, Nat.reduceEqDiff, encs_length, List.length_map, decide_true, decide_false, Tree.rec_, Nd.rec_, Word.rec_, Got.rec_, Int.reduceEq, Int.reduceLT, Int.reduceLE, Tree.fl]
          refine retK_intro rfl (Store.sub_refl _) ⟨?_, rfl⟩
          simp [V.erase, eraseL, hres, Got.put, hbad, Got.enc, Nd.kind, Nd.pos, Nd.text, Nd.names, Nd.kids, Nd.enc_eq]
        · simp only [am, amo, amc, Nat.reduceAdd, Nat.reduceEqDiff, encs_length, List.length_map, decide_true, decide_false, Tree.rec_, Nd.rec_, Word.rec_, Got.rec_, Int.reduceEq, Int.reduceLT, Int.reduceLE]
          refine retK_intro rfl (Store.sub_refl _) ⟨?_, rfl⟩
          simp [V.erase, eraseL, hres, Got.put, hbad, Got.enc]
    · obtain ⟨j, t, rfl, hj, _, hl⟩ := isK_spec h97
      obtain ⟨ht, htk⟩ := tree_at hj
      simp only [am, amo, amc, Nat.reduceAdd, Nat.reduceEqDiff, encs_length, List.length_map, decide_true, decide_false, Tree.rec_, Nd.rec_, Word.rec_, Got.rec_, Int.reduceEq, Int.reduceLT, Int.reduceLE]
      refine idxL_intro (by omega) (encs_at hj) ?_
      simp only [am, amo, amc, Nat.reduceAdd, Nat.reduceEqDiff, encs_length, List.length_map, decide_true, decide_false, Tree.rec_, Nd.rec_, Word.rec_, Got.rec_, Int.reduceEq, Int.reduceLT, Int.reduceLE, Tree.fl]
      refine idxL_intro (by omega) (encs_at hj) ?_
      simp only [am, amo, amc, Nat.reduceAdd, Nat.reduceEqDiff, encs_length, List.length_map, decide_true, decide_false, Tree.rec_, Nd.rec_, Word.rec_, Got.rec_, Int.reduceEq, Int.reduceLT, Int.reduceLE, Tree.fl, w1 j (by omega)]
      refine retK_intro rfl (Store.sub_refl _) ⟨?_, rfl⟩
      simp [V.erase, eraseL, labelG, leafG, h97, htk, Got.enc, Nd.kind, Nd.pos, Nd.text, Nd.names, Nd.kids]
theorem field_ref_calls (n : Nat) (l : List Tree) (hn : manys l ≤ n) (hm : manys l + 1 ≤ big) (a fin : Int) (σ : Store) : PCalls prog 120 [.sl .no 5 (encs l), .int .i64 a, .int .i64 fin] σ fun v σ' => v = .agg (fieldG n l a fin).enc ∧ σ' = σ := by
  have hlen := manys_ge l
  have w1 : ∀ j : Nat, j ≤ l.length → IntKind.i64.wrap ((j : Int) + 1) = ((j + 1 : Nat) : Int) := fun j hj => by simp only [big] at hm; rw [wrap_i64 (by omega) (by omega)]; simp
  have w2 : ∀ j : Nat, j ≤ l.length → IntKind.i64.wrap ((j : Int) + 2) = ((j + 2 : Nat) : Int) := fun j hj => by simp only [big] at hm; rw [wrap_i64 (by omega) (by omega)]; simp
  refine fn120.calls ?_
  simp only [slots, ac120, am, amo, amc, ams, Nat.reduceAdd, Nat.reduceEqDiff, decide_true, decide_false, Tree.rec_, Nd.rec_, Word.rec_, Got.rec_, Int.reduceEq, Int.reduceLT, Int.reduceLE]
  refine (is_calls l a 97 σ).mono ?_
  rintro v σ ⟨rfl, rfl⟩
  cases h97 : isK l a 97
  · simp only [am, amo, amc, Nat.reduceAdd, Nat.reduceEqDiff, encs_length, List.length_map, decide_true, decide_false, Tree.rec_, Nd.rec_, Word.rec_, Got.rec_, Int.reduceEq, Int.reduceLT, Int.reduceLE]
    refine (wrong_calls l a fin σ).mono ?_
    rintro v σ ⟨rfl, rfl⟩
    simp only [am, amo, amc, Nat.reduceAdd, Nat.reduceEqDiff, encs_length, List.length_map, decide_true, decide_false, Tree.rec_, Nd.rec_, Word.rec_, Got.rec_, Int.reduceEq, Int.reduceLT, Int.reduceLE, Got.enc]
    refine retK_intro rfl (Store.sub_refl _) ⟨?_, rfl⟩
    simp [V.erase, eraseL, Got.enc, fieldG, h97]
  · obtain ⟨j, t0, rfl, hj0, _, hl0⟩ := isK_spec h97
    obtain ⟨_, htk⟩ := tree_at hj0
    simp only [am, amo, amc, Nat.reduceAdd, Nat.reduceEqDiff, encs_length, List.length_map, decide_true, decide_false, Tree.rec_, Nd.rec_, Word.rec_, Got.rec_, Int.reduceEq, Int.reduceLT, Int.reduceLE, w1 j (by omega)]
    refine (is_calls l ((j + 1 : Nat) : Int) 61 σ).mono ?_
    rintro v σ ⟨rfl, rfl⟩
    cases h61 : isK l ((j + 1 : Nat) : Int) 61
    · have h61' : isK l ((j : Int) + 1) 61 = false := h61
      have e : ((j + 1 : Nat) : Int) = (j : Int) + 1 := rfl
      simp only [am, amo, amc, Nat.reduceAdd, Nat.reduceEqDiff, encs_length, List.length_map, decide_true, decide_false, Tree.rec_, Nd.rec_, Word.rec_, Got.rec_, Int.reduceEq, Int.reduceLT, Int.reduceLE, w1 j (by omega)]
      refine (wrong_calls l ((j + 1 : Nat) : Int) fin σ).mono ?_
      rintro v σ ⟨rfl, rfl⟩
      simp only [am, amo, amc, Nat.reduceAdd, Nat.reduceEqDiff, encs_length, List.length_map, decide_true, decide_false, Tree.rec_, Nd.rec_, Word.rec_, Got.rec_, Int.reduceEq, Int.reduceLT, Int.reduceLE, Got.enc]
      refine retK_intro rfl (Store.sub_refl _) ⟨?_, rfl⟩
      simp [V.erase, eraseL, Got.enc, fieldG, h97, h61', e]
    · have h61' : isK l ((j : Int) + 1) 61 = true := h61
      have hres : fieldG n l (j : Nat) fin = (atomG n l ((j + 2 : Nat) : Int) fin).put fun m => .mk 11 t0.tok.pos t0.tok.text [] [m] := by
        have e : ((j + 2 : Nat) : Int) = (j : Int) + 2 := rfl
        simp [fieldG, h97, h61', htk, e]
      simp only [am, amo, amc, Nat.reduceAdd, Nat.reduceEqDiff, encs_length, List.length_map, decide_true, decide_false, Tree.rec_, Nd.rec_, Word.rec_, Got.rec_, Int.reduceEq, Int.reduceLT, Int.reduceLE, w2 j (by omega)]
      refine (one5_calls (label_ref_calls n l hn hm) ((j + 2 : Nat) : Int) fin σ).mono ?_
      rintro v σ ⟨rfl, rfl⟩
      generalize atomG n l ((j + 2 : Nat) : Int) fin = g at hres ⊢
      simp only [am, amo, amc, Nat.reduceAdd, Nat.reduceEqDiff, encs_length, List.length_map, decide_true, decide_false, Tree.rec_, Nd.rec_, Word.rec_, Got.rec_, Int.reduceEq, Int.reduceLT, Int.reduceLE, Got.enc]
      cases hbad : g.bad
      · simp only [am, amo, amc, Nat.reduceAdd, Nat.reduceEqDiff, encs_length, List.length_map, decide_true, decide_false, Tree.rec_, Nd.rec_, Word.rec_, Got.rec_, Int.reduceEq, Int.reduceLT, Int.reduceLE]
        refine idxL_intro (by omega) (encs_at hj0) ?_
        simp only [am, amo, amc, Nat.reduceAdd, Nat.reduceEqDiff, encs_length, List.length_map, decide_true, decide_false, Tree.rec_, Nd.rec_, Word.rec_, Got.rec_, Int.reduceEq, Int.reduceLT, Int.reduceLE, Tree.fl]
        refine idxL_intro (by omega) (encs_at hj0) ?_
        simp only [am, amo, amc, Nat.reduceAdd, Nat.reduceEqDiff, encs_length, List.length_map, decide_true, decide_false, Tree.rec_, Nd.rec_, Word.rec_, Got.rec_, Int.reduceEq, Int.reduceLT, Int.reduceLE, Tree.fl]
        refine retK_intro rfl (Store.sub_refl _) ⟨?_, rfl⟩
        simp [V.erase, eraseL, hres, Got.put, hbad, Got.enc, Nd.kind, Nd.pos, Nd.text, Nd.names, Nd.kids, Nd.enc_eq]
      · simp only [am, amo, amc, Nat.reduceAdd, Nat.reduceEqDiff, encs_length, List.length_map, decide_true, decide_false, Tree.rec_, Nd.rec_, Word.rec_, Got.rec_, Int.reduceEq, Int.reduceLT, Int.reduceLE]
        refine retK_intro rfl (Store.sub_refl _) ⟨?_, rfl⟩
        simp [V.erase, eraseL, hres, Got.put, hbad, Got.enc]
theorem one4_calls {n : Nat} {l : List Tree} (hn : manys l ≤ n) (hm : manys l + 1 ≤ big) (a fin : Int) (σ : Store) : PCalls prog 97 [.int .i64 4, .sl .no 5 (encs l), .int .i64 a, .int .i64 fin] σ fun v σ' => v = .agg (fieldG n l a fin).enc ∧ σ' = σ := by
  refine fn97.calls ?_
  simp only [slots, ac97, am, amo, amc, ams, Nat.reduceAdd, Nat.reduceEqDiff, decide_true, decide_false, Tree.rec_, Nd.rec_, Word.rec_, Got.rec_, Int.reduceEq, Int.reduceLT, Int.reduceLE]
  refine (field_ref_calls n l hn hm a fin σ).mono ?_
  rintro v σ ⟨rfl, rfl⟩
  simp only [am, amo, amc, Nat.reduceAdd, Nat.reduceEqDiff, encs_length, List.length_map, decide_true, decide_false, Tree.rec_, Nd.rec_, Word.rec_, Got.rec_, Int.reduceEq, Int.reduceLT, Int.reduceLE, Got.enc]
  refine retK_intro rfl (Store.sub_refl _) ⟨?_, rfl⟩
  simp [V.erase, eraseL, Got.enc]
theorem row_ref_calls (n : Nat) (l : List Tree) (hn : manys l ≤ n) (hm : manys l + 1 ≤ big) (a fin : Int) (σ : Store) : PCalls prog 66 [.sl .no 5 (encs l), .int .i64 a, .int .i64 fin] σ fun v σ' => v = .agg (rowG n l a fin).enc ∧ σ' = σ := by
  have hlen := manys_ge l
  have w1 : ∀ j : Nat, j ≤ l.length → IntKind.i64.wrap ((j : Int) + 1) = ((j + 1 : Nat) : Int) := fun j hj => by simp only [big] at hm; rw [wrap_i64 (by omega) (by omega)]; simp
  refine fn66.calls ?_
  simp only [slots, ac66, am, amo, amc, ams, Nat.reduceAdd, Nat.reduceEqDiff, decide_true, decide_false, Tree.rec_, Nd.rec_, Word.rec_, Got.rec_, Int.reduceEq, Int.reduceLT, Int.reduceLE, Tree.fl]
  refine (is_calls l a 97 σ).mono ?_
  rintro v σ ⟨rfl, rfl⟩
  cases h97 : isK l a 97
  case' true =>
    simp only [am, amo, amc, Nat.reduceAdd, Nat.reduceEqDiff, encs_length, List.length_map, decide_true, decide_false, Tree.rec_, Nd.rec_, Word.rec_, Got.rec_, Int.reduceEq, Int.reduceLT, Int.reduceLE, Tree.fl]
    refine (label_ref_calls n l hn hm a fin σ).mono ?_
    rintro v σ ⟨rfl, rfl⟩
    simp only [am, amo, amc, Nat.reduceAdd, Nat.reduceEqDiff, encs_length, List.length_map, decide_true, decide_false, Tree.rec_, Nd.rec_, Word.rec_, Got.rec_, Int.reduceEq, Int.reduceLT, Int.reduceLE, Tree.fl, Got.enc]
    refine retK_intro rfl (Store.sub_refl _) ⟨?_, rfl⟩
    simp [V.erase, eraseL, Got.enc, rowG, h97]
  simp only [am, amo, amc, Nat.reduceAdd, Nat.reduceEqDiff, encs_length, List.length_map, decide_true, decide_false, Tree.rec_, Nd.rec_, Word.rec_, Got.rec_, Int.reduceEq, Int.reduceLT, Int.reduceLE, Tree.fl]
  refine (is_calls l a 91 σ).mono ?_
  rintro v σ ⟨rfl, rfl⟩
  cases h91 : isK l a 91
  · simp only [am, amo, amc, Nat.reduceAdd, Nat.reduceEqDiff, encs_length, List.length_map, decide_true, decide_false, Tree.rec_, Nd.rec_, Word.rec_, Got.rec_, Int.reduceEq, Int.reduceLT, Int.reduceLE, Tree.fl]
    refine (wrong_calls l a fin σ).mono ?_
    rintro v σ ⟨rfl, rfl⟩
    simp only [am, amo, amc, Nat.reduceAdd, Nat.reduceEqDiff, encs_length, List.length_map, decide_true, decide_false, Tree.rec_, Nd.rec_, Word.rec_, Got.rec_, Int.reduceEq, Int.reduceLT, Int.reduceLE, Tree.fl, Got.enc]
    refine retK_intro rfl (Store.sub_refl _) ⟨?_, rfl⟩
    simp [V.erase, eraseL, Got.enc, rowG, h97, h91]
  obtain ⟨j, t, rfl, hj, _, hl⟩ := isK_spec h91
  obtain ⟨ht, htk⟩ := tree_at hj
  have hk := kid_many hj
  have hkl := manys_ge t.kids
  have hres : rowG n l (j : Nat) fin = if 0 < t.kids.length ∧ isK t.kids 0 124 = false then (if (rowS n l (j : Nat)).2.bad = true then (rowS n l (j : Nat)).2 else rowG2 l (j : Nat) (rowS n l (j : Nat)).1 (rowS n l (j : Nat)).2.next) else rowG2 l (j : Nat) [] 0 := by simp [rowG, h97, h91, ht]
  simp only [am, amo, amc, Nat.reduceAdd, Nat.reduceEqDiff, encs_length, List.length_map, decide_true, decide_false, Tree.rec_, Nd.rec_, Word.rec_, Got.rec_, Int.reduceEq, Int.reduceLT, Int.reduceLE, Tree.fl]
  refine idxL_intro (by omega) (encs_at hj) ?_
  simp only [am, amo, amc, Nat.reduceAdd, Nat.reduceEqDiff, encs_length, List.length_map, decide_true, decide_false, Tree.rec_, Nd.rec_, Word.rec_, Got.rec_, Int.reduceEq, Int.reduceLT, Int.reduceLE, Tree.fl, Tree.fl]
  by_cases hpos : 0 < t.kids.length
  · simp only [am, amo, amc, Nat.reduceAdd, Nat.reduceEqDiff, encs_length, List.length_map, decide_true, decide_false, Tree.rec_, Nd.rec_, Word.rec_, Got.rec_, Int.reduceEq, Int.reduceLT, Int.reduceLE, Tree.fl, decide_eq_true (show (0 : Int) < t.kids.length by omega)]
    refine (is_calls t.kids 0 124 σ).mono ?_
    rintro v σ ⟨rfl, rfl⟩
    cases h0 : isK t.kids 0 124
    · rw [if_pos ⟨hpos, h0⟩] at hres
      simp only [am, amo, amc, Nat.reduceAdd, Nat.reduceEqDiff, encs_length, List.length_map, decide_true, decide_false, Tree.rec_, Nd.rec_, Word.rec_, Got.rec_, Int.reduceEq, Int.reduceLT, Int.reduceLE, Tree.fl]
      refine (someG_calls 4 (fieldG n) (adv_field n) t.kids t.fin σ (by omega) (fun a _ σ => one4_calls (by omega) (by omega) a t.fin σ)).mono ?_
      rintro v σ ⟨rfl, rfl⟩
      have hrs : rowS n l (j : Nat) = someAt (fun i => fieldG n t.kids i t.fin) t.kids (t.kids.length + 1) 0 [] := by unfold rowS; rw [ht]
      rw [hrs] at hres
      generalize someAt (fun i => fieldG n t.kids i t.fin) t.kids (t.kids.length + 1) 0 [] = R at hres ⊢
      simp only [am, amo, amc, Nat.reduceAdd, Nat.reduceEqDiff, encs_length, List.length_map, decide_true, decide_false, Tree.rec_, Nd.rec_, Word.rec_, Got.rec_, Int.reduceEq, Int.reduceLT, Int.reduceLE, Tree.fl, Got.enc]
      cases hbadR : R.2.bad
      · rw [hbadR] at hres
        simp only [Bool.false_eq_true, if_false] at hres
        simp only [am, amo, amc, Nat.reduceAdd, Nat.reduceEqDiff, encs_length, List.length_map, decide_true, decide_false, Tree.rec_, Nd.rec_, Word.rec_, Got.rec_, Int.reduceEq, Int.reduceLT, Int.reduceLE, Tree.fl]
        have hres : rowG n l (j : Nat) fin = rowG2 l (j : Nat) R.1 R.2.next := hres
        refine (is_calls t.kids R.2.next 124 σ).mono ?_
        rintro v σ ⟨rfl, rfl⟩
        cases h124 : isK t.kids R.2.next 124
        · simp only [am, amo, amc, Nat.reduceAdd, Nat.reduceEqDiff, encs_length, List.length_map, decide_true, decide_false, Tree.rec_, Nd.rec_, Word.rec_, Got.rec_, Int.reduceEq, Int.reduceLT, Int.reduceLE, Tree.fl]
          by_cases hend : (R.2.next : Int) < t.kids.length
          · simp only [am, amo, amc, Nat.reduceAdd, Nat.reduceEqDiff, encs_length, List.length_map, decide_true, decide_false, Tree.rec_, Nd.rec_, Word.rec_, Got.rec_, Int.reduceEq, Int.reduceLT, Int.reduceLE, Tree.fl, decide_eq_true hend]
            refine (wrong_calls t.kids R.2.next t.fin σ).mono ?_
            rintro v σ ⟨rfl, rfl⟩
            simp only [am, amo, amc, Nat.reduceAdd, Nat.reduceEqDiff, encs_length, List.length_map, decide_true, decide_false, Tree.rec_, Nd.rec_, Word.rec_, Got.rec_, Int.reduceEq, Int.reduceLT, Int.reduceLE, Tree.fl, Got.enc]
            unfold rowG2 at hres; rw [ht, if_neg (by simp [h124])] at hres; unfold rowG3 at hres; rw [ht, if_pos hend] at hres
            refine retK_intro rfl (Store.sub_refl _) ⟨?_, rfl⟩
            simp [V.erase, eraseL, hres, Got.enc]
          · simp only [am, amo, amc, Nat.reduceAdd, Nat.reduceEqDiff, encs_length, List.length_map, decide_true, decide_false, Tree.rec_, Nd.rec_, Word.rec_, Got.rec_, Int.reduceEq, Int.reduceLT, Int.reduceLE, Tree.fl, decide_eq_false hend, w1 j (by omega)]
            unfold rowG2 at hres; rw [ht, if_neg (by simp [h124])] at hres; unfold rowG3 at hres; rw [ht, if_neg hend] at hres
            refine retK_intro rfl (Store.sub_refl _) ⟨?_, rfl⟩
            simp [V.erase, eraseL, hres, htk, Got.enc, Nd.kind, Nd.pos, Nd.text, Nd.names, Nd.kids]
        · obtain ⟨b, tb, hb, hjb, _, hlb⟩ := isK_spec h124
          have w2 : IntKind.i64.wrap ((R.2.next : Int) + 1) = ((b + 1 : Nat) : Int) := by simp only [big] at hm; rw [hb, wrap_i64 (by omega) (by omega)]; simp
          have e2 : nameAt t.kids ((R.2.next : Int) + 1) t.fin = nameAt t.kids ((b + 1 : Nat) : Int) t.fin := by rw [hb]; rfl
          simp only [am, amo, amc, Nat.reduceAdd, Nat.reduceEqDiff, encs_length, List.length_map, decide_true, decide_false, Tree.rec_, Nd.rec_, Word.rec_, Got.rec_, Int.reduceEq, Int.reduceLT, Int.reduceLE, Tree.fl, w2]
          refine (name_calls t.kids ((b + 1 : Nat) : Int) t.fin σ (by omega)).mono ?_
          rintro v σ ⟨rfl, rfl⟩
          have hres : rowG n l (j : Nat) fin = if (nameAt t.kids ((b + 1 : Nat) : Int) t.fin).bad = true then nameAt t.kids ((b + 1 : Nat) : Int) t.fin else rowG3 l (j : Nat) R.1 (wordsOf [(nameAt t.kids ((b + 1 : Nat) : Int) t.fin).node]) (nameAt t.kids ((b + 1 : Nat) : Int) t.fin).next := by rw [hres]; simp only [rowG2, ht, h124, if_true, e2]
          generalize nameAt t.kids ((b + 1 : Nat) : Int) t.fin = g at hres ⊢
          simp only [am, amo, amc, Nat.reduceAdd, Nat.reduceEqDiff, encs_length, List.length_map, decide_true, decide_false, Tree.rec_, Nd.rec_, Word.rec_, Got.rec_, Int.reduceEq, Int.reduceLT, Int.reduceLE, Tree.fl, Got.enc]
          cases hbad : g.bad
          · rw [hbad] at hres
            simp only [Bool.false_eq_true, if_false] at hres
            simp only [am, amo, amc, Nat.reduceAdd, Nat.reduceEqDiff, encs_length, List.length_map, decide_true, decide_false, Tree.rec_, Nd.rec_, Word.rec_, Got.rec_, Int.reduceEq, Int.reduceLT, Int.reduceLE, Tree.fl]
            refine ((names_ref_calls [g.node] σ (by simp [big])).weak (by simp [am, Nd.enc_eq]) OLe.rfl).mono ?_
            rintro v σ ⟨rfl, rfl⟩
            simp only [am, amo, amc, Nat.reduceAdd, Nat.reduceEqDiff, encs_length, List.length_map, decide_true, decide_false, Tree.rec_, Nd.rec_, Word.rec_, Got.rec_, Int.reduceEq, Int.reduceLT, Int.reduceLE, Tree.fl]
            by_cases hend : g.next < t.kids.length
            · simp only [am, amo, amc, Nat.reduceAdd, Nat.reduceEqDiff, encs_length, List.length_map, decide_true, decide_false, Tree.rec_, Nd.rec_, Word.rec_, Got.rec_, Int.reduceEq, Int.reduceLT, Int.reduceLE, Tree.fl, decide_eq_true hend]
              refine (wrong_calls t.kids g.next t.fin σ).mono ?_
              rintro v σ ⟨rfl, rfl⟩
              simp only [am, amo, amc, Nat.reduceAdd, Nat.reduceEqDiff, encs_length, List.length_map, decide_true, decide_false, Tree.rec_, Nd.rec_, Word.rec_, Got.rec_, Int.reduceEq, Int.reduceLT, Int.reduceLE, Tree.fl, Got.enc]
              refine retK_intro rfl (Store.sub_refl _) ⟨?_, rfl⟩
              simp [V.erase, eraseL, hres, rowG3, ht, hend, Got.enc]
            · simp only [am, amo, amc, Nat.reduceAdd, Nat.reduceEqDiff, encs_length, List.length_map, decide_true, decide_false, Tree.rec_, Nd.rec_, Word.rec_, Got.rec_, Int.reduceEq, Int.reduceLT, Int.reduceLE, Tree.fl, decide_eq_false hend, w1 j (by omega)]
              refine retK_intro rfl (Store.sub_refl _) ⟨?_, rfl⟩
              simp [V.erase, eraseL, hres, rowG3, ht, hend, htk, Got.enc, Nd.kind, Nd.pos, Nd.text, Nd.names, Nd.kids]
          · rw [hbad] at hres
            simp only [am, amo, amc, Nat.reduceAdd, Nat.reduceEqDiff, encs_length, List.length_map, decide_true, decide_false, Tree.rec_, Nd.rec_, Word.rec_, Got.rec_, Int.reduceEq, Int.reduceLT, Int.reduceLE, Tree.fl]
            refine retK_intro rfl (Store.sub_refl _) ⟨?_, rfl⟩
            simp [V.erase, eraseL, hres, hbad, Got.enc]
      · rw [hbadR] at hres
        simp only [am, amo, amc, Nat.reduceAdd, Nat.reduceEqDiff, encs_length, List.length_map, decide_true, decide_false, Tree.rec_, Nd.rec_, Word.rec_, Got.rec_, Int.reduceEq, Int.reduceLT, Int.reduceLE, Tree.fl]
        refine retK_intro rfl (Store.sub_refl _) ⟨?_, rfl⟩
        simp [V.erase, eraseL, hres, hbadR, Got.enc]
    · rw [if_neg (by simp [h0])] at hres
      simp only [am, amo, amc, Nat.reduceAdd, Nat.reduceEqDiff, encs_length, List.length_map, decide_true, decide_false, Tree.rec_, Nd.rec_, Word.rec_, Got.rec_, Int.reduceEq, Int.reduceLT, Int.reduceLE, Tree.fl]
      have hres : rowG n l (j : Nat) fin = rowG2 l (j : Nat) [] 0 := hres
      refine (is_calls t.kids 0 124 σ).mono ?_
      rintro v σ ⟨rfl, rfl⟩
      cases h124 : isK t.kids 0 124
      · simp only [am, amo, amc, Nat.reduceAdd, Nat.reduceEqDiff, encs_length, List.length_map, decide_true, decide_false, Tree.rec_, Nd.rec_, Word.rec_, Got.rec_, Int.reduceEq, Int.reduceLT, Int.reduceLE, Tree.fl]
        by_cases hend : (0 : Int) < t.kids.length
        · simp only [am, amo, amc, Nat.reduceAdd, Nat.reduceEqDiff, encs_length, List.length_map, decide_true, decide_false, Tree.rec_, Nd.rec_, Word.rec_, Got.rec_, Int.reduceEq, Int.reduceLT, Int.reduceLE, Tree.fl, decide_eq_true hend]
          refine (wrong_calls t.kids 0 t.fin σ).mono ?_
          rintro v σ ⟨rfl, rfl⟩
          simp only [am, amo, amc, Nat.reduceAdd, Nat.reduceEqDiff, encs_length, List.length_map, decide_true, decide_false, Tree.rec_, Nd.rec_, Word.rec_, Got.rec_, Int.reduceEq, Int.reduceLT, Int.reduceLE, Tree.fl, Got.enc]
          unfold rowG2 at hres; rw [ht, if_neg (by simp [h124])] at hres; unfold rowG3 at hres; rw [ht, if_pos hend] at hres
          refine retK_intro rfl (Store.sub_refl _) ⟨?_, rfl⟩
          simp [V.erase, eraseL, hres, Got.enc]
        · simp only [am, amo, amc, Nat.reduceAdd, Nat.reduceEqDiff, encs_length, List.length_map, decide_true, decide_false, Tree.rec_, Nd.rec_, Word.rec_, Got.rec_, Int.reduceEq, Int.reduceLT, Int.reduceLE, Tree.fl, decide_eq_false hend, w1 j (by omega)]
          unfold rowG2 at hres; rw [ht, if_neg (by simp [h124])] at hres; unfold rowG3 at hres; rw [ht, if_neg hend] at hres
          refine retK_intro rfl (Store.sub_refl _) ⟨?_, rfl⟩
          simp [V.erase, eraseL, hres, htk, Got.enc, Nd.kind, Nd.pos, Nd.text, Nd.names, Nd.kids]
      · obtain ⟨b, tb, hb, hjb, _, hlb⟩ := isK_spec h124
        have w2 : IntKind.i64.wrap ((0 : Int) + 1) = ((b + 1 : Nat) : Int) := by simp only [big] at hm; rw [hb, wrap_i64 (by omega) (by omega)]; simp
        have e2 : nameAt t.kids ((0 : Int) + 1) t.fin = nameAt t.kids ((b + 1 : Nat) : Int) t.fin := by rw [hb]; rfl
        simp only [am, amo, amc, Nat.reduceAdd, Nat.reduceEqDiff, encs_length, List.length_map, decide_true, decide_false, Tree.rec_, Nd.rec_, Word.rec_, Got.rec_, Int.reduceEq, Int.reduceLT, Int.reduceLE, Tree.fl, w2]
        refine (name_calls t.kids ((b + 1 : Nat) : Int) t.fin σ (by omega)).mono ?_
        rintro v σ ⟨rfl, rfl⟩
        have hres : rowG n l (j : Nat) fin = if (nameAt t.kids ((b + 1 : Nat) : Int) t.fin).bad = true then nameAt t.kids ((b + 1 : Nat) : Int) t.fin else rowG3 l (j : Nat) [] (wordsOf [(nameAt t.kids ((b + 1 : Nat) : Int) t.fin).node]) (nameAt t.kids ((b + 1 : Nat) : Int) t.fin).next := by rw [hres]; simp only [rowG2, ht, h124, if_true, e2]
        generalize nameAt t.kids ((b + 1 : Nat) : Int) t.fin = g at hres ⊢
        simp only [am, amo, amc, Nat.reduceAdd, Nat.reduceEqDiff, encs_length, List.length_map, decide_true, decide_false, Tree.rec_, Nd.rec_, Word.rec_, Got.rec_, Int.reduceEq, Int.reduceLT, Int.reduceLE, Tree.fl, Got.enc]
        cases hbad : g.bad
        · rw [hbad] at hres
          simp only [Bool.false_eq_true, if_false] at hres
          simp only [am, amo, amc, Nat.reduceAdd, Nat.reduceEqDiff, encs_length, List.length_map, decide_true, decide_false, Tree.rec_, Nd.rec_, Word.rec_, Got.rec_, Int.reduceEq, Int.reduceLT, Int.reduceLE, Tree.fl]
          refine ((names_ref_calls [g.node] σ (by simp [big])).weak (by simp [am, Nd.enc_eq]) OLe.rfl).mono ?_
          rintro v σ ⟨rfl, rfl⟩
          simp only [am, amo, amc, Nat.reduceAdd, Nat.reduceEqDiff, encs_length, List.length_map, decide_true, decide_false, Tree.rec_, Nd.rec_, Word.rec_, Got.rec_, Int.reduceEq, Int.reduceLT, Int.reduceLE, Tree.fl]
          by_cases hend : g.next < t.kids.length
          · simp only [am, amo, amc, Nat.reduceAdd, Nat.reduceEqDiff, encs_length, List.length_map, decide_true, decide_false, Tree.rec_, Nd.rec_, Word.rec_, Got.rec_, Int.reduceEq, Int.reduceLT, Int.reduceLE, Tree.fl, decide_eq_true hend]
            refine (wrong_calls t.kids g.next t.fin σ).mono ?_
            rintro v σ ⟨rfl, rfl⟩
            simp only [am, amo, amc, Nat.reduceAdd, Nat.reduceEqDiff, encs_length, List.length_map, decide_true, decide_false, Tree.rec_, Nd.rec_, Word.rec_, Got.rec_, Int.reduceEq, Int.reduceLT, Int.reduceLE, Tree.fl, Got.enc]
            refine retK_intro rfl (Store.sub_refl _) ⟨?_, rfl⟩
            simp [V.erase, eraseL, hres, rowG3, ht, hend, Got.enc]
          · simp only [am, amo, amc, Nat.reduceAdd, Nat.reduceEqDiff, encs_length, List.length_map, decide_true, decide_false, Tree.rec_, Nd.rec_, Word.rec_, Got.rec_, Int.reduceEq, Int.reduceLT, Int.reduceLE, Tree.fl, decide_eq_false hend, w1 j (by omega)]
            refine retK_intro rfl (Store.sub_refl _) ⟨?_, rfl⟩
            simp [V.erase, eraseL, hres, rowG3, ht, hend, htk, Got.enc, Nd.kind, Nd.pos, Nd.text, Nd.names, Nd.kids]
        · rw [hbad] at hres
          simp only [am, amo, amc, Nat.reduceAdd, Nat.reduceEqDiff, encs_length, List.length_map, decide_true, decide_false, Tree.rec_, Nd.rec_, Word.rec_, Got.rec_, Int.reduceEq, Int.reduceLT, Int.reduceLE, Tree.fl]
          refine retK_intro rfl (Store.sub_refl _) ⟨?_, rfl⟩
          simp [V.erase, eraseL, hres, hbad, Got.enc]
  · rw [if_neg (fun h => hpos h.1)] at hres
    simp only [am, amo, amc, Nat.reduceAdd, Nat.reduceEqDiff, encs_length, List.length_map, decide_true, decide_false, Tree.rec_, Nd.rec_, Word.rec_, Got.rec_, Int.reduceEq, Int.reduceLT, Int.reduceLE, Tree.fl, decide_eq_false (show ¬ (0 : Int) < t.kids.length by omega)]
    have hres : rowG n l (j : Nat) fin = rowG2 l (j : Nat) [] 0 := hres
    refine (is_calls t.kids 0 124 σ).mono ?_
    rintro v σ ⟨rfl, rfl⟩
    cases h124 : isK t.kids 0 124
    · simp only [am, amo, amc, Nat.reduceAdd, Nat.reduceEqDiff, encs_length, List.length_map, decide_true, decide_false, Tree.rec_, Nd.rec_, Word.rec_, Got.rec_, Int.reduceEq, Int.reduceLT, Int.reduceLE, Tree.fl]
      by_cases hend : (0 : Int) < t.kids.length
      · simp only [am, amo, amc, Nat.reduceAdd, Nat.reduceEqDiff, encs_length, List.length_map, decide_true, decide_false, Tree.rec_, Nd.rec_, Word.rec_, Got.rec_, Int.reduceEq, Int.reduceLT, Int.reduceLE, Tree.fl, decide_eq_true hend]
        refine (wrong_calls t.kids 0 t.fin σ).mono ?_
        rintro v σ ⟨rfl, rfl⟩
        simp only [am, amo, amc, Nat.reduceAdd, Nat.reduceEqDiff, encs_length, List.length_map, decide_true, decide_false, Tree.rec_, Nd.rec_, Word.rec_, Got.rec_, Int.reduceEq, Int.reduceLT, Int.reduceLE, Tree.fl, Got.enc]
        unfold rowG2 at hres; rw [ht, if_neg (by simp [h124])] at hres; unfold rowG3 at hres; rw [ht, if_pos hend] at hres
        refine retK_intro rfl (Store.sub_refl _) ⟨?_, rfl⟩
        simp [V.erase, eraseL, hres, Got.enc]
      · simp only [am, amo, amc, Nat.reduceAdd, Nat.reduceEqDiff, encs_length, List.length_map, decide_true, decide_false, Tree.rec_, Nd.rec_, Word.rec_, Got.rec_, Int.reduceEq, Int.reduceLT, Int.reduceLE, Tree.fl, decide_eq_false hend, w1 j (by omega)]
        unfold rowG2 at hres; rw [ht, if_neg (by simp [h124])] at hres; unfold rowG3 at hres; rw [ht, if_neg hend] at hres
        refine retK_intro rfl (Store.sub_refl _) ⟨?_, rfl⟩
        simp [V.erase, eraseL, hres, htk, Got.enc, Nd.kind, Nd.pos, Nd.text, Nd.names, Nd.kids]
    · obtain ⟨b, tb, hb, hjb, _, hlb⟩ := isK_spec h124
      have w2 : IntKind.i64.wrap ((0 : Int) + 1) = ((b + 1 : Nat) : Int) := by simp only [big] at hm; rw [hb, wrap_i64 (by omega) (by omega)]; simp
      have e2 : nameAt t.kids ((0 : Int) + 1) t.fin = nameAt t.kids ((b + 1 : Nat) : Int) t.fin := by rw [hb]; rfl
      simp only [am, amo, amc, Nat.reduceAdd, Nat.reduceEqDiff, encs_length, List.length_map, decide_true, decide_false, Tree.rec_, Nd.rec_, Word.rec_, Got.rec_, Int.reduceEq, Int.reduceLT, Int.reduceLE, Tree.fl, w2]
      refine (name_calls t.kids ((b + 1 : Nat) : Int) t.fin σ (by omega)).mono ?_
      rintro v σ ⟨rfl, rfl⟩
      have hres : rowG n l (j : Nat) fin = if (nameAt t.kids ((b + 1 : Nat) : Int) t.fin).bad = true then nameAt t.kids ((b + 1 : Nat) : Int) t.fin else rowG3 l (j : Nat) [] (wordsOf [(nameAt t.kids ((b + 1 : Nat) : Int) t.fin).node]) (nameAt t.kids ((b + 1 : Nat) : Int) t.fin).next := by rw [hres]; simp only [rowG2, ht, h124, if_true, e2]
      generalize nameAt t.kids ((b + 1 : Nat) : Int) t.fin = g at hres ⊢
      simp only [am, amo, amc, Nat.reduceAdd, Nat.reduceEqDiff, encs_length, List.length_map, decide_true, decide_false, Tree.rec_, Nd.rec_, Word.rec_, Got.rec_, Int.reduceEq, Int.reduceLT, Int.reduceLE, Tree.fl, Got.enc]
      cases hbad : g.bad
      · rw [hbad] at hres
        simp only [Bool.false_eq_true, if_false] at hres
        simp only [am, amo, amc, Nat.reduceAdd, Nat.reduceEqDiff, encs_length, List.length_map, decide_true, decide_false, Tree.rec_, Nd.rec_, Word.rec_, Got.rec_, Int.reduceEq, Int.reduceLT, Int.reduceLE, Tree.fl]
        refine ((names_ref_calls [g.node] σ (by simp [big])).weak (by simp [am, Nd.enc_eq]) OLe.rfl).mono ?_
        rintro v σ ⟨rfl, rfl⟩
        simp only [am, amo, amc, Nat.reduceAdd, Nat.reduceEqDiff, encs_length, List.length_map, decide_true, decide_false, Tree.rec_, Nd.rec_, Word.rec_, Got.rec_, Int.reduceEq, Int.reduceLT, Int.reduceLE, Tree.fl]
        by_cases hend : g.next < t.kids.length
        · simp only [am, amo, amc, Nat.reduceAdd, Nat.reduceEqDiff, encs_length, List.length_map, decide_true, decide_false, Tree.rec_, Nd.rec_, Word.rec_, Got.rec_, Int.reduceEq, Int.reduceLT, Int.reduceLE, Tree.fl, decide_eq_true hend]
          refine (wrong_calls t.kids g.next t.fin σ).mono ?_
          rintro v σ ⟨rfl, rfl⟩
          simp only [am, amo, amc, Nat.reduceAdd, Nat.reduceEqDiff, encs_length, List.length_map, decide_true, decide_false, Tree.rec_, Nd.rec_, Word.rec_, Got.rec_, Int.reduceEq, Int.reduceLT, Int.reduceLE, Tree.fl, Got.enc]
          refine retK_intro rfl (Store.sub_refl _) ⟨?_, rfl⟩
          simp [V.erase, eraseL, hres, rowG3, ht, hend, Got.enc]
        · simp only [am, amo, amc, Nat.reduceAdd, Nat.reduceEqDiff, encs_length, List.length_map, decide_true, decide_false, Tree.rec_, Nd.rec_, Word.rec_, Got.rec_, Int.reduceEq, Int.reduceLT, Int.reduceLE, Tree.fl, decide_eq_false hend, w1 j (by omega)]
          refine retK_intro rfl (Store.sub_refl _) ⟨?_, rfl⟩
          simp [V.erase, eraseL, hres, rowG3, ht, hend, htk, Got.enc, Nd.kind, Nd.pos, Nd.text, Nd.names, Nd.kids]
      · rw [hbad] at hres
        simp only [am, amo, amc, Nat.reduceAdd, Nat.reduceEqDiff, encs_length, List.length_map, decide_true, decide_false, Tree.rec_, Nd.rec_, Word.rec_, Got.rec_, Int.reduceEq, Int.reduceLT, Int.reduceLE, Tree.fl]
        refine retK_intro rfl (Store.sub_refl _) ⟨?_, rfl⟩
        simp [V.erase, eraseL, hres, hbad, Got.enc]
end Go.Proofs.Tryd

namespace Go.Proofs.Tryd
open Go.Am
set_option maxRecDepth 4000
set_option maxHeartbeats 4000000
def ac23 : AC := .seq (.reg [⟨(some 2), .mv (.c (.str [])), none⟩])
 (.seq (.reg [⟨(some 4), .bslice 1 [(.c (.str [])), (.c (.str [99, 104, 97, 105, 110])), (.c (.str [112, 111, 119, 101, 114])), (.c (.str [112, 114, 111, 100, 117, 99, 116])), (.c (.str [103, 114, 105, 100])), (.c (.str [116, 97, 98, 108, 101])), (.c (.str [108, 97, 98, 101, 108])), (.c (.str [114, 111, 119])), (.c (.str [108, 101, 113])), (.c (.str [114, 111, 119, 101, 113])), (.c (.str [108, 97, 99, 107, 115])), (.c (.str [112, 117, 115, 104])), (.c (.str [112, 111, 112])), (.c (.str [99, 104, 101, 99, 107])), (.c (.str [99, 111, 114, 101])), (.c (.str [119, 104, 121]))], none⟩, xm 3 4])
 (.seq (.seq (.reg [xm 5 0, xB .lss 6 5 0, xm 7 6, xh 7 (xm 8 0), xh 7 (xm 9 3), xh 7 (xL 10 9), xh 7 (xb .geq 11 8 10), ⟨(some 12), .pick (.s 7) (.c (.bool true)) (.s 11), none⟩])
 (.cond (.s 12) (.seq (.reg [⟨(some 2), .mv (.c (.str [])), none⟩])
 (.ret))
 (.skip)))
 (.seq (.reg [xm 13 3, xm 14 0, xA 1 15 13 14, xo 16 15, xm 2 16])
 (.ret))))
theorem fn23 : IsFn prog 23 ac23 [.tmp 2] 17 := ⟨f23, ⟨[], []⟩, func23, by kernel_rfl, by kernel_rfl, by kernel_rfl, by kernel_rfl⟩
def ac24 : AC := .seq (.reg [⟨(some 2), .mv (.c (.str [])), none⟩])
 (.seq (.reg [⟨(some 4), .bslice 1 [(.c (.str [])), (.c (.str [110, 119])), (.c (.str [110, 119])), (.c (.str [110, 119])), (.c (.str [110, 119, 112])), (.c (.str [110, 119, 112])), (.c (.str [110, 119])), (.c (.str [110, 119])), (.c (.str [110, 116, 116])), (.c (.str [110, 114, 114])), (.c (.str [110, 102])), (.c (.str [])), (.c (.str [])), (.c (.str [])), (.c (.str [])), (.c (.str [110]))], none⟩, xm 3 4])
 (.seq (.seq (.reg [xm 5 0, xB .lss 6 5 0, xm 7 6, xh 7 (xm 8 0), xh 7 (xm 9 3), xh 7 (xL 10 9), xh 7 (xb .geq 11 8 10), ⟨(some 12), .pick (.s 7) (.c (.bool true)) (.s 11), none⟩])
 (.cond (.s 12) (.seq (.reg [⟨(some 2), .mv (.c (.str [])), none⟩])
 (.ret))
 (.skip)))
 (.seq (.reg [xm 13 3, xm 14 0, xA 1 15 13 14, xo 16 15, xm 2 16])
 (.ret))))
theorem fn24 : IsFn prog 24 ac24 [.tmp 2] 17 := ⟨f24, ⟨[], []⟩, func24, by kernel_rfl, by kernel_rfl, by kernel_rfl, by kernel_rfl⟩
def ac61 : AC := .seq (.reg [⟨(some 4), .mv (.c (.bool false)), none⟩])
 (.seq (.reg [xm 5 1, xm 6 0, xL 7 6, xb .lss 8 5 7, xm 9 8, xg 9 (xm 10 0), xg 9 (xm 11 1), xg 9 (xA 5 12 10 11), xg 9 (xf 0 13 12), xg 9 (xf 0 14 13), xg 9 (xo 15 14), xg 9 (xu .eql 16 15 97), ⟨(some 17), .pick (.s 9) (.s 16) (.c (.bool false)), none⟩, xm 4 17])
 (.ret))
theorem fn61 : IsFn prog 61 ac61 [.tmp 4] 18 := ⟨f61, ⟨[], []⟩, func61, by kernel_rfl, by kernel_rfl, by kernel_rfl, by kernel_rfl⟩
def ac62 : AC := .seq (.reg [xi 6 0])
 (.seq (.seq (.reg [xm 7 1, xm 8 0, xL 9 8, xb .lss 10 7 9])
 (.cond (.s 10) (.seq (.reg [xm 11 0, xm 12 1, xA 5 13 11 12, xf 0 14 13, xf 2 15 14, xo 16 15, xm 6 16])
 (.ret))
 (.skip)))
 (.seq (.reg [xm 17 2, xm 6 17])
 (.ret)))
theorem fn62 : IsFn prog 62 ac62 [.tmp 6] 18 := ⟨f62, ⟨[], []⟩, func62, by kernel_rfl, by kernel_rfl, by kernel_rfl, by kernel_rfl⟩
theorem form1_at {op : Int} (h0 : 0 ≤ op) (h1 : op < 16) : (formT.map fun p => [V.str p.1])[op.toNat]? = some [V.str (formOf op).1] := by
  have hl : op.toNat < formT.length := by simp [formT]; omega
  rw [List.getElem?_map, List.getElem?_eq_getElem hl]
  simp only [formOf, if_pos (show 0 ≤ op ∧ op < 16 from ⟨h0, h1⟩), List.getD, List.getElem?_eq_getElem hl, Option.map_some, Option.getD_some]
theorem form2_at {op : Int} (h0 : 0 ≤ op) (h1 : op < 16) : (formT.map fun p => [V.str p.2])[op.toNat]? = some [V.str (formOf op).2] := by
  have hl : op.toNat < formT.length := by simp [formT]; omega
  rw [List.getElem?_map, List.getElem?_eq_getElem hl]
  simp only [formOf, if_pos (show 0 ≤ op ∧ op < 16 from ⟨h0, h1⟩), List.getD, List.getElem?_eq_getElem hl, Option.map_some, Option.getD_some]
theorem Word12_calls (op : Int) (σ : Store) : PCalls prog 23 [.int .i64 op] σ fun v σ' => v = .str (formOf op).1 ∧ σ' = σ := by
  refine fn23.calls ?_
  simp only [slots, ac23, am, amo, amc, ams, Nat.reduceAdd, Nat.reduceEqDiff, decide_true, decide_false, Tree.rec_, Nd.rec_, Word.rec_, Got.rec_, Int.reduceEq, Int.reduceLT, Int.reduceLE, Nat.reduceLT]
  by_cases h0 : op < 0
  · simp only [am, amo, amc, Nat.reduceAdd, Nat.reduceEqDiff, encs_length, List.length_map, decide_true, decide_false, Tree.rec_, Nd.rec_, Word.rec_, Got.rec_, Int.reduceEq, Int.reduceLT, Int.reduceLE, Nat.reduceLT, decide_eq_true h0]
    refine retK_intro rfl (Store.sub_refl _) ⟨?_, rfl⟩
    simp [V.erase, eraseL, formOf, show ¬ (0 ≤ op ∧ op < 16) by omega]
  · simp only [am, amo, amc, Nat.reduceAdd, Nat.reduceEqDiff, encs_length, List.length_map, decide_true, decide_false, Tree.rec_, Nd.rec_, Word.rec_, Got.rec_, Int.reduceEq, Int.reduceLT, Int.reduceLE, Nat.reduceLT, decide_eq_false h0]
    by_cases h1 : 16 ≤ op
    · simp only [am, amo, amc, Nat.reduceAdd, Nat.reduceEqDiff, encs_length, List.length_map, decide_true, decide_false, Tree.rec_, Nd.rec_, Word.rec_, Got.rec_, Int.reduceEq, Int.reduceLT, Int.reduceLE, Nat.reduceLT, decide_eq_true (show ((16 : Nat) : Int) ≤ op from h1)]
      refine retK_intro rfl (Store.sub_refl _) ⟨?_, rfl⟩
      simp [V.erase, eraseL, formOf, show ¬ (0 ≤ op ∧ op < 16) by omega]
    · simp only [am, amo, amc, Nat.reduceAdd, Nat.reduceEqDiff, encs_length, List.length_map, decide_true, decide_false, Tree.rec_, Nd.rec_, Word.rec_, Got.rec_, Int.reduceEq, Int.reduceLT, Int.reduceLE, Nat.reduceLT, decide_eq_false (show ¬ ((16 : Nat) : Int) ≤ op from h1)]
      refine idxL_intro (by omega) (form1_at (by omega) (by omega)) ?_
      simp only [am, amo, amc, Nat.reduceAdd, Nat.reduceEqDiff, encs_length, List.length_map, decide_true, decide_false, Tree.rec_, Nd.rec_, Word.rec_, Got.rec_, Int.reduceEq, Int.reduceLT, Int.reduceLE, Nat.reduceLT]
      refine retK_intro rfl (Store.sub_refl _) ⟨?_, rfl⟩
      simp [V.erase, eraseL]
theorem letters_calls (op : Int) (σ : Store) : PCalls prog 24 [.int .i64 op] σ fun v σ' => v = .str (formOf op).2 ∧ σ' = σ := by
  refine fn24.calls ?_
  simp only [slots, ac24, am, amo, amc, ams, Nat.reduceAdd, Nat.reduceEqDiff, decide_true, decide_false, Tree.rec_, Nd.rec_, Word.rec_, Got.rec_, Int.reduceEq, Int.reduceLT, Int.reduceLE, Nat.reduceLT]
  by_cases h0 : op < 0
  · simp only [am, amo, amc, Nat.reduceAdd, Nat.reduceEqDiff, encs_length, List.length_map, decide_true, decide_false, Tree.rec_, Nd.rec_, Word.rec_, Got.rec_, Int.reduceEq, Int.reduceLT, Int.reduceLE, Nat.reduceLT, decide_eq_true h0]
    refine retK_intro rfl (Store.sub_refl _) ⟨?_, rfl⟩
    simp [V.erase, eraseL, formOf, show ¬ (0 ≤ op ∧ op < 16) by omega]
  · simp only [am, amo, amc, Nat.reduceAdd, Nat.reduceEqDiff, encs_length, List.length_map, decide_true, decide_false, Tree.rec_, Nd.rec_, Word.rec_, Got.rec_, Int.reduceEq, Int.reduceLT, Int.reduceLE, Nat.reduceLT, decide_eq_false h0]
    by_cases h1 : 16 ≤ op
    · simp only [am, amo, amc, Nat.reduceAdd, Nat.reduceEqDiff, encs_length, List.length_map, decide_true, decide_false, Tree.rec_, Nd.rec_, Word.rec_, Got.rec_, Int.reduceEq, Int.reduceLT, Int.reduceLE, Nat.reduceLT, decide_eq_true (show ((16 : Nat) : Int) ≤ op from h1)]
      refine retK_intro rfl (Store.sub_refl _) ⟨?_, rfl⟩
      simp [V.erase, eraseL, formOf, show ¬ (0 ≤ op ∧ op < 16) by omega]
    · simp only [am, amo, amc, Nat.reduceAdd, Nat.reduceEqDiff, encs_length, List.length_map, decide_true, decide_false, Tree.rec_, Nd.rec_, Word.rec_, Got.rec_, Int.reduceEq, Int.reduceLT, Int.reduceLE, Nat.reduceLT, decide_eq_false (show ¬ ((16 : Nat) : Int) ≤ op from h1)]
      refine idxL_intro (by omega) (form2_at (by omega) (by omega)) ?_
      simp only [am, amo, amc, Nat.reduceAdd, Nat.reduceEqDiff, encs_length, List.length_map, decide_true, decide_false, Tree.rec_, Nd.rec_, Word.rec_, Got.rec_, Int.reduceEq, Int.reduceLT, Int.reduceLE, Nat.reduceLT]
      refine retK_intro rfl (Store.sub_refl _) ⟨?_, rfl⟩
      simp [V.erase, eraseL]
theorem name12_calls (l : List Tree) (a : Nat) (σ : Store) : PCalls prog 61 [.sl .no 5 (encs l), .int .i64 (a : Nat)] σ fun v σ' => v = .bool (isK l (a : Nat) 97) ∧ σ' = σ := by
  refine fn61.calls ?_
  simp only [slots, ac61, am, amo, amc, ams, Nat.reduceAdd, Nat.reduceEqDiff, decide_true, decide_false, Tree.rec_, Nd.rec_, Word.rec_, Got.rec_, Int.reduceEq, Int.reduceLT, Int.reduceLE, Nat.reduceLT]
  by_cases h : a < l.length
  · simp only [am, amo, amc, Nat.reduceAdd, Nat.reduceEqDiff, encs_length, List.length_map, decide_true, decide_false, Tree.rec_, Nd.rec_, Word.rec_, Got.rec_, Int.reduceEq, Int.reduceLT, Int.reduceLE, Nat.reduceLT, decide_eq_true (show (a : Int) < l.length by omega)]
    refine idxL_intro (by omega) (encs_at (List.getElem?_eq_getElem h)) ?_
    simp only [am, amo, amc, Nat.reduceAdd, Nat.reduceEqDiff, encs_length, List.length_map, decide_true, decide_false, Tree.rec_, Nd.rec_, Word.rec_, Got.rec_, Int.reduceEq, Int.reduceLT, Int.reduceLE, Nat.reduceLT, Tree.fl]
    refine retK_intro rfl (Store.sub_refl _) ⟨?_, rfl⟩
    simp [V.erase, eraseL, isK, h]
  · simp only [am, amo, amc, Nat.reduceAdd, Nat.reduceEqDiff, encs_length, List.length_map, decide_true, decide_false, Tree.rec_, Nd.rec_, Word.rec_, Got.rec_, Int.reduceEq, Int.reduceLT, Int.reduceLE, Nat.reduceLT, decide_eq_false (show ¬ (a : Int) < l.length by omega)]
    refine retK_intro rfl (Store.sub_refl _) ⟨?_, rfl⟩
    simp [V.erase, eraseL, isK, List.getElem?_eq_none (show l.length ≤ a by omega)]
theorem place_calls (l : List Tree) (a : Nat) (fin : Int) (σ : Store) : PCalls prog 62 [.sl .no 5 (encs l), .int .i64 (a : Nat), .int .i64 fin] σ fun v σ' => v = .int .i64 (spotOf l (a : Nat) fin) ∧ σ' = σ := by
  refine fn62.calls ?_
  simp only [slots, ac62, am, amo, amc, ams, Nat.reduceAdd, Nat.reduceEqDiff, decide_true, decide_false, Tree.rec_, Nd.rec_, Word.rec_, Got.rec_, Int.reduceEq, Int.reduceLT, Int.reduceLE, Nat.reduceLT]
  by_cases h : a < l.length
  · simp only [am, amo, amc, Nat.reduceAdd, Nat.reduceEqDiff, encs_length, List.length_map, decide_true, decide_false, Tree.rec_, Nd.rec_, Word.rec_, Got.rec_, Int.reduceEq, Int.reduceLT, Int.reduceLE, Nat.reduceLT, decide_eq_true (show (a : Int) < l.length by omega)]
    refine idxL_intro (by omega) (encs_at (List.getElem?_eq_getElem h)) ?_
    simp only [am, amo, amc, Nat.reduceAdd, Nat.reduceEqDiff, encs_length, List.length_map, decide_true, decide_false, Tree.rec_, Nd.rec_, Word.rec_, Got.rec_, Int.reduceEq, Int.reduceLT, Int.reduceLE, Nat.reduceLT, Tree.fl]
    refine retK_intro rfl (Store.sub_refl _) ⟨?_, rfl⟩
    simp [V.erase, eraseL, spotOf, h]
  · simp only [am, amo, amc, Nat.reduceAdd, Nat.reduceEqDiff, encs_length, List.length_map, decide_true, decide_false, Tree.rec_, Nd.rec_, Word.rec_, Got.rec_, Int.reduceEq, Int.reduceLT, Int.reduceLE, Nat.reduceLT, decide_eq_false (show ¬ (a : Int) < l.length by omega)]
    refine retK_intro rfl (Store.sub_refl _) ⟨?_, rfl⟩
    simp [V.erase, eraseL, spotOf, List.getElem?_eq_none (show l.length ≤ a by omega)]
end Go.Proofs.Tryd
