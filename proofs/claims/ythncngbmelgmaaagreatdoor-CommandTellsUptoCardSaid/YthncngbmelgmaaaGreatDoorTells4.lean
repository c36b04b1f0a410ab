/-
  Part 4 of the proof of CommandTellsUptoCardSaid: a logic over the model, the forms of the functions that the law reaches, and what they compute.
-/
import Derived.Test.YthncngbmelgmaaaGreatDoorProg
import Derived.Test.YthncngbmelgmaaaGreatDoorTells3
set_option linter.unusedVariables false
set_option linter.unusedSimpArgs false
set_option linter.defProp false
set_option linter.unusedSectionVars false

namespace Go.Proofs.Tryz
open Go.Am
def ac87 : AC := .seq (.reg [⟨(some 2), .mv (.c (.bool false)), none⟩])
 (.seq (.reg [xm 3 0, xk 4 3, xf 3 5 4, xl 2 6 5, ⟨(some 7), .build [(.int .i64 0), (.int .i64 0)] [], none⟩, ⟨(some 8), .eqA false [1, 1] (.s 6) (.s 7), none⟩, xm 2 8])
 (.ret))
theorem fn87 : IsFn prog 87 ac87 [.tmp 2] 9 := ⟨f87, ⟨[], []⟩, func87, by kernel_rfl, by kernel_rfl, by kernel_rfl, by kernel_rfl⟩
def ac97 : AC := .seq (.reg [⟨(some 2), .alloc [(.str []), (.int .i64 0)], none⟩])
 (.seq (.reg [xm 4 0, xc 99 5 [.s 4, .c (.int .u8 97)], ⟨(some 3), .alloc [(.int .u8 0), (.str []), (.int .i64 0), (.sl .full 5 []), (.int .i64 0)], none⟩, xs 5 3 5])
 (.seq (.reg [xf 0 6 3, xf 1 7 6, xo 8 7, xf 0 9 3, xf 2 10 9, xo 11 10, ⟨(some 12), .build [(.str []), (.int .i64 0)] [(0, 1, (.s 8)), (1, 1, (.s 11))], none⟩, xs 2 2 12])
 (.ret)))
theorem fn97 : IsFn prog 97 ac97 [.cell 2 true 2] 13 := ⟨f97, ⟨[], []⟩, func97, by kernel_rfl, by kernel_rfl, by kernel_rfl, by kernel_rfl⟩
def ac98 : AC := .seq (.reg [⟨(some 4), .mv (.c (.bool false)), none⟩])
 (.seq (.draw [(xm 5 0, []), (xc 87 6 [.s 5], []), (xm 7 6, []), (xg 7 (xm 8 0), []), (xg 7 (xk 9 8), []), (xg 7 (xf 1 10 9), []), (xg 7 (xo 11 10), []), (xg 7 (xB .geq 12 11 0), []), (⟨(some 13), .pick (.s 7) (.s 12) (.c (.bool false)), none⟩, []), (xm 14 13, []), (xg 14 (xm 15 0), []), (xg 14 (xk 16 15), []), (xg 14 (xf 1 17 16), []), (xg 14 (xo 18 17), []), (xg 14 (xm 19 0), []), (xg 14 (xk 20 19), []), (xg 14 (xf 0 21 20), []), (xg 14 (xo 22 21), []), (xg 14 (xL 23 22), []), (xg 14 (xb .lss 24 18 23), []), (⟨(some 25), .pick (.s 14) (.s 24) (.c (.bool false)), none⟩, []), (xm 26 25, []), (xg 26 (xm 27 0), []), (xg 26 (xk 28 27), []), (xg 26 (xf 0 29 28), []), (xg 26 (xo 30 29), []), (xg 26 (xm 31 0), []), (xg 26 (xk 32 31), []), (xg 26 (xf 1 33 32), []), (xg 26 (xo 34 33), []), (xg 26 (xA 5 35 30 34), []), (xg 26 (xf 0 36 35), []), (xg 26 (xf 0 37 36), []), (xg 26 (xo 38 37), []), (xg 26 (xm 39 1), []), (xg 26 (xb .eql 40 38 39), []), (⟨(some 41), .pick (.s 26) (.s 40) (.c (.bool false)), none⟩, []), (xm 4 41, [])])
 (.ret))
theorem fn98 : IsFn prog 98 ac98 [.tmp 4] 42 := ⟨f98, ⟨[], []⟩, func98, by kernel_rfl, by kernel_rfl, by kernel_rfl, by kernel_rfl⟩
def ac99 : AC := .seq (.reg [⟨(some 4), .alloc [(.int .u8 0), (.str []), (.int .i64 0), (.sl .full 5 []), (.int .i64 0)], none⟩])
 (.seq (.seq (.reg [xm 5 0, xm 6 1, xc 98 7 [.s 5, .s 6], ⟨(some 8), .not (.s 7), none⟩])
 (.cond (.s 8) (.seq (.reg [xm 9 0, xc 105 10 [.s 9]])
 (.seq (.reg [⟨(some 11), .build [(.int .u8 0), (.str []), (.int .i64 0), (.sl .full 5 []), (.int .i64 0)] [], none⟩, xs 5 4 11])
 (.ret)))
 (.skip)))
 (.seq (.reg [xm 12 0, xk 13 12, xf 1 14 13, xo 15 14, xB .add 16 15 1, xk 17 12, xf 1 18 17, xs 1 18 16])
 (.seq (.draw [(xm 19 0, []), (xk 20 19, []), (xf 0 21 20, []), (xo 22 21, []), (xm 23 0, []), (xk 24 23, []), (xf 1 25 24, []), (xo 26 25, []), (xB .sub 27 26 1, []), (xA 5 28 22 27, []), (xl 5 29 28, []), (xs 5 4 29, [])])
 (.ret))))
theorem fn99 : IsFn prog 99 ac99 [.cell 4 true 5] 30 := ⟨f99, ⟨[], []⟩, func99, by kernel_rfl, by kernel_rfl, by kernel_rfl, by kernel_rfl⟩
def ac105 : AC := .seq (.seq (.reg [xm 2 0, xc 87 3 [.s 2], ⟨(some 4), .not (.s 3), none⟩])
 (.cond (.s 4) (.ret)
 (.skip)))
 (.seq (.reg [xm 5 0, xm 6 0, xk 7 6, xf 2 8 7, xo 9 8, ⟨(some 10), .build [(.int .i64 0), (.int .i64 0)] [(0, 1, (.c (.int .i64 2))), (1, 1, (.s 9))], none⟩, xk 11 5, xf 3 12 11, xs 2 12 10])
 (.seq (.draw [(xm 13 0, []), (xk 14 13, []), (xf 1 15 14, []), (xo 16 15, []), (xB .geq 17 16 0, []), (xm 18 17, []), (xg 18 (xm 19 0), []), (xg 18 (xk 20 19), []), (xg 18 (xf 1 21 20), []), (xg 18 (xo 22 21), []), (xg 18 (xm 23 0), []), (xg 18 (xk 24 23), []), (xg 18 (xf 0 25 24), []), (xg 18 (xo 26 25), []), (xg 18 (xL 27 26), []), (xg 18 (xb .lss 28 22 27), []), (⟨(some 29), .pick (.s 18) (.s 28) (.c (.bool false)), none⟩, [])])
 (.cond (.s 29) (.draw [(xm 30 0, []), (xm 31 0, []), (xk 32 31, []), (xf 0 33 32, []), (xo 34 33, []), (xm 35 0, []), (xk 36 35, []), (xf 1 37 36, []), (xo 38 37, []), (xA 5 39 34 38, []), (xf 0 40 39, []), (xf 2 41 40, []), (xo 42 41, []), (xk 43 30, []), (xf 3 44 43, []), (xf 1 45 44, []), (xs 1 45 42, [])])
 (.skip))))
theorem fn105 : IsFn prog 105 ac105 [] 46 := ⟨f105, ⟨[], []⟩, func105, by kernel_rfl, by kernel_rfl, by kernel_rfl, by kernel_rfl⟩
set_option maxRecDepth 4000
theorem ok_calls {r : Nat} {rd : Rdr} {σ : Store} (h : σ.box r = some rd.enc) : PCalls prog 87 [.ptr (.out r) 0] σ fun v σ' => v = .bool rd.ok ∧ σ' = σ := by
  refine fn87.calls ?_
  simp only [slots, ac87, ams, am, h, Rdr.enc]
  refine retK_intro rfl (Store.sub_refl _) ⟨?_, rfl⟩
  cases hb : rd.bad <;> simp [Rdr.ok, V.erase, hb, badC, badA]
theorem sees_calls {r : Nat} {rd : Rdr} {k : Int} {σ : Store} (h : σ.box r = some rd.enc) : PCalls prog 98 [.ptr (.out r) 0, .int .u8 k] σ fun v σ' => v = .bool (rd.sees k) ∧ σ' = σ := by
  refine fn98.calls ?_
  simp only [slots, ac98, ams, am]
  refine CallD.intro (ok_calls h) ?_
  simp only [am]
  cases hok : rd.ok
  · simp only [am]
    refine retK_intro rfl (Store.sub_refl _) ⟨?_, rfl⟩
    simp [Rdr.sees, hok, V.erase]
  · simp only [am, h, Rdr.enc]
    by_cases h0 : 0 ≤ rd.at_
    · simp only [am, h0, decide_true, h, Rdr.enc, encs_length]
      by_cases h1 : rd.at_ < rd.l.length
      · obtain ⟨j, hj⟩ := Int.eq_ofNat_of_zero_le h0
        have hj' : j < rd.l.length := by omega
        simp only [am, h1, decide_true, h, Rdr.enc]
        refine idxL_intro h0 (c := rd.l[j].enc) (by simp [encs_map, hj, hj']) ?_
        simp only [am, enc_eq]
        refine retK_intro rfl (Store.sub_refl _) ⟨?_, rfl⟩
        simp [Rdr.sees, isK, V.erase, hok, hj, hj']
      · simp only [am, h1, decide_false]
        refine retK_intro rfl (Store.sub_refl _) ⟨?_, rfl⟩
        have : rd.l[rd.at_.toNat]? = none := List.getElem?_eq_none (by omega)
        simp [Rdr.sees, isK, V.erase, this]
    · simp only [am, h0, decide_false]
      refine retK_intro rfl (Store.sub_refl _) ⟨?_, rfl⟩
      simp [Rdr.sees, isK, V.erase, h0]
theorem fail_calls {r : Nat} {rd : Rdr} {σ : Store} (h : σ.box r = some rd.enc) : PCalls prog 105 [.ptr (.out r) 0] σ fun v σ' => v = .tup [] ∧ σ' = σ.set r rd.fail.enc := by
  refine fn105.calls ?_
  simp only [slots, ac105, ams, am]
  refine (ok_calls h).mono ?_
  rintro v σ' ⟨rfl, rfl⟩
  cases hb : rd.bad with
  | some b =>
    simp only [am, Rdr.ok, hb, Option.isNone]
    refine retK_intro rfl (Store.sub_refl _) ⟨rfl, ?_⟩
    rw [Rdr.fail, hb]; exact (Store.set_id h).symm
  | none =>
    simp only [am, Rdr.ok, hb, Option.isNone, h, Rdr.enc, Nat.reduceAdd]
    by_cases h0 : 0 ≤ rd.at_
    · simp only [am, h0, decide_true, encs_length]
      by_cases h1 : rd.at_ < rd.l.length
      · obtain ⟨j, hj⟩ := Int.eq_ofNat_of_zero_le h0
        have hj' : j < rd.l.length := by omega
        simp only [am, h1, decide_true]
        refine idxL_intro h0 (c := rd.l[j].enc) (by simp [encs_map, hj, hj']) ?_
        simp only [am, enc_eq, Nat.reduceAdd]
        refine retK_intro rfl (Store.sub_refl _) ⟨rfl, ?_⟩
        simp [Rdr.fail, Rdr.spot, hb, hj, hj', Rdr.enc, badC, badA]
      · simp only [am, h1, decide_false]
        refine retK_intro rfl (Store.sub_refl _) ⟨rfl, ?_⟩
        have : rd.l[rd.at_.toNat]? = none := List.getElem?_eq_none (by omega)
        simp [Rdr.fail, Rdr.spot, hb, this, Rdr.enc, badC, badA]
    · simp only [am, h0, decide_false]
      refine retK_intro rfl (Store.sub_refl _) ⟨rfl, ?_⟩
      simp [Rdr.fail, Rdr.spot, hb, h0, Rdr.enc, badC, badA]
theorem take_calls {r : Nat} {rd : Rdr} {k : Int} {σ : Store} (h : σ.box r = some rd.enc) (hb : rd.l.length ≤ big) : PCalls prog 99 [.ptr (.out r) 0, .int .u8 k] σ fun v σ' => v = .agg (rd.take k).1.enc ∧ σ' = σ.set r (rd.take k).2.enc := by
  refine fn99.calls ?_
  simp only [slots, ac99, ams, am]
  refine (sees_calls h).mono ?_
  rintro v σ' ⟨rfl, rfl⟩
  cases hs : rd.sees k
  · simp only [am]
    refine (fail_calls h).mono ?_
    rintro v σ' ⟨rfl, rfl⟩
    simp only [am]
    refine retK_intro rfl (Store.sub_refl _) ⟨?_, ?_⟩
    · simp [Rdr.take, hs, V.erase, eraseL, Tree.zero, Tree.enc, encs]
    · simp [Rdr.take, hs]
  · have hs' := hs
    simp only [Rdr.sees, isK, Bool.and_eq_true, decide_eq_true_eq] at hs'
    obtain ⟨_, h0, hk⟩ := hs'
    have h1 : rd.at_.toNat < rd.l.length := by
      cases hq : rd.l[rd.at_.toNat]? with
      | none => rw [hq] at hk; simp at hk
      | some t => exact (List.getElem?_eq_some_iff.1 hq).1
    simp only [big] at hb
    simp only [am, h, Rdr.enc]
    rw [wrap_i64 (x := rd.at_ + 1) (by omega) (by omega), wrap_i64 (x := rd.at_ + 1 - 1) (by omega) (by omega)]
    refine idxL_intro (by omega) (c := rd.l[rd.at_.toNat].enc) (by rw [show (rd.at_ + 1 - 1).toNat = rd.at_.toNat by omega]; simp [encs_map, h1]) ?_
    simp only [am, enc_eq]
    refine retK_intro rfl (Store.sub_refl _) ⟨?_, ?_⟩
    · simp [Rdr.take, hs, V.erase, eraseL, h1, List.getD]
    · simp [Rdr.take, hs, Rdr.enc]
theorem word_calls {r : Nat} {rd : Rdr} {σ : Store} (h : σ.box r = some rd.enc) (hb : rd.l.length ≤ big) : PCalls prog 97 [.ptr (.out r) 0] σ fun v σ' => v = .agg rd.word.1.enc ∧ σ' = σ.set r rd.word.2.enc := by
  refine fn97.calls ?_
  simp only [slots, ac97, ams, am]
  refine (take_calls h hb).mono ?_
  rintro v σ' ⟨rfl, rfl⟩
  simp only [am, enc_eq, Nat.reduceAdd]
  refine retK_intro rfl (Store.sub_refl _) ⟨?_, ?_⟩
  · simp [Rdr.word, V.erase, eraseL, Word.enc]
  · simp [Rdr.word]
end Go.Proofs.Tryz

namespace Go.Proofs.Tryz
open Go.Am
def ac95 : AC := .seq (.reg [xm 4 1, ⟨(some 5), .callv (.s 4) [], none⟩])
 (.block 0 (.loop (.seq (.seq (.reg [xm 6 0, xc 98 7 [.s 6, .c (.int .u8 44)]])
 (.cond (.s 7) (.skip)
 (.exit 0)))
 (.block 1 (.seq (.reg [xm 8 0, xc 99 9 [.s 8, .c (.int .u8 44)]])
 (.reg [xm 10 1, ⟨(some 11), .callv (.s 10) [], none⟩]))))))
theorem fn95 : IsFn prog 95 ac95 [] 12 := ⟨f95, ⟨[], []⟩, func95, by kernel_rfl, by kernel_rfl, by kernel_rfl, by kernel_rfl⟩
set_option maxRecDepth 4000
structure Sys (α : Type) where
  F : α → Store
  rd : α → Rdr
  set : α → Rdr → α
  step : α → α
def Sys.go {α : Type} (S : Sys α) : Nat → α → α
  | 0, a => a
  | n + 1, a => if (S.rd a).sees 44 then S.go n (S.step (S.set a ((S.rd a).take 44).2)) else a
theorem sees_spec {rd : Rdr} {k : Int} (h : rd.sees k = true) : rd.bad = none ∧ 0 ≤ rd.at_ ∧ rd.at_ < rd.l.length := by
  simp only [Rdr.sees, Rdr.ok, isK, Bool.and_eq_true, decide_eq_true_eq, Option.isNone_iff_eq_none] at h
  obtain ⟨h1, h0, hk⟩ := h
  refine ⟨h1, h0, ?_⟩
  cases hq : rd.l[rd.at_.toNat]? with
  | none => rw [hq] at hk; simp at hk
  | some t => have := (List.getElem?_eq_some_iff.1 hq).1; omega
theorem some_calls {α : Type} (S : Sys α) (Inv : α → Prop) {g : FuncId} {cap : List V} {r : Nat} (hnol : nolL cap = true)
    (hbox : ∀ a, Inv a → (S.F a).box r = some (S.rd a).enc) (hlen : ∀ a, Inv a → (S.rd a).l.length ≤ big)
    (hset : ∀ a, Inv a → (S.rd a).sees 44 = true → (S.F a).set r ((S.rd a).take 44).2.enc = S.F (S.set a ((S.rd a).take 44).2))
    (hstep : ∀ a, Inv a → (S.rd a).sees 44 = true → PCalls prog g cap (S.F (S.set a ((S.rd a).take 44).2)) (fun v σ' => v = .tup [] ∧ σ' = S.F (S.step (S.set a ((S.rd a).take 44).2))) ∧
      Inv (S.step (S.set a ((S.rd a).take 44).2)) ∧ (S.rd (S.step (S.set a ((S.rd a).take 44).2))).l = (S.rd a).l ∧ (S.rd a).at_ + 1 ≤ (S.rd (S.step (S.set a ((S.rd a).take 44).2))).at_)
    {a : α} (h0 : PCalls prog g cap (S.F a) (fun v σ' => v = .tup [] ∧ σ' = S.F (S.step a))) (hI : Inv (S.step a)) {n : Nat} (hn : (S.rd (S.step a)).l.length ≤ n) :
    PCalls prog 95 [.ptr (.out r) 0, .fn (.func g) [] cap] (S.F a) fun v σ' => v = .tup [] ∧ σ' = S.F (S.go n (S.step a)) := by
  refine fn95.calls ?_
  simp only [slots, ac95, ams, am, hnol]
  refine h0.mono ?_
  rintro v σ' ⟨rfl, rfl⟩
  simp only [am]
  let I : { p : α × Nat // Inv p.1 ∧ ((S.rd p.1).l.length : Int) ≤ max (S.rd p.1).at_ 0 + p.2 ∧ S.go p.2 p.1 = S.go n (S.step a) } → St := fun p =>
    ⟨[.ptr (.out r) 0, .fn (.func g) [] cap] ++ List.replicate 10 .any, [], S.F p.1.1⟩
  refine vc_loop I (fun p => p.1.2) ?_ ?_
  · refine Upd.enter ⟨(S.step a, n), hI, by simp only; omega, rfl⟩ ?_ LLLe.rfl OLe.rfl
    simp [I, List.replicate, am]
  · rintro ⟨⟨b, m⟩, hb, hm, hgo⟩
    simp only [I, List.replicate, am]
    simp only at hb hm hgo
    refine (sees_calls (hbox b hb)).mono ?_
    rintro v σ' ⟨rfl, rfl⟩
    cases hs : (S.rd b).sees 44
    · simp only [am]
      refine retK_intro rfl (Store.sub_refl _) ⟨rfl, ?_⟩
      rw [← hgo]
      cases m <;> simp [Sys.go, hs]
    · obtain ⟨_, h1, h2⟩ := sees_spec hs
      simp only [am]
      refine (take_calls (hbox b hb) (hlen b hb)).mono ?_
      rintro v σ' ⟨rfl, rfl⟩
      simp only [am, hnol]
      obtain ⟨k1, k2, k3, k4⟩ := hstep b hb hs
      rw [hset b hb hs]
      refine k1.mono ?_
      rintro v σ' ⟨rfl, rfl⟩
      simp only [am]
      cases m with
      | zero => omega
      | succ m =>
        refine Upd.again ⟨(S.step (S.set b ((S.rd b).take 44).2), m), k2, ?_, ?_⟩ (by simp) ?_ LLLe.rfl OLe.rfl
        · rw [k3]; simp only; omega
        · rw [← hgo]; simp [Sys.go, hs]
        · simp [I, List.replicate, am]
end Go.Proofs.Tryz

namespace Go.Proofs.Tryz
open Go.Am
def ac93 : AC := .seq (.reg [xi 8 0])
 (.seq (.reg [xm 11 0, xm 12 1, xc 99 13 [.s 11, .s 12], ⟨(some 9), .alloc [(.int .u8 0), (.str []), (.int .i64 0), (.sl .full 5 []), (.int .i64 0)], none⟩, xs 5 9 13])
 (.seq (.seq (.reg [xm 14 0, xc 87 15 [.s 14], ⟨(some 16), .not (.s 15), none⟩])
 (.cond (.s 16) (.seq (.reg [xi 8 0])
 (.ret))
 (.skip)))
 (.seq (.reg [xf 3 17 9, xo 18 17, xf 4 19 9, xo 20 19, ⟨(some 21), .build [(.sl .full 5 []), (.int .i64 0), (.int .i64 0), (.int .i64 0), (.int .i64 0)] [(0, 1, (.s 18)), (2, 1, (.s 20))], none⟩, ⟨(some 22), .boxO 5 (.s 21), none⟩, xm 10 22])
 (.seq (.seq (.reg [xm 23 2, ⟨(some 24), .not (.s 23), none⟩, xm 25 24, xh 25 (xf 3 26 9), xh 25 (xo 27 26), xh 25 (xL 28 27), xh 25 (xB .gtr 29 28 0), ⟨(some 30), .pick (.s 25) (.c (.bool true)) (.s 29), none⟩])
 (.cond (.s 30) (.reg [xm 31 3, xm 32 10, ⟨(some 33), .callv (.s 31) [(.s 32)], none⟩])
 (.skip)))
 (.seq (.seq (.draw [(xm 34 10, []), (xc 87 35 [.s 34], []), (xm 36 35, []), (xg 36 (xm 37 10), []), (xg 36 (xk 38 37), []), (xg 36 (xf 1 39 38), []), (xg 36 (xo 40 39), []), (xg 36 (xm 41 10), []), (xg 36 (xk 42 41), []), (xg 36 (xf 0 43 42), []), (xg 36 (xo 44 43), []), (xg 36 (xL 45 44), []), (xg 36 (xb .lss 46 40 45), []), (⟨(some 47), .pick (.s 36) (.s 46) (.c (.bool false)), none⟩, [])])
 (.cond (.s 47) (.reg [xm 48 10, xc 105 49 [.s 48]])
 (.skip)))
 (.seq (.seq (.reg [xm 50 10, xc 87 51 [.s 50], ⟨(some 52), .not (.s 51), none⟩])
 (.cond (.s 52) (.reg [xm 53 0, xm 54 10, xk 55 54, xf 3 56 55, xl 2 57 56, xk 58 53, xf 3 59 58, xs 2 59 57])
 (.skip)))
 (.seq (.reg [xf 0 60 9, xf 2 61 60, xo 62 61, xm 8 62])
 (.ret))))))))
theorem fn93 : IsFn prog 93 ac93 [.tmp 8] 63 := ⟨f93, ⟨[22], []⟩, func93, by kernel_rfl, by kernel_rfl, by kernel_rfl, by kernel_rfl⟩
set_option maxRecDepth 4000
set_option maxHeartbeats 4000000
theorem within_calls {r : Nat} {rd : Rdr} {kind : Int} {empty : Bool} {g : FuncId} {cap : List V} {σ : Store} (hnol : nolL cap = true) (h : σ.box r = some rd.enc) (hlen : rd.l.length ≤ big) (hkids : (rd.take kind).1.kids.length ≤ big)
    (i1 : Rdr) (σe : Store) (hcb : (rd.take kind).2.ok = true → (empty = false ∨ (rd.take kind).1.kids.length ≠ 0) → ∀ q, σ.box q = none →
      PCalls prog g (.ptr (.out q) 0 :: cap) ((σ.set r (rd.take kind).2.enc).set q (rd.take kind).1.inner.enc) fun v σ' => v = .tup [] ∧ σ' = (σe.set r (rd.take kind).2.enc).set q i1.enc)
    (hno : empty = true → (rd.take kind).1.kids.length = 0 → i1 = (rd.take kind).1.inner ∧ σe = σ) (hq : ∀ q, σ.box q = none → σe.box q = none) (hl : i1.l = (rd.take kind).1.kids) :
    PCalls prog 93 [.ptr (.out r) 0, .int .u8 kind, .bool empty, .fn (.func g) [] cap] σ fun v σ' =>
      if (rd.take kind).2.ok = true then v = .int .i64 (rd.take kind).1.tok.pos ∧ σ' = σe.set r ((rd.take kind).2.under i1).enc else v = .int .i64 0 ∧ σ' = σ.set r (rd.take kind).2.enc := by
  refine fn93.calls ?_
  simp only [slots, ac93, ams, am]
  refine (take_calls h hlen).mono ?_
  rintro v σ' ⟨rfl, rfl⟩
  generalize ht : (rd.take kind).1 = t at *
  generalize hr1 : (rd.take kind).2 = rd1 at *
  simp only [am, enc_eq, Nat.reduceAdd]
  refine (ok_calls (Store.set_same _ _ _)).mono ?_
  rintro v σ' ⟨rfl, rfl⟩
  cases hok : rd1.ok
  · simp only [am]
    refine retK_intro rfl (Store.sub_refl _) ?_
    simp [V.erase]
  · have hbad : rd1.bad = none := by simpa [Rdr.ok] using hok
    simp only [am, Nat.reduceAdd]
    refine kO_intro fun q hqn => ?_
    have hqr : q ≠ r := by rintro rfl; rw [Store.set_same] at hqn; simp at hqn
    have hqn' : σ.box q = none := by rw [Store.set_other _ _ hqr] at hqn; exact hqn
    have hin : [V.sl .no 5 (encs t.kids), .int .i64 0, .int .i64 t.fin, .int .i64 0, .int .i64 0] = t.inner.enc := rfl
    simp only [am, hin]
    have hcl : ∀ i : Rdr, i.l = t.kids → ((σe.set r rd1.enc).set q i.enc).box q = some i.enc := fun i _ => Store.set_same _ _ _
    have hsub : ∀ (A B : List V), (σe.set r A).sub ((σe.set r A).set q B) := fun A B => by
      refine ⟨fun b cs hb => ?_, fun _ _ h => h⟩
      by_cases hbq : b = q
      · subst hbq; rw [Store.set_other _ _ hqr, hq b hqn'] at hb; simp at hb
      · rw [Store.set_other _ _ hbq]; exact hb
    have hsw : ∀ (A B C : List V), ((σe.set r A).set q B).set r C = (σe.set r C).set q B := fun A B C => by rw [Store.set_comm hqr, Store.set_set]
    have hci : ((σe.set r rd1.enc).set q i1.enc).box q = some i1.enc := Store.set_same _ _ _
    by_cases hc : empty = false ∨ t.kids.length ≠ 0
    case' neg =>
      have hE : empty = true := by cases empty <;> simp at hc ⊢
      have hk : t.kids.length = 0 := by
        rcases Nat.eq_zero_or_pos t.kids.length with h | h
        · exact h
        · exact absurd (.inr (by omega)) hc
      obtain ⟨e1, e2⟩ := hno hE hk
      simp only [am, hE, encs_length, hk, Int.natCast_zero, Int.lt_irrefl, decide_false]
      rw [← e1, ← e2]
    case' pos =>
      have hgo := hcb hok hc q hqn'
      cases hE : empty
      case' true =>
        have hk : 0 < t.kids.length := by
          rcases hc with h | h
          · rw [hE] at h; simp at h
          · omega
        simp only [am, encs_length, Int.natCast_pos, hk, decide_true]
      all_goals
        simp only [am, hnol]
        refine hgo.mono ?_
        rintro v σ' ⟨rfl, rfl⟩
        simp only [am]
    all_goals
      refine CallD.intro (ok_calls hci) ?_
      have hbox1 : ∀ (i : Rdr), ((σe.set r rd1.enc).set q i.enc).box r = some rd1.enc := fun i => by rw [Store.set_other _ _ (Ne.symm hqr), Store.set_same]
      have fin : ∀ (i : Rdr) (x : List V), x = (rd1.under i1).enc → (σe.set r (rd1.under i1).enc).sub (((σe.set r rd1.enc).set q i.enc).set r x) := fun i x hx => by
        rw [hx, hsw]; exact hsub _ _
      cases hio : i1.ok
      · have hcl : i1.close = i1 := by simp [Rdr.close, hio]
        simp only [am]
        refine (ok_calls hci).mono ?_
        rintro v σ' ⟨rfl, rfl⟩
        simp only [am, hio, hbox1, Rdr.ex, Nat.reduceAdd]
        exact retK_intro rfl (fin i1 _ (by rw [Rdr.under, hcl]; rfl)) ⟨rfl, rfl⟩
      · simp only [am, Rdr.ex, hl, encs_length]
        by_cases hlt : i1.at_ < t.kids.length
        · have hcl : i1.close = i1.fail := by simp [Rdr.close, hio, hl, hlt]
          simp only [am, hlt, decide_true]
          refine (fail_calls hci).mono ?_
          rintro v σ' ⟨rfl, rfl⟩
          simp only [am]
          refine (ok_calls (Store.set_same _ _ _)).mono ?_
          rintro v σ' ⟨rfl, rfl⟩
          have hf : i1.fail.ok = false := by
            have : i1.bad = none := by simpa [Rdr.ok] using hio
            simp [Rdr.fail, this, Rdr.ok]
          simp only [am, hf, hbox1, Rdr.ex, Nat.reduceAdd]
          exact retK_intro rfl (fin i1.fail _ (by rw [Rdr.under, hcl]; rfl)) ⟨rfl, rfl⟩
        · have hcl : i1.close = i1 := by simp [Rdr.close, hl, hlt]
          have hu : rd1.under i1 = rd1 := by
            have : i1.bad = none := by simpa [Rdr.ok] using hio
            rw [Rdr.under, hcl, this, ← hbad]
          simp only [am, hlt, decide_false]
          refine (ok_calls hci).mono ?_
          rintro v σ' ⟨rfl, rfl⟩
          simp only [am, hio]
          refine retK_intro rfl ?_ ⟨rfl, rfl⟩
          rw [hu]
          exact hsub _ _
end Go.Proofs.Tryz

namespace Go.Proofs.Tryz
open Go.Am
def ac86 : AC := .seq (.reg [⟨(some 4), .mv (.c (.sl .full 2 [])), none⟩, xi 5 0])
 (.seq (.reg [⟨(some 6), .allocO [(.sl .full 2 [])], none⟩])
 (.seq (.upd (.reg [xm 8 0, xm 9 1, ⟨(some 10), .mkfn (.func 94) [] [(.s 6)], none⟩, xc 93 11 [.s 8, .c (.int .u8 123), .s 9, .s 10], xm 7 11]))
 (.seq (.reg [xo 12 6, xm 13 7, xm 4 12, xm 5 13])
 (.ret))))
theorem fn86 : IsFn prog 86 ac86 [.tmp 4, .tmp 5] 14 := ⟨f86, ⟨[6], [2]⟩, func86, by kernel_rfl, by kernel_rfl, by kernel_rfl, by kernel_rfl⟩
def ac94 : AC := .seq (.reg [⟨(some 2), .boxO 1 (.s 0), none⟩])
 (.reg [xo 3 2, ⟨(some 4), .mkfn (.func 96) [] [(.s 1), (.s 2)], none⟩, xc 95 5 [.s 3, .s 4]])
theorem fn94 : IsFn prog 94 ac94 [] 6 := ⟨f94, ⟨[2], []⟩, func94, by kernel_rfl, by kernel_rfl, by kernel_rfl, by kernel_rfl⟩
def ac96 : AC := .draw [(xo 2 0, [1]), (xo 3 1, []), (xc 97 4 [.s 3], []), (⟨(some 5), .bslice 2 [(.s 4)], none⟩, []), (xa 2 6 2 5, []), (xs 1 0 6, [])]
theorem fn96 : IsFn prog 96 ac96 [] 7 := ⟨f96, ⟨[], []⟩, func96, by kernel_rfl, by kernel_rfl, by kernel_rfl, by kernel_rfl⟩
set_option maxRecDepth 4000
set_option maxHeartbeats 4000000
theorem words11_calls {o p r τ : Nat} {rows : List (List V)} {rd : Rdr} {σ : Store} (ho : σ.box o = some [.sl (.tk τ) 2 rows]) (hp : σ.box p = some [.ptr (.out r) 0]) (hr : σ.box r = some rd.enc) (hor : o ≠ r)
    (ht : σ.tip τ = some rows.length) (hb : rows.length + 1 ≤ big) (hlen : rd.l.length ≤ big) :
    PCalls prog 96 [.ptr (.out o) 0, .ptr (.out p) 0] σ fun v σ' => v = .tup [] ∧ σ' = ((σ.set r rd.word.2.enc).set o [.sl (.tk τ) 2 (rows ++ [rd.word.1.enc])]).setTip τ (rows.length + 1) := by
  refine fn96.calls ?_
  simp only [slots, ac96, ams, am, ho, hp]
  refine CallD.intro (word_calls hr hlen) ?_
  simp only [am, Word.enc]
  refine appD_tk (by simpa using hb) ht ?_
  have h1 : (σ.set r rd.word.2.enc).box o = some [.sl (.tk τ) 2 rows] := by rw [Store.set_other _ _ hor]; exact ho
  simp only [am, h1, ho]
  exact retK_intro rfl (Store.sub_refl _) ⟨rfl, rfl⟩
def gStore (σ : Store) (q o τ k : Nat) (rd : Rdr) (rows : List (List V)) : Store := ((σ.set q rd.enc).set o [.sl (.tk τ) k rows]).setTip τ rows.length
def wSys (σ : Store) (q o τ : Nat) : Sys (Rdr × List Word) := ⟨fun a => gStore σ q o τ 2 a.1 (a.2.map Word.enc), fun a => a.1, fun a r => (r, a.2), wStep⟩
theorem go_goG {β : Type} (F : Rdr × List β → Store) (step : Rdr × List β → Rdr × List β) : ∀ (n : Nat) (a : Rdr × List β), Sys.go ⟨F, fun a => a.1, fun a r => (r, a.2), step⟩ n a = goG step n a
  | 0, _ => rfl
  | n + 1, a => by simp only [Sys.go, goG, go_goG F step n]
theorem gStore_q {σ : Store} {q o τ k : Nat} {rd : Rdr} {rows : List (List V)} (h : q ≠ o) : (gStore σ q o τ k rd rows).box q = some rd.enc := by
  simp [gStore, Store.setTip, Store.set, h]
theorem gStore_o {σ : Store} {q o τ k : Nat} {rd : Rdr} {rows : List (List V)} : (gStore σ q o τ k rd rows).box o = some [.sl (.tk τ) k rows] := by
  simp [gStore, Store.setTip, Store.set]
theorem gStore_p {σ : Store} {q o τ k p : Nat} {rd : Rdr} {rows : List (List V)} (h : p ≠ q) (h' : p ≠ o) : (gStore σ q o τ k rd rows).box p = σ.box p := by
  simp [gStore, Store.setTip, Store.set, h, h']
theorem gStore_other {σ : Store} {q o τ k p : Nat} {rd : Rdr} {rows : List (List V)} {cs : List V} (h : p ≠ q) (h' : p ≠ o) : (gStore σ q o τ k rd rows).set p cs = gStore (σ.set p cs) q o τ k rd rows := by
  have : ((σ.set q rd.enc).set o [.sl (.tk τ) k rows]).set p cs = ((σ.set p cs).set q rd.enc).set o [.sl (.tk τ) k rows] := by
    rw [Store.set_comm (Ne.symm h'), Store.set_comm (b := q) (Ne.symm h)]
  show (((σ.set q rd.enc).set o [.sl (.tk τ) k rows]).set p cs).setTip τ rows.length = _
  rw [this]; rfl
theorem sub_set {σ : Store} {p : Nat} {cs : List V} (h : σ.box p = none) : σ.sub (σ.set p cs) := by
  refine ⟨fun b ds hb => ?_, fun _ _ h => h⟩
  have : b ≠ p := by rintro rfl; rw [h] at hb; simp at hb
  rw [Store.set_other _ _ this]; exact hb
theorem gStore_tip {σ : Store} {q o τ k : Nat} {rd : Rdr} {rows : List (List V)} : (gStore σ q o τ k rd rows).tip τ = some rows.length := by
  simp [gStore, Store.setTip]
theorem gStore_set {σ : Store} {q o τ k : Nat} {rd rd' : Rdr} {rows : List (List V)} (h : q ≠ o) : (gStore σ q o τ k rd rows).set q rd'.enc = gStore σ q o τ k rd' rows := by
  have : ((σ.set q rd.enc).set o [.sl (.tk τ) k rows]).set q rd'.enc = (σ.set q rd'.enc).set o [.sl (.tk τ) k rows] := by rw [Store.set_comm (Ne.symm h), Store.set_set]
  show (((σ.set q rd.enc).set o [.sl (.tk τ) k rows]).set q rd'.enc).setTip τ rows.length = _
  rw [this]; rfl
theorem gStore_put {σ : Store} {q o τ k : Nat} {rd rd' : Rdr} {rows : List (List V)} {c : List V} (h : q ≠ o) : (((gStore σ q o τ k rd rows).set q rd'.enc).set o [.sl (.tk τ) k (rows ++ [c])]).setTip τ (rows.length + 1) = gStore σ q o τ k rd' (rows ++ [c]) := by
  rw [gStore_set h]
  unfold gStore
  rw [List.length_append, List.length_cons, List.length_nil]
  show ((((σ.set q rd'.enc).set o [.sl (.tk τ) k rows]).set o [.sl (.tk τ) k (rows ++ [c])]).setTip τ rows.length).setTip τ (rows.length + 1) = _
  rw [Store.set_set, setTip_setTip]
def Pace {β : Type} (l : List Tree) (a : Rdr × List β) : Prop := a.1.l = l ∧ 0 ≤ a.1.at_ ∧ a.1.at_ ≤ l.length ∧ (a.1.bad = none → (a.2.length : Int) ≤ a.1.at_)
theorem pace_word {l : List Tree} {a : Rdr × List Word} (h : Pace l a) (hb : a.1.bad = none) : Pace l (wStep a) ∧ a.1.at_ ≤ (wStep a).1.at_ := by
  obtain ⟨h1, h2, h3, h4⟩ := h
  have h4 := h4 hb
  rcases a.1.take_at 97 with ⟨_, k1, k2, k3, k4⟩ | ⟨_, k1, k2⟩
  · refine ⟨⟨?_, ?_, ?_, fun _ => ?_⟩, ?_⟩ <;> simp only [wStep, Rdr.word, Rdr.take_l, k1, List.length_append, List.length_cons, List.length_nil]
    · exact h1
    · omega
    · rw [h1] at k4; omega
    · omega
    · omega
  · refine ⟨⟨?_, ?_, ?_, fun hq => absurd hq k2⟩, ?_⟩ <;> simp only [wStep, Rdr.word, Rdr.take_l, k1]
    · exact h1
    · exact h2
    · exact h3
    · omega
theorem pace_take {β : Type} {l : List Tree} {a : Rdr × List β} (h : Pace l a) (hs : a.1.sees 44 = true) : Pace l ((a.1.take 44).2, a.2) ∧ (a.1.take 44).2.bad = none ∧ (a.1.take 44).2.at_ = a.1.at_ + 1 := by
  obtain ⟨h1, h2, h3, h4⟩ := h
  rcases a.1.take_at 44 with ⟨_, k1, k2, k3, k4⟩ | ⟨k0, _⟩
  · have hb : a.1.bad = none := by
      simp only [Rdr.sees, Rdr.ok, Bool.and_eq_true, Option.isNone_iff_eq_none] at hs
      exact hs.1
    have := h4 hb
    rw [h1] at k4
    exact ⟨⟨by simp only [Rdr.take_l]; exact h1, by simp only [k1]; omega, by simp only [k1]; omega, fun _ => by simp only [k1]; omega⟩, k2, k1⟩
  · rw [hs] at k0; simp at k0
theorem words1_calls {o q τ : Nat} {rd : Rdr} {σ : Store} (hqo : q ≠ o) (hat : rd.at_ = 0) (hbad : rd.bad = none) (hlen : rd.l.length + 1 ≤ big) :
    PCalls prog 94 [.ptr (.out q) 0, .ptr (.out o) 0] (gStore σ q o τ 2 rd []) fun v σ' => v = .tup [] ∧ σ' = gStore σ q o τ 2 (someG wStep rd).1 ((someG wStep rd).2.map Word.enc) := by
  refine fn94.calls ?_
  simp only [slots, ac94, ams, am]
  refine kO_intro fun p hp => ?_
  have hpq : p ≠ q := by rintro rfl; rw [gStore_q hqo] at hp; simp at hp
  have hpo : p ≠ o := by rintro rfl; rw [gStore_o] at hp; simp at hp
  rw [gStore_other hpq hpo]
  simp only [am, gStore_p hpq hpo]
  have hstep : ∀ a : Rdr × List Word, Pace rd.l a → a.1.bad = none → PCalls prog 96 [.ptr (.out o) 0, .ptr (.out p) 0] (gStore (σ.set p [.ptr (.out q) 0]) q o τ 2 a.1 (a.2.map Word.enc)) fun v σ' =>
      v = .tup [] ∧ σ' = gStore (σ.set p [.ptr (.out q) 0]) q o τ 2 (wStep a).1 ((wStep a).2.map Word.enc) := fun a hp' hb => by
    have hl := hp'.2.2.2 hb
    have hl2 := hp'.2.2.1
    refine (words11_calls gStore_o (by rw [gStore_p hpq hpo, Store.set_same]) (gStore_q hqo) (Ne.symm hqo) gStore_tip (by rw [List.length_map]; omega) (by rw [hp'.1]; omega)).mono ?_
    rintro v σ' ⟨rfl, rfl⟩
    refine ⟨rfl, ?_⟩
    rw [gStore_put hqo]
    simp [wStep]
  have h0 : Pace rd.l (rd, ([] : List Word)) := ⟨rfl, by simp [hat], by simp [hat], fun _ => by simp [hat]⟩
  obtain ⟨p1, _⟩ := pace_word h0 hbad
  refine (some_calls (wSys (σ.set p [.ptr (.out q) 0]) q o τ) (Pace rd.l) (a := (rd, [])) (n := rd.l.length) (by simp [am]) (fun a h => gStore_q hqo) (fun a h => ?_) (fun a h hs => gStore_set hqo) (fun a h hs => ?_) (hstep _ h0 hbad) p1 ?_).mono ?_
  · show a.1.l.length ≤ big
    rw [h.1]; omega
  · obtain ⟨k1, k2, k3⟩ := pace_take h hs
    obtain ⟨k4, k5⟩ := pace_word k1 k2
    refine ⟨hstep _ k1 k2, k4, ?_, ?_⟩
    · exact k4.1.trans h.1.symm
    · show a.1.at_ + 1 ≤ _
      simp only at k5
      rw [k3] at k5
      exact k5
  · show (wStep (rd, [])).1.l.length ≤ rd.l.length
    rw [p1.1]; omega
  rintro v σ' ⟨rfl, rfl⟩
  simp only [am]
  refine retK_intro rfl (σ' := gStore σ q o τ 2 (someG wStep rd).1 ((someG wStep rd).2.map Word.enc)) ?_ ⟨rfl, rfl⟩
  have e : (wSys (σ.set p [.ptr (.out q) 0]) q o τ).F ((wSys (σ.set p [.ptr (.out q) 0]) q o τ).go rd.l.length ((wSys (σ.set p [.ptr (.out q) 0]) q o τ).step (rd, []))) = gStore (σ.set p [.ptr (.out q) 0]) q o τ 2 (someG wStep rd).1 ((someG wStep rd).2.map Word.enc) := by
    unfold wSys
    rw [go_goG]
    rfl
  rw [e, ← gStore_other hpq hpo]
  exact sub_set (by rw [gStore_p hpq hpo]; rw [gStore_p hpq hpo] at hp; exact hp)
theorem go_l {β : Type} {l : List Tree} {step : Rdr × List β → Rdr × List β} (hs : ∀ a, a.1.l = l → (step a).1.l = l) : ∀ (n : Nat) (a : Rdr × List β), a.1.l = l → (goG step n a).1.l = l
  | 0, _, h => h
  | n + 1, a, h => by
    simp only [goG]
    split
    · exact go_l hs n _ (hs _ (by rw [Rdr.take_l]; exact h))
    · exact h
theorem inside_l {β : Type} {step : Rdr × List β → Rdr × List β} (hs : ∀ l a, a.1.l = l → (step a).1.l = l) (empty : Bool) (t : Tree) : (Rdr.inside step empty t).1.l = t.kids := by
  unfold Rdr.inside
  split
  · rfl
  · exact go_l (hs _) _ _ (hs _ _ rfl)
theorem wStep_l (l : List Tree) (a : Rdr × List Word) (h : a.1.l = l) : (wStep a).1.l = l := by simp [wStep, Rdr.word, Rdr.take_l, h]
theorem words_calls {r : Nat} {empty : Bool} {rd : Rdr} {σ : Store} (h : σ.box r = some rd.enc) (hlen : rd.l.length ≤ big) (hkids : (rd.take 123).1.kids.length + 1 ≤ big) :
    PCalls prog 86 [.ptr (.out r) 0, .bool empty] σ fun v σ' => v = .tup [.sl .no 2 ((rd.words empty).1.1.map Word.enc), .int .i64 (rd.words empty).1.2] ∧ σ' = σ.set r (rd.words empty).2.enc := by
  refine fn86.calls ?_
  simp only [slots, ac86, ams, am]
  refine kO_intro fun o ho => ?_
  have hor : o ≠ r := by rintro rfl; rw [h] at ho; simp at ho
  simp only [am]
  refine Upd.tok 0 fun τ hτ => ⟨_, _, _, LTo.rfl, rfl, fun i c hc => ⟨c, hc, LTo.rfl⟩, OTo.set (cs := [.sl .full 2 []]) (cs' := [.sl (.tk τ) 2 []]) (Store.set_same _ _ _) ⟨VTo.tok rfl, trivial⟩, ?_⟩
  simp only [am]
  have h1 : ((σ.set o [.sl (.tk τ) 2 []]).setTip τ 0).box r = some rd.enc := by
    show (σ.set o _).box r = _
    rw [Store.set_other _ _ (Ne.symm hor)]; exact h
  have hne : ∀ q, ((σ.set o [V.sl (.tk τ) 2 []]).setTip τ 0).box q = none → q ≠ o ∧ q ≠ r ∧ σ.box q = none := fun q hq => by
    have hqo : q ≠ o := by rintro rfl; rw [show ((σ.set q [V.sl (.tk τ) 2 []]).setTip τ 0).box q = _ from Store.set_same _ _ _] at hq; simp at hq
    have hq' : σ.box q = none := by rw [← Store.set_other σ [V.sl (.tk τ) 2 []] hqo]; exact hq
    exact ⟨hqo, by rintro rfl; rw [h] at hq'; simp at hq', hq'⟩
  generalize hin : Rdr.inside wStep empty (rd.take 123).1 = ins
  have hinl : ins.1.l = (rd.take 123).1.kids := by rw [← hin]; exact inside_l wStep_l _ _
  refine (within_calls (kind := 123) (by simp [am]) h1 hlen (by omega) ins.1 ((σ.set o [.sl (.tk τ) 2 (ins.2.map Word.enc)]).setTip τ (ins.2.map Word.enc).length) ?_ ?_ ?_ hinl).mono ?_
  · intro hok hc q hq
    obtain ⟨hqo, hqr, _⟩ := hne q hq
    have e1 : (((σ.set o [V.sl (.tk τ) 2 []]).setTip τ 0).set r (rd.take 123).2.enc).set q (rd.take 123).1.inner.enc = gStore (σ.set r (rd.take 123).2.enc) q o τ 2 (rd.take 123).1.inner [] := by
      unfold gStore
      rw [Store.set_comm (b := q) hqo, Store.set_comm (b := r) (Ne.symm hor)]
      rfl
    have e2 : (((σ.set o [V.sl (.tk τ) 2 (ins.2.map Word.enc)]).setTip τ (ins.2.map Word.enc).length).set r (rd.take 123).2.enc).set q ins.1.enc = gStore (σ.set r (rd.take 123).2.enc) q o τ 2 ins.1 (ins.2.map Word.enc) := by
      unfold gStore
      rw [Store.set_comm (b := q) hqo, Store.set_comm (b := r) (Ne.symm hor)]
      rfl
    have e3 : ins = someG wStep (rd.take 123).1.inner := by
      rw [← hin, Rdr.inside, if_neg]
      rintro ⟨q1, q2⟩
      rcases hc with hc | hc
      · rw [q1] at hc; simp at hc
      · exact hc q2
    rw [e1, e2, e3]
    exact words1_calls hqo rfl rfl hkids
  · intro q1 q2
    have : ins = ((rd.take 123).1.inner, []) := by rw [← hin, Rdr.inside, if_pos ⟨q1, q2⟩]
    rw [this]
    exact ⟨rfl, rfl⟩
  · intro q hq
    obtain ⟨hqo, _, hq'⟩ := hne q hq
    show (σ.set o _).box q = none
    rw [Store.set_other _ _ hqo]; exact hq'
  rintro v σ' hv
  have hdrop : ∀ (A B : List V) (n : Nat), (σ.set r A).sub (((σ.set o B).setTip τ n).set r A) := fun A B n => by
    refine ⟨fun b cs hb => ?_, fun υ m hm => ?_⟩
    · have hbo : b ≠ o := by rintro rfl; rw [Store.set_other _ _ hor, ho] at hb; simp at hb
      by_cases hbr : b = r
      · subst hbr; rw [Store.set_same] at hb ⊢; exact hb
      · rw [Store.set_other _ _ hbr] at hb ⊢
        show (σ.set o B).box b = _
        rw [Store.set_other _ _ hbo]; exact hb
    · have hm' : σ.tip υ = some m := hm
      have hne' : υ ≠ τ := by rintro rfl; rw [show (σ.set o [V.sl .full 2 []]).tip υ = σ.tip υ from rfl] at hτ; rw [hτ] at hm'; simp at hm'
      show ((σ.set o B).setTip τ n).tip υ = some m
      rw [setTip_tip_ne hne']; exact hm'
  split at hv
  · rename_i hok
    obtain ⟨rfl, rfl⟩ := hv
    have hb : (((σ.set o [V.sl (.tk τ) 2 (ins.2.map Word.enc)]).setTip τ (ins.2.map Word.enc).length).set r ((rd.take 123).2.under ins.1).enc).box o = some [V.sl (.tk τ) 2 (ins.2.map Word.enc)] := by
      rw [Store.set_other _ _ hor]; exact Store.set_same _ _ _
    simp only [am, hb]
    refine retK_intro rfl (hdrop _ _ _) ⟨?_, ?_⟩
    · simp [Rdr.words, Rdr.bracket, hok, hin, V.erase, eraseL]
    · simp [Rdr.words, Rdr.bracket, hok, hin]
  · rename_i hok
    obtain ⟨rfl, rfl⟩ := hv
    have hb : (((σ.set o [V.sl (.tk τ) 2 []]).setTip τ 0).set r (rd.take 123).2.enc).box o = some [V.sl (.tk τ) 2 []] := by
      rw [Store.set_other _ _ hor]; exact Store.set_same _ _ _
    simp only [am, hb]
    refine retK_intro rfl (hdrop _ _ _) ⟨?_, ?_⟩
    · simp [Rdr.words, Rdr.bracket, hok, V.erase, eraseL]
    · simp [Rdr.words, Rdr.bracket, hok]
end Go.Proofs.Tryz

namespace Go.Proofs.Tryz
open Go.Am
def ac106 : AC := .seq (.reg [⟨(some 3), .boxO 1 (.s 0), none⟩])
 (.reg [xo 4 3, ⟨(some 5), .mkfn (.func 107) [] [(.s 1), (.s 2), (.s 3)], none⟩, xc 95 6 [.s 4, .s 5]])
theorem fn106 : IsFn prog 106 ac106 [] 7 := ⟨f106, ⟨[3], []⟩, func106, by kernel_rfl, by kernel_rfl, by kernel_rfl, by kernel_rfl⟩
def ac107 : AC := .hole [(xo 3 0, [1]), (xo 4 1, []), (xo 5 2, []), (⟨(some 6), .callv (.s 4) [(.s 5)], none⟩, []), (xL 7 3, []), (⟨(some 8), .bslice 5 [(.c (.agg [(.int .i64 0), (.int .i64 0), (.str []), (.sl .full 2 []), (.sl .full 5 [])]))], none⟩, []), (⟨(some 9), .mv (.c .any), none⟩, []), (⟨(some 10), .mv (.c .any), none⟩, []), (⟨none, .mv (.c .any), none⟩, []), (⟨none, .mv (.c .any), none⟩, [])] ⟨5, (.s 3), (.s 8), (.s 7), (.s 6), (.s 0), none, 9, 10, 20⟩
theorem fn107 : IsFn prog 107 ac107 [] 11 := ⟨f107, ⟨[], []⟩, func107, by kernel_rfl, by kernel_rfl, by kernel_rfl, by kernel_rfl⟩
set_option maxRecDepth 4000
set_option maxHeartbeats 4000000
theorem Nd.wd {n : Nd} : (V.agg n.enc).wd = some 5 := by rw [Nd.enc_eq]; rfl
theorem Nd.one {n : Nd} : oneL n.enc = true := by rw [Nd.enc_eq]; rfl
theorem Nd.nol {n : Nd} : nolL n.enc = true := by rw [Nd.enc_eq]; rfl
theorem Nd.er {n : Nd} : eraseL n.enc = n.enc := by rw [Nd.enc_eq]; rfl
theorem kids11_calls {o f p q τ : Nat} {g : FuncId} {rows : List (List V)} {rd' : Rdr} {n : Nd} {σ : Store} (ho : σ.box o = some [.sl (.tk τ) 5 rows]) (hf : σ.box f = some [.fn (.func g) [] []]) (hp : σ.box p = some [.ptr (.out q) 0])
    (hoq : o ≠ q) (ht : σ.tip τ = some rows.length) (hb : rows.length + 1 ≤ big) (hone : PCalls prog g [.ptr (.out q) 0] σ fun v σ' => v = .agg n.enc ∧ σ' = σ.set q rd'.enc) :
    PCalls prog 107 [.ptr (.out o) 0, .ptr (.out f) 0, .ptr (.out p) 0] σ fun v σ' => v = .tup [] ∧ σ' = ((σ.set q rd'.enc).set o [.sl (.tk τ) 5 (rows ++ [n.enc])]).setTip τ (rows.length + 1) := by
  refine fn107.calls ?_
  simp only [slots, ac107, ams, am, ho, hp, hf]
  refine CallD.intro hone ?_
  have h1 : (σ.set q rd'.enc).box o = some [.sl (.tk τ) 5 rows] := by rw [Store.set_other _ _ hoq]; exact ho
  simp only [am, h1, ho]
  refine hole_intro (τ := τ) (m := rows) (cs := n.enc) (p := .ptr (.out o) 0) rfl rfl rfl hb ht ⟨Nd.wd, Nd.one, Nd.nol⟩ Nd.er (by simp [am]) rfl (by simp only [ev, am, h1]; rfl) ?_
  simp only [am]
  exact retK_intro rfl (Store.sub_refl _) ⟨rfl, rfl⟩
theorem pace_one {β : Type} {one : Rdr → β × Rdr} (ho : Reads one) {l : List Tree} {a : Rdr × List β} (h : Pace l a) (hb : a.1.bad = none) : Pace l (oStep one a) ∧ a.1.at_ ≤ (oStep one a).1.at_ := by
  obtain ⟨h1, h2, h3, h4⟩ := h
  have h4 := h4 hb
  obtain ⟨k1, k2, k3⟩ := ho.go a.1 h2 (by rw [h1]; exact h3)
  refine ⟨⟨by simp only [oStep, ho.l]; exact h1, by simp only [oStep]; omega, by simp only [oStep]; rw [h1] at k2; exact k2, fun hq => ?_⟩, k1⟩
  have := k3 hq
  simp only [oStep, List.length_append, List.length_cons, List.length_nil]
  omega
def kSys (one : Rdr → Nd × Rdr) (σ : Store) (q o τ : Nat) : Sys (Rdr × List Nd) := ⟨fun a => gStore σ q o τ 5 a.1 (a.2.map Nd.enc), fun a => a.1, fun a r => (r, a.2), oStep one⟩
theorem kids1_calls {o f q τ : Nat} {g : FuncId} {one : Rdr → Nd × Rdr} (hr : Reads one) {rd : Rdr} {σ : Store} (hqo : q ≠ o) (hfq : f ≠ q) (hfo : f ≠ o) (hf : σ.box f = some [.fn (.func g) [] []]) (hat : rd.at_ = 0) (hbad : rd.bad = none) (hlen : rd.l.length + 1 ≤ big)
    (hone : ∀ (r : Rdr) (σ : Store), r.l = rd.l → 0 ≤ r.at_ → r.at_ ≤ rd.l.length → σ.box q = some r.enc → PCalls prog g [.ptr (.out q) 0] σ fun v σ' => v = .agg (one r).1.enc ∧ σ' = σ.set q (one r).2.enc) :
    PCalls prog 106 [.ptr (.out q) 0, .ptr (.out o) 0, .ptr (.out f) 0] (gStore σ q o τ 5 rd []) fun v σ' => v = .tup [] ∧ σ' = gStore σ q o τ 5 (someG (oStep one) rd).1 ((someG (oStep one) rd).2.map Nd.enc) := by
  refine fn106.calls ?_
  simp only [slots, ac106, ams, am]
  refine kO_intro fun p hp => ?_
  have hpq : p ≠ q := by rintro rfl; rw [gStore_q hqo] at hp; simp at hp
  have hpo : p ≠ o := by rintro rfl; rw [gStore_o] at hp; simp at hp
  have hpf : f ≠ p := by rintro rfl; rw [gStore_p hpq hpo, hf] at hp; simp at hp
  rw [gStore_other hpq hpo]
  simp only [am, gStore_p hpq hpo]
  have hstep : ∀ a : Rdr × List Nd, Pace rd.l a → a.1.bad = none → PCalls prog 107 [.ptr (.out o) 0, .ptr (.out f) 0, .ptr (.out p) 0] (gStore (σ.set p [.ptr (.out q) 0]) q o τ 5 a.1 (a.2.map Nd.enc)) fun v σ' =>
      v = .tup [] ∧ σ' = gStore (σ.set p [.ptr (.out q) 0]) q o τ 5 (oStep one a).1 ((oStep one a).2.map Nd.enc) := fun a hp' hb => by
    have hl := hp'.2.2.2 hb
    have hl2 := hp'.2.2.1
    refine (kids11_calls gStore_o (by rw [gStore_p hfq hfo, Store.set_other _ _ hpf]; exact hf) (by rw [gStore_p hpq hpo, Store.set_same]) (Ne.symm hqo) gStore_tip (by rw [List.length_map]; omega) (hone a.1 _ hp'.1 hp'.2.1 hl2 (gStore_q hqo))).mono ?_
    rintro v σ' ⟨rfl, rfl⟩
    refine ⟨rfl, ?_⟩
    rw [gStore_put hqo]
    simp [oStep]
  have h0 : Pace rd.l (rd, ([] : List Nd)) := ⟨rfl, by simp [hat], by simp [hat], fun _ => by simp [hat]⟩
  obtain ⟨p1, _⟩ := pace_one hr h0 hbad
  refine (some_calls (kSys one (σ.set p [.ptr (.out q) 0]) q o τ) (Pace rd.l) (a := (rd, [])) (n := rd.l.length) (by simp [am]) (fun a h => gStore_q hqo) (fun a h => ?_) (fun a h hs => gStore_set hqo) (fun a h hs => ?_) (hstep _ h0 hbad) p1 ?_).mono ?_
  · show a.1.l.length ≤ big
    rw [h.1]; omega
  · obtain ⟨k1, k2, k3⟩ := pace_take h hs
    obtain ⟨k4, k5⟩ := pace_one hr k1 k2
    refine ⟨hstep _ k1 k2, k4, ?_, ?_⟩
    · exact k4.1.trans h.1.symm
    · show a.1.at_ + 1 ≤ _
      simp only at k5
      rw [k3] at k5
      exact k5
  · show (oStep one (rd, [])).1.l.length ≤ rd.l.length
    rw [p1.1]; omega
  rintro v σ' ⟨rfl, rfl⟩
  simp only [am]
  refine retK_intro rfl (σ' := gStore σ q o τ 5 (someG (oStep one) rd).1 ((someG (oStep one) rd).2.map Nd.enc)) ?_ ⟨rfl, rfl⟩
  have e : (kSys one (σ.set p [.ptr (.out q) 0]) q o τ).F ((kSys one (σ.set p [.ptr (.out q) 0]) q o τ).go rd.l.length ((kSys one (σ.set p [.ptr (.out q) 0]) q o τ).step (rd, []))) = gStore (σ.set p [.ptr (.out q) 0]) q o τ 5 (someG (oStep one) rd).1 ((someG (oStep one) rd).2.map Nd.enc) := by
    unfold kSys
    rw [go_goG]
    rfl
  rw [e, ← gStore_other hpq hpo]
  exact sub_set (by rw [gStore_p hpq hpo]; rw [gStore_p hpq hpo] at hp; exact hp)
end Go.Proofs.Tryz

namespace Go.Proofs.Tryz
open Go.Am
def ac100 : AC := .seq (.reg [⟨(some 7), .boxO 1 (.s 3), none⟩, ⟨(some 8), .mv (.c (.sl .full 5 [])), none⟩, xi 9 0])
 (.seq (.reg [⟨(some 10), .allocO [(.sl .full 5 [])], none⟩])
 (.seq (.upd (.reg [xm 12 0, xm 13 1, xm 14 2, ⟨(some 15), .mkfn (.func 106) [] [(.s 10), (.s 7)], none⟩, xc 93 16 [.s 12, .s 13, .s 14, .s 15], xm 11 16]))
 (.seq (.reg [xo 17 10, xm 18 11, xm 8 17, xm 9 18])
 (.ret))))
theorem fn100 : IsFn prog 100 ac100 [.tmp 8, .tmp 9] 19 := ⟨f100, ⟨[7, 10], [2]⟩, func100, by kernel_rfl, by kernel_rfl, by kernel_rfl, by kernel_rfl⟩
set_option maxRecDepth 4000
set_option maxHeartbeats 4000000
theorem Store.sub_trans {a b c : Store} (h : a.sub b) (k : b.sub c) : a.sub c := ⟨fun x cs hx => k.1 x cs (h.1 x cs hx), fun x n hx => k.2 x n (h.2 x n hx)⟩
theorem sub_both {a b : Store} {r : Nat} {A : List V} (h : a.sub b) : (a.set r A).sub (b.set r A) := by
  refine ⟨fun x cs hx => ?_, h.2⟩
  by_cases hr : x = r
  · subst hr; rw [Store.set_same] at hx ⊢; exact hx
  · rw [Store.set_other _ _ hr] at hx ⊢; exact h.1 x cs hx
theorem oStep_l {β : Type} {one : Rdr → β × Rdr} (h : Reads one) (l : List Tree) (a : Rdr × List β) (ha : a.1.l = l) : (oStep one a).1.l = l := by simp [oStep, h.l, ha]
theorem kids_calls {r : Nat} {empty : Bool} {kind : Int} {g : FuncId} {one : Rdr → Nd × Rdr} (hone : Reads one) {rd : Rdr} {σ : Store} (h : σ.box r = some rd.enc) (hlen : rd.l.length ≤ big) (hkids : (rd.take kind).1.kids.length + 1 ≤ big)
    (hcalls : ∀ (q : Nat) (i : Rdr) (σ : Store), i.l = (rd.take kind).1.kids → 0 ≤ i.at_ → i.at_ ≤ i.l.length → σ.box q = some i.enc → PCalls prog g [.ptr (.out q) 0] σ fun v σ' => v = .agg (one i).1.enc ∧ σ' = σ.set q (one i).2.enc) :
    PCalls prog 100 [.ptr (.out r) 0, .int .u8 kind, .bool empty, .fn (.func g) [] []] σ fun v σ' => v = .tup [.sl .no 5 ((rd.nodes one kind empty).1.1.map Nd.enc), .int .i64 (rd.nodes one kind empty).1.2] ∧ σ' = σ.set r (rd.nodes one kind empty).2.enc := by
  refine fn100.calls ?_
  simp only [slots, ac100, ams, am]
  refine kO_intro fun f hf => ?_
  have hfr : f ≠ r := by rintro rfl; rw [h] at hf; simp at hf
  simp only [am]
  refine kO_intro fun o ho => ?_
  have hfo : f ≠ o := by rintro rfl; rw [Store.set_same] at ho; simp at ho
  have hor : o ≠ r := by rintro rfl; rw [Store.set_other _ _ (Ne.symm hfr), h] at ho; simp at ho
  generalize hσ : σ.set f [.fn (.func g) [] []] = σf at ho ⊢
  have hff : σf.box f = some [.fn (.func g) [] []] := by rw [← hσ]; exact Store.set_same _ _ _
  have hfσ : σ.sub σf := by rw [← hσ]; exact sub_set hf
  have h : σf.box r = some rd.enc := by rw [← hσ, Store.set_other _ _ (Ne.symm hfr)]; exact h
  simp only [am]
  refine Upd.tok 0 fun τ hτ => ⟨_, _, _, LTo.rfl, rfl, fun i c hc => ⟨c, hc, LTo.rfl⟩, OTo.set (cs := [.sl .full 5 []]) (cs' := [.sl (.tk τ) 5 []]) (Store.set_same _ _ _) ⟨VTo.tok rfl, trivial⟩, ?_⟩
  simp only [am]
  have h1 : ((σf.set o [.sl (.tk τ) 5 []]).setTip τ 0).box r = some rd.enc := by
    show (σf.set o _).box r = _
    rw [Store.set_other _ _ (Ne.symm hor)]; exact h
  have hne : ∀ q, ((σf.set o [V.sl (.tk τ) 5 []]).setTip τ 0).box q = none → q ≠ o ∧ q ≠ r ∧ σf.box q = none := fun q hq => by
    have hqo : q ≠ o := by rintro rfl; rw [show ((σf.set q [V.sl (.tk τ) 5 []]).setTip τ 0).box q = _ from Store.set_same _ _ _] at hq; simp at hq
    have hq' : σf.box q = none := by rw [← Store.set_other σf [V.sl (.tk τ) 5 []] hqo]; exact hq
    exact ⟨hqo, by rintro rfl; rw [h] at hq'; simp at hq', hq'⟩
  generalize hin : Rdr.inside (oStep one) empty (rd.take kind).1 = ins
  have hinl : ins.1.l = (rd.take kind).1.kids := by rw [← hin]; exact inside_l (oStep_l hone) _ _
  refine (within_calls (kind := kind) (by simp [am]) h1 hlen (by omega) ins.1 ((σf.set o [.sl (.tk τ) 5 (ins.2.map Nd.enc)]).setTip τ (ins.2.map Nd.enc).length) ?_ ?_ ?_ hinl).mono ?_
  · intro hok hc q hq
    obtain ⟨hqo, hqr, _⟩ := hne q hq
    have e1 : (((σf.set o [V.sl (.tk τ) 5 []]).setTip τ 0).set r (rd.take kind).2.enc).set q (rd.take kind).1.inner.enc = gStore (σf.set r (rd.take kind).2.enc) q o τ 5 (rd.take kind).1.inner [] := by
      unfold gStore
      rw [Store.set_comm (b := q) hqo, Store.set_comm (b := r) (Ne.symm hor)]
      rfl
    have e2 : (((σf.set o [V.sl (.tk τ) 5 (ins.2.map Nd.enc)]).setTip τ (ins.2.map Nd.enc).length).set r (rd.take kind).2.enc).set q ins.1.enc = gStore (σf.set r (rd.take kind).2.enc) q o τ 5 ins.1 (ins.2.map Nd.enc) := by
      unfold gStore
      rw [Store.set_comm (b := q) hqo, Store.set_comm (b := r) (Ne.symm hor)]
      rfl
    have e3 : ins = someG (oStep one) (rd.take kind).1.inner := by
      rw [← hin, Rdr.inside, if_neg]
      rintro ⟨q1, q2⟩
      rcases hc with hc | hc
      · rw [q1] at hc; simp at hc
      · exact hc q2
    rw [e1, e2, e3]
    refine kids1_calls hone hqo ?_ hfo (by rw [Store.set_other _ _ hfr]; exact hff) rfl rfl hkids (fun i σ' h1 h2 h3 h4 => hcalls q i σ' h1 h2 (by rw [h1]; exact h3) h4)
    rintro rfl
    rw [show ((σf.set o [V.sl (.tk τ) 5 []]).setTip τ 0).box f = (σf.set o [V.sl (.tk τ) 5 []]).box f from rfl, Store.set_other _ _ hfo, hff] at hq
    simp at hq
  · intro q1 q2
    have : ins = ((rd.take kind).1.inner, []) := by rw [← hin, Rdr.inside, if_pos ⟨q1, q2⟩]
    rw [this]
    exact ⟨rfl, rfl⟩
  · intro q hq
    obtain ⟨hqo, _, hq'⟩ := hne q hq
    show (σf.set o _).box q = none
    rw [Store.set_other _ _ hqo]; exact hq'
  rintro v σ' hv
  have hdrop : ∀ (A B : List V) (n : Nat), (σ.set r A).sub (((σf.set o B).setTip τ n).set r A) := fun A B n => by
    refine Store.sub_trans (sub_both hfσ) ?_
    refine ⟨fun b cs hb => ?_, fun υ m hm => ?_⟩
    · have hbo : b ≠ o := by rintro rfl; rw [Store.set_other _ _ hor, ho] at hb; simp at hb
      by_cases hbr : b = r
      · subst hbr; rw [Store.set_same] at hb ⊢; exact hb
      · rw [Store.set_other _ _ hbr] at hb ⊢
        show (σf.set o B).box b = _
        rw [Store.set_other _ _ hbo]; exact hb
    · have hm' : σf.tip υ = some m := hm
      have hne' : υ ≠ τ := by rintro rfl; rw [show (σf.set o [V.sl .full 5 []]).tip υ = σf.tip υ from rfl] at hτ; rw [hτ] at hm'; simp at hm'
      show ((σf.set o B).setTip τ n).tip υ = some m
      rw [setTip_tip_ne hne']; exact hm'
  split at hv
  · rename_i hok
    obtain ⟨rfl, rfl⟩ := hv
    have hb : (((σf.set o [V.sl (.tk τ) 5 (ins.2.map Nd.enc)]).setTip τ (ins.2.map Nd.enc).length).set r ((rd.take kind).2.under ins.1).enc).box o = some [V.sl (.tk τ) 5 (ins.2.map Nd.enc)] := by
      rw [Store.set_other _ _ hor]; exact Store.set_same _ _ _
    simp only [am, hb]
    refine retK_intro rfl (hdrop _ _ _) ⟨?_, ?_⟩
    · simp [Rdr.nodes, Rdr.bracket, hok, hin, V.erase, eraseL]
    · simp [Rdr.nodes, Rdr.bracket, hok, hin]
  · rename_i hok
    obtain ⟨rfl, rfl⟩ := hv
    have hb : (((σf.set o [V.sl (.tk τ) 5 []]).setTip τ 0).set r (rd.take kind).2.enc).box o = some [V.sl (.tk τ) 5 []] := by
      rw [Store.set_other _ _ hor]; exact Store.set_same _ _ _
    simp only [am, hb]
    refine retK_intro rfl (hdrop _ _ _) ⟨?_, ?_⟩
    · simp [Rdr.nodes, Rdr.bracket, hok, V.erase, eraseL]
    · simp [Rdr.nodes, Rdr.bracket, hok]
end Go.Proofs.Tryz

namespace Go.Proofs.Tryz
open Go.Am
def ac109 : AC := .seq (.reg [⟨(some 2), .alloc [(.int .i64 0), (.int .i64 0), (.str []), (.sl .full 2 []), (.sl .full 5 [])], none⟩])
 (.seq (.reg [xm 6 0, xc 97 7 [.s 6], ⟨(some 3), .alloc [(.str []), (.int .i64 0)], none⟩, xs 2 3 7])
 (.seq (.reg [xm 8 0, xc 99 9 [.s 8, .c (.int .u8 58)]])
 (.seq (.reg [xm 11 0, xc 86 12 [.s 11, .c (.bool true)], xm 10 12, xe 13 10 0, xe 14 10 1, xm 4 13, xm 5 14])
 (.seq (.reg [xf 1 15 3, xo 16 15, xf 0 17 3, xo 18 17, xm 19 4, ⟨(some 20), .build [(.int .i64 0), (.int .i64 0), (.str []), (.sl .full 2 []), (.sl .full 5 [])] [(0, 1, (.c (.int .i64 6))), (1, 1, (.s 16)), (2, 1, (.s 18)), (3, 1, (.s 19))], none⟩, xs 5 2 20])
 (.ret)))))
theorem fn109 : IsFn prog 109 ac109 [.cell 2 true 5] 21 := ⟨f109, ⟨[], []⟩, func109, by kernel_rfl, by kernel_rfl, by kernel_rfl, by kernel_rfl⟩
set_option maxRecDepth 4000
set_option maxHeartbeats 4000000
theorem rule_calls {r : Nat} {rd : Rdr} {σ : Store} (h : σ.box r = some rd.enc) (hlen : rd.l.length ≤ big) (hk : ∀ (x : Rdr) (k : Int), x.l = rd.l → (x.take k).1.kids.length + 1 ≤ big) :
    PCalls prog 109 [.ptr (.out r) 0] σ fun v σ' => v = .agg rd.rule.1.enc ∧ σ' = σ.set r rd.rule.2.enc := by
  refine fn109.calls ?_
  simp only [slots, ac109, ams, am]
  refine (word_calls h hlen).mono ?_
  rintro v σ' ⟨rfl, rfl⟩
  simp only [am, Word.enc]
  refine (take_calls (Store.set_same _ _ _) (by simp [Rdr.word, Rdr.take_l, hlen])).mono ?_
  rintro v σ' ⟨rfl, rfl⟩
  simp only [am]
  refine (words_calls (Store.set_same _ _ _) (by simp [Rdr.word, Rdr.take_l, hlen]) (hk _ _ (by simp [Rdr.word, Rdr.take_l]))).mono ?_
  rintro v σ' ⟨rfl, rfl⟩
  simp only [am, Nat.reduceAdd]
  refine retK_intro rfl (Store.sub_refl _) ⟨?_, rfl⟩
  simp [Rdr.rule, V.erase, eraseL, Nd.enc, nencs]
end Go.Proofs.Tryz

namespace Go.Proofs.Tryz
open Go.Am
def ac108 : AC := .seq (.reg [⟨(some 2), .alloc [(.int .i64 0), (.int .i64 0), (.str []), (.sl .full 2 []), (.sl .full 5 [])], none⟩])
 (.seq (.reg [⟨(some 5), .build [(.int .i64 0), (.int .i64 0), (.str []), (.sl .full 2 []), (.sl .full 5 [])] [], none⟩, ⟨(some 3), .alloc [(.int .i64 0), (.int .i64 0), (.str []), (.sl .full 2 []), (.sl .full 5 [])], none⟩, xs 5 3 5])
 (.seq (.block 0 (.seq (.reg [xm 14 0, xc 98 15 [.s 14, .c (.int .u8 123)], xm 13 15])
 (.cond (.s 13) (.seq (.reg [xf 0 16 3, ⟨none, .store 1 (.s 16) (.c (.int .i64 3)), none⟩])
 (.reg [xm 18 0, xc 86 19 [.s 18, .c (.bool true)], xm 17 19, xe 20 17 0, xe 21 17 1, xf 3 22 3, xs 1 22 20, xf 1 23 3, xs 1 23 21]))
 (.seq (.reg [xm 25 0, xc 98 26 [.s 25, .c (.int .u8 40)], xm 24 26])
 (.cond (.s 24) (.seq (.reg [xf 0 27 3, ⟨none, .store 1 (.s 27) (.c (.int .i64 4)), none⟩])
 (.reg [xm 29 0, xc 100 30 [.s 29, .c (.int .u8 40), .c (.bool false), .c (.fn (.func 108) [] [])], xm 28 30, xe 31 28 0, xe 32 28 1, xf 4 33 3, xs 1 33 31, xf 1 34 3, xs 1 34 32]))
 (.seq (.reg [xm 36 0, xc 98 37 [.s 36, .c (.int .u8 91)], xm 35 37])
 (.cond (.s 35) (.seq (.reg [xf 0 38 3, ⟨none, .store 1 (.s 38) (.c (.int .i64 5)), none⟩])
 (.reg [xm 40 0, xc 100 41 [.s 40, .c (.int .u8 91), .c (.bool true), .c (.fn (.func 109) [] [])], xm 39 41, xe 42 39 0, xe 43 39 1, xf 4 44 3, xs 1 44 42, xf 1 45 3, xs 1 45 43]))
 (.seq (.reg [xm 6 0, xc 97 7 [.s 6], ⟨(some 4), .alloc [(.str []), (.int .i64 0)], none⟩, xs 2 4 7])
 (.reg [xf 1 8 4, xo 9 8, xf 0 10 4, xo 11 10, ⟨(some 12), .build [(.int .i64 0), (.int .i64 0), (.str []), (.sl .full 2 []), (.sl .full 5 [])] [(0, 1, (.c (.int .i64 2))), (1, 1, (.s 9)), (2, 1, (.s 11))], none⟩, xs 5 3 12])))))))))
 (.seq (.reg [xl 5 46 3, xs 5 2 46])
 (.ret))))
theorem fn108 : IsFn prog 108 ac108 [.cell 2 true 5] 47 := ⟨f108, ⟨[], []⟩, func108, by kernel_rfl, by kernel_rfl, by kernel_rfl, by kernel_rfl⟩
set_option maxRecDepth 4000
set_option maxHeartbeats 4000000
theorem sees_nil {r : Rdr} {k : Int} (h : manys r.l = 0) : r.sees k = false := by
  have : r.l = [] := List.eq_nil_of_length_eq_zero (by have := manys_ge r.l; omega)
  simp [Rdr.sees, isK, this]
theorem kids_big {l : List Tree} {x : Rdr} {k : Int} (hm : manys l + 1 ≤ big) (h : x.l = l) : (x.take k).1.kids.length + 1 ≤ big := by
  have h1 := (x.take_many k).1
  have h2 := manys_ge (x.take k).1.kids
  rw [h] at h1
  omega
theorem constant_calls : ∀ (n : Nat) {r : Nat} {rd : Rdr} {σ : Store} (_ : σ.box r = some rd.enc) (_ : manys rd.l ≤ n) (_ : manys rd.l + 1 ≤ big),
    PCalls prog 108 [.ptr (.out r) 0] σ fun v σ' => v = .agg (Rdr.constant n rd).1.enc ∧ σ' = σ.set r (Rdr.constant n rd).2.enc := by
  intro n
  induction n with
  | zero =>
    intro r rd σ h hn hm
    have hlen := manys_ge rd.l
    refine fn108.calls ?_
    simp only [slots, ac108, ams, am]
    refine (sees_calls h).mono ?_
    rintro v σ' ⟨rfl, rfl⟩
    simp only [am, sees_nil (Nat.le_zero.1 hn)]
    refine (sees_calls h).mono ?_
    rintro v σ' ⟨rfl, rfl⟩
    simp only [am, sees_nil (Nat.le_zero.1 hn)]
    refine (sees_calls h).mono ?_
    rintro v σ' ⟨rfl, rfl⟩
    simp only [am, sees_nil (Nat.le_zero.1 hn)]
    refine (word_calls h (by omega)).mono ?_
    rintro v σ' ⟨rfl, rfl⟩
    simp only [am, Word.enc, Nat.reduceAdd]
    refine retK_intro rfl (Store.sub_refl _) ⟨?_, rfl⟩
    simp [Rdr.constant, Rdr.leaf, V.erase, eraseL, Nd.enc, nencs]
  | succ n ih =>
    intro r rd σ h hn hm
    have hlen := manys_ge rd.l
    refine fn108.calls ?_
    simp only [slots, ac108, ams, am]
    refine (sees_calls h).mono ?_
    rintro v σ' ⟨rfl, rfl⟩
    cases h1 : rd.sees 123
    case' true =>
      simp only [am, Nat.reduceAdd]
      refine (words_calls h (by omega) (kids_big hm rfl)).mono ?_
      rintro v σ' ⟨rfl, rfl⟩
      simp only [am, Nat.reduceAdd]
      refine retK_intro rfl (Store.sub_refl _) ⟨?_, by simp [Rdr.constant, h1]⟩
      simp [Rdr.constant, h1, V.erase, eraseL, Nd.enc, nencs]
    case' false =>
      simp only [am]
      refine (sees_calls h).mono ?_
      rintro v σ' ⟨rfl, rfl⟩
      cases h2 : rd.sees 40
    case' false.true =>
      have hk : manys (rd.take 40).1.kids + 1 ≤ manys rd.l := (rd.take_many 40).2 (by
        rcases rd.take_at 40 with ⟨_, _, e, _, _⟩ | ⟨e, _, _⟩
        · exact e
        · rw [h2] at e; simp at e)
      simp only [am, Nat.reduceAdd]
      refine (kids_calls (reads_of (goes_constant n)) h (by omega) (kids_big hm rfl) (fun q i σ' e1 _ _ e4 => ih e4 (by rw [e1]; omega) (by rw [e1]; omega))).mono ?_
      rintro v σ' ⟨rfl, rfl⟩
      simp only [am, Nat.reduceAdd]
      refine retK_intro rfl (Store.sub_refl _) ⟨?_, by simp [Rdr.constant, h1, h2]⟩
      simp [Rdr.constant, h1, h2, V.erase, eraseL, Nd.enc, nencs_map]
    case' false.false =>
      simp only [am]
      refine (sees_calls h).mono ?_
      rintro v σ' ⟨rfl, rfl⟩
      cases h3 : rd.sees 91
    case' false.false.true =>
      simp only [am, Nat.reduceAdd]
      refine (kids_calls (reads_of goes_rule) h (by omega) (kids_big hm rfl) (fun q i σ' e1 _ _ e4 => rule_calls e4 (by have g1 := manys_ge i.l; have g2 := (rd.take_many 91).1; rw [← e1] at g2; omega) (fun x k ex => kids_big (by have g2 := (rd.take_many 91).1; rw [← e1] at g2; omega) ex))).mono ?_
      rintro v σ' ⟨rfl, rfl⟩
      simp only [am, Nat.reduceAdd]
      refine retK_intro rfl (Store.sub_refl _) ⟨?_, by simp [Rdr.constant, h1, h2, h3]⟩
      simp [Rdr.constant, h1, h2, h3, V.erase, eraseL, Nd.enc, nencs_map]
    case' false.false.false =>
      simp only [am]
      refine (word_calls h (by omega)).mono ?_
      rintro v σ' ⟨rfl, rfl⟩
      simp only [am, Word.enc, Nat.reduceAdd]
      refine retK_intro rfl (Store.sub_refl _) ⟨?_, by simp [Rdr.constant, Rdr.leaf, h1, h2, h3]⟩
      simp [Rdr.constant, Rdr.leaf, h1, h2, h3, V.erase, eraseL, Nd.enc, nencs]
end Go.Proofs.Tryz

namespace Go.Proofs.Tryz
open Go.Am
def ac101 : AC := .seq (.reg [⟨(some 2), .alloc [(.int .i64 0), (.int .i64 0), (.str []), (.sl .full 2 []), (.sl .full 5 [])], none⟩])
 (.seq (.seq (.reg [xm 5 0, xc 98 6 [.s 5, .c (.int .u8 35)]])
 (.cond (.s 6) (.seq (.reg [xm 7 0, xc 99 8 [.s 7, .c (.int .u8 35)], ⟨(some 3), .alloc [(.int .u8 0), (.str []), (.int .i64 0), (.sl .full 5 []), (.int .i64 0)], none⟩, xs 5 3 8])
 (.seq (.draw [(xf 0 9 3, []), (xf 2 10 9, []), (xo 11 10, [1]), (xm 12 0, []), (xc 108 13 [.s 12], []), (⟨(some 14), .bslice 5 [(.s 13)], none⟩, []), (⟨(some 15), .build [(.int .i64 0), (.int .i64 0), (.str []), (.sl .full 2 []), (.sl .full 5 [])] [(0, 1, (.c (.int .i64 7))), (1, 1, (.s 11)), (4, 1, (.s 14))], none⟩, []), (xs 5 2 15, [])])
 (.ret)))
 (.skip)))
 (.seq (.reg [xm 16 0, xc 97 17 [.s 16], ⟨(some 4), .alloc [(.str []), (.int .i64 0)], none⟩, xs 2 4 17])
 (.seq (.reg [xf 1 18 4, xo 19 18, xf 0 20 4, xo 21 20, ⟨(some 22), .build [(.int .i64 0), (.int .i64 0), (.str []), (.sl .full 2 []), (.sl .full 5 [])] [(0, 1, (.c (.int .i64 1))), (1, 1, (.s 19)), (2, 1, (.s 21))], none⟩, xs 5 2 22])
 (.ret))))
theorem fn101 : IsFn prog 101 ac101 [.cell 2 true 5] 23 := ⟨f101, ⟨[], []⟩, func101, by kernel_rfl, by kernel_rfl, by kernel_rfl, by kernel_rfl⟩
def ac104 : AC := .seq (.reg [⟨(some 2), .alloc [(.int .i64 0), (.int .i64 0), (.str []), (.sl .full 2 []), (.sl .full 5 [])], none⟩])
 (.seq (.reg [xm 4 0, xc 97 5 [.s 4], ⟨(some 3), .alloc [(.str []), (.int .i64 0)], none⟩, xs 2 3 5])
 (.seq (.reg [xm 6 0, xc 99 7 [.s 6, .c (.int .u8 61)]])
 (.seq (.draw [(xf 1 8 3, []), (xo 9 8, [1]), (xf 0 10 3, []), (xo 11 10, [1]), (xm 12 0, []), (xc 101 13 [.s 12], []), (⟨(some 14), .bslice 5 [(.s 13)], none⟩, []), (⟨(some 15), .build [(.int .i64 0), (.int .i64 0), (.str []), (.sl .full 2 []), (.sl .full 5 [])] [(0, 1, (.c (.int .i64 11))), (1, 1, (.s 9)), (2, 1, (.s 11)), (4, 1, (.s 14))], none⟩, []), (xs 5 2 15, [])])
 (.ret))))
theorem fn104 : IsFn prog 104 ac104 [.cell 2 true 5] 16 := ⟨f104, ⟨[], []⟩, func104, by kernel_rfl, by kernel_rfl, by kernel_rfl, by kernel_rfl⟩
set_option maxRecDepth 4000
set_option maxHeartbeats 4000000
theorem Nd.len {n : Nd} : n.enc.length = 5 := by rw [Nd.enc_eq]; rfl
theorem Tree.ld {t : Tree} : ∀ {n : Nat}, t.enc.drop n = [V.int .u8 t.tok.kind, .str t.tok.text, .int .i64 t.tok.pos, .sl .no 5 (encs t.kids), .int .i64 t.fin].drop n := fun {n} => by rw [enc_eq]
theorem atom_calls {n r : Nat} {rd : Rdr} {σ : Store} (h : σ.box r = some rd.enc) (hn : manys rd.l ≤ n) (hm : manys rd.l + 1 ≤ big) :
    PCalls prog 101 [.ptr (.out r) 0] σ fun v σ' => v = .agg (rd.atom n).1.enc ∧ σ' = σ.set r (rd.atom n).2.enc := by
  have hlen := manys_ge rd.l
  refine fn101.calls ?_
  simp only [slots, ac101, ams, am]
  refine (sees_calls h).mono ?_
  rintro v σ' ⟨rfl, rfl⟩
  cases h1 : rd.sees 35
  case' true =>
    simp only [am]
    refine (take_calls h (by omega)).mono ?_
    rintro v σ' ⟨rfl, rfl⟩
    simp only [am, enc_eq, Nat.reduceAdd]
    refine CallD.intro (constant_calls n (Store.set_same _ _ _) (by rw [Rdr.take_l]; exact hn) (by rw [Rdr.take_l]; exact hm)) ?_
    simp only [am, Nd.len, Nd.one, Nd.nol, Nd.er, Nat.reduceAdd]
    refine retK_intro rfl (Store.sub_refl _) ⟨?_, by simp [Rdr.atom, h1]⟩
    simp [Rdr.atom, h1, V.erase, eraseL, Nd.enc, nencs]
  case' false =>
    simp only [am]
    refine (word_calls h (by omega)).mono ?_
    rintro v σ' ⟨rfl, rfl⟩
    simp only [am, Word.enc, Nat.reduceAdd]
    refine retK_intro rfl (Store.sub_refl _) ⟨?_, by simp [Rdr.atom, Rdr.leaf, h1]⟩
    simp [Rdr.atom, Rdr.leaf, h1, V.erase, eraseL, Nd.enc, nencs]
theorem field_calls {n r : Nat} {rd : Rdr} {σ : Store} (h : σ.box r = some rd.enc) (hn : manys rd.l ≤ n) (hm : manys rd.l + 1 ≤ big) :
    PCalls prog 104 [.ptr (.out r) 0] σ fun v σ' => v = .agg (rd.field n).1.enc ∧ σ' = σ.set r (rd.field n).2.enc := by
  have hlen := manys_ge rd.l
  refine fn104.calls ?_
  simp only [slots, ac104, ams, am]
  refine (word_calls h (by omega)).mono ?_
  rintro v σ' ⟨rfl, rfl⟩
  simp only [am, Word.enc, Nat.reduceAdd]
  have e1 : rd.word.2.l = rd.l := by simp [Rdr.word, Rdr.take_l]
  refine (take_calls (Store.set_same _ _ _) (by rw [e1]; omega)).mono ?_
  rintro v σ' ⟨rfl, rfl⟩
  simp only [am, Nat.reduceAdd]
  refine CallD.intro (atom_calls (n := n) (Store.set_same _ _ _) (by rw [Rdr.take_l, e1]; exact hn) (by rw [Rdr.take_l, e1]; exact hm)) ?_
  simp only [am, Nd.len, Nd.one, Nd.nol, Nd.er, Nat.reduceAdd]
  refine retK_intro rfl (Store.sub_refl _) ⟨?_, by simp [Rdr.field]⟩
  simp [Rdr.field, V.erase, eraseL, Nd.enc, nencs]
end Go.Proofs.Tryz

namespace Go.Proofs.Tryz
open Go.Am
def ac89 : AC := .seq (.reg [⟨(some 2), .alloc [(.int .i64 0), (.int .i64 0), (.str []), (.sl .full 2 []), (.sl .full 5 [])], none⟩])
 (.seq (.seq (.reg [⟨(some 9), .bslice 1 [(.c (.int .u8 43)), (.c (.int .u8 38))], none⟩, xL 10 9, xi 11 0])
 (.block 0 (.loop (.seq (.reg [xb .lss 12 11 10])
 (.seq (.cond (.s 12) (.skip)
 (.exit 0))
 (.seq (.block 1 (.seq (.reg [xA 1 13 9 11, xo 14 13, xm 4 14])
 (.seq (.seq (.reg [xm 15 0, xm 16 4, xc 98 17 [.s 15, .s 16], ⟨(some 18), .not (.s 17), none⟩])
 (.cond (.s 18) (.exit 1)
 (.skip)))
 (.seq (.reg [xm 19 0, xm 20 4, xc 99 21 [.s 19, .s 20], ⟨(some 5), .alloc [(.int .u8 0), (.str []), (.int .i64 0), (.sl .full 5 []), (.int .i64 0)], none⟩, xs 5 5 21])
 (.seq (.reg [xi 6 8])
 (.seq (.seq (.reg [xm 22 4, xu .eql 23 22 38])
 (.cond (.s 23) (.reg [xi 6 9])
 (.skip)))
 (.seq (.reg [xm 25 0, xc 100 26 [.s 25, .c (.int .u8 40), .c (.bool false), .c (.fn (.func 89) [] [])], xm 24 26, xe 27 24 0, xe 28 24 1, xm 7 27, xm 8 28])
 (.seq (.reg [xm 29 6, xf 0 30 5, xf 2 31 30, xo 32 31, xm 33 7, ⟨(some 34), .build [(.int .i64 0), (.int .i64 0), (.str []), (.sl .full 2 []), (.sl .full 5 [])] [(0, 1, (.s 29)), (1, 1, (.s 32)), (4, 1, (.s 33))], none⟩, xs 5 2 34])
 (.ret)))))))))
 (.reg [xB .add 35 11 1, xm 11 35])))))))
 (.seq (.reg [xm 36 0, xc 101 37 [.s 36], xs 5 2 37])
 (.ret)))
theorem fn89 : IsFn prog 89 ac89 [.cell 2 true 5] 38 := ⟨f89, ⟨[], []⟩, func89, by kernel_rfl, by kernel_rfl, by kernel_rfl, by kernel_rfl⟩
set_option maxRecDepth 4000
set_option maxHeartbeats 4000000
def inv44 (r : Nat) (rd : Rdr) (σ : Store) (i : { i : Nat // i ≤ 2 ∧ (1 ≤ i → rd.sees 43 = false) ∧ (2 ≤ i → rd.sees 38 = false) }) : St :=
  ⟨[.ptr (.out r) 0, .any, .ptr (.loc 0) 0, .any, .any, .any, .any, .any, .any, .sl .full 1 [[.int .u8 43], [.int .u8 38]], .int .i64 2, .int .i64 (i.1 : Nat)] ++ List.replicate 26 .any,
    [[.int .i64 0, .int .i64 0, .str [], .sl .full 2 [], .sl .full 5 []]], σ⟩
theorem Nd.ovr {n : Nd} {a b c d e : V} : over [a, b, c, d, e] n.enc = n.enc := by rw [Nd.enc_eq]; rfl
theorem Nd.tk {n : Nd} : takeN 5 n.enc = some n.enc := by rw [Nd.enc_eq]; rfl
theorem take_less (r : Rdr) (k : Int) : manys (r.take k).1.kids + 1 ≤ manys r.l ∨ manys (r.take k).1.kids = 0 := by
  rcases r.take_at k with ⟨_, _, e, _, _⟩ | ⟨e, _, _⟩
  · exact .inl ((r.take_many k).2 e)
  · right; simp [Rdr.take, e, Tree.zero, Tree.kids, manys]
theorem label_leaf {n : Nat} {rd : Rdr} (h1 : rd.sees 43 = false) (h2 : rd.sees 38 = false) (hn : manys rd.l ≤ n) : Rdr.label n rd = rd.atom n := by
  cases n with
  | zero => simp [Rdr.label, Rdr.atom, sees_nil (Nat.le_zero.1 hn)]
  | succ n => simp [Rdr.label, h1, h2]
theorem label_step {n : Nat} (ih : ∀ m, n = m + 1 → ∀ {r : Nat} {rd : Rdr} {σ : Store} (_ : σ.box r = some rd.enc) (_ : manys rd.l ≤ m) (_ : manys rd.l + 1 ≤ big),
    PCalls prog 89 [.ptr (.out r) 0] σ fun v σ' => v = .agg (Rdr.label m rd).1.enc ∧ σ' = σ.set r (Rdr.label m rd).2.enc) {r : Nat} {rd : Rdr} {σ : Store} (h : σ.box r = some rd.enc) (hn : manys rd.l ≤ n) (hm : manys rd.l + 1 ≤ big) :
    PCalls prog 89 [.ptr (.out r) 0] σ fun v σ' => v = .agg (Rdr.label n rd).1.enc ∧ σ' = σ.set r (Rdr.label n rd).2.enc := by
  have hlen := manys_ge rd.l
  have hpos : ∀ k, rd.sees k = true → ∃ m, n = m + 1 := fun k hk => by
    cases n with
    | zero => rw [sees_nil (Nat.le_zero.1 hn)] at hk; simp at hk
    | succ m => exact ⟨m, rfl⟩
  have kids : ∀ (m : Nat) (k : Int), n = m + 1 → ∀ (q : Nat) (i : Rdr) (σ : Store), i.l = ((rd.take k).2.take 40).1.kids → 0 ≤ i.at_ → i.at_ ≤ i.l.length → σ.box q = some i.enc → PCalls prog 89 [.ptr (.out q) 0] σ fun v σ' => v = .agg (Rdr.label m i).1.enc ∧ σ' = σ.set q (Rdr.label m i).2.enc := fun m k e q i σ e1 _ _ e4 => by
    have g1 := ((rd.take k).2.take_many 40).1
    have g2 := take_less (rd.take k).2 40
    rw [Rdr.take_l, ← e1] at g1 g2
    exact ih m e e4 (by omega) (by omega)
  refine fn89.calls ?_
  simp only [slots, ac89, ams, am]
  refine vc_loop (fun i => inv44 r rd σ i) (fun i => 2 - i.1) ?_ ?_
  · refine Upd.enter ⟨0, by omega, by omega, by omega⟩ ?_ ?_ OLe.rfl
    · simp [inv44, List.replicate, am]
    · simp [inv44, am]
  · rintro ⟨i, hi, hi1, hi2⟩
    simp only [inv44, List.replicate, am]
    have hcase : i = 0 ∨ i = 1 ∨ i = 2 := by omega
    rcases hcase with rfl | rfl | rfl
    · simp only [am, show (((0 : Nat) : Int) < 2) = True by simp, decide_true]
      refine idxL_intro (by omega) (c := [.int .u8 43]) rfl ?_
      simp only [am]
      refine (sees_calls h).mono ?_
      rintro v σ' ⟨rfl, rfl⟩
      cases h1 : rd.sees 43
      · simp only [am]
        rw [wrap_i64 (by omega) (by omega)]
        exact Upd.again ⟨1, by omega, fun _ => rfl, by omega⟩ (by simp) (by simp [am]) LLLe.rfl OLe.rfl
      · have eqD : decide ((43 : Int) = 38) = false := by simp
        obtain ⟨m, rfl⟩ := hpos _ h1
        simp only [am]
        refine (take_calls h (by omega)).mono ?_
        rintro v σ' ⟨rfl, rfl⟩
        simp only [am, enc_eq, Nat.reduceAdd, decide_true, eqD]
        refine (kids_calls (reads_of (goes_label m)) (Store.set_same _ _ _) (by rw [Rdr.take_l]; omega) (kids_big hm (Rdr.take_l _ _)) (kids m 43 rfl)).mono ?_
        rintro v σ' ⟨rfl, rfl⟩
        simp only [am, Nat.reduceAdd]
        refine retK_intro rfl (Store.sub_refl _) ⟨?_, by simp [Rdr.label, h1]⟩
        simp [Rdr.label, h1, V.erase, eraseL, Nd.enc, nencs_map]
    · have hs1 := hi1 (by omega)
      simp only [am, show (((1 : Nat) : Int) < 2) = True by simp, decide_true]
      refine idxL_intro (by omega) (c := [.int .u8 38]) rfl ?_
      simp only [am]
      refine (sees_calls h).mono ?_
      rintro v σ' ⟨rfl, rfl⟩
      cases h1 : rd.sees 38
      · simp only [am]
        rw [wrap_i64 (by omega) (by omega)]
        exact Upd.again ⟨2, by omega, fun _ => hs1, fun _ => rfl⟩ (by simp) (by simp [am]) LLLe.rfl OLe.rfl
      · have eqD : decide ((38 : Int) = 38) = true := by simp
        obtain ⟨m, rfl⟩ := hpos _ h1
        simp only [am]
        refine (take_calls h (by omega)).mono ?_
        rintro v σ' ⟨rfl, rfl⟩
        simp only [am, enc_eq, Nat.reduceAdd, decide_true, eqD]
        refine (kids_calls (reads_of (goes_label m)) (Store.set_same _ _ _) (by rw [Rdr.take_l]; omega) (kids_big hm (Rdr.take_l _ _)) (kids m 38 rfl)).mono ?_
        rintro v σ' ⟨rfl, rfl⟩
        simp only [am, Nat.reduceAdd]
        refine retK_intro rfl (Store.sub_refl _) ⟨?_, by simp [Rdr.label, hs1, h1]⟩
        simp [Rdr.label, hs1, h1, V.erase, eraseL, Nd.enc, nencs_map]
    · have hs1 := hi1 (by omega)
      have hs2 := hi2 (by omega)
      simp only [am, show (((2 : Nat) : Int) < 2) = False by simp, decide_false]
      refine (atom_calls h hn hm).mono ?_
      rintro v σ' ⟨rfl, rfl⟩
      simp only [am, Nd.len, Nd.one, Nd.ovr, Nd.tk]
      rw [label_leaf hs1 hs2 hn]
      refine retK_intro (by simp only [am, Nd.nol]) (Store.sub_refl _) ⟨?_, rfl⟩
      simp only [am, Nd.er]
theorem label_calls : ∀ (n : Nat) {r : Nat} {rd : Rdr} {σ : Store} (_ : σ.box r = some rd.enc) (_ : manys rd.l ≤ n) (_ : manys rd.l + 1 ≤ big),
    PCalls prog 89 [.ptr (.out r) 0] σ fun v σ' => v = .agg (Rdr.label n rd).1.enc ∧ σ' = σ.set r (Rdr.label n rd).2.enc := by
  intro n
  induction n with
  | zero => exact fun h hn hm => label_step (fun m e => by omega) h hn hm
  | succ n ih => exact fun h hn hm => label_step (fun m e => by obtain rfl : n = m := by omega
                                                                exact ih) h hn hm
end Go.Proofs.Tryz

namespace Go.Proofs.Tryz
open Go.Am
def ac103 : AC := .hole [(xf 4 2 0, []), (xo 3 2, [1]), (xo 4 1, []), (xc 104 5 [.s 4], []), (xL 6 3, []), (⟨(some 7), .bslice 5 [(.c (.agg [(.int .i64 0), (.int .i64 0), (.str []), (.sl .full 2 []), (.sl .full 5 [])]))], none⟩, []), (⟨(some 8), .mv (.c .any), none⟩, []), (⟨(some 9), .mv (.c .any), none⟩, []), (⟨none, .mv (.c .any), none⟩, []), (⟨(some 10), .mv (.c .any), none⟩, []), (⟨none, .mv (.c .any), none⟩, [])] ⟨5, (.s 3), (.s 7), (.s 6), (.s 5), (.s 0), (some 4), 8, 9, 10⟩
theorem fn103 : IsFn prog 103 ac103 [] 11 := ⟨f103, ⟨[], []⟩, func103, by kernel_rfl, by kernel_rfl, by kernel_rfl, by kernel_rfl⟩
set_option maxRecDepth 4000
set_option maxHeartbeats 4000000
def rCells (τ : Nat) (names rows : List (List V)) : List V := [.int .i64 10, .int .i64 0, .str [], .sl .full 2 names, .sl (.tk τ) 5 rows]
theorem row11_calls {n o p q τ : Nat} {names rows : List (List V)} {rd : Rdr} {σ : Store} (ho : σ.box o = some (rCells τ names rows)) (hp : σ.box p = some [.ptr (.out q) 0]) (hq : σ.box q = some rd.enc)
    (hoq : o ≠ q) (ht : σ.tip τ = some rows.length) (hb : rows.length + 1 ≤ big) (hn : manys rd.l ≤ n) (hm : manys rd.l + 1 ≤ big) :
    PCalls prog 103 [.ptr (.out o) 0, .ptr (.out p) 0] σ fun v σ' => v = .tup [] ∧ σ' = ((σ.set q (rd.field n).2.enc).set o (rCells τ names (rows ++ [(rd.field n).1.enc]))).setTip τ (rows.length + 1) := by
  unfold rCells at ho ⊢
  refine fn103.calls ?_
  simp only [slots, ac103, ams, am, ho, hp]
  refine CallD.intro (field_calls (n := n) hq hn hm) ?_
  have h1 : (σ.set q (rd.field n).2.enc).box o = some [.int .i64 10, .int .i64 0, .str [], .sl .full 2 names, .sl (.tk τ) 5 rows] := by rw [Store.set_other _ _ hoq]; exact ho
  simp only [am, h1, ho]
  refine hole_intro (τ := τ) (m := rows) (cs := (rd.field n).1.enc) (p := .ptr (.out o) 4) rfl rfl rfl hb ht ⟨Nd.wd, Nd.one, Nd.nol⟩ Nd.er (by simp [am]) rfl (by simp only [ev, am, h1]; rfl) ?_
  simp only [am]
  exact retK_intro rfl (Store.sub_refl _) ⟨rfl, rfl⟩
end Go.Proofs.Tryz

namespace Go.Proofs.Tryz
open Go.Am
def ac102 : AC := .seq (.reg [⟨(some 2), .boxO 1 (.s 0), none⟩])
 (.seq (.seq (.reg [xo 3 2, xc 98 4 [.s 3, .c (.int .u8 124)], ⟨(some 5), .not (.s 4), none⟩])
 (.cond (.s 5) (.reg [xo 6 2, ⟨(some 7), .mkfn (.func 103) [] [(.s 1), (.s 2)], none⟩, xc 95 8 [.s 6, .s 7]])
 (.skip)))
 (.seq (.reg [xo 9 2, xc 98 10 [.s 9, .c (.int .u8 124)]])
 (.cond (.s 10) (.seq (.reg [xo 11 2, xc 99 12 [.s 11, .c (.int .u8 124)]])
 (.reg [xo 13 2, xc 97 14 [.s 13], ⟨(some 15), .bslice 2 [(.s 14)], none⟩, xf 3 16 1, xs 1 16 15]))
 (.skip))))
theorem fn102 : IsFn prog 102 ac102 [] 17 := ⟨f102, ⟨[2], []⟩, func102, by kernel_rfl, by kernel_rfl, by kernel_rfl, by kernel_rfl⟩
set_option maxRecDepth 4000
set_option maxHeartbeats 4000000
def gRow (σ : Store) (q o τ : Nat) (rd : Rdr) (names rows : List (List V)) : Store := ((σ.set q rd.enc).set o (rCells τ names rows)).setTip τ rows.length
theorem gRow_q {σ : Store} {q o τ : Nat} {rd : Rdr} {names rows : List (List V)} (h : q ≠ o) : (gRow σ q o τ rd names rows).box q = some rd.enc := by
  simp [gRow, Store.setTip, Store.set, h]
theorem gRow_o {σ : Store} {q o τ : Nat} {rd : Rdr} {names rows : List (List V)} : (gRow σ q o τ rd names rows).box o = some (rCells τ names rows) := by
  simp [gRow, Store.setTip, Store.set]
theorem gRow_p {σ : Store} {q o τ p : Nat} {rd : Rdr} {names rows : List (List V)} (h : p ≠ q) (h' : p ≠ o) : (gRow σ q o τ rd names rows).box p = σ.box p := by
  simp [gRow, Store.setTip, Store.set, h, h']
theorem gRow_other {σ : Store} {q o τ p : Nat} {rd : Rdr} {names rows : List (List V)} {cs : List V} (h : p ≠ q) (h' : p ≠ o) : (gRow σ q o τ rd names rows).set p cs = gRow (σ.set p cs) q o τ rd names rows := by
  have : ((σ.set q rd.enc).set o (rCells τ names rows)).set p cs = ((σ.set p cs).set q rd.enc).set o (rCells τ names rows) := by
    rw [Store.set_comm (Ne.symm h'), Store.set_comm (b := q) (Ne.symm h)]
  show (((σ.set q rd.enc).set o (rCells τ names rows)).set p cs).setTip τ rows.length = _
  rw [this]; rfl
theorem gRow_tip {σ : Store} {q o τ : Nat} {rd : Rdr} {names rows : List (List V)} : (gRow σ q o τ rd names rows).tip τ = some rows.length := by
  simp [gRow, Store.setTip]
theorem gRow_set {σ : Store} {q o τ : Nat} {rd rd' : Rdr} {names rows : List (List V)} (h : q ≠ o) : (gRow σ q o τ rd names rows).set q rd'.enc = gRow σ q o τ rd' names rows := by
  have : ((σ.set q rd.enc).set o (rCells τ names rows)).set q rd'.enc = (σ.set q rd'.enc).set o (rCells τ names rows) := by rw [Store.set_comm (Ne.symm h), Store.set_set]
  show (((σ.set q rd.enc).set o (rCells τ names rows)).set q rd'.enc).setTip τ rows.length = _
  rw [this]; rfl
theorem gRow_names {σ : Store} {q o τ : Nat} {rd : Rdr} {names names' rows : List (List V)} : (gRow σ q o τ rd names rows).set o (rCells τ names' rows) = gRow σ q o τ rd names' rows := by
  show (((σ.set q rd.enc).set o (rCells τ names rows)).set o (rCells τ names' rows)).setTip τ rows.length = _
  rw [Store.set_set]; rfl
theorem gRow_put {σ : Store} {q o τ : Nat} {rd rd' : Rdr} {names rows : List (List V)} {c : List V} (h : q ≠ o) : (((gRow σ q o τ rd names rows).set q rd'.enc).set o (rCells τ names (rows ++ [c]))).setTip τ (rows.length + 1) = gRow σ q o τ rd' names (rows ++ [c]) := by
  rw [gRow_set h]
  unfold gRow
  rw [List.length_append, List.length_cons, List.length_nil]
  show ((((σ.set q rd'.enc).set o (rCells τ names rows)).set o (rCells τ names (rows ++ [c]))).setTip τ rows.length).setTip τ (rows.length + 1) = _
  rw [Store.set_set, setTip_setTip]
def rSys (one : Rdr → Nd × Rdr) (σ : Store) (q o τ : Nat) : Sys (Rdr × List Nd) := ⟨fun a => gRow σ q o τ a.1 [] (a.2.map Nd.enc), fun a => a.1, fun a r => (r, a.2), oStep one⟩
theorem someG_l {one : Rdr → Nd × Rdr} (h : Reads one) (r : Rdr) : (someG (oStep one) r).1.l = r.l := go_l (oStep_l h _) _ _ (oStep_l h _ _ rfl)
theorem row1_calls {n o q τ : Nat} {rd : Rdr} {σ : Store} (hqo : q ≠ o) (hat : rd.at_ = 0) (hbad : rd.bad = none) (hn : manys rd.l ≤ n) (hm : manys rd.l + 1 ≤ big) :
    PCalls prog 102 [.ptr (.out q) 0, .ptr (.out o) 0] (gRow σ q o τ rd [] []) fun v σ' => v = .tup [] ∧ σ' = gRow σ q o τ (rd.rowIn n).1.1 ((rd.rowIn n).2.map Word.enc) ((rd.rowIn n).1.2.map Nd.enc) := by
  have hlen := manys_ge rd.l
  have hfield : Reads (Rdr.field n) := reads_of (goes_field n)
  refine fn102.calls ?_
  simp only [slots, ac102, ams, am]
  refine kO_intro fun p hp => ?_
  have hpq : p ≠ q := by rintro rfl; rw [gRow_q hqo] at hp; simp at hp
  have hpo : p ≠ o := by rintro rfl; rw [gRow_o] at hp; simp at hp
  rw [gRow_p hpq hpo] at hp
  rw [gRow_other hpq hpo]
  have hsp : ∀ a b c, (gRow (σ.set p [.ptr (.out q) 0]) q o τ a b c).box p = some [.ptr (.out q) 0] := fun a b c => by rw [gRow_p hpq hpo, Store.set_same]
  have hfin : ∀ a b c, (gRow σ q o τ a b c).sub (gRow (σ.set p [.ptr (.out q) 0]) q o τ a b c) := fun a b c => by
    rw [← gRow_other hpq hpo]; exact sub_set (by rw [gRow_p hpq hpo]; exact hp)
  simp only [am, hsp]
  refine (sees_calls (gRow_q hqo)).mono ?_
  rintro v σ' ⟨rfl, rfl⟩
  cases h1 : rd.sees 124
  all_goals simp only [am, hsp]
  case' false =>
    have hstep : ∀ a : Rdr × List Nd, Pace rd.l a → a.1.bad = none → PCalls prog 103 [.ptr (.out o) 0, .ptr (.out p) 0] (gRow (σ.set p [.ptr (.out q) 0]) q o τ a.1 [] (a.2.map Nd.enc)) fun v σ' =>
        v = .tup [] ∧ σ' = gRow (σ.set p [.ptr (.out q) 0]) q o τ (oStep (Rdr.field n) a).1 [] ((oStep (Rdr.field n) a).2.map Nd.enc) := fun a hp' hb => by
      have hl := hp'.2.2.2 hb
      have hl2 := hp'.2.2.1
      refine (row11_calls (n := n) gRow_o (hsp _ _ _) (gRow_q hqo) (Ne.symm hqo) gRow_tip (by rw [List.length_map]; omega) (by rw [hp'.1]; exact hn) (by rw [hp'.1]; exact hm)).mono ?_
      rintro v σ' ⟨rfl, rfl⟩
      refine ⟨rfl, ?_⟩
      rw [gRow_put hqo]
      simp [oStep]
    have h0 : Pace rd.l (rd, ([] : List Nd)) := ⟨rfl, by simp [hat], by simp [hat], fun _ => by simp [hat]⟩
    obtain ⟨p1, _⟩ := pace_one hfield h0 hbad
    refine (some_calls (rSys (Rdr.field n) (σ.set p [.ptr (.out q) 0]) q o τ) (Pace rd.l) (a := (rd, [])) (n := rd.l.length) (by simp [am]) (fun a h => gRow_q hqo) (fun a h => ?_) (fun a h hs => gRow_set hqo) (fun a h hs => ?_) (hstep _ h0 hbad) p1 ?_).mono ?_
    · show a.1.l.length ≤ big
      rw [h.1]; omega
    · obtain ⟨k1, k2, k3⟩ := pace_take h hs
      obtain ⟨k4, k5⟩ := pace_one hfield k1 k2
      refine ⟨hstep _ k1 k2, k4, ?_, ?_⟩
      · exact k4.1.trans h.1.symm
      · show a.1.at_ + 1 ≤ _
        simp only at k5
        rw [k3] at k5
        exact k5
    · show (oStep (Rdr.field n) (rd, [])).1.l.length ≤ rd.l.length
      rw [p1.1]; omega
    rintro v σ' ⟨rfl, rfl⟩
    have e : (rSys (Rdr.field n) (σ.set p [.ptr (.out q) 0]) q o τ).F ((rSys (Rdr.field n) (σ.set p [.ptr (.out q) 0]) q o τ).go rd.l.length ((rSys (Rdr.field n) (σ.set p [.ptr (.out q) 0]) q o τ).step (rd, []))) = gRow (σ.set p [.ptr (.out q) 0]) q o τ (someG (oStep (Rdr.field n)) rd).1 [] ((someG (oStep (Rdr.field n)) rd).2.map Nd.enc) := by
      unfold rSys
      rw [go_goG]
      rfl
    rw [e]
    have hl := someG_l hfield rd
    have hres : rd.rowIn n = if (someG (oStep (Rdr.field n)) rd).1.sees 124 = true then ((((someG (oStep (Rdr.field n)) rd).1.take 124).2.word.2, (someG (oStep (Rdr.field n)) rd).2), [((someG (oStep (Rdr.field n)) rd).1.take 124).2.word.1]) else (someG (oStep (Rdr.field n)) rd, []) := by
      simp only [Rdr.rowIn, h1, Bool.false_eq_true, if_false]
    generalize someG (oStep (Rdr.field n)) rd = a at hl hres ⊢
    simp only [am, hsp]
  case' true =>
    have hres : rd.rowIn n = if rd.sees 124 = true then (((rd.take 124).2.word.2, []), [(rd.take 124).2.word.1]) else ((rd, []), []) := by
      simp only [Rdr.rowIn, h1, if_true]
    have hl : rd.l = rd.l := rfl
    rw [show gRow (σ.set p [.ptr (.out q) 0]) q o τ rd [] [] = gRow (σ.set p [.ptr (.out q) 0]) q o τ (rd, ([] : List Nd)).1 [] ((rd, ([] : List Nd)).2.map Nd.enc) from rfl]
    have hres : rd.rowIn n = if (rd, ([] : List Nd)).1.sees 124 = true then ((((rd, ([] : List Nd)).1.take 124).2.word.2, (rd, ([] : List Nd)).2), [((rd, ([] : List Nd)).1.take 124).2.word.1]) else ((rd, ([] : List Nd)), []) := hres
    have hl : (rd, ([] : List Nd)).1.l = rd.l := rfl
    generalize (rd, ([] : List Nd)) = a at hl hres ⊢
  all_goals
    refine (sees_calls (gRow_q hqo)).mono ?_
    rintro v σ' ⟨rfl, rfl⟩
    cases h2 : a.1.sees 124
    · simp only [am, hres, h2]
      exact retK_intro rfl (hfin _ _ _) ⟨rfl, rfl⟩
    · simp only [am, hsp]
      refine (take_calls (gRow_q hqo) (by rw [hl]; omega)).mono ?_
      rintro v σ' ⟨rfl, rfl⟩
      rw [gRow_set hqo]
      simp only [am, hsp]
      refine (word_calls (gRow_q hqo) (by rw [Rdr.take_l, hl]; omega)).mono ?_
      rintro v σ' ⟨rfl, rfl⟩
      rw [gRow_set hqo]
      simp only [am, hsp, Word.enc, gRow_o, rCells, Nat.reduceAdd]
      rw [show [V.int .i64 10, .int .i64 0, .str [], .sl .full 2 [[.str (a.1.take 124).2.word.1.text, .int .i64 (a.1.take 124).2.word.1.pos]], .sl (.tk τ) 5 (a.2.map Nd.enc)] = rCells τ ([(a.1.take 124).2.word.1].map Word.enc) (a.2.map Nd.enc) from rfl, gRow_names]
      exact retK_intro rfl (hfin _ _ _) ⟨rfl, by rw [hres, if_pos h2]⟩
end Go.Proofs.Tryz

namespace Go.Proofs.Tryz
open Go.Am
def ac90 : AC := .seq (.reg [⟨(some 2), .alloc [(.int .i64 0), (.int .i64 0), (.str []), (.sl .full 2 []), (.sl .full 5 [])], none⟩])
 (.seq (.seq (.reg [xm 5 0, xc 98 6 [.s 5, .c (.int .u8 91)], ⟨(some 7), .not (.s 6), none⟩])
 (.cond (.s 7) (.seq (.reg [xm 8 0, xc 97 9 [.s 8], ⟨(some 3), .alloc [(.str []), (.int .i64 0)], none⟩, xs 2 3 9])
 (.seq (.reg [xf 1 10 3, xo 11 10, xf 0 12 3, xo 13 12, ⟨(some 14), .build [(.int .i64 0), (.int .i64 0), (.str []), (.sl .full 2 []), (.sl .full 5 [])] [(0, 1, (.c (.int .i64 1))), (1, 1, (.s 11)), (2, 1, (.s 13))], none⟩, xs 5 2 14])
 (.ret)))
 (.skip)))
 (.seq (.reg [⟨(some 15), .build [(.int .i64 0), (.int .i64 0), (.str []), (.sl .full 2 []), (.sl .full 5 [])] [(0, 1, (.c (.int .i64 10)))], none⟩, ⟨(some 4), .allocO [(.int .i64 0), (.int .i64 0), (.str []), (.sl .full 2 []), (.sl .full 5 [])], none⟩, xs 5 4 15])
 (.seq (.upd (.reg [xm 16 0, ⟨(some 17), .mkfn (.func 102) [] [(.s 4)], none⟩, xc 93 18 [.s 16, .c (.int .u8 91), .c (.bool true), .s 17], xf 1 19 4, xs 1 19 18]))
 (.seq (.reg [xl 5 20 4, xs 5 2 20])
 (.ret)))))
theorem fn90 : IsFn prog 90 ac90 [.cell 2 true 5] 21 := ⟨f90, ⟨[4], [5]⟩, func90, by kernel_rfl, by kernel_rfl, by kernel_rfl, by kernel_rfl⟩
set_option maxRecDepth 4000
set_option maxHeartbeats 4000000
theorem sub_skip {a b : Store} {o : Nat} {C : List V} (h : a.sub b) (k : a.box o = none) : a.sub (b.set o C) := by
  refine ⟨fun x cs hx => ?_, h.2⟩
  have : x ≠ o := by rintro rfl; rw [k] at hx; simp at hx
  rw [Store.set_other _ _ this]; exact h.1 x cs hx
theorem rowIn_l {n : Nat} (i : Rdr) : (i.rowIn n).1.1.l = i.l := by
  have hfield : Reads (Rdr.field n) := reads_of (goes_field n)
  cases h1 : i.sees 124
  · cases h2 : (someG (oStep (Rdr.field n)) i).1.sees 124 <;> simp [Rdr.rowIn, h1, h2, Rdr.word, Rdr.take_l, someG_l hfield]
  · simp [Rdr.rowIn, h1, Rdr.word, Rdr.take_l]
theorem rowOf_l {n : Nat} (t : Tree) : (Rdr.rowOf n t).1.1.l = t.kids := by
  unfold Rdr.rowOf
  split
  · rfl
  · rw [rowIn_l]; rfl
theorem row_calls {n r : Nat} {rd : Rdr} {σ : Store} (h : σ.box r = some rd.enc) (hn : manys rd.l ≤ n) (hm : manys rd.l + 1 ≤ big) :
    PCalls prog 90 [.ptr (.out r) 0] σ fun v σ' => v = .agg (rd.row n).1.enc ∧ σ' = σ.set r (rd.row n).2.enc := by
  have hlen := manys_ge rd.l
  refine fn90.calls ?_
  simp only [slots, ac90, ams, am]
  refine (sees_calls h).mono ?_
  rintro v σ ⟨rfl, rfl⟩
  cases h1 : rd.sees 91
  · simp only [am]
    refine (word_calls h (by omega)).mono ?_
    rintro v σ' ⟨rfl, rfl⟩
    simp only [am, Word.enc, Nat.reduceAdd]
    refine retK_intro rfl (Store.sub_refl _) ⟨?_, by simp [Rdr.row, Rdr.leaf, h1]⟩
    simp [Rdr.row, Rdr.leaf, h1, V.erase, eraseL, Nd.enc, nencs]
  · simp only [am]
    refine kO_intro fun o ho => ?_
    have hor : o ≠ r := by rintro rfl; rw [h] at ho; simp at ho
    simp only [am]
    refine Upd.tok 0 fun τ hτ => ⟨_, _, _, LTo.rfl, rfl, fun i c hc => ⟨c, hc, LTo.rfl⟩, OTo.set (cs := [.int .i64 10, .int .i64 0, .str [], .sl .full 2 [], .sl .full 5 []]) (cs' := rCells τ [] []) (Store.set_same _ _ _) ⟨VTo.same, VTo.same, VTo.same, VTo.same, VTo.tok rfl, trivial⟩, ?_⟩
    simp only [am]
    have h1' : ((σ.set o (rCells τ [] [])).setTip τ 0).box r = some rd.enc := by
      show (σ.set o _).box r = _
      rw [Store.set_other _ _ (Ne.symm hor)]; exact h
    have hne : ∀ q, ((σ.set o (rCells τ [] [])).setTip τ 0).box q = none → q ≠ o ∧ q ≠ r ∧ σ.box q = none := fun q hq => by
      have hqo : q ≠ o := by rintro rfl; rw [show ((σ.set q (rCells τ [] [])).setTip τ 0).box q = _ from Store.set_same _ _ _] at hq; simp at hq
      have hq' : σ.box q = none := by rw [← Store.set_other σ (rCells τ [] []) hqo]; exact hq
      exact ⟨hqo, by rintro rfl; rw [h] at hq'; simp at hq', hq'⟩
    have hkids : manys (rd.take 91).1.kids ≤ manys rd.l := (rd.take_many 91).1
    have hklen := manys_ge (rd.take 91).1.kids
    generalize hin : Rdr.rowOf n (rd.take 91).1 = ins
    have hinl : ins.1.1.l = (rd.take 91).1.kids := by rw [← hin]; exact rowOf_l _
    refine (within_calls (kind := 91) (by simp [am]) h1' (by omega) (by omega) ins.1.1 ((σ.set o (rCells τ (ins.2.map Word.enc) (ins.1.2.map Nd.enc))).setTip τ (ins.1.2.map Nd.enc).length) ?_ ?_ ?_ hinl).mono ?_
    · intro hok hc q hq
      obtain ⟨hqo, hqr, _⟩ := hne q hq
      have e1 : (((σ.set o (rCells τ [] [])).setTip τ 0).set r (rd.take 91).2.enc).set q (rd.take 91).1.inner.enc = gRow (σ.set r (rd.take 91).2.enc) q o τ (rd.take 91).1.inner [] [] := by
        unfold gRow
        rw [Store.set_comm (b := q) hqo, Store.set_comm (b := r) (Ne.symm hor)]
        rfl
      have e2 : (((σ.set o (rCells τ (ins.2.map Word.enc) (ins.1.2.map Nd.enc))).setTip τ (ins.1.2.map Nd.enc).length).set r (rd.take 91).2.enc).set q ins.1.1.enc = gRow (σ.set r (rd.take 91).2.enc) q o τ ins.1.1 (ins.2.map Word.enc) (ins.1.2.map Nd.enc) := by
        unfold gRow
        rw [Store.set_comm (b := q) hqo, Store.set_comm (b := r) (Ne.symm hor)]
        rfl
      have e3 : ins = (rd.take 91).1.inner.rowIn n := by
        rw [← hin, Rdr.rowOf, if_neg]
        rcases hc with hc | hc
        · simp at hc
        · exact hc
      rw [e1, e2, e3]
      exact row1_calls hqo rfl rfl (by show manys (rd.take 91).1.kids ≤ n; omega) (by show manys (rd.take 91).1.kids + 1 ≤ big; omega)
    · intro q1 q2
      have : ins = (((rd.take 91).1.inner, []), []) := by rw [← hin, Rdr.rowOf, if_pos q2]
      rw [this]
      exact ⟨rfl, rfl⟩
    · intro q hq
      obtain ⟨hqo, _, hq'⟩ := hne q hq
      show (σ.set o _).box q = none
      rw [Store.set_other _ _ hqo]; exact hq'
    rintro v σ' hv
    have hdrop : ∀ (A B : List V) (n : Nat), (σ.set r A).sub (((σ.set o B).setTip τ n).set r A) := fun A B n => by
      refine ⟨fun b cs hb => ?_, fun υ m hm => ?_⟩
      · have hbo : b ≠ o := by rintro rfl; rw [Store.set_other _ _ hor, ho] at hb; simp at hb
        by_cases hbr : b = r
        · subst hbr; rw [Store.set_same] at hb ⊢; exact hb
        · rw [Store.set_other _ _ hbr] at hb ⊢
          show (σ.set o B).box b = _
          rw [Store.set_other _ _ hbo]; exact hb
      · have hm' : σ.tip υ = some m := hm
        have hne' : υ ≠ τ := by rintro rfl; rw [show (σ.set o [V.int .i64 10, .int .i64 0, .str [], .sl .full 2 [], .sl .full 5 []]).tip υ = σ.tip υ from rfl] at hτ; rw [hτ] at hm'; simp at hm'
        show ((σ.set o B).setTip τ n).tip υ = some m
        rw [setTip_tip_ne hne']; exact hm'
    have hok : (rd.take 91).2.ok = true := by
      rcases rd.take_at 91 with ⟨_, _, e, _, _⟩ | ⟨e, _, _⟩
      · simp [Rdr.ok, e]
      · rw [h1] at e; simp at e
    rw [if_pos hok] at hv
    obtain ⟨rfl, rfl⟩ := hv
    have hb : (((σ.set o (rCells τ (ins.2.map Word.enc) (ins.1.2.map Nd.enc))).setTip τ (ins.1.2.map Nd.enc).length).set r ((rd.take 91).2.under ins.1.1).enc).box o = some (rCells τ (ins.2.map Word.enc) (ins.1.2.map Nd.enc)) := by
      rw [Store.set_other _ _ hor]; exact Store.set_same _ _ _
    simp only [rCells] at hb hdrop ⊢
    simp only [am, hb, Nat.reduceAdd]
    refine retK_intro rfl (sub_skip (hdrop _ _ _) (by rw [Store.set_other _ _ hor]; exact ho)) ⟨?_, by simp [Rdr.row, h1, hin]⟩
    simp [Rdr.row, h1, hin, V.erase, eraseL, Nd.enc, nencs_map]
end Go.Proofs.Tryz

namespace Go.Proofs.Tryz
open Go.Am
def ac69 : AC := .seq (.reg [⟨(some 6), .mv (.c (.sl .full 2 [])), none⟩, ⟨(some 7), .alloc [(.int .i64 0), (.int .i64 0)], none⟩])
 (.seq (.reg [xm 11 0, xm 12 1, xm 13 2, ⟨(some 14), .build [(.sl .full 5 []), (.int .i64 0), (.int .i64 0), (.int .i64 0), (.int .i64 0)] [(0, 1, (.s 11)), (1, 1, (.s 12)), (2, 1, (.s 13))], none⟩, ⟨(some 15), .boxO 5 (.s 14), none⟩, xm 8 15])
 (.seq (.reg [xm 17 8, xc 86 18 [.s 17, .c (.bool false)], xm 16 18, xe 19 16 0, xe 20 16 1, xm 9 19, xm 10 20])
 (.seq (.seq (.reg [xm 21 8, xc 87 22 [.s 21], ⟨(some 23), .not (.s 22), none⟩])
 (.cond (.s 23) (.seq (.draw [(xm 24 8, []), (xk 25 24, []), (xf 3 26 25, []), (xl 2 27 26, []), (⟨(some 6), .mv (.c (.sl .full 2 [])), none⟩, []), (xs 2 7 27, [])])
 (.ret))
 (.skip)))
 (.seq (.reg [xm 28 9, ⟨(some 29), .build [(.int .i64 0), (.int .i64 0)] [], none⟩, xm 6 28, xs 2 7 29])
 (.ret)))))
theorem fn69 : IsFn prog 69 ac69 [.tmp 6, .cell 7 true 2] 30 := ⟨f69, ⟨[15], []⟩, func69, by kernel_rfl, by kernel_rfl, by kernel_rfl, by kernel_rfl⟩
def ac72 : AC := .seq (.reg [⟨(some 6), .alloc [(.int .i64 0), (.int .i64 0), (.str []), (.sl .full 2 []), (.sl .full 5 [])], none⟩, xi 7 0, ⟨(some 8), .alloc [(.int .i64 0), (.int .i64 0)], none⟩])
 (.seq (.reg [xm 9 0, xm 10 1, xm 11 2, xc 88 12 [.s 9, .s 10, .s 11, .c (.fn (.func 89) [] [])], xe 13 12 0, xe 14 12 1, xe 15 12 2, xs 5 6 13, xm 7 14, xs 2 8 15])
 (.ret))
theorem fn72 : IsFn prog 72 ac72 [.cell 6 true 5, .tmp 7, .cell 8 true 2] 16 := ⟨f72, ⟨[], []⟩, func72, by kernel_rfl, by kernel_rfl, by kernel_rfl, by kernel_rfl⟩
def ac73 : AC := .seq (.reg [⟨(some 6), .alloc [(.int .i64 0), (.int .i64 0), (.str []), (.sl .full 2 []), (.sl .full 5 [])], none⟩, xi 7 0, ⟨(some 8), .alloc [(.int .i64 0), (.int .i64 0)], none⟩])
 (.seq (.reg [xm 9 0, xm 10 1, xm 11 2, xc 88 12 [.s 9, .s 10, .s 11, .c (.fn (.func 90) [] [])], xe 13 12 0, xe 14 12 1, xe 15 12 2, xs 5 6 13, xm 7 14, xs 2 8 15])
 (.ret))
theorem fn73 : IsFn prog 73 ac73 [.cell 6 true 5, .tmp 7, .cell 8 true 2] 16 := ⟨f73, ⟨[], []⟩, func73, by kernel_rfl, by kernel_rfl, by kernel_rfl, by kernel_rfl⟩
def ac88 : AC := .seq (.reg [⟨(some 8), .alloc [(.int .i64 0), (.int .i64 0), (.str []), (.sl .full 2 []), (.sl .full 5 [])], none⟩, xi 9 0, ⟨(some 10), .alloc [(.int .i64 0), (.int .i64 0)], none⟩])
 (.seq (.reg [xm 13 0, xm 14 1, xm 15 2, ⟨(some 16), .build [(.sl .full 5 []), (.int .i64 0), (.int .i64 0), (.int .i64 0), (.int .i64 0)] [(0, 1, (.s 13)), (1, 1, (.s 14)), (2, 1, (.s 15))], none⟩, ⟨(some 17), .boxO 5 (.s 16), none⟩, xm 11 17])
 (.seq (.reg [xm 18 3, xm 19 11, ⟨(some 20), .callv (.s 18) [(.s 19)], none⟩, ⟨(some 12), .alloc [(.int .i64 0), (.int .i64 0), (.str []), (.sl .full 2 []), (.sl .full 5 [])], none⟩, xs 5 12 20])
 (.seq (.seq (.reg [xm 21 11, xc 87 22 [.s 21], ⟨(some 23), .not (.s 22), none⟩])
 (.cond (.s 23) (.seq (.draw [(⟨(some 24), .build [(.int .i64 0), (.int .i64 0), (.str []), (.sl .full 2 []), (.sl .full 5 [])] [], none⟩, []), (xm 25 11, []), (xk 26 25, []), (xf 3 27 26, []), (xl 2 28 27, [1]), (xs 5 8 24, []), (xi 9 0, []), (xs 2 10 28, [])])
 (.ret))
 (.skip)))
 (.seq (.draw [(xl 5 29 12, []), (xm 30 11, []), (xk 31 30, []), (xf 1 32 31, []), (xo 33 32, [1]), (⟨(some 34), .build [(.int .i64 0), (.int .i64 0)] [], none⟩, []), (xs 5 8 29, []), (xm 9 33, []), (xs 2 10 34, [])])
 (.ret)))))
theorem fn88 : IsFn prog 88 ac88 [.cell 8 true 5, .tmp 9, .cell 10 true 2] 35 := ⟨f88, ⟨[17], []⟩, func88, by kernel_rfl, by kernel_rfl, by kernel_rfl, by kernel_rfl⟩
set_option maxRecDepth 4000
set_option maxHeartbeats 4000000
def fenc (b : Option Int) : V := .agg [.int .i64 (badC b), .int .i64 (badA b)]
theorem read_calls {g : FuncId} {one : Rdr → Nd × Rdr} {l : List Tree} {at_ fin : Int} {σ : Store}
    (hone : ∀ q (σ : Store), σ.box q = some (⟨l, at_, fin, none⟩ : Rdr).enc → PCalls prog g [.ptr (.out q) 0] σ fun v σ' => v = .agg (one ⟨l, at_, fin, none⟩).1.enc ∧ σ' = σ.set q (one ⟨l, at_, fin, none⟩).2.enc) :
    PCalls prog 88 [.sl .no 5 (encs l), .int .i64 at_, .int .i64 fin, .fn (.func g) [] []] σ fun v σ' => v = .tup [.agg (readAt one l at_ fin).1.enc, .int .i64 (readAt one l at_ fin).2.1, fenc (readAt one l at_ fin).2.2] ∧ σ' = σ := by
  refine fn88.calls ?_
  simp only [slots, ac88, ams, am]
  refine kO_intro fun q hq => ?_
  rw [show [V.sl .no 5 (encs l), .int .i64 at_, .int .i64 fin, .int .i64 0, .int .i64 0] = (⟨l, at_, fin, none⟩ : Rdr).enc from rfl]
  simp only [am]
  refine (hone q _ (Store.set_same _ _ _)).mono ?_
  rintro v σ' ⟨rfl, rfl⟩
  have hb := Store.set_same σ q (one ⟨l, at_, fin, none⟩).2.enc
  have hres : readAt one l at_ fin = match (one ⟨l, at_, fin, none⟩).2.bad with | some b => (.zero, 0, some b) | none => ((one ⟨l, at_, fin, none⟩).1, (one ⟨l, at_, fin, none⟩).2.at_, none) := rfl
  generalize one ⟨l, at_, fin, none⟩ = o at hb hres ⊢
  simp only [am, Nd.len, Nd.one, Nd.nol, Nd.er, Nd.ovr, Nd.tk, Nd.wd]
  refine (ok_calls (Store.set_same _ _ _)).mono ?_
  rintro v σ' ⟨rfl, rfl⟩
  cases h : o.2.bad with
  | some b =>
    simp only [am, Rdr.ok, h, Option.isNone, Rdr.ex, Nat.reduceAdd]
    rw [h] at hres
    refine retK_intro rfl (sub_set hq) ⟨?_, rfl⟩
    simp [hres, V.erase, eraseL, Nd.zero, Nd.enc, nencs, fenc]
  | none =>
    simp only [am, Rdr.ok, h, Option.isNone, Rdr.ex, Nat.reduceAdd, Nd.len, Nd.one, Nd.nol, Nd.er, Nd.ovr, Nd.tk, Nd.wd]
    rw [h] at hres
    refine retK_intro (by simp only [am, Nd.nol]) (sub_set hq) ⟨?_, rfl⟩
    simp [hres, V.erase, eraseL, fenc, Nd.er, badC, badA]
theorem Label_calls {n : Nat} {l : List Tree} {at_ fin : Int} {σ : Store} (hn : manys l ≤ n) (hm : manys l + 1 ≤ big) :
    PCalls prog 72 [.sl .no 5 (encs l), .int .i64 at_, .int .i64 fin] σ fun v σ' => v = .tup [.agg (readAt (Rdr.label n) l at_ fin).1.enc, .int .i64 (readAt (Rdr.label n) l at_ fin).2.1, fenc (readAt (Rdr.label n) l at_ fin).2.2] ∧ σ' = σ := by
  refine fn72.calls ?_
  simp only [slots, ac72, ams, am]
  refine (read_calls (one := Rdr.label n) (fun q σ h => label_calls n h hn hm)).mono ?_
  rintro v σ ⟨rfl, rfl⟩
  generalize readAt (Rdr.label n) l at_ fin = o
  simp only [am, fenc, Nd.len, Nd.ovr, Nd.tk, Nd.one, Nd.wd]
  refine retK_intro (by simp only [am, Nd.nol]) (Store.sub_refl _) ⟨?_, rfl⟩
  simp [V.erase, eraseL, Nd.er]
theorem Row_calls {n : Nat} {l : List Tree} {at_ fin : Int} {σ : Store} (hn : manys l ≤ n) (hm : manys l + 1 ≤ big) :
    PCalls prog 73 [.sl .no 5 (encs l), .int .i64 at_, .int .i64 fin] σ fun v σ' => v = .tup [.agg (readAt (Rdr.row n) l at_ fin).1.enc, .int .i64 (readAt (Rdr.row n) l at_ fin).2.1, fenc (readAt (Rdr.row n) l at_ fin).2.2] ∧ σ' = σ := by
  refine fn73.calls ?_
  simp only [slots, ac73, ams, am]
  refine (read_calls (one := Rdr.row n) (fun q σ h => row_calls (n := n) h hn hm)).mono ?_
  rintro v σ ⟨rfl, rfl⟩
  generalize readAt (Rdr.row n) l at_ fin = o
  simp only [am, fenc, Nd.len, Nd.ovr, Nd.tk, Nd.one, Nd.wd]
  refine retK_intro (by simp only [am, Nd.nol]) (Store.sub_refl _) ⟨?_, rfl⟩
  simp [V.erase, eraseL, Nd.er]
theorem Words_calls {l : List Tree} {at_ fin : Int} {σ : Store} (hm : manys l + 1 ≤ big) :
    PCalls prog 69 [.sl .no 5 (encs l), .int .i64 at_, .int .i64 fin] σ fun v σ' => v = .tup [.sl .no 2 ((wordsAt l at_ fin).1.map Word.enc), fenc (wordsAt l at_ fin).2] ∧ σ' = σ := by
  have hlen := manys_ge l
  refine fn69.calls ?_
  simp only [slots, ac69, ams, am]
  refine kO_intro fun q hq => ?_
  rw [show [V.sl .no 5 (encs l), .int .i64 at_, .int .i64 fin, .int .i64 0, .int .i64 0] = (⟨l, at_, fin, none⟩ : Rdr).enc from rfl]
  simp only [am]
  refine (words_calls (Store.set_same _ _ _) (by simp only; omega) (kids_big hm rfl)).mono ?_
  rintro v σ' ⟨rfl, rfl⟩
  have hb := Store.set_same σ q ((⟨l, at_, fin, none⟩ : Rdr).words false).2.enc
  have hres : wordsAt l at_ fin = match ((⟨l, at_, fin, none⟩ : Rdr).words false).2.bad with | some b => ([], some b) | none => (((⟨l, at_, fin, none⟩ : Rdr).words false).1.1, none) := rfl
  generalize (⟨l, at_, fin, none⟩ : Rdr).words false = o at hb hres ⊢
  simp only [am]
  refine (ok_calls (Store.set_same _ _ _)).mono ?_
  rintro v σ' ⟨rfl, rfl⟩
  cases h : o.2.bad with
  | some b =>
    simp only [am, Rdr.ok, h, Option.isNone, Rdr.ex, Nat.reduceAdd]
    rw [h] at hres
    refine retK_intro rfl (sub_set hq) ⟨?_, rfl⟩
    simp [hres, V.erase, eraseL, fenc]
  | none =>
    simp only [am, Rdr.ok, h, Option.isNone]
    rw [h] at hres
    refine retK_intro rfl (sub_set hq) ⟨?_, rfl⟩
    simp [hres, V.erase, eraseL, fenc, badC, badA]
end Go.Proofs.Tryz

namespace Go.Proofs.Tryz
open Go.Am
set_option maxRecDepth 4000
set_option maxHeartbeats 4000000
end Go.Proofs.Tryz

namespace Go.Proofs.Tryz
open Go.Am
set_option maxRecDepth 4000
set_option maxHeartbeats 4000000
end Go.Proofs.Tryz

namespace Go.Proofs.Tryz
open Go.Am
set_option maxRecDepth 4000
set_option maxHeartbeats 4000000
end Go.Proofs.Tryz

namespace Go.Proofs.Tryz
open Go.Am
set_option maxRecDepth 4000
set_option maxHeartbeats 4000000
end Go.Proofs.Tryz

namespace Go.Proofs.Tryz
open Go.Am
set_option maxRecDepth 4000
set_option maxHeartbeats 4000000
end Go.Proofs.Tryz

namespace Go.Proofs.Tryz
open Go.Am
set_option maxRecDepth 4000
set_option maxHeartbeats 4000000
def ac13 : AC := .seq (.reg [⟨(some 2), .mv (.c (.str [])), none⟩])
 (.seq (.reg [⟨(some 4), .bslice 1 [(.c (.str [])), (.c (.str [99, 104, 97, 105, 110])), (.c (.str [112, 111, 119, 101, 114])), (.c (.str [112, 114, 111, 100, 117, 99, 116])), (.c (.str [103, 114, 105, 100])), (.c (.str [116, 97, 98, 108, 101])), (.c (.str [108, 97, 98, 101, 108])), (.c (.str [114, 111, 119])), (.c (.str [108, 101, 113])), (.c (.str [114, 111, 119, 101, 113])), (.c (.str [108, 97, 99, 107, 115])), (.c (.str [112, 117, 115, 104])), (.c (.str [112, 111, 112])), (.c (.str [99, 104, 101, 99, 107])), (.c (.str [99, 111, 114, 101])), (.c (.str [119, 104, 121]))], none⟩, xm 3 4])
 (.seq (.seq (.reg [xm 5 0, xB .lss 6 5 0, xm 7 6, xh 7 (xm 8 0), xh 7 (xm 9 3), xh 7 (xL 10 9), xh 7 (xb .geq 11 8 10), ⟨(some 12), .pick (.s 7) (.c (.bool true)) (.s 11), none⟩])
 (.cond (.s 12) (.seq (.reg [⟨(some 2), .mv (.c (.str [])), none⟩])
 (.ret))
 (.skip)))
 (.seq (.reg [xm 13 3, xm 14 0, xA 1 15 13 14, xo 16 15, xm 2 16])
 (.ret))))
theorem fn13 : IsFn prog 13 ac13 [.tmp 2] 17 := ⟨f13, ⟨[], []⟩, func13, by kernel_rfl, by kernel_rfl, by kernel_rfl, by kernel_rfl⟩
def ac22 : AC := .seq (.reg [⟨(some 2), .mv (.c (.str [])), none⟩])
 (.seq (.reg [⟨(some 4), .bslice 1 [(.c (.str [])), (.c (.str [110, 119])), (.c (.str [110, 119])), (.c (.str [110, 119])), (.c (.str [110, 119, 112])), (.c (.str [110, 119, 112])), (.c (.str [110, 119])), (.c (.str [110, 119])), (.c (.str [110, 116, 116])), (.c (.str [110, 114, 114])), (.c (.str [110, 102])), (.c (.str [])), (.c (.str [])), (.c (.str [])), (.c (.str [])), (.c (.str [110]))], none⟩, xm 3 4])
 (.seq (.seq (.reg [xm 5 0, xB .lss 6 5 0, xm 7 6, xh 7 (xm 8 0), xh 7 (xm 9 3), xh 7 (xL 10 9), xh 7 (xb .geq 11 8 10), ⟨(some 12), .pick (.s 7) (.c (.bool true)) (.s 11), none⟩])
 (.cond (.s 12) (.seq (.reg [⟨(some 2), .mv (.c (.str [])), none⟩])
 (.ret))
 (.skip)))
 (.seq (.reg [xm 13 3, xm 14 0, xA 1 15 13 14, xo 16 15, xm 2 16])
 (.ret))))
theorem fn22 : IsFn prog 22 ac22 [.tmp 2] 17 := ⟨f22, ⟨[], []⟩, func22, by kernel_rfl, by kernel_rfl, by kernel_rfl, by kernel_rfl⟩
theorem form1_at {op : Int} (h0 : 0 ≤ op) (h1 : op < 16) : (formT.map fun p => [V.str p.1])[op.toNat]? = some [V.str (formOf op).1] := by
  have hl : op.toNat < formT.length := by simp [formT]; omega
  rw [List.getElem?_map, List.getElem?_eq_getElem hl]
  simp only [formOf, if_pos (show 0 ≤ op ∧ op < 16 from ⟨h0, h1⟩), List.getD, List.getElem?_eq_getElem hl, Option.map_some, Option.getD_some]
theorem form2_at {op : Int} (h0 : 0 ≤ op) (h1 : op < 16) : (formT.map fun p => [V.str p.2])[op.toNat]? = some [V.str (formOf op).2] := by
  have hl : op.toNat < formT.length := by simp [formT]; omega
  rw [List.getElem?_map, List.getElem?_eq_getElem hl]
  simp only [formOf, if_pos (show 0 ≤ op ∧ op < 16 from ⟨h0, h1⟩), List.getD, List.getElem?_eq_getElem hl, Option.map_some, Option.getD_some]
theorem Word12_calls (op : Int) (σ : Store) : PCalls prog 13 [.int .i64 op] σ fun v σ' => v = .str (formOf op).1 ∧ σ' = σ := by
  refine fn13.calls ?_
  simp only [slots, ac13, am, amo, amc, ams, Nat.reduceAdd, Nat.reduceEqDiff, decide_true, decide_false, Tree.rec_, Nd.rec_, Word.rec_, Got.rec_, Int.reduceEq, Int.reduceLT, Int.reduceLE, Nat.reduceLT]
  by_cases h0 : op < 0
  · simp only [am, amo, amc, Nat.reduceAdd, Nat.reduceEqDiff, encs_length, List.length_map, decide_true, decide_false, Tree.rec_, Nd.rec_, Word.rec_, Got.rec_, Int.reduceEq, Int.reduceLT, Int.reduceLE, Nat.reduceLT, decide_eq_true h0]
    refine retK_intro rfl (Store.sub_refl _) ⟨?_, rfl⟩
    simp [V.erase, eraseL, formOf, show ¬ (0 ≤ op ∧ op < 16) by omega]
  · simp only [am, amo, amc, Nat.reduceAdd, Nat.reduceEqDiff, encs_length, List.length_map, decide_true, decide_false, Tree.rec_, Nd.rec_, Word.rec_, Got.rec_, Int.reduceEq, Int.reduceLT, Int.reduceLE, Nat.reduceLT, decide_eq_false h0]
    by_cases h1 : 16 ≤ op
    · simp only [am, amo, amc, Nat.reduceAdd, Nat.reduceEqDiff, encs_length, List.length_map, decide_true, decide_false, Tree.rec_, Nd.rec_, Word.rec_, Got.rec_, Int.reduceEq, Int.reduceLT, Int.reduceLE, Nat.reduceLT, decide_eq_true (show ((16 : Nat) : Int) ≤ op from h1)]
      refine retK_intro rfl (Store.sub_refl _) ⟨?_, rfl⟩
      simp [V.erase, eraseL, formOf, show ¬ (0 ≤ op ∧ op < 16) by omega]
    · simp only [am, amo, amc, Nat.reduceAdd, Nat.reduceEqDiff, encs_length, List.length_map, decide_true, decide_false, Tree.rec_, Nd.rec_, Word.rec_, Got.rec_, Int.reduceEq, Int.reduceLT, Int.reduceLE, Nat.reduceLT, decide_eq_false (show ¬ ((16 : Nat) : Int) ≤ op from h1)]
      refine idxL_intro (by omega) (form1_at (by omega) (by omega)) ?_
      simp only [am, amo, amc, Nat.reduceAdd, Nat.reduceEqDiff, encs_length, List.length_map, decide_true, decide_false, Tree.rec_, Nd.rec_, Word.rec_, Got.rec_, Int.reduceEq, Int.reduceLT, Int.reduceLE, Nat.reduceLT]
      refine retK_intro rfl (Store.sub_refl _) ⟨?_, rfl⟩
      simp [V.erase, eraseL]
theorem letters_calls (op : Int) (σ : Store) : PCalls prog 22 [.int .i64 op] σ fun v σ' => v = .str (formOf op).2 ∧ σ' = σ := by
  refine fn22.calls ?_
  simp only [slots, ac22, am, amo, amc, ams, Nat.reduceAdd, Nat.reduceEqDiff, decide_true, decide_false, Tree.rec_, Nd.rec_, Word.rec_, Got.rec_, Int.reduceEq, Int.reduceLT, Int.reduceLE, Nat.reduceLT]
  by_cases h0 : op < 0
  · simp only [am, amo, amc, Nat.reduceAdd, Nat.reduceEqDiff, encs_length, List.length_map, decide_true, decide_false, Tree.rec_, Nd.rec_, Word.rec_, Got.rec_, Int.reduceEq, Int.reduceLT, Int.reduceLE, Nat.reduceLT, decide_eq_true h0]
    refine retK_intro rfl (Store.sub_refl _) ⟨?_, rfl⟩
    simp [V.erase, eraseL, formOf, show ¬ (0 ≤ op ∧ op < 16) by omega]
  · simp only [am, amo, amc, Nat.reduceAdd, Nat.reduceEqDiff, encs_length, List.length_map, decide_true, decide_false, Tree.rec_, Nd.rec_, Word.rec_, Got.rec_, Int.reduceEq, Int.reduceLT, Int.reduceLE, Nat.reduceLT, decide_eq_false h0]
    by_cases h1 : 16 ≤ op
    · simp only [am, amo, amc, Nat.reduceAdd, Nat.reduceEqDiff, encs_length, List.length_map, decide_true, decide_false, Tree.rec_, Nd.rec_, Word.rec_, Got.rec_, Int.reduceEq, Int.reduceLT, Int.reduceLE, Nat.reduceLT, decide_eq_true (show ((16 : Nat) : Int) ≤ op from h1)]
      refine retK_intro rfl (Store.sub_refl _) ⟨?_, rfl⟩
      simp [V.erase, eraseL, formOf, show ¬ (0 ≤ op ∧ op < 16) by omega]
    · simp only [am, amo, amc, Nat.reduceAdd, Nat.reduceEqDiff, encs_length, List.length_map, decide_true, decide_false, Tree.rec_, Nd.rec_, Word.rec_, Got.rec_, Int.reduceEq, Int.reduceLT, Int.reduceLE, Nat.reduceLT, decide_eq_false (show ¬ ((16 : Nat) : Int) ≤ op from h1)]
      refine idxL_intro (by omega) (form2_at (by omega) (by omega)) ?_
      simp only [am, amo, amc, Nat.reduceAdd, Nat.reduceEqDiff, encs_length, List.length_map, decide_true, decide_false, Tree.rec_, Nd.rec_, Word.rec_, Got.rec_, Int.reduceEq, Int.reduceLT, Int.reduceLE, Nat.reduceLT]
      refine retK_intro rfl (Store.sub_refl _) ⟨?_, rfl⟩
      simp [V.erase, eraseL]
end Go.Proofs.Tryz

namespace Go.Proofs.Tryz
open Go.Am
set_option maxRecDepth 4000
set_option maxHeartbeats 4000000
end Go.Proofs.Tryz

namespace Go.Proofs.Tryz
open Go.Am
set_option maxRecDepth 4000
set_option maxHeartbeats 4000000
section
variable {c : Cmd}
theorem c_len : c.enc.length = 17 := rfl
theorem c_one : oneL c.enc = true := rfl
theorem c_nol : nolL c.enc = true := rfl
theorem c_er : eraseL c.enc = c.enc := rfl
theorem c_tk : takeN 17 c.enc = some c.enc := rfl
theorem c_ov {z0 z1 z2 z3 z4 z5 z6 z7 z8 z9 z10 z11 z12 z13 z14 z15 z16 : V} : over [z0, z1, z2, z3, z4, z5, z6, z7, z8, z9, z10, z11, z12, z13, z14, z15, z16] c.enc = c.enc := rfl
theorem c_lk : ldC false 1 (c.enc.drop 7) = some (.int .i64 c.left.kind) := rfl
theorem c_sname {w : Word} : setAt c.enc 2 w.enc = ({ c with name := w } : Cmd).enc := rfl
theorem c_hname : hasN 2 (c.enc.drop 2) = true := rfl
theorem c_snames {ws : List Word} : setAt c.enc 4 [.sl .no 2 (ws.map Word.enc)] = ({ c with names := ws } : Cmd).enc := rfl
theorem c_hnames : hasN 1 (c.enc.drop 4) = true := rfl
theorem c_spairs {ps : List (Word × Word)} : setAt c.enc 5 [.sl .no 4 (ps.map penc)] = ({ c with pairs := ps } : Cmd).enc := rfl
theorem c_hpairs : hasN 1 (c.enc.drop 5) = true := rfl
theorem c_spat {n : Int} : setAt c.enc 6 [.int .i64 n] = ({ c with pairsAt := n } : Cmd).enc := rfl
theorem c_hpat : hasN 1 (c.enc.drop 6) = true := rfl
theorem c_sl {n : Nd} : setAt c.enc 7 n.enc = ({ c with left := n } : Cmd).enc := by rw [Nd.enc_eq]; rfl
theorem c_hl : hasN 5 (c.enc.drop 7) = true := rfl
theorem c_sr {n : Nd} : setAt c.enc 12 n.enc = ({ c with right := n } : Cmd).enc := by rw [Nd.enc_eq]; rfl
theorem c_hr : hasN 5 (c.enc.drop 12) = true := rfl
def cfl := And.intro @c_len <| And.intro @c_one <| And.intro @c_nol <| And.intro @c_er <| And.intro @c_tk <| And.intro @c_ov <| And.intro @c_lk <| And.intro @c_sname <| And.intro @c_hname <| And.intro @c_snames <| And.intro @c_hnames <| And.intro @c_spairs <| And.intro @c_hpairs <| And.intro @c_spat <| And.intro @c_hpat <| And.intro @c_sl <| And.intro @c_hl <| And.intro @c_sr @c_hr
end
end Go.Proofs.Tryz

namespace Go.Proofs.Tryz
open Go.Am
set_option maxRecDepth 4000
set_option maxHeartbeats 4000000
def ac35 : AC := .seq (.reg [⟨(some 2), .mv (.c (.bool false)), none⟩])
 (.seq (.seq (.reg [xm 4 0, xT 5 4, xB .lss 6 5 1, xm 7 6, xh 7 (xm 8 0), xh 7 (xT 9 8), xh 7 (xB .gtr 10 9 16), ⟨(some 11), .pick (.s 7) (.c (.bool true)) (.s 10), none⟩, xm 12 11, xh 12 (xm 13 0), ⟨(some 14), .idxS (.s 13) (.c (.int .i64 0)), (some (12, false))⟩, xh 12 (xc 58 15 [.s 14]), ⟨(some 16), .not (.s 15), (some (12, false))⟩, ⟨(some 17), .pick (.s 12) (.c (.bool true)) (.s 16), none⟩])
 (.cond (.s 17) (.seq (.reg [⟨(some 2), .mv (.c (.bool false)), none⟩])
 (.ret))
 (.skip)))
 (.seq (.seq (.reg [xi 3 1])
 (.block 0 (.loop (.seq (.seq (.reg [xm 18 3, xm 19 0, xT 20 19, xb .lss 21 18 20])
 (.cond (.s 21) (.skip)
 (.exit 0)))
 (.seq (.block 1 (.seq (.reg [xm 24 0, xm 25 3, xS 26 24 25, xc 58 27 [.s 26], ⟨(some 28), .not (.s 27), none⟩, xm 29 28, xg 29 (xm 30 0), xg 29 (xm 31 3), xg 29 (xS 32 30 31), xg 29 (xu .lss 33 32 48), xg 29 (xm 34 33), xh 34 (xm 35 0), xh 34 (xm 36 3), xh 34 (xS 37 35 36), xh 34 (xu .gtr 38 37 57), ⟨(some 39), .pick (.s 34) (.c (.bool true)) (.s 38), (some (29, true))⟩, ⟨(some 40), .pick (.s 29) (.s 39) (.c (.bool false)), none⟩, xm 41 40, xg 41 (xm 42 0), xg 41 (xm 43 3), xg 41 (xS 44 42 43), xg 41 (xu .neq 45 44 95), ⟨(some 46), .pick (.s 41) (.s 45) (.c (.bool false)), none⟩])
 (.cond (.s 46) (.seq (.reg [⟨(some 2), .mv (.c (.bool false)), none⟩])
 (.ret))
 (.skip))))
 (.reg [xm 22 3, xB .add 23 22 1, xm 3 23]))))))
 (.seq (.reg [⟨(some 2), .mv (.c (.bool true)), none⟩])
 (.ret))))
theorem fn35 : IsFn prog 35 ac35 [.tmp 2] 47 := ⟨f35, ⟨[], []⟩, func35, by kernel_rfl, by kernel_rfl, by kernel_rfl, by kernel_rfl⟩
def ac54 : AC := .seq (.reg [⟨(some 2), .mv (.c (.bool false)), none⟩])
 (.seq (.seq (.reg [xm 4 0, ⟨(some 5), .binS .eql (.s 4) (.c (.str [])), none⟩, xm 6 5, xh 6 (xm 7 0), xh 6 (xT 8 7), xh 6 (xB .gtr 9 8 16), ⟨(some 10), .pick (.s 6) (.c (.bool true)) (.s 9), none⟩, xm 11 10, xh 11 (xm 12 0), ⟨(some 13), .idxS (.s 12) (.c (.int .i64 0)), (some (11, false))⟩, xh 11 (xc 77 14 [.s 13]), ⟨(some 15), .not (.s 14), (some (11, false))⟩, ⟨(some 16), .pick (.s 11) (.c (.bool true)) (.s 15), none⟩])
 (.cond (.s 16) (.seq (.reg [⟨(some 2), .mv (.c (.bool false)), none⟩])
 (.ret))
 (.skip)))
 (.seq (.seq (.reg [xm 17 0, xT 18 17, xi 19 0])
 (.block 0 (.loop (.seq (.reg [xb .lss 20 19 18])
 (.seq (.cond (.s 20) (.skip)
 (.exit 0))
 (.seq (.block 1 (.seq (.reg [xm 21 19, xm 3 21])
 (.seq (.reg [xm 22 0, xm 23 3, xS 24 22 23, xc 78 25 [.s 24], ⟨(some 26), .not (.s 25), none⟩])
 (.cond (.s 26) (.seq (.reg [⟨(some 2), .mv (.c (.bool false)), none⟩])
 (.ret))
 (.skip)))))
 (.reg [xB .add 27 19 1, xm 19 27])))))))
 (.seq (.reg [⟨(some 2), .mv (.c (.bool true)), none⟩])
 (.ret))))
theorem fn54 : IsFn prog 54 ac54 [.tmp 2] 28 := ⟨f54, ⟨[], []⟩, func54, by kernel_rfl, by kernel_rfl, by kernel_rfl, by kernel_rfl⟩
def ac58 : AC := .seq (.reg [⟨(some 2), .mv (.c (.bool false)), none⟩])
 (.seq (.reg [xm 3 0, xu .geq 4 3 97, xm 5 4, xg 5 (xm 6 0), xg 5 (xu .leq 7 6 122), ⟨(some 8), .pick (.s 5) (.s 7) (.c (.bool false)), none⟩, xm 2 8])
 (.ret))
theorem fn58 : IsFn prog 58 ac58 [.tmp 2] 9 := ⟨f58, ⟨[], []⟩, func58, by kernel_rfl, by kernel_rfl, by kernel_rfl, by kernel_rfl⟩
def ac77 : AC := .seq (.reg [⟨(some 2), .mv (.c (.bool false)), none⟩])
 (.seq (.reg [xm 3 0, xu .geq 4 3 97, xm 5 4, xg 5 (xm 6 0), xg 5 (xu .leq 7 6 122), ⟨(some 8), .pick (.s 5) (.s 7) (.c (.bool false)), none⟩, xm 2 8])
 (.ret))
theorem fn77 : IsFn prog 77 ac77 [.tmp 2] 9 := ⟨f77, ⟨[], []⟩, func77, by kernel_rfl, by kernel_rfl, by kernel_rfl, by kernel_rfl⟩
def ac78 : AC := .seq (.reg [⟨(some 2), .mv (.c (.bool false)), none⟩])
 (.seq (.reg [xm 3 0, xc 77 4 [.s 3], xm 5 4, xh 5 (xm 6 0), xh 5 (xu .geq 7 6 48), xh 5 (xm 8 7), xg 8 (xm 9 0), xg 8 (xu .leq 10 9 57), ⟨(some 11), .pick (.s 8) (.s 10) (.c (.bool false)), (some (5, false))⟩, ⟨(some 12), .pick (.s 5) (.c (.bool true)) (.s 11), none⟩, xm 13 12, xh 13 (xm 14 0), xh 13 (xu .eql 15 14 95), ⟨(some 16), .pick (.s 13) (.c (.bool true)) (.s 15), none⟩, xm 2 16])
 (.ret))
theorem fn78 : IsFn prog 78 ac78 [.tmp 2] 17 := ⟨f78, ⟨[], []⟩, func78, by kernel_rfl, by kernel_rfl, by kernel_rfl, by kernel_rfl⟩
theorem letter_calls (c : Int) (σ : Store) : PCalls prog 77 [.int .u8 c] σ fun v σ' => v = .bool (letZ c) ∧ σ' = σ := by
  refine fn77.calls ?_
  simp only [slots, ac77, am, amo, amc, ams, Nat.reduceAdd, Nat.reduceEqDiff, decide_true, decide_false, Tree.rec_, Nd.rec_, Word.rec_, Got.rec_]
  repeat' (first
    | (refine gL_split (fun h => ?_) (fun h => ?_) <;> simp only [am, amo, amc, h, Nat.reduceAdd, Nat.reduceEqDiff, encs_length, List.length_map, decide_true, decide_false, Tree.rec_, Nd.rec_, Word.rec_, Got.rec_])
    | (refine vcIf_split (fun h => ?_) (fun h => ?_) <;> simp only [am, amo, amc, h, Nat.reduceAdd, Nat.reduceEqDiff, encs_length, List.length_map, decide_true, decide_false, Tree.rec_, Nd.rec_, Word.rec_, Got.rec_])
    | (refine pickL_split (fun h => ?_) (fun h => ?_) <;> simp only [am, amo, amc, h, Nat.reduceAdd, Nat.reduceEqDiff, encs_length, List.length_map, decide_true, decide_false, Tree.rec_, Nd.rec_, Word.rec_, Got.rec_])
  )
  all_goals refine retK_intro rfl (Store.sub_refl _) ⟨?_, rfl⟩
  all_goals simp_all [V.erase, eraseL, letZ]
  all_goals (try omega)
theorem letter2_calls (c : Int) (σ : Store) : PCalls prog 58 [.int .u8 c] σ fun v σ' => v = .bool (letZ c) ∧ σ' = σ := by
  refine fn58.calls ?_
  simp only [slots, ac58, am, amo, amc, ams, Nat.reduceAdd, Nat.reduceEqDiff, decide_true, decide_false, Tree.rec_, Nd.rec_, Word.rec_, Got.rec_]
  repeat' (first
    | (refine gL_split (fun h => ?_) (fun h => ?_) <;> simp only [am, amo, amc, h, Nat.reduceAdd, Nat.reduceEqDiff, encs_length, List.length_map, decide_true, decide_false, Tree.rec_, Nd.rec_, Word.rec_, Got.rec_])
    | (refine vcIf_split (fun h => ?_) (fun h => ?_) <;> simp only [am, amo, amc, h, Nat.reduceAdd, Nat.reduceEqDiff, encs_length, List.length_map, decide_true, decide_false, Tree.rec_, Nd.rec_, Word.rec_, Got.rec_])
    | (refine pickL_split (fun h => ?_) (fun h => ?_) <;> simp only [am, amo, amc, h, Nat.reduceAdd, Nat.reduceEqDiff, encs_length, List.length_map, decide_true, decide_false, Tree.rec_, Nd.rec_, Word.rec_, Got.rec_])
  )
  all_goals refine retK_intro rfl (Store.sub_refl _) ⟨?_, rfl⟩
  all_goals simp_all [V.erase, eraseL, letZ]
  all_goals (try omega)
theorem goes_calls (c : Int) (σ : Store) : PCalls prog 78 [.int .u8 c] σ fun v σ' => v = .bool (goesZ c) ∧ σ' = σ := by
  refine fn78.calls ?_
  simp only [slots, ac78, am, amo, amc, ams, Nat.reduceAdd, Nat.reduceEqDiff, decide_true, decide_false, Tree.rec_, Nd.rec_, Word.rec_, Got.rec_]
  refine (letter_calls c σ).mono ?_
  rintro v σ ⟨rfl, rfl⟩
  simp only [am, amo, amc, Nat.reduceAdd, Nat.reduceEqDiff, encs_length, List.length_map, decide_true, decide_false, Tree.rec_, Nd.rec_, Word.rec_, Got.rec_]
  repeat' (first
    | (refine gL_split (fun h => ?_) (fun h => ?_) <;> simp only [am, amo, amc, h, Nat.reduceAdd, Nat.reduceEqDiff, encs_length, List.length_map, decide_true, decide_false, Tree.rec_, Nd.rec_, Word.rec_, Got.rec_])
    | (refine vcIf_split (fun h => ?_) (fun h => ?_) <;> simp only [am, amo, amc, h, Nat.reduceAdd, Nat.reduceEqDiff, encs_length, List.length_map, decide_true, decide_false, Tree.rec_, Nd.rec_, Word.rec_, Got.rec_])
    | (refine pickL_split (fun h => ?_) (fun h => ?_) <;> simp only [am, amo, amc, h, Nat.reduceAdd, Nat.reduceEqDiff, encs_length, List.length_map, decide_true, decide_false, Tree.rec_, Nd.rec_, Word.rec_, Got.rec_])
  )
  all_goals refine retK_intro rfl (Store.sub_refl _) ⟨?_, rfl⟩
  all_goals simp_all [V.erase, eraseL, goesZ]
  all_goals (try omega)
theorem str_at {s : List UInt8} {i : Nat} (h : i < s.length) : s[((i : Nat) : Int).toNat]? = some s[i] := by simp [h]
def inv70 (s : List UInt8) (σ : Store) (i : Nat) : St :=
  ⟨[.str s] ++ List.replicate 17 .any ++ [.int .i64 s.length, .int .i64 (i : Nat)] ++ List.replicate 8 .any, [], σ⟩
theorem all_take_succ {s : List UInt8} {i : Nat} {f : UInt8 → Bool} (h : i < s.length) : (s.take (i + 1)).all f = ((s.take i).all f && f s[i]) := by
  rw [take_succ_of (List.getElem?_eq_getElem h), List.all_append]; simp only [List.all_cons, List.all_nil, Bool.and_true]
theorem nameR_loop {s : List UInt8} (h : s.length ≤ 16) (h1 : 0 < s.length) : nameR s = (letB s[0] && s.all goesB) := by
  cases s with
  | nil => simp at h1
  | cons c r =>
    simp only [nameR, h, decide_true, Bool.true_and, List.getElem_cons_zero, List.all_cons]
    cases hc : letB c
    · simp
    · have : goesB c = true := by simp only [letB] at hc; simp [goesB, goesZ, hc]
      simp [this]
theorem right_calls (s : List UInt8) (σ : Store) : PCalls prog 54 [.str s] σ fun v σ' => v = .bool (nameR s) ∧ σ' = σ := by
  refine fn54.calls ?_
  simp only [slots, ac54, am, amo, amc, ams, Nat.reduceAdd, Nat.reduceEqDiff, decide_true, decide_false, Tree.rec_, Nd.rec_, Word.rec_, Got.rec_]
  by_cases h0 : s = []
  · subst h0
    simp only [am, amo, amc, Nat.reduceAdd, Nat.reduceEqDiff, encs_length, List.length_map, decide_true, decide_false, Tree.rec_, Nd.rec_, Word.rec_, Got.rec_]
    refine retK_intro rfl (Store.sub_refl _) ⟨?_, rfl⟩
    simp [V.erase, eraseL, nameR]
  · have hpos : 0 < s.length := by cases s with | nil => exact absurd rfl h0 | cons _ _ => simp
    simp only [am, amo, amc, Nat.reduceAdd, Nat.reduceEqDiff, encs_length, List.length_map, decide_true, decide_false, Tree.rec_, Nd.rec_, Word.rec_, Got.rec_, h0]
    by_cases h16 : s.length ≤ 16
    · have e : decide ((16 : Int) < s.length) = false := by simp; omega
      simp only [am, amo, amc, Nat.reduceAdd, Nat.reduceEqDiff, encs_length, List.length_map, decide_true, decide_false, Tree.rec_, Nd.rec_, Word.rec_, Got.rec_, e]
      refine idxSL_intro (by omega) (c := s[0]) (by simp [hpos]) ?_
      simp only [am, amo, amc, Nat.reduceAdd, Nat.reduceEqDiff, encs_length, List.length_map, decide_true, decide_false, Tree.rec_, Nd.rec_, Word.rec_, Got.rec_]
      refine (letter_calls s[0].toNat σ).mono ?_
      rintro v σ ⟨rfl, rfl⟩
      have hl : nameR s = (letB s[0] && s.all goesB) := nameR_loop h16 hpos
      cases hb : letZ (s[0].toNat : Nat)
      · have hb' : letB s[0] = false := hb
        simp only [am, amo, amc, Nat.reduceAdd, Nat.reduceEqDiff, encs_length, List.length_map, decide_true, decide_false, Tree.rec_, Nd.rec_, Word.rec_, Got.rec_]
        refine retK_intro rfl (Store.sub_refl _) ⟨?_, rfl⟩
        simp [V.erase, eraseL, hl, hb']
      · have hb' : letB s[0] = true := hb
        simp only [am, amo, amc, Nat.reduceAdd, Nat.reduceEqDiff, encs_length, List.length_map, decide_true, decide_false, Tree.rec_, Nd.rec_, Word.rec_, Got.rec_]
        refine vc_loop (fun p : { i : Nat // i ≤ s.length ∧ (s.take i).all goesB = true } => inv70 s σ p.1) (fun p => s.length - p.1) ?_ ?_
        · refine Upd.enter ⟨0, by simp, by simp⟩ ?_ LLLe.rfl OLe.rfl
          simp [inv70, List.replicate, am]
        · rintro ⟨i, hi, ha⟩
          simp only [inv70, List.replicate, am]
          refine vcIf_split ?_ ?_
          · intro hlt
            have hlt : i < s.length := by simpa using hlt
            simp only [am, amo, amc, Nat.reduceAdd, Nat.reduceEqDiff, encs_length, List.length_map, decide_true, decide_false, Tree.rec_, Nd.rec_, Word.rec_, Got.rec_]
            refine idxSL_intro (by omega) (str_at hlt) ?_
            simp only [am, amo, amc, Nat.reduceAdd, Nat.reduceEqDiff, encs_length, List.length_map, decide_true, decide_false, Tree.rec_, Nd.rec_, Word.rec_, Got.rec_]
            refine (goes_calls s[i].toNat σ).mono ?_
            rintro v σ ⟨rfl, rfl⟩
            cases hg : goesZ (s[i].toNat : Nat)
            · have hg' : goesB s[i] = false := hg
              simp only [am, amo, amc, Nat.reduceAdd, Nat.reduceEqDiff, encs_length, List.length_map, decide_true, decide_false, Tree.rec_, Nd.rec_, Word.rec_, Got.rec_]
              refine retK_intro rfl (Store.sub_refl _) ⟨?_, rfl⟩
              have : s.all goesB = false := by
                rw [List.all_eq_false]; exact ⟨s[i], List.getElem_mem hlt, by simp [hg']⟩
              simp [V.erase, hl, this]
            · simp only [am, amo, amc, Nat.reduceAdd, Nat.reduceEqDiff, encs_length, List.length_map, decide_true, decide_false, Tree.rec_, Nd.rec_, Word.rec_, Got.rec_]
              rw [wrap_i64 (by omega) (by omega)]
              refine Upd.again ⟨i + 1, by omega, ?_⟩ (by simp; omega) (by simp [List.replicate, am]) LLLe.rfl OLe.rfl
              rw [all_take_succ hlt, ha]; exact hg
          · intro hlt
            have hlt : i = s.length := by simp at hlt; omega
            subst hlt
            rw [List.take_length] at ha
            simp only [am, amo, amc, Nat.reduceAdd, Nat.reduceEqDiff, encs_length, List.length_map, decide_true, decide_false, Tree.rec_, Nd.rec_, Word.rec_, Got.rec_]
            refine retK_intro rfl (Store.sub_refl _) ⟨?_, rfl⟩
            simp [V.erase, eraseL, hl, hb', ha]
    · have e : decide ((16 : Int) < s.length) = true := by simp; omega
      simp only [am, amo, amc, Nat.reduceAdd, Nat.reduceEqDiff, encs_length, List.length_map, decide_true, decide_false, Tree.rec_, Nd.rec_, Word.rec_, Got.rec_, e]
      refine retK_intro rfl (Store.sub_refl _) ⟨?_, rfl⟩
      simp [V.erase, eraseL, nameR, h16]
def inv54 (s : List UInt8) (σ : Store) (i : Nat) : St :=
  ⟨[.str s, .any, .any, .int .i64 (i : Nat)] ++ List.replicate 43 .any, [], σ⟩
theorem right2_calls (s : List UInt8) (σ : Store) : PCalls prog 35 [.str s] σ fun v σ' => v = .bool (nameR s) ∧ σ' = σ := by
  refine fn35.calls ?_
  simp only [slots, ac35, am, amo, amc, ams, Nat.reduceAdd, Nat.reduceEqDiff, decide_true, decide_false, Tree.rec_, Nd.rec_, Word.rec_, Got.rec_]
  by_cases h0 : s = []
  · subst h0
    simp only [am, amo, amc, Nat.reduceAdd, Nat.reduceEqDiff, encs_length, List.length_map, decide_true, decide_false, Tree.rec_, Nd.rec_, Word.rec_, Got.rec_, show decide ((([] : List UInt8).length : Int) < 1) = true from rfl]
    refine retK_intro rfl (Store.sub_refl _) ⟨?_, rfl⟩
    simp [V.erase, eraseL, nameR]
  · have hpos : 0 < s.length := by cases s with | nil => exact absurd rfl h0 | cons _ _ => simp
    have e1 : decide ((s.length : Int) < 1) = false := by simp; omega
    simp only [am, amo, amc, Nat.reduceAdd, Nat.reduceEqDiff, encs_length, List.length_map, decide_true, decide_false, Tree.rec_, Nd.rec_, Word.rec_, Got.rec_, e1]
    by_cases h16 : s.length ≤ 16
    · have e : decide ((16 : Int) < s.length) = false := by simp; omega
      simp only [am, amo, amc, Nat.reduceAdd, Nat.reduceEqDiff, encs_length, List.length_map, decide_true, decide_false, Tree.rec_, Nd.rec_, Word.rec_, Got.rec_, e]
      refine idxSL_intro (by omega) (c := s[0]) (by simp [hpos]) ?_
      simp only [am, amo, amc, Nat.reduceAdd, Nat.reduceEqDiff, encs_length, List.length_map, decide_true, decide_false, Tree.rec_, Nd.rec_, Word.rec_, Got.rec_]
      refine (letter2_calls s[0].toNat σ).mono ?_
      rintro v σ ⟨rfl, rfl⟩
      have hl : nameR s = (letB s[0] && s.all goesB) := nameR_loop h16 hpos
      cases hb : letZ (s[0].toNat : Nat)
      · have hb' : letB s[0] = false := hb
        simp only [am, amo, amc, Nat.reduceAdd, Nat.reduceEqDiff, encs_length, List.length_map, decide_true, decide_false, Tree.rec_, Nd.rec_, Word.rec_, Got.rec_]
        refine retK_intro rfl (Store.sub_refl _) ⟨?_, rfl⟩
        simp [V.erase, eraseL, hl, hb']
      · have hb' : letB s[0] = true := hb
        simp only [am, amo, amc, Nat.reduceAdd, Nat.reduceEqDiff, encs_length, List.length_map, decide_true, decide_false, Tree.rec_, Nd.rec_, Word.rec_, Got.rec_]
        refine vc_loop (fun p : { i : Nat // 1 ≤ i ∧ i ≤ s.length ∧ (s.take i).all goesB = true } => inv54 s σ p.1) (fun p => s.length - p.1) ?_ ?_
        · refine Upd.enter ⟨1, by simp, by omega, ?_⟩ ?_ LLLe.rfl OLe.rfl
          · rw [all_take_succ hpos]
            simp [goesB, goesZ, hb]
          · simp [inv54, List.replicate, am]
        · rintro ⟨i, hi1, hi, ha⟩
          simp only [inv54, List.replicate, am]
          refine vcIf_split ?_ ?_
          · intro hlt
            have hlt : i < s.length := by simpa using hlt
            simp only [am, amo, amc, Nat.reduceAdd, Nat.reduceEqDiff, encs_length, List.length_map, decide_true, decide_false, Tree.rec_, Nd.rec_, Word.rec_, Got.rec_]
            refine idxSL_intro (by omega) (str_at hlt) ?_
            simp only [am, amo, amc, Nat.reduceAdd, Nat.reduceEqDiff, encs_length, List.length_map, decide_true, decide_false, Tree.rec_, Nd.rec_, Word.rec_, Got.rec_]
            refine (letter2_calls s[i].toNat σ).mono ?_
            rintro v σ ⟨rfl, rfl⟩
            have hno : goesB s[i] = false → s.all goesB = false := fun hg => by
              rw [List.all_eq_false]; exact ⟨s[i], List.getElem_mem hlt, by simp [hg]⟩
            have fin : goesB s[i] = true → (s.take (i + 1)).all goesB = true := fun hg => by rw [all_take_succ hlt, ha, hg]; rfl
            have hgf : goesB s[i] = (letZ (s[i].toNat : Nat) || (decide (48 ≤ (s[i].toNat : Int)) && decide ((s[i].toNat : Int) ≤ 57)) || decide ((s[i].toNat : Int) = 95)) := rfl
            cases hg : letZ (s[i].toNat : Nat)
            all_goals rw [hg] at hgf
            all_goals simp only [am]
            repeat' (first
              | (refine gL_split (fun h => ?_) (fun h => ?_) <;> simp only [am, amo, amc, h, Nat.reduceAdd, Nat.reduceEqDiff, encs_length, List.length_map, decide_true, decide_false, Tree.rec_, Nd.rec_, Word.rec_, Got.rec_])
              | (refine vcIf_split (fun h => ?_) (fun h => ?_) <;> simp only [am, amo, amc, h, Nat.reduceAdd, Nat.reduceEqDiff, encs_length, List.length_map, decide_true, decide_false, Tree.rec_, Nd.rec_, Word.rec_, Got.rec_])
              | (refine pickL_split (fun h => ?_) (fun h => ?_) <;> simp only [am, amo, amc, h, Nat.reduceAdd, Nat.reduceEqDiff, encs_length, List.length_map, decide_true, decide_false, Tree.rec_, Nd.rec_, Word.rec_, Got.rec_])
              | (refine idxSL_intro (by omega) (str_at hlt) ?_; simp only [am])
            )
            all_goals first
              | (have hgo : goesB s[i] = true := by rw [hgf]; simp_all <;> omega
                 rw [wrap_i64 (by omega) (by omega)]
                 exact Upd.again ⟨i + 1, by omega, by omega, fin hgo⟩ (by simp; omega) (by simp [List.replicate, am]) LLLe.rfl OLe.rfl)
              | (have hgo : goesB s[i] = false := by rw [hgf]; simp_all <;> omega
                 refine retK_intro rfl (Store.sub_refl _) ⟨?_, rfl⟩
                 simp [V.erase, hl, hno hgo])
          · intro hlt
            have hlt : i = s.length := by simp at hlt; omega
            subst hlt
            rw [List.take_length] at ha
            simp only [am, amo, amc, Nat.reduceAdd, Nat.reduceEqDiff, encs_length, List.length_map, decide_true, decide_false, Tree.rec_, Nd.rec_, Word.rec_, Got.rec_]
            refine retK_intro rfl (Store.sub_refl _) ⟨?_, rfl⟩
            simp [V.erase, eraseL, hl, hb', ha]
    · have e : decide ((16 : Int) < s.length) = true := by simp; omega
      simp only [am, amo, amc, Nat.reduceAdd, Nat.reduceEqDiff, encs_length, List.length_map, decide_true, decide_false, Tree.rec_, Nd.rec_, Word.rec_, Got.rec_, e]
      refine retK_intro rfl (Store.sub_refl _) ⟨?_, rfl⟩
      simp [V.erase, eraseL, nameR, h16]
end Go.Proofs.Tryz

namespace Go.Proofs.Tryz
open Go.Am
set_option maxRecDepth 4000
set_option maxHeartbeats 4000000
theorem runR_at {s : List UInt8} {a n : Nat} (h : ((s.drop a).take n).all goesB = true) (hn : a + n ≤ s.length) (he : ∀ hl : a + n < s.length, goesB s[a + n] = false) : (runR (s.drop a)).length = n := by
  have key : ∀ (r : List UInt8) (n : Nat), (r.take n).all goesB = true → n ≤ r.length → (∀ hl : n < r.length, goesB r[n] = false) → (runR r).length = n := by
    intro r
    induction r with
    | nil => intro n _ h2 _; simp at h2; subst h2; rfl
    | cons c r ih =>
      intro n h1 h2 h3
      cases n with
      | zero => have := h3 (by simp); simp at this; simp [runR, this]
      | succ n =>
        simp only [List.take_succ_cons, List.all_cons, Bool.and_eq_true] at h1
        have := ih n h1.2 (by simpa using h2) (fun hl => h3 (Nat.succ_lt_succ hl))
        simp only [runR] at this
        simp [runR, h1.1, this]
  refine key _ _ h (by simp; omega) fun hl => ?_
  have hl' : a + n < s.length := by simp at hl; omega
  have := he hl'
  simpa using this
end Go.Proofs.Tryz

namespace Go.Proofs.Tryz
open Go.Am
set_option maxRecDepth 4000
set_option maxHeartbeats 4000000
theorem Tok.wd {t : Tok} : t.enc.length = 3 := rfl
theorem drop_cons {s : List UInt8} {a : Nat} (h : a < s.length) : s.drop a = s[a] :: s.drop (a + 1) := List.drop_eq_getElem_cons h
end Go.Proofs.Tryz

namespace Go.Proofs.Tryz
open Go.Am
set_option maxRecDepth 4000
set_option maxHeartbeats 4000000
def ac61 : AC := .seq (.reg [xi 3 0])
 (.seq (.block 0 (.loop (.seq (.seq (.reg [xm 4 0, xo 5 1, xT 6 5, xb .lss 7 4 6, xm 8 7, xg 8 (xo 9 1), xg 8 (xm 10 0), xg 8 (xS 11 9 10), xg 8 (xc 62 12 [.s 11]), ⟨(some 13), .pick (.s 8) (.s 12) (.c (.bool false)), none⟩])
 (.cond (.s 13) (.skip)
 (.exit 0)))
 (.block 1 (.reg [xm 14 0, xB .add 15 14 1, xm 0 15])))))
 (.seq (.reg [xm 16 0, xm 3 16])
 (.ret)))
theorem fn61 : IsFn prog 61 ac61 [.tmp 3] 17 := ⟨f61, ⟨[], []⟩, func61, by kernel_rfl, by kernel_rfl, by kernel_rfl, by kernel_rfl⟩
def ac62 : AC := .seq (.reg [⟨(some 2), .mv (.c (.bool false)), none⟩])
 (.seq (.reg [xm 3 0, xu .geq 4 3 97, xm 5 4, xg 5 (xm 6 0), xg 5 (xu .leq 7 6 122), ⟨(some 8), .pick (.s 5) (.s 7) (.c (.bool false)), none⟩, xm 9 8, xh 9 (xm 10 0), xh 9 (xu .geq 11 10 48), xh 9 (xm 12 11), xg 12 (xm 13 0), xg 12 (xu .leq 14 13 57), ⟨(some 15), .pick (.s 12) (.s 14) (.c (.bool false)), (some (9, false))⟩, ⟨(some 16), .pick (.s 9) (.c (.bool true)) (.s 15), none⟩, xm 17 16, xh 17 (xm 18 0), xh 17 (xu .eql 19 18 95), ⟨(some 20), .pick (.s 17) (.c (.bool true)) (.s 19), none⟩, xm 2 20])
 (.ret))
theorem fn62 : IsFn prog 62 ac62 [.tmp 2] 21 := ⟨f62, ⟨[], []⟩, func62, by kernel_rfl, by kernel_rfl, by kernel_rfl, by kernel_rfl⟩
def ac63 : AC := .seq (.reg [⟨(some 4), .mv (.c (.bool false)), none⟩])
 (.seq (.reg [xm 5 0, xm 6 1, xS 7 5 6, xu .eql 8 7 45, xm 9 8, xg 9 (xm 10 1), xg 9 (xB .add 11 10 1), xg 9 (xm 12 0), xg 9 (xT 13 12), xg 9 (xb .lss 14 11 13), ⟨(some 15), .pick (.s 9) (.s 14) (.c (.bool false)), none⟩, xm 16 15, xg 16 (xm 17 0), xg 16 (xm 18 1), xg 16 (xB .add 19 18 1), xg 16 (xS 20 17 19), xg 16 (xu .eql 21 20 45), ⟨(some 22), .pick (.s 16) (.s 21) (.c (.bool false)), none⟩, xm 4 22])
 (.ret))
theorem fn63 : IsFn prog 63 ac63 [.tmp 4] 23 := ⟨f63, ⟨[], []⟩, func63, by kernel_rfl, by kernel_rfl, by kernel_rfl, by kernel_rfl⟩
def ac64 : AC := .seq (.reg [⟨(some 2), .mv (.c (.bool false)), none⟩])
 (.seq (.seq (.reg [xm 3 0])
 (.block 0 (.seq (.seq (.reg [xu .eql 5 3 35, xm 4 5])
 (.cond (.s 4) (.skip)
 (.seq (.reg [xu .eql 6 3 43, xm 4 6])
 (.cond (.s 4) (.skip)
 (.seq (.reg [xu .eql 7 3 38, xm 4 7])
 (.cond (.s 4) (.skip)
 (.seq (.reg [xu .eql 8 3 40, xm 4 8])
 (.cond (.s 4) (.skip)
 (.seq (.reg [xu .eql 9 3 41, xm 4 9])
 (.cond (.s 4) (.skip)
 (.seq (.reg [xu .eql 10 3 123, xm 4 10])
 (.cond (.s 4) (.skip)
 (.seq (.reg [xu .eql 11 3 125, xm 4 11])
 (.cond (.s 4) (.skip)
 (.seq (.reg [xu .eql 12 3 91, xm 4 12])
 (.cond (.s 4) (.skip)
 (.seq (.reg [xu .eql 13 3 93, xm 4 13])
 (.cond (.s 4) (.skip)
 (.seq (.reg [xu .eql 14 3 44, xm 4 14])
 (.cond (.s 4) (.skip)
 (.seq (.reg [xu .eql 15 3 58, xm 4 15])
 (.cond (.s 4) (.skip)
 (.seq (.reg [xu .eql 16 3 61, xm 4 16])
 (.cond (.s 4) (.skip)
 (.seq (.reg [xu .eql 17 3 124, xm 4 17])
 (.cond (.s 4) (.skip)
 (.reg [xu .eql 18 3 60, xm 4 18])))))))))))))))))))))))))))
 (.cond (.s 4) (.seq (.reg [⟨(some 2), .mv (.c (.bool true)), none⟩])
 (.ret))
 (.skip)))))
 (.seq (.reg [⟨(some 2), .mv (.c (.bool false)), none⟩])
 (.ret)))
theorem fn64 : IsFn prog 64 ac64 [.tmp 2] 19 := ⟨f64, ⟨[], []⟩, func64, by kernel_rfl, by kernel_rfl, by kernel_rfl, by kernel_rfl⟩
theorem sign_facts {c : Int} (h : signZ c = true) : goesZ c = false ∧ c ≠ 45 ∧ c ≠ 32 ∧ c ≠ 9 := by
  simp only [signZ, signs, List.any_cons, List.any_nil, Bool.or_eq_true, decide_eq_true_eq, Bool.false_eq_true, or_false] at h
  rcases h with h | h | h | h | h | h | h | h | h | h | h | h | h | h <;> subst h <;> exact ⟨by decide, by decide, by decide, by decide⟩
theorem lexF_p {n p : Nat} {c : UInt8} {r : List UInt8} {acc : List Tok} : lexF (n + 1) p (c :: r) acc =
    if c.toNat = 32 ∨ c.toNat = 9 then lexF n (p + 1) r acc
    else if c.toNat = 45 ∧ (r.head?.map UInt8.toNat) = some 45 then (acc, none)
    else if signZ (c.toNat : Nat) = true then lexF n (p + 1) r (acc ++ [⟨(c.toNat : Nat), [c], p⟩])
    else if nameR (runR (c :: r)) = true then lexF n (p + (runR (c :: r)).length) ((c :: r).drop (runR (c :: r)).length) (acc ++ [⟨97, runR (c :: r), p⟩])
    else ([], some p) := by
  simp only [lexF]
  by_cases hb : c.toNat = 32 ∨ c.toNat = 9
  · have h1 : goesB c = false := by
      simp only [goesB]
      rcases hb with h | h <;> rw [h] <;> decide
    have h2 : signZ (c.toNat : Nat) = false := by rcases hb with h | h <;> rw [h] <;> decide
    have h3 : ¬ c.toNat = 45 := by omega
    simp [hb, h2, h3, runR_no h1]
  · rw [if_neg hb]
    split
    · rfl
    · cases hs : signZ (c.toNat : Nat)
      · by_cases hn : nameR (runR (c :: r)) = true
        · have : 0 < (runR (c :: r)).length := by
            cases hq : runR (c :: r) with
            | nil => rw [hq] at hn; simp [nameR] at hn
            | cons _ _ => simp
          simp [hn, this]
        · simp [hn, hb]
      · have h1 : goesB c = false := (sign_facts hs).1
        simp [runR_no h1]
theorem goesP_calls (c : Int) (σ : Store) : PCalls prog 62 [.int .u8 c] σ fun v σ' => v = .bool (goesZ c) ∧ σ' = σ := by
  refine fn62.calls ?_
  simp only [slots, ac62, am, amo, amc, ams, Nat.reduceAdd, Nat.reduceEqDiff, decide_true, decide_false, Tree.rec_, Nd.rec_, Word.rec_, Got.rec_]
  repeat' (first
    | (refine gL_split (fun h => ?_) (fun h => ?_) <;> simp only [am, amo, amc, h, Nat.reduceAdd, Nat.reduceEqDiff, encs_length, List.length_map, decide_true, decide_false, Tree.rec_, Nd.rec_, Word.rec_, Got.rec_])
    | (refine vcIf_split (fun h => ?_) (fun h => ?_) <;> simp only [am, amo, amc, h, Nat.reduceAdd, Nat.reduceEqDiff, encs_length, List.length_map, decide_true, decide_false, Tree.rec_, Nd.rec_, Word.rec_, Got.rec_])
    | (refine pickL_split (fun h => ?_) (fun h => ?_) <;> simp only [am, amo, amc, h, Nat.reduceAdd, Nat.reduceEqDiff, encs_length, List.length_map, decide_true, decide_false, Tree.rec_, Nd.rec_, Word.rec_, Got.rec_])
  )
  all_goals refine retK_intro rfl (Store.sub_refl _) ⟨?_, rfl⟩
  all_goals simp_all [V.erase, eraseL, goesZ, letZ]
  all_goals (try omega)
theorem signP_calls (c : Int) (σ : Store) : PCalls prog 64 [.int .u8 c] σ fun v σ' => v = .bool (signZ c) ∧ σ' = σ := by
  refine fn64.calls ?_
  simp only [slots, ac64, am, amo, amc, ams, Nat.reduceAdd, Nat.reduceEqDiff, decide_true, decide_false, Tree.rec_, Nd.rec_, Word.rec_, Got.rec_]
  repeat' (first
    | (refine gL_split (fun h => ?_) (fun h => ?_) <;> simp only [am, amo, amc, h, Nat.reduceAdd, Nat.reduceEqDiff, encs_length, List.length_map, decide_true, decide_false, Tree.rec_, Nd.rec_, Word.rec_, Got.rec_])
    | (refine vcIf_split (fun h => ?_) (fun h => ?_) <;> simp only [am, amo, amc, h, Nat.reduceAdd, Nat.reduceEqDiff, encs_length, List.length_map, decide_true, decide_false, Tree.rec_, Nd.rec_, Word.rec_, Got.rec_])
    | (refine pickL_split (fun h => ?_) (fun h => ?_) <;> simp only [am, amo, amc, h, Nat.reduceAdd, Nat.reduceEqDiff, encs_length, List.length_map, decide_true, decide_false, Tree.rec_, Nd.rec_, Word.rec_, Got.rec_])
  )
  all_goals refine retK_intro rfl (Store.sub_refl _) ⟨?_, rfl⟩
  all_goals simp_all [V.erase, eraseL, signZ, signs]
  all_goals (try omega)
theorem comment_calls (s : List UInt8) (a : Nat) (σ : Store) (ha : a < s.length) (hb : s.length ≤ big) : PCalls prog 63 [.str s, .int .i64 (a : Nat)] σ fun v σ' => v = .bool (decide (s[a].toNat = 45 ∧ (s.drop (a + 1)).head?.map UInt8.toNat = some 45)) ∧ σ' = σ := by
  simp only [big] at hb
  have w1 : IntKind.i64.wrap ((a : Int) + 1) = ((a + 1 : Nat) : Int) := by rw [wrap_i64 (by omega) (by omega)]; simp
  have hh : (s.drop (a + 1)).head?.map UInt8.toNat = if h : a + 1 < s.length then some s[a + 1].toNat else none := by
    by_cases h : a + 1 < s.length
    · rw [dif_pos h, drop_cons h]; rfl
    · rw [dif_neg h, List.drop_eq_nil_of_le (by omega)]; rfl
  rw [hh]
  refine fn63.calls ?_
  simp only [slots, ac63, am, amo, amc, ams, Nat.reduceAdd, Nat.reduceEqDiff, decide_true, decide_false, Tree.rec_, Nd.rec_, Word.rec_, Got.rec_]
  refine idxSL_intro (by omega) (str_at ha) ?_
  simp only [am, amo, amc, Nat.reduceAdd, Nat.reduceEqDiff, encs_length, List.length_map, decide_true, decide_false, Tree.rec_, Nd.rec_, Word.rec_, Got.rec_, w1]
  by_cases h45 : s[a].toNat = 45
  · simp only [am, amo, amc, Nat.reduceAdd, Nat.reduceEqDiff, encs_length, List.length_map, decide_true, decide_false, Tree.rec_, Nd.rec_, Word.rec_, Got.rec_, decide_eq_true (show ((s[a].toNat : Nat) : Int) = 45 by omega), w1]
    by_cases hl : a + 1 < s.length
    · simp only [am, amo, amc, Nat.reduceAdd, Nat.reduceEqDiff, encs_length, List.length_map, decide_true, decide_false, Tree.rec_, Nd.rec_, Word.rec_, Got.rec_, decide_eq_true (show ((a + 1 : Nat) : Int) < s.length by omega), w1]
      refine idxSL_intro (by omega) (str_at hl) ?_
      simp only [am, amo, amc, Nat.reduceAdd, Nat.reduceEqDiff, encs_length, List.length_map, decide_true, decide_false, Tree.rec_, Nd.rec_, Word.rec_, Got.rec_]
      refine retK_intro rfl (Store.sub_refl _) ⟨?_, rfl⟩
      simp [V.erase, eraseL, h45, hl]
      omega
    · simp only [am, amo, amc, Nat.reduceAdd, Nat.reduceEqDiff, encs_length, List.length_map, decide_true, decide_false, Tree.rec_, Nd.rec_, Word.rec_, Got.rec_, decide_eq_false (show ¬ ((a + 1 : Nat) : Int) < s.length by omega), w1]
      refine retK_intro rfl (Store.sub_refl _) ⟨?_, rfl⟩
      simp [V.erase, eraseL, hl]
  · simp only [am, amo, amc, Nat.reduceAdd, Nat.reduceEqDiff, encs_length, List.length_map, decide_true, decide_false, Tree.rec_, Nd.rec_, Word.rec_, Got.rec_, decide_eq_false (show ¬ ((s[a].toNat : Nat) : Int) = 45 by omega), w1]
    refine retK_intro rfl (Store.sub_refl _) ⟨?_, rfl⟩
    simp [V.erase, eraseL, h45]
def inv47 (s : List UInt8) (σ : Store) (p a n : Nat) : St := ⟨[.int .i64 ((a + n : Nat) : Int), .ptr (.out p) 0] ++ List.replicate 15 .any, [], σ⟩
theorem end_calls {s : List UInt8} {p a : Nat} {σ : Store} (hp : σ.box p = some [.str s]) (ha : a ≤ s.length) (hb : s.length ≤ big) : PCalls prog 61 [.int .i64 (a : Nat), .ptr (.out p) 0] σ fun v σ' => v = .int .i64 ((a + (runR (s.drop a)).length : Nat) : Int) ∧ σ' = σ := by
  simp only [big] at hb
  refine fn61.calls ?_
  simp only [slots, ac61, am, amo, amc, ams, Nat.reduceAdd, Nat.reduceEqDiff, decide_true, decide_false, Tree.rec_, Nd.rec_, Word.rec_, Got.rec_]
  refine vc_loop (fun q : { n : Nat // a + n ≤ s.length ∧ ((s.drop a).take n).all goesB = true } => inv47 s σ p a q.1) (fun q => s.length - q.1) ?_ ?_
  · refine Upd.enter ⟨0, by simpa using ha, by simp⟩ ?_ LLLe.rfl OLe.rfl
    simp [inv47, List.replicate, am]
  · rintro ⟨n, hn, hall⟩
    simp only [inv47, List.replicate, am, hp]
    have w1 : IntKind.i64.wrap (((a + n : Nat) : Int) + 1) = ((a + (n + 1) : Nat) : Int) := by rw [wrap_i64 (by omega) (by omega)]; omega
    by_cases hlt : a + n < s.length
    · simp only [am, amo, amc, Nat.reduceAdd, Nat.reduceEqDiff, encs_length, List.length_map, decide_true, decide_false, Tree.rec_, Nd.rec_, Word.rec_, Got.rec_, decide_eq_true (show ((a + n : Nat) : Int) < s.length by omega), hp]
      refine idxSL_intro (by omega) (str_at hlt) ?_
      simp only [am, amo, amc, Nat.reduceAdd, Nat.reduceEqDiff, encs_length, List.length_map, decide_true, decide_false, Tree.rec_, Nd.rec_, Word.rec_, Got.rec_]
      refine (goesP_calls s[a + n].toNat σ).mono ?_
      rintro v σ ⟨rfl, rfl⟩
      cases hg : goesZ (s[a + n].toNat : Nat)
      · simp only [am, amo, amc, Nat.reduceAdd, Nat.reduceEqDiff, encs_length, List.length_map, decide_true, decide_false, Tree.rec_, Nd.rec_, Word.rec_, Got.rec_]
        refine retK_intro rfl (Store.sub_refl _) ⟨?_, rfl⟩
        simp [V.erase, runR_at hall hn (fun _ => hg)]
      · simp only [am, amo, amc, Nat.reduceAdd, Nat.reduceEqDiff, encs_length, List.length_map, decide_true, decide_false, Tree.rec_, Nd.rec_, Word.rec_, Got.rec_, w1]
        refine Upd.again ⟨n + 1, by omega, ?_⟩ (by simp; omega) (by simp [List.replicate, am]) LLLe.rfl OLe.rfl
        have hd : n < (s.drop a).length := by simp; omega
        rw [all_take_succ hd, hall]
        simp only [Bool.true_and, List.getElem_drop]
        exact hg
    · simp only [am, amo, amc, Nat.reduceAdd, Nat.reduceEqDiff, encs_length, List.length_map, decide_true, decide_false, Tree.rec_, Nd.rec_, Word.rec_, Got.rec_, decide_eq_false (show ¬ ((a + n : Nat) : Int) < s.length by omega)]
      refine retK_intro rfl (Store.sub_refl _) ⟨?_, rfl⟩
      simp [V.erase, runR_at hall hn (fun h => absurd h hlt)]
end Go.Proofs.Tryz

namespace Go.Proofs.Tryz
open Go.Am
set_option maxRecDepth 4000
set_option maxHeartbeats 4000000
def ac40 : AC := .seq (.reg [⟨(some 1), .boxO 1 (.s 0), none⟩, ⟨(some 2), .mv (.c (.sl .full 3 [])), none⟩, ⟨(some 3), .alloc [(.int .i64 0), (.int .i64 0)], none⟩])
 (.scope (.seq (.reg [⟨(some 9), .mkfn (.func 61) [] [(.s 1)], none⟩, xm 4 9])
 (.seq (.reg [⟨(some 5), .mv (.c (.sl .full 3 [])), none⟩])
 (.seq (.reg [xi 6 0])
 (.seq (.skip)
 (.seq (.block 0 (.loop (.seq (.seq (.reg [xm 10 6, xo 11 1, xT 12 11, xb .lss 13 10 12])
 (.cond (.s 13) (.skip)
 (.exit 0)))
 (.block 1 (.seq (.reg [xo 14 1, xm 15 6, xS 16 14 15, xm 7 16])
 (.seq (.block 2 (.seq (.reg [xm 18 7, xu .eql 19 18 32, xm 20 19, xh 20 (xm 21 7), xh 20 (xu .eql 22 21 9), ⟨(some 23), .pick (.s 20) (.c (.bool true)) (.s 22), none⟩, xm 17 23])
 (.cond (.s 17) (.seq (.reg [xm 24 6, xB .add 25 24 1, xm 6 25])
 (.exit 1))
 (.seq (.reg [xo 27 1, xm 28 6, xc 63 29 [.s 27, .s 28], xm 26 29])
 (.cond (.s 26) (.exit 0)
 (.seq (.reg [xm 31 7, xc 64 32 [.s 31], xm 30 32])
 (.cond (.s 30) (.seq (.reg [xm 33 5, xm 34 7, xo 35 1, xm 36 6, xm 37 6, xB .add 38 37 1, ⟨(some 39), .slS (.s 35) (some (.s 36)) (some (.s 38)), none⟩, xm 40 6, ⟨(some 41), .build [(.int .u8 0), (.str []), (.int .i64 0)] [(0, 1, (.s 34)), (1, 1, (.s 39)), (2, 1, (.s 40))], none⟩, ⟨(some 42), .bslice 3 [(.s 41)], none⟩, xa 3 43 33 42, xm 5 43])
 (.seq (.reg [xm 44 6, xB .add 45 44 1, xm 6 45])
 (.exit 1)))
 (.skip))))))))
 (.seq (.reg [xm 46 4, xm 47 6, ⟨(some 48), .callv (.s 46) [(.s 47)], none⟩, xm 8 48])
 (.seq (.seq (.reg [xo 49 1, xm 50 6, xm 51 8, ⟨(some 52), .slS (.s 49) (some (.s 50)) (some (.s 51)), none⟩, xc 54 53 [.s 52], ⟨(some 54), .not (.s 53), none⟩])
 (.cond (.s 54) (.seq (.reg [xm 55 6, ⟨(some 56), .build [(.int .i64 0), (.int .i64 0)] [(0, 1, (.c (.int .i64 1))), (1, 1, (.s 55))], none⟩, ⟨(some 2), .mv (.c (.sl .full 3 [])), none⟩, xs 2 3 56])
 (.ret))
 (.skip)))
 (.seq (.reg [xm 57 5, xo 58 1, xm 59 6, xm 60 8, ⟨(some 61), .slS (.s 58) (some (.s 59)) (some (.s 60)), none⟩, xm 62 6, ⟨(some 63), .build [(.int .u8 0), (.str []), (.int .i64 0)] [(0, 1, (.c (.int .u8 97))), (1, 1, (.s 61)), (2, 1, (.s 62))], none⟩, ⟨(some 64), .bslice 3 [(.s 63)], none⟩, xa 3 65 57 64, xm 5 65])
 (.reg [xm 66 8, xm 6 66]))))))))))
 (.seq (.reg [xm 67 5, ⟨(some 68), .build [(.int .i64 0), (.int .i64 0)] [], none⟩, xm 2 67, xs 2 3 68])
 (.ret))))))))
theorem fn40 : IsFn prog 40 ac40 [.tmp 2, .cell 3 true 2] 69 := ⟨f40, ⟨[1], []⟩, func40, by kernel_rfl, by kernel_rfl, by kernel_rfl, by kernel_rfl⟩
abbrev LexI (s : List UInt8) (σ : Store) (p : Nat) (R : List Tok × Option Int) := { q : Nat × Nat × Nat × List Tok // (σ.set p [.str s]).tip q.2.2.1 = none ∧ lexF q.1 q.2.1 (s.drop q.2.1) q.2.2.2 = R ∧ q.2.2.2.length ≤ q.2.1 ∧ q.2.1 ≤ s.length ∧ s.length ≤ q.2.1 + q.1 }
def inv16 (s : List UInt8) (σ : Store) (p a τ : Nat) (acc : List Tok) : St :=
  ⟨[.str s, .ptr (.out p) 0, .any, .ptr (.loc 0) 0, .fn (.func 61) [] [.ptr (.out p) 0], .sl (.tk τ) 3 (acc.map Tok.enc), .int .i64 (a : Nat)] ++ List.replicate 62 .any, [[.int .i64 0, .int .i64 0]], (σ.set p [.str s]).setTip τ acc.length⟩
theorem lexP_calls (s : List UInt8) (σ : Store) (hb : s.length + 1 ≤ big) : PCalls prog 40 [.str s] σ fun v σ' => v = .tup [.sl .no 3 ((lexR s).1.map Tok.enc), badL (lexR s).2] ∧ σ' = σ := by
  simp only [big] at hb
  generalize hR : lexR s = R
  refine fn40.calls ?_
  simp only [slots, ac40, am, amo, amc, ams, Nat.reduceAdd, Nat.reduceEqDiff, decide_true, decide_false, Tree.rec_, Nd.rec_, Word.rec_, Got.rec_]
  refine kO_intro fun p hp => ?_
  simp only [am, amo, amc, Nat.reduceAdd, Nat.reduceEqDiff, encs_length, List.length_map, decide_true, decide_false, Tree.rec_, Nd.rec_, Word.rec_, Got.rec_]
  have hbox : ∀ τ m, ((σ.set p [.str s]).setTip τ m).box p = some [.str s] := fun τ m => by simp [Store.setTip, Store.set]
  have hsub : ∀ τ m, (σ.set p [.str s]).tip τ = none → σ.sub ((σ.set p [.str s]).setTip τ m) := fun τ m h => Store.subT (sub_set hp) (sub_tip h)
  refine vc_loop (fun q : LexI s σ p R => inv16 s σ p q.1.2.1 q.1.2.2.1 q.1.2.2.2) (fun q => s.length - q.1.2.1) ?_ ?_
  · refine Upd.tokEnter 0 fun τ hτ => ⟨⟨(s.length, 0, τ, []), hτ, hR, by simp, by simp, by simp⟩, ?_, rfl, rfl⟩
    simp [inv16, List.replicate, lto]
  · rintro ⟨⟨n, a, τ, acc⟩, hτ, hR, h1, h2, h3⟩
    simp only at hτ hR h1 h2 h3
    simp only [inv16, List.replicate, am, amc, hbox]
    refine vcIf_split ?_ ?_
    · intro hlt
      have hlt : a < s.length := by simpa using hlt
      obtain ⟨m, rfl⟩ : ∃ m, n = m + 1 := ⟨n - 1, by omega⟩
      rw [drop_cons hlt] at hR
      rw [lexF_p, ← drop_cons hlt] at hR
      have hrun := runR_le (s := s) (a := a)
      have w1 : IntKind.i64.wrap ((a : Int) + 1) = ((a + 1 : Nat) : Int) := by rw [wrap_i64 (by omega) (by omega)]; simp
      have again : ∀ (b : Nat) (acc' : List Tok) (t : List V) (l : List (List V)), lexF m b (s.drop b) acc' = R → acc'.length ≤ b → a < b → b ≤ s.length →
          LLe t (inv16 s σ p b τ acc').t → l = [[.int .i64 0, .int .i64 0]] →
          Upd ⟨t, l, (σ.set p [.str s]).setTip τ acc'.length⟩ fun st' => ∃ j : LexI s σ p R, st' = inv16 s σ p j.1.2.1 j.1.2.2.1 j.1.2.2.2 ∧ s.length - j.1.2.1 < s.length - a := fun b acc' t l e1 e2 e3 e4 e5 e6 => by
        refine Upd.again (μ := fun q : LexI s σ p R => s.length - q.1.2.1) (I := fun q => inv16 s σ p q.1.2.1 q.1.2.2.1 q.1.2.2.2) ⟨(m, b, τ, acc'), hτ, e1, e2, e4, by simp only; omega⟩ (by simp; omega) e5 (by rw [e6]; exact LLLe.rfl) OLe.rfl
      simp only [am, amo, amc, Nat.reduceAdd, Nat.reduceEqDiff, encs_length, List.length_map, decide_true, decide_false, Tree.rec_, Nd.rec_, Word.rec_, Got.rec_]
      refine idxSL_intro (by omega) (str_at hlt) ?_
      simp only [am, amo, amc, Nat.reduceAdd, Nat.reduceEqDiff, encs_length, List.length_map, decide_true, decide_false, Tree.rec_, Nd.rec_, Word.rec_, Got.rec_]
      by_cases hbl : s[a].toNat = 32 ∨ s[a].toNat = 9
      · rw [if_pos hbl] at hR
        by_cases h32 : s[a].toNat = 32
        case' pos => simp only [am, amo, amc, Nat.reduceAdd, Nat.reduceEqDiff, encs_length, List.length_map, decide_true, decide_false, Tree.rec_, Nd.rec_, Word.rec_, Got.rec_, decide_eq_true (show ((s[a].toNat : Nat) : Int) = 32 by omega), w1]
        case' neg => simp only [am, amo, amc, Nat.reduceAdd, Nat.reduceEqDiff, encs_length, List.length_map, decide_true, decide_false, Tree.rec_, Nd.rec_, Word.rec_, Got.rec_, decide_eq_false (show ¬ ((s[a].toNat : Nat) : Int) = 32 by omega), decide_eq_true (show ((s[a].toNat : Nat) : Int) = 9 by omega), w1]
        all_goals exact again (a + 1) acc _ _ hR (by omega) (by omega) (by omega) (by simp [inv16, List.replicate, am]) rfl
      · rw [if_neg hbl] at hR
        simp only [am, amo, amc, Nat.reduceAdd, Nat.reduceEqDiff, encs_length, List.length_map, decide_true, decide_false, Tree.rec_, Nd.rec_, Word.rec_, Got.rec_, decide_eq_false (show ¬ ((s[a].toNat : Nat) : Int) = 32 by omega), decide_eq_false (show ¬ ((s[a].toNat : Nat) : Int) = 9 by omega), hbox]
        refine (comment_calls s a _ hlt (by simp only [big]; omega)).mono ?_
        rintro v σ' ⟨rfl, rfl⟩
        by_cases hcm : s[a].toNat = 45 ∧ (s.drop (a + 1)).head?.map UInt8.toNat = some 45
        · rw [if_pos hcm] at hR
          simp only [am, amo, amc, Nat.reduceAdd, Nat.reduceEqDiff, encs_length, List.length_map, decide_true, decide_false, Tree.rec_, Nd.rec_, Word.rec_, Got.rec_, decide_eq_true hcm]
          refine retK_intro rfl (hsub τ _ hτ) ⟨?_, rfl⟩
          simp [V.erase, eraseL, ← hR, badL, badA]
        · rw [if_neg hcm] at hR
          simp only [am, amo, amc, Nat.reduceAdd, Nat.reduceEqDiff, encs_length, List.length_map, decide_true, decide_false, Tree.rec_, Nd.rec_, Word.rec_, Got.rec_, decide_eq_false hcm]
          refine (signP_calls (s[a].toNat : Nat) _).mono ?_
          rintro v σ' ⟨rfl, rfl⟩
          cases hsg : signZ (s[a].toNat : Nat)
          · rw [if_neg (by simp [hsg])] at hR
            simp only [am, amo, amc, Nat.reduceAdd, Nat.reduceEqDiff, encs_length, List.length_map, decide_true, decide_false, Tree.rec_, Nd.rec_, Word.rec_, Got.rec_]
            refine (end_calls (s := s) (hbox τ _) (by omega) (by simp only [big]; omega)).mono ?_
            rintro v σ' ⟨rfl, rfl⟩
            simp only [am, amo, amc, Nat.reduceAdd, Nat.reduceEqDiff, encs_length, List.length_map, decide_true, decide_false, Tree.rec_, Nd.rec_, Word.rec_, Got.rec_, hbox]
            refine slSL_intro (by omega) (by omega) ?_
            rw [cut_run]
            simp only [am, amo, amc, Nat.reduceAdd, Nat.reduceEqDiff, encs_length, List.length_map, decide_true, decide_false, Tree.rec_, Nd.rec_, Word.rec_, Got.rec_]
            refine (right_calls (runR (s.drop a)) _).mono ?_
            rintro v σ' ⟨rfl, rfl⟩
            cases hnr : nameR (runR (s.drop a))
            · rw [if_neg (by simp [hnr])] at hR
              simp only [am, amo, amc, Nat.reduceAdd, Nat.reduceEqDiff, encs_length, List.length_map, decide_true, decide_false, Tree.rec_, Nd.rec_, Word.rec_, Got.rec_]
              refine retK_intro rfl (hsub τ _ hτ) ⟨?_, rfl⟩
              simp [V.erase, eraseL, ← hR, badL, badA]
            · rw [if_pos hnr] at hR
              have hN : 0 < (runR (s.drop a)).length := by
                cases hq : runR (s.drop a) with
                | nil => rw [hq] at hnr; simp [nameR] at hnr
                | cons _ _ => simp
              simp only [am, amo, amc, Nat.reduceAdd, Nat.reduceEqDiff, encs_length, List.length_map, decide_true, decide_false, Tree.rec_, Nd.rec_, Word.rec_, Got.rec_, hbox]
              refine slSL_intro (by omega) (by omega) ?_
              rw [cut_run]
              simp only [am, amo, amc, Nat.reduceAdd, Nat.reduceEqDiff, encs_length, List.length_map, decide_true, decide_false, Tree.rec_, Nd.rec_, Word.rec_, Got.rec_]
              refine app_tk (by simp [big]; omega) (by rw [List.length_map, setTip_tip_same]) ?_
              simp only [am, amo, amc, Nat.reduceAdd, Nat.reduceEqDiff, encs_length, List.length_map, decide_true, decide_false, Tree.rec_, Nd.rec_, Word.rec_, Got.rec_, setTip_setTip]
              have e : acc.length + 1 = (acc ++ [(⟨97, runR (s.drop a), a⟩ : Tok)]).length := by simp
              rw [e]
              rw [List.drop_drop] at hR
              exact again (a + (runR (s.drop a)).length) _ _ _ hR (by simp; omega) (by omega) (by omega) (by simp [inv16, List.replicate, am, Tok.enc]) rfl
          · rw [if_pos hsg] at hR
            simp only [am, amo, amc, Nat.reduceAdd, Nat.reduceEqDiff, encs_length, List.length_map, decide_true, decide_false, Tree.rec_, Nd.rec_, Word.rec_, Got.rec_, w1, hbox]
            refine slSL_intro (by omega) (by omega) ?_
            rw [cut_one hlt]
            simp only [am, amo, amc, Nat.reduceAdd, Nat.reduceEqDiff, encs_length, List.length_map, decide_true, decide_false, Tree.rec_, Nd.rec_, Word.rec_, Got.rec_]
            refine app_tk (by simp [big]; omega) (by rw [List.length_map, setTip_tip_same]) ?_
            simp only [am, amo, amc, Nat.reduceAdd, Nat.reduceEqDiff, encs_length, List.length_map, decide_true, decide_false, Tree.rec_, Nd.rec_, Word.rec_, Got.rec_, setTip_setTip, w1]
            have e : acc.length + 1 = (acc ++ [(⟨(s[a].toNat : Nat), [s[a]], a⟩ : Tok)]).length := by simp
            rw [e]
            exact again (a + 1) _ _ _ hR (by simp; omega) (by omega) (by omega) (by simp [inv16, List.replicate, am, Tok.enc]) rfl
    · intro hlt
      have hlt : a = s.length := by simp at hlt; omega
      subst hlt
      rw [List.drop_length] at hR
      have hR' : (acc, none) = R := by cases n <;> simpa [lexF] using hR
      simp only [am, amo, amc, Nat.reduceAdd, Nat.reduceEqDiff, encs_length, List.length_map, decide_true, decide_false, Tree.rec_, Nd.rec_, Word.rec_, Got.rec_]
      refine retK_intro rfl (hsub τ _ hτ) ⟨?_, rfl⟩
      simp [V.erase, eraseL, ← hR', badL, badA]
end Go.Proofs.Tryz

namespace Go.Proofs.Tryz
open Go.Am
set_option maxRecDepth 4000
set_option maxHeartbeats 4000000
theorem tencs_at {l : List Tok} {j : Nat} (h : j < l.length) : (l.map Tok.enc)[((j : Nat) : Int).toNat]? = some (tokN l j).enc := by simp [tokN, h]
end Go.Proofs.Tryz

namespace Go.Proofs.Tryz
open Go.Am
set_option maxRecDepth 4000
set_option maxHeartbeats 4000000
end Go.Proofs.Tryz

namespace Go.Proofs.Tryz
open Go.Am
set_option maxRecDepth 4000
set_option maxHeartbeats 4000000
def ac41 : AC := .seq (.reg [⟨(some 2), .mv (.c (.sl .full 5 [])), none⟩, ⟨(some 3), .alloc [(.int .i64 0), (.int .i64 0)], none⟩])
 (.seq (.reg [⟨(some 4), .mv (.c (.sl .full 4 [])), none⟩])
 (.seq (.reg [⟨(some 5), .mv (.c (.sl .full 5 [])), none⟩])
 (.seq (.seq (.reg [xm 11 0, xL 12 11, xi 13 0])
 (.block 0 (.loop (.seq (.reg [xb .lss 14 13 12])
 (.seq (.cond (.s 14) (.skip)
 (.exit 0))
 (.seq (.block 1 (.seq (.reg [xA 3 15 11 13, xl 3 16 15, ⟨(some 7), .alloc [(.int .u8 0), (.str []), (.int .i64 0)], none⟩, xs 3 7 16])
 (.seq (.reg [xm 17 4, xL 18 17, xm 8 18])
 (.block 2 (.seq (.reg [xf 0 27 7, xo 28 27, xc 65 29 [.s 28], xu .neq 30 29 0, xm 26 30])
 (.cond (.s 26) (.seq (.seq (.reg [xm 31 8, xB .geq 32 31 24])
 (.cond (.s 32) (.seq (.reg [xl 3 33 7, xc 66 34 [.s 33], xe 35 34 0, xe 36 34 1, xm 2 35, xs 2 3 36])
 (.ret))
 (.skip)))
 (.seq (.reg [xm 37 4, xl 3 38 7, xm 39 5, ⟨(some 40), .build [(.int .u8 0), (.str []), (.int .i64 0), (.sl .full 5 [])] [(0, 3, (.s 38)), (3, 1, (.s 39))], none⟩, ⟨(some 41), .own (.keep 4) [(.s 40)], none⟩, xa 4 42 37 41, xm 4 42])
 (.reg [⟨(some 5), .mv (.c (.sl .full 5 [])), none⟩])))
 (.seq (.reg [xf 0 44 7, xo 45 44, xc 67 46 [.s 45], xm 43 46])
 (.cond (.s 43) (.seq (.seq (.draw [(xm 47 8, []), (xB .eql 48 47 0, []), (xm 49 48, []), (xh 49 (xm 50 4), []), (xh 49 (xm 51 8), []), (xh 49 (xB .sub 52 51 1), []), (xh 49 (xA 4 53 50 52), []), (xh 49 (xf 0 54 53), []), (xh 49 (xf 0 55 54), []), (xh 49 (xo 56 55), []), (xh 49 (xc 65 57 [.s 56]), []), (xh 49 (xf 0 58 7), []), (xh 49 (xo 59 58), [0]), (xh 49 (xb .neq 60 57 59), []), (⟨(some 61), .pick (.s 49) (.c (.bool true)) (.s 60), none⟩, [])])
 (.cond (.s 61) (.seq (.reg [xl 3 62 7, xc 66 63 [.s 62], xe 64 63 0, xe 65 63 1, xm 2 64, xs 2 3 65])
 (.ret))
 (.skip)))
 (.seq (.reg [xm 66 4, xm 67 8, xB .sub 68 67 1, xA 4 69 66 68, xl 4 70 69, ⟨(some 9), .alloc [(.int .u8 0), (.str []), (.int .i64 0), (.sl .full 5 [])], none⟩, xs 4 9 70])
 (.seq (.reg [xm 71 4, xm 72 8, xB .sub 73 72 1, xm 74 8, xB .sub 75 74 1, ⟨(some 76), .slc 4 (.s 71) none (some (.s 73)) (some (.s 75)), none⟩, xm 4 76])
 (.reg [xf 3 77 9, xo 78 77, xf 0 79 9, xl 3 80 79, xm 81 5, xf 2 82 7, xo 83 82, ⟨(some 84), .build [(.int .u8 0), (.str []), (.int .i64 0), (.sl .full 5 []), (.int .i64 0)] [(0, 3, (.s 80)), (3, 1, (.s 81)), (4, 1, (.s 83))], none⟩, ⟨(some 85), .bslice 5 [(.s 84)], none⟩, xa 5 86 78 85, xm 5 86]))))
 (.reg [xm 19 5, xl 3 20 7, xf 2 21 7, xo 22 21, ⟨(some 23), .build [(.int .u8 0), (.str []), (.int .i64 0), (.sl .full 5 []), (.int .i64 0)] [(0, 3, (.s 20)), (4, 1, (.s 22))], none⟩, ⟨(some 24), .bslice 5 [(.s 23)], none⟩, xa 5 25 19 24, xm 5 25])))))))))
 (.reg [xB .add 87 13 1, xm 13 87])))))))
 (.seq (.seq (.reg [xm 88 4, xL 89 88, xm 10 89])
 (.seq (.reg [xm 90 10, xB .gtr 91 90 0])
 (.cond (.s 91) (.seq (.reg [xm 92 4, xm 93 10, xB .sub 94 93 1, xA 4 95 92 94, xf 0 96 95, xl 3 97 96, xc 66 98 [.s 97], xe 99 98 0, xe 100 98 1, xm 2 99, xs 2 3 100])
 (.ret))
 (.skip))))
 (.seq (.reg [xm 101 5, ⟨(some 102), .build [(.int .i64 0), (.int .i64 0)] [], none⟩, xm 2 101, xs 2 3 102])
 (.ret))))))
theorem fn41 : IsFn prog 41 ac41 [.tmp 2, .cell 3 true 2] 103 := ⟨f41, ⟨[41], []⟩, func41, by kernel_rfl, by kernel_rfl, by kernel_rfl, by kernel_rfl⟩
def ac65 : AC := .seq (.reg [⟨(some 2), .mv (.c (.int .u8 0)), none⟩])
 (.seq (.reg [⟨(some 3), .mv (.c (.int .u8 0)), none⟩])
 (.seq (.seq (.reg [xm 4 0])
 (.block 0 (.seq (.block 2 (.seq (.block 1 (.seq (.seq (.seq (.seq (.reg [xu .eql 6 4 123, xm 5 6])
 (.cond (.s 5) (.skip)
 (.reg [xu .eql 7 4 91, xm 5 7])))
 (.cond (.s 5) (.exit 1)
 (.skip)))
 (.seq (.reg [xu .eql 9 4 40, xm 8 9])
 (.cond (.s 8) (.exit 2)
 (.skip))))
 (.exit 0)))
 (.reg [xm 10 3, xu .add 11 10 1, xm 3 11])))
 (.seq (.seq (.reg [xm 12 0, xu .add 13 12 1, xm 14 3, xb .add 15 13 14, xm 2 15])
 (.ret))
 (.exit 0)))))
 (.seq (.reg [⟨(some 2), .mv (.c (.int .u8 0)), none⟩])
 (.ret))))
theorem fn65 : IsFn prog 65 ac65 [.tmp 2] 16 := ⟨f65, ⟨[], []⟩, func65, by kernel_rfl, by kernel_rfl, by kernel_rfl, by kernel_rfl⟩
def ac66 : AC := .seq (.reg [⟨(some 1), .box 3 (.s 0), none⟩, ⟨(some 2), .mv (.c (.sl .full 5 [])), none⟩, ⟨(some 3), .alloc [(.int .i64 0), (.int .i64 0)], none⟩])
 (.seq (.draw [(xf 2 4 1, []), (xo 5 4, []), (⟨(some 6), .build [(.int .i64 0), (.int .i64 0)] [(0, 1, (.c (.int .i64 2))), (1, 1, (.s 5))], none⟩, []), (⟨(some 2), .mv (.c (.sl .full 5 [])), none⟩, []), (xs 2 3 6, [])])
 (.ret))
theorem fn66 : IsFn prog 66 ac66 [.tmp 2, .cell 3 true 2] 7 := ⟨f66, ⟨[], []⟩, func66, by kernel_rfl, by kernel_rfl, by kernel_rfl, by kernel_rfl⟩
def ac67 : AC := .seq (.reg [⟨(some 2), .mv (.c (.bool false)), none⟩])
 (.seq (.reg [xm 3 0, xu .eql 4 3 41, xm 5 4, xh 5 (xm 6 0), xh 5 (xu .eql 7 6 125), ⟨(some 8), .pick (.s 5) (.c (.bool true)) (.s 7), none⟩, xm 9 8, xh 9 (xm 10 0), xh 9 (xu .eql 11 10 93), ⟨(some 12), .pick (.s 9) (.c (.bool true)) (.s 11), none⟩, xm 2 12])
 (.ret))
theorem fn67 : IsFn prog 67 ac67 [.tmp 2] 13 := ⟨f67, ⟨[], []⟩, func67, by kernel_rfl, by kernel_rfl, by kernel_rfl, by kernel_rfl⟩
theorem closer_calls (c : Int) (σ : Store) : PCalls prog 65 [.int .u8 c] σ fun v σ' => v = .int .u8 (closing c) ∧ σ' = σ := by
  refine fn65.calls ?_
  simp only [slots, ac65, am, amo, amc, ams, Nat.reduceAdd, Nat.reduceEqDiff, decide_true, decide_false, Tree.rec_, Nd.rec_, Word.rec_, Got.rec_]
  by_cases h1 : c = 123
  · subst h1
    simp only [am, amo, amc, Nat.reduceAdd, Nat.reduceEqDiff, encs_length, List.length_map, decide_true, decide_false, Tree.rec_, Nd.rec_, Word.rec_, Got.rec_, show decide ((123 : Int) = 123) = true from rfl]
    refine retK_intro rfl (Store.sub_refl _) ⟨?_, rfl⟩
    simp [V.erase, eraseL]
    rfl
  · simp only [am, amo, amc, Nat.reduceAdd, Nat.reduceEqDiff, encs_length, List.length_map, decide_true, decide_false, Tree.rec_, Nd.rec_, Word.rec_, Got.rec_, decide_eq_false h1]
    by_cases h2 : c = 91
    · subst h2
      simp only [am, amo, amc, Nat.reduceAdd, Nat.reduceEqDiff, encs_length, List.length_map, decide_true, decide_false, Tree.rec_, Nd.rec_, Word.rec_, Got.rec_, show decide ((91 : Int) = 91) = true from rfl]
      refine retK_intro rfl (Store.sub_refl _) ⟨?_, rfl⟩
      simp [V.erase, eraseL]
      rfl
    · simp only [am, amo, amc, Nat.reduceAdd, Nat.reduceEqDiff, encs_length, List.length_map, decide_true, decide_false, Tree.rec_, Nd.rec_, Word.rec_, Got.rec_, decide_eq_false h2]
      by_cases h3 : c = 40
      · subst h3
        simp only [am, amo, amc, Nat.reduceAdd, Nat.reduceEqDiff, encs_length, List.length_map, decide_true, decide_false, Tree.rec_, Nd.rec_, Word.rec_, Got.rec_, show decide ((40 : Int) = 40) = true from rfl]
        refine retK_intro rfl (Store.sub_refl _) ⟨?_, rfl⟩
        simp [V.erase, eraseL]
        rfl
      · simp only [am, amo, amc, Nat.reduceAdd, Nat.reduceEqDiff, encs_length, List.length_map, decide_true, decide_false, Tree.rec_, Nd.rec_, Word.rec_, Got.rec_, decide_eq_false h3]
        refine retK_intro rfl (Store.sub_refl _) ⟨?_, rfl⟩
        simp [V.erase, eraseL, closing, h1, h2, h3]
theorem closesP_calls (c : Int) (σ : Store) : PCalls prog 67 [.int .u8 c] σ fun v σ' => v = .bool (closesZ c) ∧ σ' = σ := by
  refine fn67.calls ?_
  simp only [slots, ac67, am, amo, amc, ams, Nat.reduceAdd, Nat.reduceEqDiff, decide_true, decide_false, Tree.rec_, Nd.rec_, Word.rec_, Got.rec_]
  repeat' (first
    | (refine gL_split (fun h => ?_) (fun h => ?_) <;> simp only [am, amo, amc, h, Nat.reduceAdd, Nat.reduceEqDiff, encs_length, List.length_map, decide_true, decide_false, Tree.rec_, Nd.rec_, Word.rec_, Got.rec_])
    | (refine vcIf_split (fun h => ?_) (fun h => ?_) <;> simp only [am, amo, amc, h, Nat.reduceAdd, Nat.reduceEqDiff, encs_length, List.length_map, decide_true, decide_false, Tree.rec_, Nd.rec_, Word.rec_, Got.rec_])
    | (refine pickL_split (fun h => ?_) (fun h => ?_) <;> simp only [am, amo, amc, h, Nat.reduceAdd, Nat.reduceEqDiff, encs_length, List.length_map, decide_true, decide_false, Tree.rec_, Nd.rec_, Word.rec_, Got.rec_])
  )
  all_goals refine retK_intro rfl (Store.sub_refl _) ⟨?_, rfl⟩
  all_goals simp_all [V.erase, eraseL, closesZ]
  all_goals (try omega)
theorem bad_calls (t : Tok) (σ : Store) : PCalls prog 66 [.agg t.enc] σ fun v σ' => v = .tup [.sl .no 5 [], fenc (some t.pos)] ∧ σ' = σ := by
  refine fn66.calls ?_
  simp only [slots, ac66, am, ams, Tok.enc, am]
  refine retK_intro rfl (Store.sub_refl _) ⟨?_, rfl⟩
  simp [V.erase, eraseL, fenc, badC, badA]
structure Lvl where
  tok : Tok
  tk : Tk
  ahead : List Tree
def Lvl.enc (x : Lvl) : List V := [.int .u8 x.tok.kind, .str x.tok.text, .int .i64 x.tok.pos, .sl x.tk 5 (encs x.ahead)]
def Lvl.pair (x : Lvl) : Tok × List Tree := (x.tok, x.ahead)
def Lvl.tn (x : Lvl) : Tk × Nat := (x.tk, (encs x.ahead).length)
structure TrI where
  i : Nat
  tkO : Tk
  op : List Lvl
  tkR : Tk
  row : List Tree
  τ : Store
def inv17 (l : List Tok) (q : TrI) : St :=
  ⟨[.sl .no 3 (l.map Tok.enc), .any, .any, .ptr (.loc 0) 0, .sl q.tkO 4 (q.op.map Lvl.enc), .sl q.tkR 5 (encs q.row)] ++ List.replicate 5 .any ++ [.sl .no 3 (l.map Tok.enc), .int .i64 l.length, .int .i64 (q.i : Nat)] ++ List.replicate 89 .any, [[.int .i64 0, .int .i64 0]], q.τ⟩
def TreeOk (l : List Tok) (σ : Store) (R : List Tree × Option Int) (q : TrI) : Prop :=
  q.i ≤ l.length ∧ treeP (l.drop q.i) (q.op.map Lvl.pair) q.row = R ∧ Toks σ q.τ ((q.tkO, (q.op.map Lvl.enc).length) :: (q.tkR, (encs q.row).length) :: q.op.map Lvl.tn) ∧ q.op.length ≤ q.i ∧ q.row.length ≤ q.i ∧ ∀ x ∈ q.op, x.ahead.length + 1 ≤ q.i
theorem snoc_cases {α : Type} (l : List α) : l = [] ∨ ∃ ys x, l = ys ++ [x] := by
  rcases List.eq_nil_or_concat l with h | ⟨ys, x, h⟩
  · exact .inl h
  · exact .inr ⟨ys, x, by rw [h]; simp⟩
theorem treeP_calls (l : List Tok) (σ : Store) (hb : l.length + 1 ≤ big) : PCalls prog 41 [.sl .no 3 (l.map Tok.enc)] σ fun v σ' => v = .tup [.sl .no 5 (encs (treeP l [] []).1), fenc (treeP l [] []).2] ∧ σ' = σ := by
  simp only [big] at hb
  generalize hR : treeP l [] [] = R
  refine fn41.calls ?_
  simp only [slots, ac41, am, amo, amc, ams, Nat.reduceAdd, Nat.reduceEqDiff, decide_true, decide_false, Tree.rec_, Nd.rec_, Word.rec_, Got.rec_]
  refine vc_loop (fun q : { q : TrI // TreeOk l σ R q } => inv17 l q.1) (fun q => l.length - q.1.i) ?_ ?_
  · refine Upd.enter ⟨⟨0, .full, [], .full, [], σ⟩, by simp, hR, Toks.init (by simp), by simp, by simp, by simp⟩ ?_ LLLe.rfl OLe.rfl
    simp [inv17, List.replicate, am, encs]
  · rintro ⟨⟨i, tkO, op, tkR, row, τ⟩, h1, hR, hT, hb1, hb2, hb3⟩
    simp only at h1 hR hT hb1 hb2 hb3
    simp only [inv17, List.replicate, am, List.length_map]
    refine vcIf_split ?_ ?_
    · intro hlt
      have hlt : i < l.length := by simpa using hlt
      rw [List.drop_eq_getElem_cons hlt] at hR
      have htok : tokN l i = l[i] := by simp [tokN, hlt]
      rw [← htok] at hR
      generalize ht : tokN l i = t at hR
      have wi : IntKind.i64.wrap ((i : Int) + 1) = ((i + 1 : Nat) : Int) := by rw [wrap_i64 (by omega) (by omega)]; simp
      have again : ∀ (q : TrI) (t : List V) (m : List (List V)), TreeOk l σ R q → q.i = i + 1 → LLe t (inv17 l q).t → LLLe (m.take 1) [[.int .i64 0, .int .i64 0]] →
          Upd ⟨t, m, q.τ⟩ fun st' => ∃ j : { q : TrI // TreeOk l σ R q }, st' = inv17 l j.1 ∧ l.length - j.1.i < l.length - i := fun q t m hq hi ht hm => by
        refine Upd.againD (I := fun q : { q : TrI // TreeOk l σ R q } => inv17 l q.1) (μ := fun q => l.length - q.1.i) ⟨q, hq⟩ (by simp only; omega) ht hm OLe.rfl (by simp [inv17, List.replicate, loL, V.lo]) (by simp [inv17, loLL, loL, V.lo])
      simp only [am, amo, amc, Nat.reduceAdd, Nat.reduceEqDiff, encs_length, List.length_map, decide_true, decide_false, Tree.rec_, Nd.rec_, Word.rec_, Got.rec_]
      refine idxL_intro (by omega) (tencs_at hlt) ?_
      rw [ht]
      simp only [am, amo, amc, Nat.reduceAdd, Nat.reduceEqDiff, encs_length, List.length_map, decide_true, decide_false, Tree.rec_, Nd.rec_, Word.rec_, Got.rec_, Tok.enc]
      refine (closer_calls t.kind _).mono ?_
      rintro v σ' ⟨rfl, rfl⟩
      simp only [treeP] at hR
      by_cases hc : closing t.kind = 0
      · rw [if_neg (by simp [hc])] at hR
        simp only [am, amo, amc, Nat.reduceAdd, Nat.reduceEqDiff, encs_length, List.length_map, decide_true, decide_false, Tree.rec_, Nd.rec_, Word.rec_, Got.rec_, decide_eq_true hc]
        refine (closesP_calls t.kind _).mono ?_
        rintro v σ' ⟨rfl, rfl⟩
        cases hcl : closesZ t.kind
        · rw [hcl] at hR
          simp only [Bool.false_eq_true, if_false] at hR
          simp only [am, amo, amc, Nat.reduceAdd, Nat.reduceEqDiff, encs_length, List.length_map, decide_true, decide_false, Tree.rec_, Nd.rec_, Word.rec_, Got.rec_, Tok.enc]
          refine app_any (hT.perm (List.Perm.swap _ _ _)) (by rw [encs_length]; simp [big]; omega) fun υ hυ => ?_
          simp only [encs_length, List.length_map, List.length_cons, List.length_nil, Nat.zero_add] at hυ
          simp only [am, amo, amc, Nat.reduceAdd, Nat.reduceEqDiff, encs_length, List.length_map, decide_true, decide_false, Tree.rec_, Nd.rec_, Word.rec_, Got.rec_, wi]
          have e : encs row ++ [[V.int .u8 t.kind, .str t.text, .int .i64 t.pos, .sl .no 5 [], .int .i64 t.pos]] = encs (row ++ [.mk t [] t.pos]) := by simp [encs_map, Tree.enc, encs]
          rw [e]
          refine again ⟨i + 1, tkO, op, .tk υ, row ++ [.mk t [] t.pos], σ'.setTip υ (row.length + 1)⟩ _ _ ⟨hlt, hR, ?_, by simp only; omega, by simp; omega, fun x hx => by have := hb3 x hx; simp only; omega⟩ rfl (by simp [inv17, List.replicate, am]) (by simp [am])
          refine Toks.perm ?_ (List.Perm.swap _ _ _)
          simpa [encs_length] using hυ
        · rw [hcl] at hR
          simp only [if_true] at hR
          rcases snoc_cases op with rfl | ⟨ys, x, rfl⟩
          · simp only [List.map_nil, List.getLast?_nil] at hR
            simp only [am, amo, amc, Nat.reduceAdd, Nat.reduceEqDiff, encs_length, List.length_map, decide_true, decide_false, Tree.rec_, Nd.rec_, Word.rec_, Got.rec_, List.map_nil, List.length_nil, show decide (((0 : Nat) : Int) = 0) = true from rfl]
            refine (bad_calls t _).mono ?_
            rintro v σ' ⟨rfl, rfl⟩
            simp only [am, amo, amc, Nat.reduceAdd, Nat.reduceEqDiff, encs_length, List.length_map, decide_true, decide_false, Tree.rec_, Nd.rec_, Word.rec_, Got.rec_, fenc]
            refine retK_intro rfl hT.1 ⟨?_, rfl⟩
            simp [V.erase, eraseL, ← hR, fenc, badC, badA, encs]
          · have hne : ¬ (((ys ++ [x]).length : Nat) : Int) = 0 := by simp; omega
            have wn : IntKind.i64.wrap ((((ys ++ [x]).length : Nat) : Int) - 1) = (ys.length : Nat) := by rw [wrap_i64 (by simp <;> omega) (by simp at hb1 ⊢ <;> omega)]; simp
            have hat : ((ys ++ [x]).map Lvl.enc)[((ys.length : Nat) : Int).toNat]? = some x.enc := by simp
            simp only [List.map_append, List.map_cons, List.map_nil, List.getLast?_concat, List.dropLast_concat, Lvl.pair] at hR
            simp only [am, amo, amc, Nat.reduceAdd, Nat.reduceEqDiff, encs_length, List.length_map, decide_true, decide_false, Tree.rec_, Nd.rec_, Word.rec_, Got.rec_, decide_eq_false hne, wn]
            refine idxL_intro (by omega) (hat) ?_
            simp only [am, amo, amc, Nat.reduceAdd, Nat.reduceEqDiff, encs_length, List.length_map, decide_true, decide_false, Tree.rec_, Nd.rec_, Word.rec_, Got.rec_, Lvl.enc]
            refine CallD.intro (closer_calls x.tok.kind _) ?_
            simp only [am, amo, amc, Nat.reduceAdd, Nat.reduceEqDiff, encs_length, List.length_map, decide_true, decide_false, Tree.rec_, Nd.rec_, Word.rec_, Got.rec_]
            by_cases hk : closing x.tok.kind = t.kind
            · rw [if_pos hk] at hR
              simp only [am, amo, amc, Nat.reduceAdd, Nat.reduceEqDiff, encs_length, List.length_map, decide_true, decide_false, Tree.rec_, Nd.rec_, Word.rec_, Got.rec_, decide_eq_true hk, wn]
              refine idxL_intro (by omega) (hat) ?_
              simp only [am, amo, amc, Nat.reduceAdd, Nat.reduceEqDiff, encs_length, List.length_map, decide_true, decide_false, Tree.rec_, Nd.rec_, Word.rec_, Got.rec_, Lvl.enc, wn]
              refine slcL_full (by simp) ?_
              have hT2 : Toks σ σ' ((x.tk, (encs x.ahead).length) :: ys.map Lvl.tn) := by
                refine (hT.tail.tail).perm ?_
                simp only [List.map_append, List.map_cons, List.map_nil, Lvl.tn]
                exact List.perm_append_singleton _ _
              have hx3 := hb3 x (by simp)
              simp only [List.length_append, List.length_cons, List.length_nil] at hb1
              simp only [am, amo, amc, Nat.reduceAdd, Nat.reduceEqDiff, encs_length, List.length_map, decide_true, decide_false, Tree.rec_, Nd.rec_, Word.rec_, Got.rec_]
              refine app_any hT2 (by rw [encs_length]; simp [big]; omega) fun υ hυ => ?_
              simp only [encs_length, List.length_map, List.length_cons, List.length_nil, Nat.zero_add] at hυ
              simp only [am, amo, amc, Nat.reduceAdd, Nat.reduceEqDiff, encs_length, List.length_map, decide_true, decide_false, Tree.rec_, Nd.rec_, Word.rec_, Got.rec_, wi]
              have e : encs x.ahead ++ [[V.int .u8 x.tok.kind, .str x.tok.text, .int .i64 x.tok.pos, .sl .no 5 (encs row), .int .i64 t.pos]] = encs (x.ahead ++ [.mk x.tok row t.pos]) := by simp [encs_map, Tree.enc]
              have e2 : ((ys ++ [x]).map Lvl.enc).take ys.length = ys.map Lvl.enc := by simp
              rw [e, e2]
              refine again ⟨i + 1, .full, ys, .tk υ, x.ahead ++ [.mk x.tok row t.pos], σ'.setTip υ (x.ahead.length + 1)⟩ _ _ ⟨hlt, hR, ?_, by simp only; omega, by simp; omega, fun y hy => by have := hb3 y (by simp [hy]); simp only; omega⟩ rfl (by simp [inv17, List.replicate, am]) (by simp [am])
              refine Toks.full ?_
              simpa [encs_length] using hυ
            · rw [if_neg hk] at hR
              simp only [am, amo, amc, Nat.reduceAdd, Nat.reduceEqDiff, encs_length, List.length_map, decide_true, decide_false, Tree.rec_, Nd.rec_, Word.rec_, Got.rec_, decide_eq_false hk]
              refine (bad_calls t _).mono ?_
              rintro v σ' ⟨rfl, rfl⟩
              simp only [am, amo, amc, Nat.reduceAdd, Nat.reduceEqDiff, encs_length, List.length_map, decide_true, decide_false, Tree.rec_, Nd.rec_, Word.rec_, Got.rec_, fenc]
              refine retK_intro rfl hT.1 ⟨?_, rfl⟩
              simp [V.erase, eraseL, ← hR, fenc, badC, badA, encs]
      · rw [if_pos hc] at hR
        simp only [am, amo, amc, Nat.reduceAdd, Nat.reduceEqDiff, encs_length, List.length_map, decide_true, decide_false, Tree.rec_, Nd.rec_, Word.rec_, Got.rec_, decide_eq_false hc]
        rw [List.length_map] at hR
        by_cases h24 : 24 ≤ op.length
        · rw [if_pos h24] at hR
          simp only [am, amo, amc, Nat.reduceAdd, Nat.reduceEqDiff, encs_length, List.length_map, decide_true, decide_false, Tree.rec_, Nd.rec_, Word.rec_, Got.rec_, decide_eq_true (show (24 : Int) ≤ op.length by omega)]
          refine (bad_calls t _).mono ?_
          rintro v σ' ⟨rfl, rfl⟩
          simp only [am, amo, amc, Nat.reduceAdd, Nat.reduceEqDiff, encs_length, List.length_map, decide_true, decide_false, Tree.rec_, Nd.rec_, Word.rec_, Got.rec_, fenc]
          refine retK_intro rfl hT.1 ⟨?_, rfl⟩
          simp [V.erase, eraseL, ← hR, fenc, badC, badA, encs]
        · rw [if_neg h24] at hR
          simp only [am, amo, amc, Nat.reduceAdd, Nat.reduceEqDiff, encs_length, List.length_map, decide_true, decide_false, Tree.rec_, Nd.rec_, Word.rec_, Got.rec_, decide_eq_false (show ¬ (24 : Int) ≤ op.length by omega), own_keep]
          refine app_any hT (by simp [big]; omega) fun υ hυ => ?_
          simp only [List.length_map, List.length_cons, List.length_nil, Nat.zero_add] at hυ
          simp only [am, amo, amc, Nat.reduceAdd, Nat.reduceEqDiff, encs_length, List.length_map, decide_true, decide_false, Tree.rec_, Nd.rec_, Word.rec_, Got.rec_, wi]
          have e : op.map Lvl.enc ++ [[V.int .u8 t.kind, .str t.text, .int .i64 t.pos, .sl tkR 5 (encs row)]] = (op ++ [(⟨t, tkR, row⟩ : Lvl)]).map Lvl.enc := by simp [Lvl.enc]
          rw [e]
          refine again ⟨i + 1, .tk υ, op ++ [⟨t, tkR, row⟩], .full, [], σ'.setTip υ (op.length + 1)⟩ _ _ ⟨hlt, by simpa [Lvl.pair] using hR, ?_, by simp; omega, by simp, fun x hx => ?_⟩ rfl (by simp [inv17, List.replicate, am, encs]) (by simp [am])
          · simp only [List.length_map, List.length_append, List.length_cons, List.length_nil, Nat.zero_add, List.map_append, List.map_cons, List.map_nil, Lvl.tn]
            refine Toks.perm (Toks.full (n := (encs []).length) hυ) ?_
            refine (List.Perm.swap _ _ _).trans (List.Perm.cons _ (List.Perm.cons _ ?_))
            exact (List.perm_append_singleton _ _).symm
          · rcases List.mem_append.1 hx with hx | hx
            · have := hb3 x hx; simp only; omega
            · simp at hx; subst hx; simp only; omega
    · intro hlt
      have hlt : i = l.length := by simp at hlt; omega
      subst hlt
      rw [List.drop_length] at hR
      simp only [treeP] at hR
      simp only [am, amo, amc, Nat.reduceAdd, Nat.reduceEqDiff, encs_length, List.length_map, decide_true, decide_false, Tree.rec_, Nd.rec_, Word.rec_, Got.rec_]
      refine vcIf_split ?_ ?_
      · intro h0
        rcases snoc_cases op with rfl | ⟨ys, x, rfl⟩
        · simp at h0
        have wn : IntKind.i64.wrap ((((ys ++ [x]).length : Nat) : Int) - 1) = (ys.length : Nat) := by rw [wrap_i64 (by simp <;> omega) (by simp at hb1 ⊢ <;> omega)]; simp
        have hat : ((ys ++ [x]).map Lvl.enc)[((ys.length : Nat) : Int).toNat]? = some x.enc := by simp
        simp only [List.map_append, List.map_cons, List.map_nil, List.getLast?_concat, Lvl.pair] at hR
        simp only [am, amo, amc, Nat.reduceAdd, Nat.reduceEqDiff, encs_length, List.length_map, decide_true, decide_false, Tree.rec_, Nd.rec_, Word.rec_, Got.rec_, wn]
        refine idxL_intro (by omega) (hat) ?_
        simp only [am, amo, amc, Nat.reduceAdd, Nat.reduceEqDiff, encs_length, List.length_map, decide_true, decide_false, Tree.rec_, Nd.rec_, Word.rec_, Got.rec_, Lvl.enc]
        refine (bad_calls x.tok _).mono ?_
        rintro v σ' ⟨rfl, rfl⟩
        simp only [am, amo, amc, Nat.reduceAdd, Nat.reduceEqDiff, encs_length, List.length_map, decide_true, decide_false, Tree.rec_, Nd.rec_, Word.rec_, Got.rec_, fenc]
        refine retK_intro rfl hT.1 ⟨?_, rfl⟩
        simp [V.erase, eraseL, ← hR, fenc, badC, badA, encs]
      · intro h0
        have h0 : op = [] := by
          cases op with
          | nil => rfl
          | cons x xs => simp at h0 <;> omega
        subst h0
        simp only [List.map_nil, List.getLast?_nil] at hR
        simp only [am, amo, amc, Nat.reduceAdd, Nat.reduceEqDiff, encs_length, List.length_map, decide_true, decide_false, Tree.rec_, Nd.rec_, Word.rec_, Got.rec_]
        refine retK_intro rfl hT.1 ⟨?_, rfl⟩
        simp [V.erase, eraseL, ← hR, fenc, badC, badA, encs]
end Go.Proofs.Tryz

namespace Go.Proofs.Tryz
open Go.Am
set_option maxRecDepth 4000
set_option maxHeartbeats 4000000
def ac42 : AC := .seq (.reg [⟨(some 2), .alloc [(.str []), (.int .i64 0)], none⟩])
 (.seq (.reg [xm 4 0, xc 68 5 [.s 4, .c (.int .u8 97)], ⟨(some 3), .alloc [(.int .u8 0), (.str []), (.int .i64 0), (.sl .full 5 []), (.int .i64 0)], none⟩, xs 5 3 5])
 (.seq (.reg [xf 0 6 3, xf 1 7 6, xo 8 7, xf 0 9 3, xf 2 10 9, xo 11 10, ⟨(some 12), .build [(.str []), (.int .i64 0)] [(0, 1, (.s 8)), (1, 1, (.s 11))], none⟩, xs 2 2 12])
 (.ret)))
theorem fn42 : IsFn prog 42 ac42 [.cell 2 true 2] 13 := ⟨f42, ⟨[], []⟩, func42, by kernel_rfl, by kernel_rfl, by kernel_rfl, by kernel_rfl⟩
def ac45 : AC := .seq (.seq (.reg [xm 2 0, xk 3 2, xf 3 4 3, xf 0 5 4, xo 6 5, xB .neq 7 6 0])
 (.cond (.s 7) (.ret)
 (.skip)))
 (.seq (.reg [xm 8 0, xm 9 0, xk 10 9, xf 2 11 10, xo 12 11, ⟨(some 13), .build [(.int .i64 0), (.int .i64 0)] [(0, 1, (.c (.int .i64 2))), (1, 1, (.s 12))], none⟩, xk 14 8, xf 3 15 14, xs 2 15 13])
 (.seq (.draw [(xm 16 0, []), (xk 17 16, []), (xf 1 18 17, []), (xo 19 18, []), (xm 20 0, []), (xk 21 20, []), (xf 0 22 21, []), (xo 23 22, []), (xL 24 23, []), (xb .lss 25 19 24, [])])
 (.cond (.s 25) (.draw [(xm 26 0, []), (xm 27 0, []), (xk 28 27, []), (xf 0 29 28, []), (xo 30 29, []), (xm 31 0, []), (xk 32 31, []), (xf 1 33 32, []), (xo 34 33, []), (xA 5 35 30 34, []), (xf 0 36 35, []), (xf 2 37 36, []), (xo 38 37, []), (xk 39 26, []), (xf 3 40 39, []), (xf 1 41 40, []), (xs 1 41 38, [])])
 (.skip))))
theorem fn45 : IsFn prog 45 ac45 [] 42 := ⟨f45, ⟨[], []⟩, func45, by kernel_rfl, by kernel_rfl, by kernel_rfl, by kernel_rfl⟩
def ac68 : AC := .seq (.reg [⟨(some 4), .alloc [(.int .u8 0), (.str []), (.int .i64 0), (.sl .full 5 []), (.int .i64 0)], none⟩])
 (.seq (.seq (.draw [(xm 5 0, []), (xk 6 5, []), (xf 3 7 6, []), (xf 0 8 7, []), (xo 9 8, []), (xB .neq 10 9 0, []), (xm 11 10, []), (xh 11 (xm 12 0), []), (xh 11 (xk 13 12), []), (xh 11 (xf 1 14 13), []), (xh 11 (xo 15 14), []), (xh 11 (xm 16 0), []), (xh 11 (xk 17 16), []), (xh 11 (xf 0 18 17), []), (xh 11 (xo 19 18), []), (xh 11 (xL 20 19), []), (xh 11 (xb .geq 21 15 20), []), (⟨(some 22), .pick (.s 11) (.c (.bool true)) (.s 21), none⟩, []), (xm 23 22, []), (xh 23 (xm 24 0), []), (xh 23 (xk 25 24), []), (xh 23 (xf 0 26 25), []), (xh 23 (xo 27 26), []), (xh 23 (xm 28 0), []), (xh 23 (xk 29 28), []), (xh 23 (xf 1 30 29), []), (xh 23 (xo 31 30), []), (xh 23 (xA 5 32 27 31), []), (xh 23 (xf 0 33 32), []), (xh 23 (xf 0 34 33), []), (xh 23 (xo 35 34), []), (xh 23 (xm 36 1), []), (xh 23 (xb .neq 37 35 36), []), (⟨(some 38), .pick (.s 23) (.c (.bool true)) (.s 37), none⟩, [])])
 (.cond (.s 38) (.seq (.reg [xm 39 0, xc 45 40 [.s 39]])
 (.seq (.reg [⟨(some 41), .build [(.int .u8 0), (.str []), (.int .i64 0), (.sl .full 5 []), (.int .i64 0)] [], none⟩, xs 5 4 41])
 (.ret)))
 (.skip)))
 (.seq (.reg [xm 42 0, xk 43 42, xf 1 44 43, xo 45 44, xB .add 46 45 1, xk 47 42, xf 1 48 47, xs 1 48 46])
 (.seq (.draw [(xm 49 0, []), (xk 50 49, []), (xf 0 51 50, []), (xo 52 51, []), (xm 53 0, []), (xk 54 53, []), (xf 1 55 54, []), (xo 56 55, []), (xB .sub 57 56 1, []), (xA 5 58 52 57, []), (xl 5 59 58, []), (xs 5 4 59, [])])
 (.ret))))
theorem fn68 : IsFn prog 68 ac68 [.cell 4 true 5] 60 := ⟨f68, ⟨[], []⟩, func68, by kernel_rfl, by kernel_rfl, by kernel_rfl, by kernel_rfl⟩
def ac71 : AC := .seq (.reg [⟨(some 5), .box 5 (.s 1), none⟩, ⟨(some 7), .box 2 (.s 3), none⟩])
 (.seq (.seq (.reg [xf 0 8 7, xo 9 8, xB .neq 10 9 0])
 (.cond (.s 10) (.seq (.reg [xm 11 0, xl 2 12 7, xk 13 11, xf 3 14 13, xs 2 14 12])
 (.ret))
 (.skip)))
 (.seq (.reg [xm 15 0, xm 16 2, xk 17 15, xf 1 18 17, xs 1 18 16])
 (.seq (.seq (.reg [xm 19 0, xk 20 19, xf 5 21 20, xf 7 22 21, xf 0 23 22, xo 24 23, xB .eql 25 24 0])
 (.cond (.s 25) (.seq (.reg [xm 26 0, xl 5 27 5, xk 28 26, xf 5 29 28, xf 7 30 29, xs 5 30 27])
 (.ret))
 (.skip)))
 (.reg [xm 31 0, xl 5 32 5, xk 33 31, xf 5 34 33, xf 12 35 34, xs 5 35 32]))))
theorem fn71 : IsFn prog 71 ac71 [] 36 := ⟨f71, ⟨[], []⟩, func71, by kernel_rfl, by kernel_rfl, by kernel_rfl, by kernel_rfl⟩
theorem cfail_calls {r : Nat} {rd : Rdr} {cs : List V} {σ : Store} (h : σ.box r = some (rd.enc ++ cs)) (h0 : 0 ≤ rd.at_) : PCalls prog 45 [.ptr (.out r) 0] σ fun v σ' => v = .tup [] ∧ σ' = σ.set r (rd.fail.enc ++ cs) := by
  refine fn45.calls ?_
  simp only [slots, ac45, am, ams, am, h, Rdr.enc]
  cases hb : rd.bad with
  | some b =>
    simp only [am, amo, amc, Nat.reduceAdd, Nat.reduceEqDiff, encs_length, List.length_map, decide_true, decide_false, Tree.rec_, Nd.rec_, Word.rec_, Got.rec_, Int.reduceEq, Int.reduceLT, Int.reduceLE, badC]
    refine retK_intro rfl (Store.sub_refl _) ⟨rfl, ?_⟩
    rw [Rdr.fail, hb]; exact (Store.set_id h).symm
  | none =>
    simp only [am, amo, amc, Nat.reduceAdd, Nat.reduceEqDiff, encs_length, List.length_map, decide_true, decide_false, Tree.rec_, Nd.rec_, Word.rec_, Got.rec_, Int.reduceEq, Int.reduceLT, Int.reduceLE, badC, h, Rdr.enc]
    by_cases h1 : rd.at_ < rd.l.length
    · obtain ⟨j, hj⟩ := Int.eq_ofNat_of_zero_le h0
      have hj' : j < rd.l.length := by omega
      simp only [am, amo, amc, Nat.reduceAdd, Nat.reduceEqDiff, encs_length, List.length_map, decide_true, decide_false, Tree.rec_, Nd.rec_, Word.rec_, Got.rec_, Int.reduceEq, Int.reduceLT, Int.reduceLE, h1, decide_true]
      refine idxL_intro h0 (c := rd.l[j].enc) (by simp [encs_map, hj, hj']) ?_
      simp only [am, amo, amc, Nat.reduceAdd, Nat.reduceEqDiff, encs_length, List.length_map, decide_true, decide_false, Tree.rec_, Nd.rec_, Word.rec_, Got.rec_, Int.reduceEq, Int.reduceLT, Int.reduceLE, enc_eq]
      refine retK_intro rfl (Store.sub_refl _) ⟨rfl, ?_⟩
      simp [Rdr.fail, Rdr.spot, hb, hj, hj', Rdr.enc, badC, badA]
    · simp only [am, amo, amc, Nat.reduceAdd, Nat.reduceEqDiff, encs_length, List.length_map, decide_true, decide_false, Tree.rec_, Nd.rec_, Word.rec_, Got.rec_, Int.reduceEq, Int.reduceLT, Int.reduceLE, h1, decide_false]
      refine retK_intro rfl (Store.sub_refl _) ⟨rfl, ?_⟩
      have : rd.l[rd.at_.toNat]? = none := List.getElem?_eq_none (by omega)
      simp [Rdr.fail, Rdr.spot, hb, this, Rdr.enc, badC, badA]
theorem ctake_calls {r : Nat} {rd : Rdr} {k : Int} {cs : List V} {σ : Store} (h : σ.box r = some (rd.enc ++ cs)) (h0 : 0 ≤ rd.at_) (hb : rd.l.length ≤ big) : PCalls prog 68 [.ptr (.out r) 0, .int .u8 k] σ fun v σ' => v = .agg (rd.take k).1.enc ∧ σ' = σ.set r ((rd.take k).2.enc ++ cs) := by
  refine fn68.calls ?_
  simp only [slots, ac68, am, ams, am, h, Rdr.enc]
  have hno : rd.sees k = false → PCalls prog 45 [.ptr (.out r) 0] σ fun v σ' => v = .tup [] ∧ σ' = σ.set r (rd.fail.enc ++ cs) := fun _ => cfail_calls h h0
  cases hbad : rd.bad with
  | some b =>
    have hs : rd.sees k = false := by simp [Rdr.sees, Rdr.ok, hbad]
    simp only [am, amo, amc, Nat.reduceAdd, Nat.reduceEqDiff, encs_length, List.length_map, decide_true, decide_false, Tree.rec_, Nd.rec_, Word.rec_, Got.rec_, Int.reduceEq, Int.reduceLT, Int.reduceLE, badC]
    refine (hno hs).mono ?_
    rintro v σ' ⟨rfl, rfl⟩
    simp only [am, amo, amc, Nat.reduceAdd, Nat.reduceEqDiff, encs_length, List.length_map, decide_true, decide_false, Tree.rec_, Nd.rec_, Word.rec_, Got.rec_, Int.reduceEq, Int.reduceLT, Int.reduceLE]
    refine retK_intro rfl (Store.sub_refl _) ⟨?_, ?_⟩
    · simp [Rdr.take, hs, V.erase, eraseL, Tree.zero, Tree.enc, encs, Tree.tok, Tree.kids, Tree.fin]
    · simp [Rdr.take, hs, Rdr.enc, badC]
  | none =>
    simp only [am, amo, amc, Nat.reduceAdd, Nat.reduceEqDiff, encs_length, List.length_map, decide_true, decide_false, Tree.rec_, Nd.rec_, Word.rec_, Got.rec_, Int.reduceEq, Int.reduceLT, Int.reduceLE, badC, h, Rdr.enc]
    by_cases h1 : rd.at_ < rd.l.length
    · obtain ⟨j, hj⟩ := Int.eq_ofNat_of_zero_le h0
      have hj' : j < rd.l.length := by omega
      simp only [am, amo, amc, Nat.reduceAdd, Nat.reduceEqDiff, encs_length, List.length_map, decide_true, decide_false, Tree.rec_, Nd.rec_, Word.rec_, Got.rec_, Int.reduceEq, Int.reduceLT, Int.reduceLE, decide_eq_false (show ¬ (rd.l.length : Int) ≤ rd.at_ by omega), h, Rdr.enc]
      refine idxL_intro h0 (c := rd.l[j].enc) (by simp [encs_map, hj, hj']) ?_
      simp only [am, amo, amc, Nat.reduceAdd, Nat.reduceEqDiff, encs_length, List.length_map, decide_true, decide_false, Tree.rec_, Nd.rec_, Word.rec_, Got.rec_, Int.reduceEq, Int.reduceLT, Int.reduceLE, enc_eq]
      by_cases hk : rd.l[j].tok.kind = k
      · have hs : rd.sees k = true := by simp [Rdr.sees, Rdr.ok, hbad, isK, h0, hj, hj', hk]
        have w1 : IntKind.i64.wrap (rd.at_ + 1) = rd.at_ + 1 := by simp only [big] at hb; exact wrap_i64 (by omega) (by omega)
        have w2 : IntKind.i64.wrap (rd.at_ + 1 - 1) = rd.at_ := by rw [show rd.at_ + 1 - 1 = rd.at_ by omega]; simp only [big] at hb; exact wrap_i64 (by omega) (by omega)
        simp only [am, amo, amc, Nat.reduceAdd, Nat.reduceEqDiff, encs_length, List.length_map, decide_true, decide_false, Tree.rec_, Nd.rec_, Word.rec_, Got.rec_, Int.reduceEq, Int.reduceLT, Int.reduceLE, decide_eq_true hk, h, Rdr.enc, w1, w2]
        refine idxL_intro h0 (c := rd.l[j].enc) (by simp [encs_map, hj, hj']) ?_
        simp only [am, amo, amc, Nat.reduceAdd, Nat.reduceEqDiff, encs_length, List.length_map, decide_true, decide_false, Tree.rec_, Nd.rec_, Word.rec_, Got.rec_, Int.reduceEq, Int.reduceLT, Int.reduceLE]
        refine retK_intro Tree.r_nol (Store.sub_refl _) ⟨?_, ?_⟩
        · simp [Rdr.take, hs, V.erase, hj, hj', List.getD, Tree.rec_]
          exact enc_eq _
        · simp [Rdr.take, hs, Rdr.enc, badC]
      · have hs : rd.sees k = false := by simp [Rdr.sees, Rdr.ok, hbad, isK, h0, hj, hj', hk]
        simp only [am, amo, amc, Nat.reduceAdd, Nat.reduceEqDiff, encs_length, List.length_map, decide_true, decide_false, Tree.rec_, Nd.rec_, Word.rec_, Got.rec_, Int.reduceEq, Int.reduceLT, Int.reduceLE, decide_eq_false hk]
        refine (hno hs).mono ?_
        rintro v σ' ⟨rfl, rfl⟩
        simp only [am, amo, amc, Nat.reduceAdd, Nat.reduceEqDiff, encs_length, List.length_map, decide_true, decide_false, Tree.rec_, Nd.rec_, Word.rec_, Got.rec_, Int.reduceEq, Int.reduceLT, Int.reduceLE]
        refine retK_intro rfl (Store.sub_refl _) ⟨?_, ?_⟩
        · simp [Rdr.take, hs, V.erase, eraseL, Tree.zero, Tree.enc, encs, Tree.tok, Tree.kids, Tree.fin]
        · simp [Rdr.take, hs, Rdr.enc, badC]
    · have hs : rd.sees k = false := by
        have : rd.l[rd.at_.toNat]? = none := List.getElem?_eq_none (by omega)
        simp [Rdr.sees, Rdr.ok, hbad, isK, this]
      simp only [am, amo, amc, Nat.reduceAdd, Nat.reduceEqDiff, encs_length, List.length_map, decide_true, decide_false, Tree.rec_, Nd.rec_, Word.rec_, Got.rec_, Int.reduceEq, Int.reduceLT, Int.reduceLE, decide_eq_true (show (rd.l.length : Int) ≤ rd.at_ by omega)]
      refine (hno hs).mono ?_
      rintro v σ' ⟨rfl, rfl⟩
      simp only [am, amo, amc, Nat.reduceAdd, Nat.reduceEqDiff, encs_length, List.length_map, decide_true, decide_false, Tree.rec_, Nd.rec_, Word.rec_, Got.rec_, Int.reduceEq, Int.reduceLT, Int.reduceLE]
      refine retK_intro rfl (Store.sub_refl _) ⟨?_, ?_⟩
      · simp [Rdr.take, hs, V.erase, eraseL, Tree.zero, Tree.enc, encs, Tree.tok, Tree.kids, Tree.fin]
      · simp [Rdr.take, hs, Rdr.enc, badC]
theorem cword_calls {r : Nat} {rd : Rdr} {cs : List V} {σ : Store} (h : σ.box r = some (rd.enc ++ cs)) (h0 : 0 ≤ rd.at_) (hb : rd.l.length ≤ big) : PCalls prog 42 [.ptr (.out r) 0] σ fun v σ' => v = .agg rd.word.1.enc ∧ σ' = σ.set r (rd.word.2.enc ++ cs) := by
  refine fn42.calls ?_
  simp only [slots, ac42, am, amo, amc, ams, Nat.reduceAdd, Nat.reduceEqDiff, decide_true, decide_false, Tree.rec_, Nd.rec_, Word.rec_, Got.rec_, Int.reduceEq, Int.reduceLT, Int.reduceLE]
  refine (ctake_calls h h0 hb).mono ?_
  rintro v σ' ⟨rfl, rfl⟩
  simp only [am, amo, amc, Nat.reduceAdd, Nat.reduceEqDiff, encs_length, List.length_map, decide_true, decide_false, Tree.rec_, Nd.rec_, Word.rec_, Got.rec_, Int.reduceEq, Int.reduceLT, Int.reduceLE, Tree.fl]
  refine retK_intro rfl (Store.sub_refl _) ⟨?_, ?_⟩
  · simp [Rdr.word, V.erase, eraseL, Word.enc]
  · simp [Rdr.word]
theorem cnode_calls {r : Nat} {rd : Rdr} {c : Cmd} {pc : V} {g : Nd × Int × Option Int} {σ : Store} (h : σ.box r = some (rd.enc ++ c.encP pc)) (hb : rd.bad = none) : PCalls prog 71 [.ptr (.out r) 0, .agg g.1.enc, .int .i64 g.2.1, fenc g.2.2] σ fun v σ' => v = .tup [] ∧ σ' = σ.set r ((nodeP rd c g).1.enc ++ (nodeP rd c g).2.encP pc) := by
  refine fn71.calls ?_
  simp only [slots, ac71, am, amo, amc, ams, Nat.reduceAdd, Nat.reduceEqDiff, decide_true, decide_false, Tree.rec_, Nd.rec_, Word.rec_, Got.rec_, Int.reduceEq, Int.reduceLT, Int.reduceLE]
  simp only [am, amo, amc, Nat.reduceAdd, Nat.reduceEqDiff, encs_length, List.length_map, decide_true, decide_false, Tree.rec_, Nd.rec_, Word.rec_, Got.rec_, Int.reduceEq, Int.reduceLT, Int.reduceLE, fenc, h, Rdr.enc, Cmd.encP]
  cases hg : g.2.2 with
  | some a =>
    simp only [am, amo, amc, Nat.reduceAdd, Nat.reduceEqDiff, encs_length, List.length_map, decide_true, decide_false, Tree.rec_, Nd.rec_, Word.rec_, Got.rec_, Int.reduceEq, Int.reduceLT, Int.reduceLE, badC, h, Rdr.enc, Cmd.encP]
    refine retK_intro rfl (Store.sub_refl _) ⟨rfl, ?_⟩
    simp [nodeP, hg, Rdr.enc, Cmd.encP, badC]
  | none =>
    simp only [am, amo, amc, Nat.reduceAdd, Nat.reduceEqDiff, encs_length, List.length_map, decide_true, decide_false, Tree.rec_, Nd.rec_, Word.rec_, Got.rec_, Int.reduceEq, Int.reduceLT, Int.reduceLE, badC, h, Rdr.enc, Cmd.encP]
    by_cases hk : c.left.kind = 0
    · simp only [am, amo, amc, Nat.reduceAdd, Nat.reduceEqDiff, encs_length, List.length_map, decide_true, decide_false, Tree.rec_, Nd.rec_, Word.rec_, Got.rec_, Int.reduceEq, Int.reduceLT, Int.reduceLE, decide_eq_true hk, h, Rdr.enc, Cmd.encP, Nd.enc_eq]
      refine retK_intro rfl (Store.sub_refl _) ⟨rfl, ?_⟩
      simp [nodeP, hg, hk, Rdr.enc, Cmd.encP]
    · simp only [am, amo, amc, Nat.reduceAdd, Nat.reduceEqDiff, encs_length, List.length_map, decide_true, decide_false, Tree.rec_, Nd.rec_, Word.rec_, Got.rec_, Int.reduceEq, Int.reduceLT, Int.reduceLE, decide_eq_false hk, h, Rdr.enc, Cmd.encP, Nd.enc_eq]
      refine retK_intro rfl (Store.sub_refl _) ⟨rfl, ?_⟩
      simp [nodeP, hg, hk, Rdr.enc, Cmd.encP]
end Go.Proofs.Tryz

namespace Go.Proofs.Tryz
open Go.Am
set_option maxRecDepth 4000
set_option maxHeartbeats 4000000
def ac16 : AC := .seq (.reg [⟨(some 2), .alloc [(.str []), (.str [])], none⟩])
 (.seq (.seq (.reg [xm 3 0, xB .lss 4 3 0, xm 5 4, xh 5 (xm 6 0), xh 5 (xB .geq 7 6 16), ⟨(some 8), .pick (.s 5) (.c (.bool true)) (.s 7), none⟩])
 (.cond (.s 8) (.seq (.reg [⟨(some 9), .build [(.str []), (.str [])] [], none⟩, xs 2 2 9])
 (.ret))
 (.skip)))
 (.seq (.reg [xm 10 0, ⟨(some 11), .idxP 16 2 (.c (.ptr (.out 0) 0)) (.s 10), none⟩, xl 2 12 11, xs 2 2 12])
 (.ret)))
theorem fn16 : IsFn prog 16 ac16 [.cell 2 true 2] 13 := ⟨f16, ⟨[], []⟩, func16, by kernel_rfl, by kernel_rfl, by kernel_rfl, by kernel_rfl⟩
def ac43 : AC := .seq (.reg [xi 2 0])
 (.seq (.seq (.reg [xi 4 0])
 (.block 0 (.loop (.seq (.reg [xB .lss 5 4 16])
 (.seq (.cond (.s 5) (.skip)
 (.exit 0))
 (.seq (.block 1 (.seq (.reg [xm 6 4, xm 3 6])
 (.seq (.reg [xm 7 3, xB .gtr 8 7 0, xm 9 8, xg 9 (xm 10 3), ⟨(some 11), .idxP 16 2 (.c (.ptr (.out 0) 0)) (.s 10), (some (9, true))⟩, xg 9 (xf 0 12 11), xg 9 (xo 13 12), xg 9 (xm 14 0), ⟨(some 15), .binS .eql (.s 13) (.s 14), (some (9, true))⟩, ⟨(some 16), .pick (.s 9) (.s 15) (.c (.bool false)), none⟩])
 (.cond (.s 16) (.seq (.reg [xm 17 3, xm 2 17])
 (.ret))
 (.skip)))))
 (.reg [xB .add 18 4 1, xm 4 18])))))))
 (.seq (.reg [xi 2 0])
 (.ret)))
theorem fn43 : IsFn prog 43 ac43 [.tmp 2] 19 := ⟨f43, ⟨[], []⟩, func43, by kernel_rfl, by kernel_rfl, by kernel_rfl, by kernel_rfl⟩
theorem form_drop {i : Nat} (h : i < 16) : formCells.drop (i * 2) = [V.str (formT.getD i ([], [])).1, .str (formT.getD i ([], [])).2] ++ ((formT.map fun p => [V.str p.1, V.str p.2]).drop (i + 1)).flatten := by
  unfold formCells
  rw [flatten_drop (k := 2) (by intro r hr; simp only [List.mem_map] at hr; obtain ⟨p, _, rfl⟩ := hr; rfl), List.drop_eq_getElem_cons (by simpa [formT] using h)]
  have : i < formT.length := by simpa [formT] using h
  simp [List.getD, this]
theorem of_calls (op : Int) {σ : Store} (hg : σ.box 0 = some formCells) : PCalls prog 16 [.int .i64 op] σ fun v σ' => v = .agg [.str (formOf op).1, .str (formOf op).2] ∧ σ' = σ := by
  refine fn16.calls ?_
  simp only [slots, ac16, am, amo, amc, ams, Nat.reduceAdd, Nat.reduceEqDiff, decide_true, decide_false, Tree.rec_, Nd.rec_, Word.rec_, Got.rec_, Int.reduceEq, Int.reduceLT, Int.reduceLE]
  by_cases h0 : op < 0
  · simp only [am, amo, amc, Nat.reduceAdd, Nat.reduceEqDiff, encs_length, List.length_map, decide_true, decide_false, Tree.rec_, Nd.rec_, Word.rec_, Got.rec_, Int.reduceEq, Int.reduceLT, Int.reduceLE, decide_eq_true h0]
    refine retK_intro rfl (Store.sub_refl _) ⟨?_, rfl⟩
    have : ¬ (0 ≤ op ∧ op < 16) := by omega
    simp [V.erase, eraseL, formOf, this]
  · simp only [am, amo, amc, Nat.reduceAdd, Nat.reduceEqDiff, encs_length, List.length_map, decide_true, decide_false, Tree.rec_, Nd.rec_, Word.rec_, Got.rec_, Int.reduceEq, Int.reduceLT, Int.reduceLE, decide_eq_false h0]
    by_cases h1 : 16 ≤ op
    · simp only [am, amo, amc, Nat.reduceAdd, Nat.reduceEqDiff, encs_length, List.length_map, decide_true, decide_false, Tree.rec_, Nd.rec_, Word.rec_, Got.rec_, Int.reduceEq, Int.reduceLT, Int.reduceLE, decide_eq_true h1]
      refine retK_intro rfl (Store.sub_refl _) ⟨?_, rfl⟩
      have : ¬ (0 ≤ op ∧ op < 16) := by omega
      simp [V.erase, eraseL, formOf, this]
    · simp only [am, amo, amc, Nat.reduceAdd, Nat.reduceEqDiff, encs_length, List.length_map, decide_true, decide_false, Tree.rec_, Nd.rec_, Word.rec_, Got.rec_, Int.reduceEq, Int.reduceLT, Int.reduceLE, decide_eq_false h1]
      refine idxPL_ptr (by omega) (by omega) ?_
      simp only [am, amo, amc, Nat.reduceAdd, Nat.reduceEqDiff, encs_length, List.length_map, decide_true, decide_false, Tree.rec_, Nd.rec_, Word.rec_, Got.rec_, Int.reduceEq, Int.reduceLT, Int.reduceLE, hg, form_drop (show op.toNat < 16 by omega)]
      refine retK_intro rfl (Store.sub_refl _) ⟨?_, rfl⟩
      have : 0 ≤ op ∧ op < 16 := by omega
      simp [V.erase, eraseL, formOf, this]
def inv19 (w : List UInt8) (σ : Store) (i : Nat) : St := ⟨[.str w, .any, .any, .any, .int .i64 (i : Nat)] ++ List.replicate 14 .any, [], σ⟩
theorem number_calls (w : List UInt8) {σ : Store} (hg : σ.box 0 = some formCells) : PCalls prog 43 [.str w] σ fun v σ' => v = .int .i64 (numberP w) ∧ σ' = σ := by
  generalize hR : numberP w = R
  unfold numberP at hR
  refine fn43.calls ?_
  simp only [slots, ac43, am, amo, amc, ams, Nat.reduceAdd, Nat.reduceEqDiff, decide_true, decide_false, Tree.rec_, Nd.rec_, Word.rec_, Got.rec_, Int.reduceEq, Int.reduceLT, Int.reduceLE]
  refine vc_loop (fun p : { p : Nat × Nat // numF w p.1 p.2 = R ∧ p.2 + p.1 = 16 } => inv19 w σ p.1.2) (fun p => p.1.1) ?_ ?_
  · refine Upd.enter ⟨(16, 0), hR, rfl⟩ ?_ LLLe.rfl OLe.rfl
    simp [inv19, List.replicate, am]
  · rintro ⟨⟨n, i⟩, hR, hs⟩
    simp only at hR hs
    simp only [inv19, List.replicate, am]
    by_cases hlt : i < 16
    · obtain ⟨m, rfl⟩ : ∃ m, n = m + 1 := ⟨n - 1, by omega⟩
      simp only [numF] at hR
      have wi : IntKind.i64.wrap ((i : Int) + 1) = ((i + 1 : Nat) : Int) := by rw [wrap_i64 (by omega) (by omega)]; simp
      have hf : formOf (i : Nat) = formT.getD i ([], []) := by simp only [formOf]; rw [if_pos (by omega)]; simp
      have again : ∀ (t : List V), numF w m (i + 1) = R → LLe t (inv19 w σ (i + 1)).t → Upd ⟨t, [], σ⟩ fun st' => ∃ j : { p : Nat × Nat // numF w p.1 p.2 = R ∧ p.2 + p.1 = 16 }, st' = inv19 w σ j.1.2 ∧ j.1.1 < m + 1 := fun t h ht =>
        Upd.again (I := fun p : { p : Nat × Nat // numF w p.1 p.2 = R ∧ p.2 + p.1 = 16 } => inv19 w σ p.1.2) (μ := fun p => p.1.1) ⟨(m, i + 1), h, by simp only; omega⟩ (by simp) ht LLLe.rfl OLe.rfl
      simp only [am, amo, amc, Nat.reduceAdd, Nat.reduceEqDiff, encs_length, List.length_map, decide_true, decide_false, Tree.rec_, Nd.rec_, Word.rec_, Got.rec_, Int.reduceEq, Int.reduceLT, Int.reduceLE, decide_eq_true (show (i : Int) < 16 by omega)]
      by_cases h0 : 0 < i
      · simp only [am, amo, amc, Nat.reduceAdd, Nat.reduceEqDiff, encs_length, List.length_map, decide_true, decide_false, Tree.rec_, Nd.rec_, Word.rec_, Got.rec_, Int.reduceEq, Int.reduceLT, Int.reduceLE, decide_eq_true (show (0 : Int) < i by omega)]
        refine idxPL_ptr (by omega) (by omega) ?_
        simp only [am, amo, amc, Nat.reduceAdd, Nat.reduceEqDiff, encs_length, List.length_map, decide_true, decide_false, Tree.rec_, Nd.rec_, Word.rec_, Got.rec_, Int.reduceEq, Int.reduceLT, Int.reduceLE, hg, form_drop hlt, Int.toNat_natCast]
        by_cases hw : (formT.getD i ([], [])).1 = w
        · rw [if_pos ⟨h0, by rw [hf]; exact hw⟩] at hR
          simp only [am, amo, amc, Nat.reduceAdd, Nat.reduceEqDiff, encs_length, List.length_map, decide_true, decide_false, Tree.rec_, Nd.rec_, Word.rec_, Got.rec_, Int.reduceEq, Int.reduceLT, Int.reduceLE, decide_eq_true hw]
          refine retK_intro rfl (Store.sub_refl _) ⟨?_, rfl⟩
          simp [V.erase, eraseL, hR]
        · rw [if_neg (by rw [hf]; exact fun h => hw h.2)] at hR
          simp only [am, amo, amc, Nat.reduceAdd, Nat.reduceEqDiff, encs_length, List.length_map, decide_true, decide_false, Tree.rec_, Nd.rec_, Word.rec_, Got.rec_, Int.reduceEq, Int.reduceLT, Int.reduceLE, decide_eq_false hw, wi]
          exact again _ hR (by simp [inv19, List.replicate, am])
      · rw [if_neg (by simp [h0])] at hR
        simp only [am, amo, amc, Nat.reduceAdd, Nat.reduceEqDiff, encs_length, List.length_map, decide_true, decide_false, Tree.rec_, Nd.rec_, Word.rec_, Got.rec_, Int.reduceEq, Int.reduceLT, Int.reduceLE, decide_eq_false (show ¬ (0 : Int) < i by omega), wi]
        exact again _ hR (by simp [inv19, List.replicate, am])
    · obtain rfl : n = 0 := by omega
      simp only [numF] at hR
      simp only [am, amo, amc, Nat.reduceAdd, Nat.reduceEqDiff, encs_length, List.length_map, decide_true, decide_false, Tree.rec_, Nd.rec_, Word.rec_, Got.rec_, Int.reduceEq, Int.reduceLT, Int.reduceLE, decide_eq_false (show ¬ (i : Int) < 16 by omega)]
      refine retK_intro rfl (Store.sub_refl _) ⟨?_, rfl⟩
      simp [V.erase, eraseL, hR]
end Go.Proofs.Tryz

namespace Go.Proofs.Tryz
open Go.Am
set_option maxRecDepth 4000
set_option maxHeartbeats 4000000
def ac70 : AC := .seq (.reg [xm 6 0, xc 68 7 [.s 6, .c (.int .u8 123)], ⟨(some 2), .alloc [(.int .u8 0), (.str []), (.int .i64 0), (.sl .full 5 []), (.int .i64 0)], none⟩, xs 5 2 7])
 (.seq (.reg [xm 8 0, xf 0 9 2, xf 2 10 9, xo 11 10, xk 12 8, xf 5 13 12, xf 6 14 13, xs 1 14 11])
 (.seq (.seq (.reg [xm 15 0, xk 16 15, xf 3 17 16, xf 0 18 17, xo 19 18, xB .neq 20 19 0, xm 21 20, xh 21 (xf 3 22 2), xh 21 (xo 23 22), xh 21 (xL 24 23), xh 21 (xB .eql 25 24 0), ⟨(some 26), .pick (.s 21) (.c (.bool true)) (.s 25), none⟩])
 (.cond (.s 26) (.ret)
 (.skip)))
 (.seq (.reg [xf 3 27 2, xo 28 27, xf 4 29 2, xo 30 29, ⟨(some 31), .build [(.sl .full 5 []), (.int .i64 0), (.int .i64 0), (.int .i64 0), (.int .i64 0), (.int .i64 0), (.int .i64 0), (.str []), (.int .i64 0), (.sl .full 2 []), (.sl .full 4 []), (.int .i64 0), (.int .i64 0), (.int .i64 0), (.str []), (.sl .full 2 []), (.sl .full 5 []), (.int .i64 0), (.int .i64 0), (.str []), (.sl .full 2 []), (.sl .full 5 [])] [(0, 1, (.s 28)), (2, 1, (.s 30))], none⟩, ⟨(some 32), .boxO 22 (.s 31), none⟩, xm 3 32])
 (.seq (.block 0 (.loop (.seq (.seq (.reg [xm 33 3, xk 34 33, xf 3 35 34, xf 0 36 35, xo 37 36, xB .eql 38 37 0])
 (.cond (.s 38) (.skip)
 (.exit 0)))
 (.block 1 (.seq (.reg [xm 39 3, xc 42 40 [.s 39], ⟨(some 4), .alloc [(.str []), (.int .i64 0)], none⟩, xs 2 4 40])
 (.seq (.reg [xm 41 3, xc 68 42 [.s 41, .c (.int .u8 60)]])
 (.seq (.reg [xm 43 3, xc 42 44 [.s 43], ⟨(some 5), .alloc [(.str []), (.int .i64 0)], none⟩, xs 2 5 44])
 (.seq (.draw [(xm 45 0, []), (xm 46 0, []), (xk 47 46, []), (xf 5 48 47, []), (xf 5 49 48, []), (xo 50 49, []), (xl 2 51 4, []), (xl 2 52 5, []), (⟨(some 53), .build [(.str []), (.int .i64 0), (.str []), (.int .i64 0)] [(0, 2, (.s 51)), (2, 2, (.s 52))], none⟩, []), (⟨(some 54), .bslice 4 [(.s 53)], none⟩, []), (xa 4 55 50 54, []), (xk 56 45, []), (xf 5 57 56, []), (xf 5 58 57, []), (xs 1 58 55, [])])
 (.seq (.seq (.draw [(xm 59 3, []), (xk 60 59, []), (xf 1 61 60, []), (xo 62 61, []), (xm 63 3, []), (xk 64 63, []), (xf 0 65 64, []), (xo 66 65, []), (xL 67 66, []), (xb .eql 68 62 67, [])])
 (.cond (.s 68) (.exit 0)
 (.skip)))
 (.reg [xm 69 3, xc 68 70 [.s 69, .c (.int .u8 44)]]))))))))))
 (.seq (.upd (.reg [xm 71 3, xk 72 71, xf 3 73 72, xf 0 74 73, xo 75 74, xB .neq 76 75 0]))
 (.cond (.s 76) (.reg [xm 77 0, xm 78 3, xk 79 78, xf 3 80 79, xl 2 81 80, xk 82 77, xf 3 83 82, xs 2 83 81])
 (.skip)))))))
theorem fn70 : IsFn prog 70 ac70 [] 84 := ⟨f70, ⟨[32], [11]⟩, func70, by kernel_rfl, by kernel_rfl, by kernel_rfl, by kernel_rfl⟩
theorem take_kids {r : Rdr} {k : Int} : ((r.take k).1.kids.length : Int) ≤ manys r.l := by
  have := (r.take_many k).1
  have := manys_ge (r.take k).1.kids
  omega
theorem word_at (r : Rdr) : Goes r r.word.2 := goes_word r
def zero17 : List V := [.int .i64 0, .int .i64 0, .str [], .int .i64 0, .sl .full 2 [], .sl .full 4 [], .int .i64 0, .int .i64 0, .int .i64 0, .str [], .sl .full 2 [], .sl .full 5 [], .int .i64 0, .int .i64 0, .str [], .sl .full 2 [], .sl .full 5 []]
theorem ole_of_eq {σ σ' : Store} (h : σ = σ') : OLe σ σ' := h ▸ OLe.rfl
structure PrI where
  n : Nat
  i : Rdr
  acc : List (Word × Word)
  τ : Nat
def pStore (σ : Store) (r q τ : Nat) (i rd : Rdr) (c : Cmd) (acc : List (Word × Word)) : Store := ((σ.set q (i.enc ++ zero17)).set r (rd.enc ++ c.encP (.sl (.tk τ) 4 (acc.map penc)))).setTip τ acc.length
section
variable {σ : Store} {r q τ : Nat} {i i' rd : Rdr} {c : Cmd} {acc : List (Word × Word)}
theorem pS_q (h : q ≠ r) : (pStore σ r q τ i rd c acc).box q = some (i.enc ++ zero17) := by simp [pStore, Store.setTip, Store.set, h]
theorem pS_r : (pStore σ r q τ i rd c acc).box r = some (rd.enc ++ c.encP (.sl (.tk τ) 4 (acc.map penc))) := by simp [pStore, Store.setTip, Store.set]
theorem pS_tip : (pStore σ r q τ i rd c acc).tip τ = some acc.length := by simp [pStore, Store.setTip]
theorem pS_set (h : q ≠ r) : (pStore σ r q τ i rd c acc).set q (i'.enc ++ zero17) = pStore σ r q τ i' rd c acc := by
  have : ((σ.set q (i.enc ++ zero17)).set r (rd.enc ++ c.encP (.sl (.tk τ) 4 (acc.map penc)))).set q (i'.enc ++ zero17) = (σ.set q (i'.enc ++ zero17)).set r (rd.enc ++ c.encP (.sl (.tk τ) 4 (acc.map penc))) := by rw [Store.set_comm (Ne.symm h), Store.set_set]
  show (((σ.set q (i.enc ++ zero17)).set r (rd.enc ++ c.encP (.sl (.tk τ) 4 (acc.map penc)))).set q (i'.enc ++ zero17)).setTip τ acc.length = _
  rw [this]; rfl
theorem cr_pc {pc : V} : ldC false 1 ((rd.enc ++ c.encP pc).drop 10) = some pc := rfl
theorem cr_spc {pc x : V} : setAt (rd.enc ++ c.encP pc) 10 [x] = rd.enc ++ c.encP x := rfl
theorem cr_hpc {pc : V} : hasN 1 ((rd.enc ++ c.encP pc).drop 10) = true := rfl
theorem cr_l {cs : List V} : ldC false 1 (rd.enc ++ cs) = some (.sl .no 5 (encs rd.l)) := rfl
theorem cr_at {cs : List V} : ldC false 1 ((rd.enc ++ cs).drop 1) = some (.int .i64 rd.at_) := rfl
theorem cr_fin {cs : List V} : ldC false 1 ((rd.enc ++ cs).drop 2) = some (.int .i64 rd.fin) := rfl
theorem cr_bad {cs : List V} : ldC false 1 ((rd.enc ++ cs).drop 3) = some (.int .i64 (badC rd.bad)) := rfl
theorem cr_bb {cs : List V} : takeN 2 ((rd.enc ++ cs).drop 3) = some [.int .i64 (badC rd.bad), .int .i64 (badA rd.bad)] := rfl
theorem cr_hb {cs : List V} : hasN 2 ((rd.enc ++ cs).drop 3) = true := rfl
theorem cr_sb {cs : List V} {b : Option Int} : setAt (rd.enc ++ cs) 3 [.int .i64 (badC b), .int .i64 (badA b)] = ({ rd with bad := b } : Rdr).enc ++ cs := by cases cs <;> rfl
def crl := And.intro @cr_pc <| And.intro @cr_spc <| And.intro @cr_hpc <| And.intro @cr_l <| And.intro @cr_at <| And.intro @cr_fin <| And.intro @cr_bad <| And.intro @cr_bb <| And.intro @cr_hb @cr_sb
theorem pS_add {p : Word × Word} {n : Nat} (hn : n = acc.length + 1) : ((pStore σ r q τ i rd c acc).setTip τ n).set r (rd.enc ++ c.encP (.sl (.tk τ) 4 (acc.map penc ++ [penc p]))) = pStore σ r q τ i rd c (acc ++ [p]) := by
  subst hn
  unfold pStore
  rw [List.length_append, List.length_cons, List.length_nil, List.map_append, List.map_cons, List.map_nil]
  show ((((σ.set q (i.enc ++ zero17)).set r (rd.enc ++ c.encP (.sl (.tk τ) 4 (acc.map penc)))).set r (rd.enc ++ c.encP (.sl (.tk τ) 4 (acc.map penc ++ [penc p])))).setTip τ acc.length).setTip τ (acc.length + 1) = _
  rw [Store.set_set, setTip_setTip]
end
theorem Store.sub_setm {σ σ' : Store} {r : Nat} {X : List V} (h : σ.sub σ') : (σ.set r X).sub (σ'.set r X) := by
  refine ⟨fun b cs hb => ?_, h.2⟩
  simp only [Store.set] at hb ⊢
  by_cases e : b = r
  · rw [if_pos e] at hb ⊢; exact hb
  · rw [if_neg e] at hb ⊢; exact h.1 b cs hb
def SLp (r q : Nat) : List V := [.ptr (.out r) 0, .any, .any, .ptr (.out q) 0] ++ List.replicate 80 .any
theorem pairs_fin {σ : Store} {r q τ : Nat} {i rd : Rdr} {c : Cmd} {acc : List (Word × Word)} {t : List V} {l : List (List V)} {K : St → Prop} (hτ : σ.tip τ = none) (ht : LLe t (SLp r q))
    (hK : K ⟨SLp r q, [], (σ.set q (i.enc ++ zero17)).set r (rd.enc ++ c.encP (.sl .no 4 (acc.map penc)))⟩) : Upd ⟨t, l, pStore σ r q τ i rd c acc⟩ K := by
  refine Upd.drops (l' := []) ht (by simp [LLLe]) ?_ (by simp [SLp, List.replicate, loL, V.lo]) rfl hK
  refine ⟨fun b cs' hb => ?_, fun υ m hm => ?_⟩
  · simp only [pStore, Store.setTip, Store.set] at hb ⊢
    split at hb
    · rename_i h; subst h
      simp only [Option.some.injEq] at hb; subst hb
      exact ⟨_, by rw [if_pos rfl], by simp [Rdr.enc, Cmd.encP, am]⟩
    · rename_i h
      exact ⟨cs', by rw [if_neg h]; exact hb, LLe.rfl⟩
  · have hm : σ.tip υ = some m := hm
    have hne : υ ≠ τ := by rintro rfl; rw [hτ] at hm; simp at hm
    simp only [pStore, Store.setTip, Store.set, if_neg hne]
    exact hm
theorem pairsG_bad {n : Nat} {i : Rdr} {acc : List (Word × Word)} (h : i.bad ≠ none) : Rdr.pairsG n i acc = (i, acc) := by
  cases n <;> simp [Rdr.pairsG, h]
theorem pcell_ne {ps : List (Word × Word)} (h : ps ≠ []) : pcell ps = .sl .no 4 (ps.map penc) := by cases ps with | nil => exact absurd rfl h | cons _ _ => rfl
def invPairs (σ : Store) (r q : Nat) (rd : Rdr) (c : Cmd) (p : PrI) : St :=
  ⟨[.ptr (.out r) 0, .any, .any, .ptr (.out q) 0] ++ List.replicate 80 .any, [], pStore σ r q p.τ p.i rd c p.acc⟩
def PrOk (t : Tree) (σ : Store) (R : Rdr × List (Word × Word)) (p : PrI) : Prop :=
  Rdr.pairsG p.n p.i p.acc = R ∧ p.i.l = t.kids ∧ 0 ≤ p.i.at_ ∧ p.i.at_ ≤ p.i.l.length ∧ (p.i.bad = none → (t.kids.length : Int) + 1 ≤ p.i.at_ + p.n) ∧ (p.acc.length : Int) ≤ p.i.at_ + 1 ∧ (p.i.bad = none → (p.acc.length : Int) ≤ p.i.at_) ∧ σ.tip p.τ = none ∧ (p.i.bad = none ∨ p.acc ≠ [])
theorem pairs_calls {r : Nat} {rd : Rdr} {c : Cmd} {σ : Store} (h : σ.box r = some (rd.enc ++ c.encP (.sl .full 4 []))) (hc : c.pairs = []) (h0 : 0 ≤ rd.at_) (hm : manys rd.l + 1 ≤ big) :
    PCalls prog 70 [.ptr (.out r) 0] σ fun v σ' => v = .tup [] ∧ σ' = σ.set r ((pairsP rd c).1.enc ++ (pairsP rd c).2.encP (pcell (pairsP rd c).2.pairs)) := by
  have hlen := manys_ge rd.l
  refine fn70.calls ?_
  simp only [slots, ac70, am, amo, amc, ams, Nat.reduceAdd, Nat.reduceEqDiff, decide_true, decide_false, Tree.rec_, Nd.rec_, Word.rec_, Got.rec_, Int.reduceEq, Int.reduceLT, Int.reduceLE]
  refine (ctake_calls h h0 (by omega)).mono ?_
  rintro v σ' ⟨rfl, rfl⟩
  have hks := take_kids (r := rd) (k := 123)
  have hpp : pairsP rd c = if (rd.take 123).2.bad ≠ none ∨ (rd.take 123).1.kids.length = 0 then ((rd.take 123).2, { c with pairsAt := (rd.take 123).1.tok.pos })
    else ((rd.take 123).2.bads ((rd.take 123).1.inner.pairsG ((rd.take 123).1.kids.length + 1) []).1.bad, { c with pairsAt := (rd.take 123).1.tok.pos, pairs := ((rd.take 123).1.inner.pairsG ((rd.take 123).1.kids.length + 1) []).2 }) := rfl
  rw [hpp]
  generalize (rd.take 123).1 = t at hks ⊢
  generalize (rd.take 123).2 = r1
  simp only [am, amo, amc, Nat.reduceAdd, Nat.reduceEqDiff, encs_length, List.length_map, decide_true, decide_false, Tree.rec_, Nd.rec_, Word.rec_, Got.rec_, Int.reduceEq, Int.reduceLT, Int.reduceLE, Tree.fl, Rdr.enc, Cmd.encP]
  cases hb : r1.bad with
  | some b =>
    simp only [am, amo, amc, Nat.reduceAdd, Nat.reduceEqDiff, encs_length, List.length_map, decide_true, decide_false, Tree.rec_, Nd.rec_, Word.rec_, Got.rec_, Int.reduceEq, Int.reduceLT, Int.reduceLE, badC]
    refine retK_intro rfl (Store.sub_refl _) ⟨rfl, ?_⟩
    simp [Rdr.enc, Cmd.encP, badC, hc, pcell, hb]
  | none =>
    simp only [am, amo, amc, Nat.reduceAdd, Nat.reduceEqDiff, encs_length, List.length_map, decide_true, decide_false, Tree.rec_, Nd.rec_, Word.rec_, Got.rec_, Int.reduceEq, Int.reduceLT, Int.reduceLE, badC, Tree.fl]
    by_cases hk : t.kids.length = 0
    · simp only [am, amo, amc, Nat.reduceAdd, Nat.reduceEqDiff, encs_length, List.length_map, decide_true, decide_false, Tree.rec_, Nd.rec_, Word.rec_, Got.rec_, Int.reduceEq, Int.reduceLT, Int.reduceLE, decide_eq_true (show (t.kids.length : Int) = 0 by omega)]
      refine retK_intro rfl (Store.sub_refl _) ⟨rfl, ?_⟩
      simp [Rdr.enc, Cmd.encP, badC, hc, pcell, hb, hk]
    · simp only [am, amo, amc, Nat.reduceAdd, Nat.reduceEqDiff, encs_length, List.length_map, decide_true, decide_false, Tree.rec_, Nd.rec_, Word.rec_, Got.rec_, Int.reduceEq, Int.reduceLT, Int.reduceLE, decide_eq_false (show ¬ (t.kids.length : Int) = 0 by omega), Tree.fl]
      refine kO_intro fun q hq => ?_
      have hqr : q ≠ r := by rintro rfl; simp [Store.set] at hq
      have hqσ : σ.box q = none := by simpa [Store.set, hqr] using hq
      generalize hR : Rdr.pairsG (t.kids.length + 1) t.inner [] = R
      rw [if_neg (by simp [hk])]
      have hin : t.inner = (⟨t.kids, 0, t.fin, none⟩ : Rdr) := rfl
      generalize hc1 : ({ c with pairsAt := t.tok.pos } : Cmd) = c1
      have e1 : ∀ A B, (σ.set r A).set q B = (σ.set q B).set r A := fun A B => Store.set_comm (Ne.symm hqr)
      rw [e1]
      refine vc_loop (fun p : { p : PrI // PrOk t σ R p } => invPairs σ r q r1 c1 p.1) (fun p => p.1.n) ?_ ?_
      · refine (Upd.drops (t' := (invPairs σ r q r1 c1 ⟨0, t.inner, [], 0⟩).t) (l' := []) (σ' := (σ.set q (t.inner.enc ++ zero17)).set r (r1.enc ++ c1.encP (.sl .full 4 []))) ?_ trivial ?_ (by simp [invPairs, List.replicate, loL, V.lo]) rfl rfl).bind ?_
        · simp [invPairs, List.replicate, am]
        · refine ole_of_eq ?_
          simp [Rdr.enc, Cmd.encP, zero17, ← hc1, hin, hb, badC, badA]
          rfl
        · rintro _ rfl
          refine Upd.tok 0 fun τ hτ => ⟨_, [], (σ.set q (t.inner.enc ++ zero17)).set r (r1.enc ++ c1.encP (.sl (.tk τ) 4 [])), LTo.rfl, rfl, by simp, ?_, ⟨⟨t.kids.length + 1, t.inner, [], τ⟩, ?_⟩, ?_⟩
          · have := OTo.set (σ := (σ.set q (t.inner.enc ++ zero17)).set r (r1.enc ++ c1.encP (.sl .full 4 []))) (b := r) (τ := τ) (n := 0) (cs' := r1.enc ++ c1.encP (.sl (.tk τ) 4 [])) (Store.set_same _ _ _) (by simp [Rdr.enc, Cmd.encP, lto])
            rwa [Store.set_set] at this
          · exact ⟨hR, rfl, by simp [hin], by simp [hin], fun _ => by simp [hin], by simp [hin], fun _ => by simp [hin], hτ, .inl rfl⟩
          · rfl
      · rintro ⟨⟨n, i, acc, τ⟩, hR, hl, hi0, hi1, hn, ha1, ha2, hτ, hne⟩
        simp only at hR hl hi0 hi1 hn ha1 ha2 hτ hne
        simp only [invPairs, List.replicate, am, pS_q hqr, crl]
        have hl' : i.l.length = t.kids.length := by rw [hl]
        have hlb : i.l.length ≤ big := by rw [hl]; omega
        cases hbad : i.bad with
        | some b =>
          simp only [am, amo, amc, Nat.reduceAdd, Nat.reduceEqDiff, encs_length, List.length_map, decide_true, decide_false, Tree.rec_, Nd.rec_, Word.rec_, Got.rec_, Int.reduceEq, Int.reduceLT, Int.reduceLE, badC]
          rw [pairsG_bad (by simp [hbad])] at hR
          have hacc : acc ≠ [] := by rcases hne with h | h; rw [hbad] at h; simp at h; exact h
          refine pairs_fin hτ (by simp [SLp, List.replicate, am]) ?_
          have hbq : ∀ B, ((σ.set q (i.enc ++ zero17)).set r B).box q = some (i.enc ++ zero17) := fun B => by simp [Store.set, hqr]
          have hbr : ∀ A B, ((σ.set q A).set r B).box r = some B := fun A B => by simp [Store.set]
          simp only [SLp, List.replicate, am, hbq, hbr, crl, hbad, badC]
          simp only [am, amo, amc, Nat.reduceAdd, Nat.reduceEqDiff, encs_length, List.length_map, decide_true, decide_false, Tree.rec_, Nd.rec_, Word.rec_, Got.rec_, Int.reduceEq, Int.reduceLT, Int.reduceLE, hbr, hbq, crl, hbad, badC]
          refine retK_intro rfl (Store.sub_setm (sub_set hqσ)) ⟨rfl, ?_⟩
          simp [← hR, Rdr.bads, hbad, pcell_ne hacc, ← hc1, Rdr.enc, Cmd.encP, badC, badA]
          rfl
        | none =>
          have ha2 := ha2 hbad
          have hn := hn hbad
          obtain ⟨m, rfl⟩ : ∃ m, n = m + 1 := ⟨n - 1, by omega⟩
          simp only [Rdr.pairsG, hbad, ne_eq, not_true_eq_false, if_false] at hR
          simp only [am, amo, amc, Nat.reduceAdd, Nat.reduceEqDiff, encs_length, List.length_map, decide_true, decide_false, Tree.rec_, Nd.rec_, Word.rec_, Got.rec_, Int.reduceEq, Int.reduceLT, Int.reduceLE, badC]
          refine (cword_calls (pS_q hqr) hi0 hlb).mono ?_
          rintro v σ' ⟨rfl, rfl⟩
          rw [pS_set hqr]
          obtain ⟨g1, g2⟩ := word_at i
          have g2 := g2 hi0 hi1
          have e1 : i.word.2.l.length = i.l.length := by rw [g1]
          generalize i.word.2 = i1 at *
          generalize i.word.1 = lo at *
          simp only [am, amo, amc, Nat.reduceAdd, Nat.reduceEqDiff, encs_length, List.length_map, decide_true, decide_false, Tree.rec_, Nd.rec_, Word.rec_, Got.rec_, Int.reduceEq, Int.reduceLT, Int.reduceLE]
          refine (ctake_calls (pS_q hqr) (by omega) (by rw [g1]; exact hlb)).mono ?_
          rintro v σ' ⟨rfl, rfl⟩
          rw [pS_set hqr]
          obtain ⟨g3, g4⟩ := goes_take i1 60
          have g4 := g4 (by omega) (by omega)
          have e2 : (i1.take 60).2.l.length = i1.l.length := by rw [g3]
          generalize (i1.take 60).2 = i2 at *
          simp only [am, amo, amc, Nat.reduceAdd, Nat.reduceEqDiff, encs_length, List.length_map, decide_true, decide_false, Tree.rec_, Nd.rec_, Word.rec_, Got.rec_, Int.reduceEq, Int.reduceLT, Int.reduceLE]
          refine (cword_calls (pS_q hqr) (by omega) (by rw [g3, g1]; exact hlb)).mono ?_
          rintro v σ' ⟨rfl, rfl⟩
          rw [pS_set hqr]
          obtain ⟨g5, g6⟩ := word_at i2
          have g6 := g6 (by omega) (by omega)
          have e3 : i2.word.2.l.length = i2.l.length := by rw [g5]
          generalize i2.word.2 = i3 at *
          generalize i2.word.1 = hi at *
          simp only [am, amo, amc, Nat.reduceAdd, Nat.reduceEqDiff, encs_length, List.length_map, decide_true, decide_false, Tree.rec_, Nd.rec_, Word.rec_, Got.rec_, Int.reduceEq, Int.reduceLT, Int.reduceLE, pS_r, pS_q hqr, crl, Word.enc]
          refine appD_tk (by simp [big] at hm ⊢; omega) (by rw [List.length_map]; exact pS_tip) ?_
          simp only [am, amo, amc, Nat.reduceAdd, Nat.reduceEqDiff, encs_length, List.length_map, decide_true, decide_false, Tree.rec_, Nd.rec_, Word.rec_, Got.rec_, Int.reduceEq, Int.reduceLT, Int.reduceLE, pS_r, pS_q hqr, crl]
          rw [show [V.str lo.text, V.int .i64 lo.pos, .str hi.text, .int .i64 hi.pos] = penc (lo, hi) from rfl, pS_add rfl]
          simp only [am, amo, amc, Nat.reduceAdd, Nat.reduceEqDiff, encs_length, List.length_map, decide_true, decide_false, Tree.rec_, Nd.rec_, Word.rec_, Got.rec_, Int.reduceEq, Int.reduceLT, Int.reduceLE, pS_q hqr, crl]
          have hnc : acc ++ [(lo, hi)] ≠ [] := by simp
          by_cases hend : i3.at_ = i.l.length
          · rw [if_pos hend] at hR
            simp only [am, amo, amc, Nat.reduceAdd, Nat.reduceEqDiff, encs_length, List.length_map, decide_true, decide_false, Tree.rec_, Nd.rec_, Word.rec_, Got.rec_, Int.reduceEq, Int.reduceLT, Int.reduceLE, decide_eq_true (show i3.at_ = (i3.l.length : Int) by omega)]
            refine pairs_fin hτ (by simp [SLp, List.replicate, am]) ?_
            have hbq : ∀ B, ((σ.set q (i3.enc ++ zero17)).set r B).box q = some (i3.enc ++ zero17) := fun B => by simp [Store.set, hqr]
            have hbr : ∀ A B, ((σ.set q A).set r B).box r = some B := fun A B => by simp [Store.set]
            cases hb3 : i3.bad with
            | none =>
              simp only [SLp, List.replicate, am, hbq, hbr, crl, hb3, badC]
              simp only [am, amo, amc, Nat.reduceAdd, Nat.reduceEqDiff, encs_length, List.length_map, decide_true, decide_false, Tree.rec_, Nd.rec_, Word.rec_, Got.rec_, Int.reduceEq, Int.reduceLT, Int.reduceLE, hbr, hbq, crl, hb3, badC]
              refine retK_intro rfl (Store.sub_setm (sub_set hqσ)) ⟨rfl, ?_⟩
              simp [← hR, Rdr.bads, hb3, pcell_ne hnc, ← hc1, hb, Rdr.enc, Cmd.encP, badC, badA]
            | some b =>
              simp only [SLp, List.replicate, am, hbq, hbr, crl, hb3, badC]
              simp only [am, amo, amc, Nat.reduceAdd, Nat.reduceEqDiff, encs_length, List.length_map, decide_true, decide_false, Tree.rec_, Nd.rec_, Word.rec_, Got.rec_, Int.reduceEq, Int.reduceLT, Int.reduceLE, hbr, hbq, crl, hb3, badC]
              refine retK_intro rfl (Store.sub_setm (sub_set hqσ)) ⟨rfl, ?_⟩
              simp [← hR, Rdr.bads, hb3, pcell_ne hnc, ← hc1, Rdr.enc, Cmd.encP, badC, badA]
              rfl
          · rw [if_neg hend] at hR
            simp only [am, amo, amc, Nat.reduceAdd, Nat.reduceEqDiff, encs_length, List.length_map, decide_true, decide_false, Tree.rec_, Nd.rec_, Word.rec_, Got.rec_, Int.reduceEq, Int.reduceLT, Int.reduceLE, decide_eq_false (show ¬ i3.at_ = (i3.l.length : Int) by omega)]
            refine (ctake_calls (pS_q hqr) (by omega) (by omega)).mono ?_
            rintro v σ' ⟨rfl, rfl⟩
            rw [pS_set hqr]
            obtain ⟨g7, g8⟩ := goes_take i3 44
            have g8 := g8 (by omega) (by omega)
            have e4 : (i3.take 44).2.l.length = i3.l.length := by rw [g7]
            generalize (i3.take 44).2 = i4 at *
            simp only [am, amo, amc, Nat.reduceAdd, Nat.reduceEqDiff, encs_length, List.length_map, decide_true, decide_false, Tree.rec_, Nd.rec_, Word.rec_, Got.rec_, Int.reduceEq, Int.reduceLT, Int.reduceLE]
            refine Upd.againD (I := fun p : { p : PrI // PrOk t σ R p } => invPairs σ r q r1 c1 p.1) (μ := fun p => p.1.n) ⟨⟨m, i4, acc ++ [(lo, hi)], τ⟩, hR, by rw [← hl, g7, g5, g3, g1], by simp only; omega, by simp only; omega, fun hb4 => ?_, ?_, fun hb4 => ?_, hτ, .inr hnc⟩ (by simp) (by simp [invPairs, List.replicate, am]) (by simp [LLLe, invPairs]) OLe.rfl (by simp [invPairs, List.replicate, loL, V.lo]) rfl
            · have := g8.2.2 hb4; simp only; omega
            · simp; omega
            · have := g8.2.2 hb4; simp; omega
end Go.Proofs.Tryz

namespace Go.Proofs.Tryz
open Go.Am
set_option maxRecDepth 4000
set_option maxHeartbeats 4000000
def ac44 : AC := .seq (.seq (.reg [xm 6 0, xk 7 6, xf 3 8 7, xf 0 9 8, xo 10 9, xB .neq 11 10 0])
 (.cond (.s 11) (.ret)
 (.skip)))
 (.seq (.reg [xm 12 1])
 (.block 0 (.seq (.reg [⟨(some 14), .binI .eql (.s 12) (.c (.int .i32 110)), none⟩, xm 13 14])
 (.cond (.s 13) (.reg [xm 15 0, xm 16 0, xc 42 17 [.s 16], xk 18 15, xf 5 19 18, xf 2 20 19, xs 2 20 17])
 (.seq (.reg [⟨(some 22), .binI .eql (.s 12) (.c (.int .i32 102)), none⟩, xm 21 22])
 (.cond (.s 21) (.reg [xm 23 0, xm 24 0, xc 42 25 [.s 24], ⟨(some 26), .bslice 2 [(.s 25)], none⟩, xk 27 23, xf 5 28 27, xf 4 29 28, xs 1 29 26])
 (.seq (.reg [⟨(some 31), .binI .eql (.s 12) (.c (.int .i32 119)), none⟩, xm 30 31])
 (.cond (.s 30) (.seq (.drawA [5] [(xm 33 0, []), (xk 34 33, []), (xf 0 35 34, []), (xo 36 35, []), (xm 37 0, []), (xk 38 37, []), (xf 1 39 38, []), (xo 40 39, []), (xm 41 0, []), (xk 42 41, []), (xf 2 43 42, []), (xo 44 43, []), (xc 69 45 [.s 36, .s 40, .s 44], []), (xm 32 45, []), (xe 46 32 0, []), (xe 47 32 1, []), (⟨none, .mv (.c .any), none⟩, []), (xm 4 46, []), (⟨(some 5), .boxS 2 (.s 47), none⟩, [])])
 (.seq (.draw [(xm 48 0, []), (xm 49 0, []), (xm 50 4, []), (xl 2 51 5, [1]), (xk 52 48, []), (xf 5 53 52, []), (xf 4 54 53, []), (xs 1 54 50, []), (xk 55 49, []), (xf 3 56 55, []), (xs 2 56 51, [])])
 (.reg [xm 57 0, xk 58 57, xf 1 59 58, xo 60 59, xB .add 61 60 1, xk 62 57, xf 1 63 62, xs 1 63 61])))
 (.seq (.reg [⟨(some 65), .binI .eql (.s 12) (.c (.int .i32 112)), none⟩, xm 64 65])
 (.cond (.s 64) (.reg [xm 66 0, xc 70 67 [.s 66]])
 (.seq (.reg [⟨(some 69), .binI .eql (.s 12) (.c (.int .i32 116)), none⟩, xm 68 69])
 (.cond (.s 68) (.draw [(xm 70 0, []), (xm 71 0, []), (xk 72 71, []), (xf 0 73 72, []), (xo 74 73, []), (xm 75 0, []), (xk 76 75, []), (xf 1 77 76, []), (xo 78 77, []), (xm 79 0, []), (xk 80 79, []), (xf 2 81 80, []), (xo 82 81, []), (xc 72 83 [.s 74, .s 78, .s 82], []), (xe 84 83 0, []), (xe 85 83 1, []), (xe 86 83 2, []), (xc 71 87 [.s 70, .s 84, .s 85, .s 86], [])])
 (.seq (.reg [⟨(some 89), .binI .eql (.s 12) (.c (.int .i32 114)), none⟩, xm 88 89])
 (.cond (.s 88) (.draw [(xm 90 0, []), (xm 91 0, []), (xk 92 91, []), (xf 0 93 92, []), (xo 94 93, []), (xm 95 0, []), (xk 96 95, []), (xf 1 97 96, []), (xo 98 97, []), (xm 99 0, []), (xk 100 99, []), (xf 2 101 100, []), (xo 102 101, []), (xc 73 103 [.s 94, .s 98, .s 102], []), (xe 104 103 0, []), (xe 105 103 1, []), (xe 106 103 2, []), (xc 71 107 [.s 90, .s 104, .s 105, .s 106], [])])
 (.skip)))))))))))))))
theorem fn44 : IsFn prog 44 ac44 [] 108 := ⟨f44, ⟨[], []⟩, func44, by kernel_rfl, by kernel_rfl, by kernel_rfl, by kernel_rfl⟩
theorem fenc_nol {b : Option Int} : (fenc b).nol = true := rfl
section
variable {rd : Rdr} {c : Cmd} {pc : V} {cs : List V}
theorem cr_sname {w : Word} : setAt (rd.enc ++ c.encP pc) 7 w.enc = rd.enc ++ ({ c with name := w } : Cmd).encP pc := rfl
theorem cr_hname : hasN 2 ((rd.enc ++ c.encP pc).drop 7) = true := rfl
theorem cr_snames {ws : List Word} : setAt (rd.enc ++ c.encP pc) 9 [.sl .no 2 (ws.map Word.enc)] = rd.enc ++ ({ c with names := ws } : Cmd).encP pc := rfl
theorem cr_hnames : hasN 1 ((rd.enc ++ c.encP pc).drop 9) = true := rfl
theorem cr_sat {n : Int} : setAt (rd.enc ++ cs) 1 [.int .i64 n] = ({ rd with at_ := n } : Rdr).enc ++ cs := by cases cs <;> rfl
theorem cr_hat : hasN 1 ((rd.enc ++ cs).drop 1) = true := rfl
def crn := And.intro @cr_sname <| And.intro @cr_hname <| And.intro @cr_snames <| And.intro @cr_hnames <| And.intro @cr_sat @cr_hat
end
theorem part102_calls {r : Nat} {rd : Rdr} {c : Cmd} {pc : V} {σ : Store} (h : σ.box r = some (rd.enc ++ c.encP pc)) (hb : rd.bad = none) (h0 : 0 ≤ rd.at_) (hlen : rd.l.length ≤ big) :
    PCalls prog 44 [.ptr (.out r) 0, .int .i32 102] σ fun v σ' => v = .tup [] ∧ σ' = σ.set r (rd.word.2.enc ++ ({ c with names := [rd.word.1] } : Cmd).encP pc) := by
  refine PCalls.le (S := σ.set r (setAt (rd.word.2.enc ++ c.encP pc) 9 [.sl .full 2 [rd.word.1.enc]])) ?_ (OLe.set ?_)
  · refine fn44.calls ?_
    simp only [slots, ac44, am, amo, amc, ams, Nat.reduceAdd, Nat.reduceEqDiff, decide_true, decide_false, Tree.rec_, Nd.rec_, Word.rec_, Got.rec_, Int.reduceEq, Int.reduceLT, Int.reduceLE, Nat.reduceLT, fenc_nol]
    simp only [am, amo, amc, Nat.reduceAdd, Nat.reduceEqDiff, encs_length, List.length_map, decide_true, decide_false, Tree.rec_, Nd.rec_, Word.rec_, Got.rec_, Int.reduceEq, Int.reduceLT, Int.reduceLE, Nat.reduceLT, fenc_nol, h, crl, hb, badC]
    refine (cword_calls h h0 hlen).mono ?_
    rintro v σ' ⟨rfl, rfl⟩
    simp only [am, amo, amc, Nat.reduceAdd, Nat.reduceEqDiff, encs_length, List.length_map, decide_true, decide_false, Tree.rec_, Nd.rec_, Word.rec_, Got.rec_, Int.reduceEq, Int.reduceLT, Int.reduceLE, Nat.reduceLT, fenc_nol, crn]
    refine retK_intro rfl (Store.sub_refl _) ⟨rfl, rfl⟩
  · show LLe ([V.sl .no 5 (encs rd.word.2.l), .int .i64 rd.word.2.at_, .int .i64 rd.word.2.fin, .int .i64 (badC rd.word.2.bad), .int .i64 (badA rd.word.2.bad)] ++ _) ([V.sl .no 5 (encs rd.word.2.l), .int .i64 rd.word.2.at_, .int .i64 rd.word.2.fin, .int .i64 (badC rd.word.2.bad), .int .i64 (badA rd.word.2.bad)] ++ _)
    simp [am, Cmd.encP]
theorem part_calls {r : Nat} {x : Rdr × Cmd} {k : UInt8} {pc : V} {σ : Store} (h : σ.box r = some (x.1.enc ++ x.2.encP pc)) (hp : k = 112 → pc = .sl .full 4 [] ∧ x.2.pairs = []) (h0 : 0 ≤ x.1.at_) (hm : manys x.1.l + 1 ≤ big) (ha : x.1.at_ ≤ big) :
    PCalls prog 44 [.ptr (.out r) 0, .int .i32 (k.toNat : Nat)] σ fun v σ' => v = .tup [] ∧ σ' = σ.set r ((partP k x).1.enc ++ (partP k x).2.encP (if k = 112 ∧ x.1.bad = none then pcell (partP k x).2.pairs else pc)) := by
  obtain ⟨rd, c⟩ := x
  simp only at h hp h0 hm ha
  have hlen := manys_ge rd.l
  have hkk : ∀ n : UInt8, ((k.toNat : Nat) : Int) = (n.toNat : Nat) ↔ k = n := fun n => by
    constructor
    · intro h; exact UInt8.toNat_inj.1 (by omega)
    · rintro rfl; rfl
  by_cases k2 : k = 102 ∧ rd.bad = none
  · obtain ⟨k2, hb⟩ := k2
    subst k2
    have := part102_calls h hb h0 (by omega)
    simpa [partP, hb] using this
  refine fn44.calls ?_
  simp only [slots, ac44, am, amo, amc, ams, Nat.reduceAdd, Nat.reduceEqDiff, decide_true, decide_false, Tree.rec_, Nd.rec_, Word.rec_, Got.rec_, Int.reduceEq, Int.reduceLT, Int.reduceLE, Nat.reduceLT, fenc_nol]
  simp only [am, amo, amc, Nat.reduceAdd, Nat.reduceEqDiff, encs_length, List.length_map, decide_true, decide_false, Tree.rec_, Nd.rec_, Word.rec_, Got.rec_, Int.reduceEq, Int.reduceLT, Int.reduceLE, Nat.reduceLT, fenc_nol, h, crl]
  cases hb : rd.bad with
  | some b =>
    simp only [am, amo, amc, Nat.reduceAdd, Nat.reduceEqDiff, encs_length, List.length_map, decide_true, decide_false, Tree.rec_, Nd.rec_, Word.rec_, Got.rec_, Int.reduceEq, Int.reduceLT, Int.reduceLE, Nat.reduceLT, fenc_nol, badC]
    refine retK_intro rfl (Store.sub_refl _) ⟨rfl, ?_⟩
    rw [show partP k (rd, c) = (rd, c) by simp [partP, hb], if_neg (by simp [hb])]
    exact (Store.set_id h).symm
  | none =>
    have k2 : ¬ k = 102 := fun h => k2 ⟨h, hb⟩
    simp only [am, amo, amc, Nat.reduceAdd, Nat.reduceEqDiff, encs_length, List.length_map, decide_true, decide_false, Tree.rec_, Nd.rec_, Word.rec_, Got.rec_, Int.reduceEq, Int.reduceLT, Int.reduceLE, Nat.reduceLT, fenc_nol, badC]
    have hp0 : partP k (rd, c) = if k = 110 then (rd.word.2, { c with name := rd.word.1 })
        else if k = 119 then ({ rd with bad := (wordsAt rd.l rd.at_ rd.fin).2, at_ := rd.at_ + 1 }, { c with names := (wordsAt rd.l rd.at_ rd.fin).1 })
        else if k = 112 then pairsP rd c
        else if k = 116 then nodeP rd c (readAt (Rdr.label (manys rd.l)) rd.l rd.at_ rd.fin)
        else if k = 114 then nodeP rd c (readAt (Rdr.row (manys rd.l)) rd.l rd.at_ rd.fin)
        else (rd, c) := by simp [partP, hb, k2]
    have e110 : ((k.toNat : Nat) : Int) = 110 ↔ k = 110 := hkk 110
    have e102 : ((k.toNat : Nat) : Int) = 102 ↔ k = 102 := hkk 102
    have e119 : ((k.toNat : Nat) : Int) = 119 ↔ k = 119 := hkk 119
    have e112 : ((k.toNat : Nat) : Int) = 112 ↔ k = 112 := hkk 112
    have e116 : ((k.toNat : Nat) : Int) = 116 ↔ k = 116 := hkk 116
    have e114 : ((k.toNat : Nat) : Int) = 114 ↔ k = 114 := hkk 114
    by_cases k1 : k = 110
    · rw [if_pos k1] at hp0
      simp only [am, amo, amc, Nat.reduceAdd, Nat.reduceEqDiff, encs_length, List.length_map, decide_true, decide_false, Tree.rec_, Nd.rec_, Word.rec_, Got.rec_, Int.reduceEq, Int.reduceLT, Int.reduceLE, Nat.reduceLT, fenc_nol, decide_eq_true (e110.2 k1)]
      refine (cword_calls h h0 (by omega)).mono ?_
      rintro v σ' ⟨rfl, rfl⟩
      simp only [am, amo, amc, Nat.reduceAdd, Nat.reduceEqDiff, encs_length, List.length_map, decide_true, decide_false, Tree.rec_, Nd.rec_, Word.rec_, Got.rec_, Int.reduceEq, Int.reduceLT, Int.reduceLE, Nat.reduceLT, fenc_nol, crn]
      refine retK_intro rfl (Store.sub_refl _) ⟨rfl, ?_⟩
      rw [hp0, if_neg (by simp [k1])]
    rw [if_neg k1] at hp0
    simp only [am, amo, amc, Nat.reduceAdd, Nat.reduceEqDiff, encs_length, List.length_map, decide_true, decide_false, Tree.rec_, Nd.rec_, Word.rec_, Got.rec_, Int.reduceEq, Int.reduceLT, Int.reduceLE, Nat.reduceLT, fenc_nol, decide_eq_false (fun h => k1 (e110.1 h))]
    simp only [am, amo, amc, Nat.reduceAdd, Nat.reduceEqDiff, encs_length, List.length_map, decide_true, decide_false, Tree.rec_, Nd.rec_, Word.rec_, Got.rec_, Int.reduceEq, Int.reduceLT, Int.reduceLE, Nat.reduceLT, fenc_nol, decide_eq_false (fun h => k2 (e102.1 h))]
    by_cases k3 : k = 119
    · rw [if_pos k3] at hp0
      simp only [am, amo, amc, Nat.reduceAdd, Nat.reduceEqDiff, encs_length, List.length_map, decide_true, decide_false, Tree.rec_, Nd.rec_, Word.rec_, Got.rec_, Int.reduceEq, Int.reduceLT, Int.reduceLE, Nat.reduceLT, fenc_nol, decide_eq_true (e119.2 k3), h, crl]
      refine CallD.intro (Words_calls hm) ?_
      rw [hp0, if_neg (by simp [k3])]
      generalize wordsAt rd.l rd.at_ rd.fin = o
      have w1 : IntKind.i64.wrap (rd.at_ + 1) = rd.at_ + 1 := by simp only [big] at ha; exact wrap_i64 (by omega) (by omega)
      simp only [am, amo, amc, Nat.reduceAdd, Nat.reduceEqDiff, encs_length, List.length_map, decide_true, decide_false, Tree.rec_, Nd.rec_, Word.rec_, Got.rec_, Int.reduceEq, Int.reduceLT, Int.reduceLE, Nat.reduceLT, fenc_nol, fenc, h, crl, crn, w1]
      exact retK_intro rfl (Store.sub_refl _) ⟨rfl, rfl⟩
    rw [if_neg k3] at hp0
    simp only [am, amo, amc, Nat.reduceAdd, Nat.reduceEqDiff, encs_length, List.length_map, decide_true, decide_false, Tree.rec_, Nd.rec_, Word.rec_, Got.rec_, Int.reduceEq, Int.reduceLT, Int.reduceLE, Nat.reduceLT, fenc_nol, decide_eq_false (fun h => k3 (e119.1 h))]
    by_cases k4 : k = 112
    · rw [if_pos k4] at hp0
      obtain ⟨rfl, hc⟩ := hp k4
      simp only [am, amo, amc, Nat.reduceAdd, Nat.reduceEqDiff, encs_length, List.length_map, decide_true, decide_false, Tree.rec_, Nd.rec_, Word.rec_, Got.rec_, Int.reduceEq, Int.reduceLT, Int.reduceLE, Nat.reduceLT, fenc_nol, decide_eq_true (e112.2 k4)]
      refine (pairs_calls h hc h0 hm).mono ?_
      rintro v σ' ⟨rfl, rfl⟩
      simp only [am, amo, amc, Nat.reduceAdd, Nat.reduceEqDiff, encs_length, List.length_map, decide_true, decide_false, Tree.rec_, Nd.rec_, Word.rec_, Got.rec_, Int.reduceEq, Int.reduceLT, Int.reduceLE, Nat.reduceLT, fenc_nol]
      refine retK_intro rfl (Store.sub_refl _) ⟨rfl, ?_⟩
      rw [hp0, if_pos k4]
    rw [if_neg k4] at hp0
    simp only [am, amo, amc, Nat.reduceAdd, Nat.reduceEqDiff, encs_length, List.length_map, decide_true, decide_false, Tree.rec_, Nd.rec_, Word.rec_, Got.rec_, Int.reduceEq, Int.reduceLT, Int.reduceLE, Nat.reduceLT, fenc_nol, decide_eq_false (fun h => k4 (e112.1 h))]
    by_cases k5 : k = 116
    · rw [if_pos k5] at hp0
      simp only [am, amo, amc, Nat.reduceAdd, Nat.reduceEqDiff, encs_length, List.length_map, decide_true, decide_false, Tree.rec_, Nd.rec_, Word.rec_, Got.rec_, Int.reduceEq, Int.reduceLT, Int.reduceLE, Nat.reduceLT, fenc_nol, decide_eq_true (e116.2 k5), h, crl]
      refine CallD.intro (Label_calls (Nat.le_refl _) hm) ?_
      rw [hp0, if_neg (by simp [k4])]
      generalize readAt (Rdr.label (manys rd.l)) rd.l rd.at_ rd.fin = g
      simp only [am, amo, amc, Nat.reduceAdd, Nat.reduceEqDiff, encs_length, List.length_map, decide_true, decide_false, Tree.rec_, Nd.rec_, Word.rec_, Got.rec_, Int.reduceEq, Int.reduceLT, Int.reduceLE, Nat.reduceLT, fenc_nol]
      refine CallD.intro (cnode_calls h hb) ?_
      simp only [am, amo, amc, Nat.reduceAdd, Nat.reduceEqDiff, encs_length, List.length_map, decide_true, decide_false, Tree.rec_, Nd.rec_, Word.rec_, Got.rec_, Int.reduceEq, Int.reduceLT, Int.reduceLE, Nat.reduceLT, fenc_nol]
      refine retK_intro rfl (Store.sub_refl _) ⟨rfl, rfl⟩
    rw [if_neg k5] at hp0
    simp only [am, amo, amc, Nat.reduceAdd, Nat.reduceEqDiff, encs_length, List.length_map, decide_true, decide_false, Tree.rec_, Nd.rec_, Word.rec_, Got.rec_, Int.reduceEq, Int.reduceLT, Int.reduceLE, Nat.reduceLT, fenc_nol, decide_eq_false (fun h => k5 (e116.1 h))]
    by_cases k6 : k = 114
    · rw [if_pos k6] at hp0
      simp only [am, amo, amc, Nat.reduceAdd, Nat.reduceEqDiff, encs_length, List.length_map, decide_true, decide_false, Tree.rec_, Nd.rec_, Word.rec_, Got.rec_, Int.reduceEq, Int.reduceLT, Int.reduceLE, Nat.reduceLT, fenc_nol, decide_eq_true (e114.2 k6), h, crl]
      refine CallD.intro (Row_calls (Nat.le_refl _) hm) ?_
      rw [hp0, if_neg (by simp [k4])]
      generalize readAt (Rdr.row (manys rd.l)) rd.l rd.at_ rd.fin = g
      simp only [am, amo, amc, Nat.reduceAdd, Nat.reduceEqDiff, encs_length, List.length_map, decide_true, decide_false, Tree.rec_, Nd.rec_, Word.rec_, Got.rec_, Int.reduceEq, Int.reduceLT, Int.reduceLE, Nat.reduceLT, fenc_nol]
      refine CallD.intro (cnode_calls h hb) ?_
      simp only [am, amo, amc, Nat.reduceAdd, Nat.reduceEqDiff, encs_length, List.length_map, decide_true, decide_false, Tree.rec_, Nd.rec_, Word.rec_, Got.rec_, Int.reduceEq, Int.reduceLT, Int.reduceLE, Nat.reduceLT, fenc_nol]
      refine retK_intro rfl (Store.sub_refl _) ⟨rfl, rfl⟩
    rw [if_neg k6] at hp0
    simp only [am, amo, amc, Nat.reduceAdd, Nat.reduceEqDiff, encs_length, List.length_map, decide_true, decide_false, Tree.rec_, Nd.rec_, Word.rec_, Got.rec_, Int.reduceEq, Int.reduceLT, Int.reduceLE, Nat.reduceLT, fenc_nol, decide_eq_false (fun h => k6 (e114.1 h))]
    refine retK_intro rfl (Store.sub_refl _) ⟨rfl, ?_⟩
    rw [hp0, if_neg (by simp [k4])]
    exact (Store.set_id h).symm
end Go.Proofs.Tryz
