/-
  Part 5 of the proof of Reply: a logic over the model, the forms of the functions that the law reaches, and what they compute.
-/
import Derived.Test.YthapdcoaahmbiaaDoorProg
import Derived.Test.YthapdcoaahmbiaaDoorReply4
set_option linter.unusedVariables false
set_option linter.unusedSimpArgs false
set_option linter.defProp false
set_option linter.unusedSectionVars false

namespace Go.Proofs.Tryd
open Go.Am
set_option maxRecDepth 4000
set_option maxHeartbeats 4000000
def ac54 : AC := .seq (.reg [⟨(some 2), .mv (.c (.str [])), none⟩])
 (.seq (.seq (.reg [xm 3 0, xB .lss 4 3 10])
 (.cond (.s 4) (.seq (.reg [xm 5 0, xm 6 0, xB .add 7 6 1, ⟨(some 8), .slS (.c (.str [48, 49, 50, 51, 52, 53, 54, 55, 56, 57, 97, 98, 99, 100, 101, 102, 103, 104, 105, 106, 107, 108, 109, 110, 111, 112, 113, 114, 115, 116, 117, 118, 119, 120, 121, 122])) (some (.s 5)) (some (.s 7)), none⟩, xm 2 8])
 (.ret))
 (.skip)))
 (.seq (.reg [xm 9 0, xB .mul 10 9 2, xm 11 0, xB .mul 12 11 2, xB .add 13 12 2, ⟨(some 14), .slS (.c (.str [48, 48, 48, 49, 48, 50, 48, 51, 48, 52, 48, 53, 48, 54, 48, 55, 48, 56, 48, 57, 49, 48, 49, 49, 49, 50, 49, 51, 49, 52, 49, 53, 49, 54, 49, 55, 49, 56, 49, 57, 50, 48, 50, 49, 50, 50, 50, 51, 50, 52, 50, 53, 50, 54, 50, 55, 50, 56, 50, 57, 51, 48, 51, 49, 51, 50, 51, 51, 51, 52, 51, 53, 51, 54, 51, 55, 51, 56, 51, 57, 52, 48, 52, 49, 52, 50, 52, 51, 52, 52, 52, 53, 52, 54, 52, 55, 52, 56, 52, 57, 53, 48, 53, 49, 53, 50, 53, 51, 53, 52, 53, 53, 53, 54, 53, 55, 53, 56, 53, 57, 54, 48, 54, 49, 54, 50, 54, 51, 54, 52, 54, 53, 54, 54, 54, 55, 54, 56, 54, 57, 55, 48, 55, 49, 55, 50, 55, 51, 55, 52, 55, 53, 55, 54, 55, 55, 55, 56, 55, 57, 56, 48, 56, 49, 56, 50, 56, 51, 56, 52, 56, 53, 56, 54, 56, 55, 56, 56, 56, 57, 57, 48, 57, 49, 57, 50, 57, 51, 57, 52, 57, 53, 57, 54, 57, 55, 57, 56, 57, 57])) (some (.s 10)) (some (.s 13)), none⟩, xm 2 14])
 (.ret)))
theorem fn54 : IsFn prog 54 ac54 [.tmp 2] 15 := ⟨f54, ⟨[], []⟩, func54, by kernel_rfl, by kernel_rfl, by kernel_rfl, by kernel_rfl⟩
def ac55 : AC := .seq (.reg [xi 2 0])
 (.seq (.reg [xm 4 0, xc 64 5 [.s 4], xc 63 6 [.s 5], xm 3 6])
 (.seq (.reg [xm 7 3, xm 8 0, xm 9 3, ⟨(some 10), .idxP 20 1 (.c (.ptr (.out 3) 0)) (.s 9), none⟩, xo 11 10, xb .geq 12 8 11, xc 65 13 [.s 12], xb .add 14 7 13, xm 2 14])
 (.ret)))
theorem fn55 : IsFn prog 55 ac55 [.tmp 2] 15 := ⟨f55, ⟨[], []⟩, func55, by kernel_rfl, by kernel_rfl, by kernel_rfl, by kernel_rfl⟩
def ac63 : AC := .seq (.reg [xi 2 0])
 (.seq (.reg [xm 3 0, xB .mul 4 3 78913, ⟨(some 5), .binI .shr (.s 4) (.c (.int .u64 18)), none⟩, xm 2 5])
 (.ret))
theorem fn63 : IsFn prog 63 ac63 [.tmp 2] 6 := ⟨f63, ⟨[], []⟩, func63, by kernel_rfl, by kernel_rfl, by kernel_rfl, by kernel_rfl⟩
def ac64 : AC := .seq (.reg [xi 2 0])
 (.seq (.seq (.reg [xm 3 0, ⟨(some 4), .binI .geq (.s 3) (.c (.int .u64 4294967296)), none⟩])
 (.cond (.s 4) (.seq (.reg [xm 5 0, ⟨(some 6), .binI .shr (.s 5) (.c (.int .u64 32)), none⟩, xm 0 6])
 (.reg [xi 2 32]))
 (.skip)))
 (.seq (.seq (.reg [xm 7 0, ⟨(some 8), .binI .geq (.s 7) (.c (.int .u64 65536)), none⟩])
 (.cond (.s 8) (.seq (.reg [xm 9 0, ⟨(some 10), .binI .shr (.s 9) (.c (.int .u64 16)), none⟩, xm 0 10])
 (.reg [xm 11 2, xB .add 12 11 16, xm 2 12]))
 (.skip)))
 (.seq (.seq (.reg [xm 13 0, ⟨(some 14), .binI .geq (.s 13) (.c (.int .u64 256)), none⟩])
 (.cond (.s 14) (.seq (.reg [xm 15 0, ⟨(some 16), .binI .shr (.s 15) (.c (.int .u64 8)), none⟩, xm 0 16])
 (.reg [xm 17 2, xB .add 18 17 8, xm 2 18]))
 (.skip)))
 (.seq (.reg [xm 19 2, xm 20 0, ⟨(some 21), .cvI .u8 (.s 20), none⟩, ⟨(some 22), .idxS (.c (.str [0, 1, 2, 2, 3, 3, 3, 3, 4, 4, 4, 4, 4, 4, 4, 4, 5, 5, 5, 5, 5, 5, 5, 5, 5, 5, 5, 5, 5, 5, 5, 5, 6, 6, 6, 6, 6, 6, 6, 6, 6, 6, 6, 6, 6, 6, 6, 6, 6, 6, 6, 6, 6, 6, 6, 6, 6, 6, 6, 6, 6, 6, 6, 6, 7, 7, 7, 7, 7, 7, 7, 7, 7, 7, 7, 7, 7, 7, 7, 7, 7, 7, 7, 7, 7, 7, 7, 7, 7, 7, 7, 7, 7, 7, 7, 7, 7, 7, 7, 7, 7, 7, 7, 7, 7, 7, 7, 7, 7, 7, 7, 7, 7, 7, 7, 7, 7, 7, 7, 7, 7, 7, 7, 7, 7, 7, 7, 7, 8, 8, 8, 8, 8, 8, 8, 8, 8, 8, 8, 8, 8, 8, 8, 8, 8, 8, 8, 8, 8, 8, 8, 8, 8, 8, 8, 8, 8, 8, 8, 8, 8, 8, 8, 8, 8, 8, 8, 8, 8, 8, 8, 8, 8, 8, 8, 8, 8, 8, 8, 8, 8, 8, 8, 8, 8, 8, 8, 8, 8, 8, 8, 8, 8, 8, 8, 8, 8, 8, 8, 8, 8, 8, 8, 8, 8, 8, 8, 8, 8, 8, 8, 8, 8, 8, 8, 8, 8, 8, 8, 8, 8, 8, 8, 8, 8, 8, 8, 8, 8, 8, 8, 8, 8, 8, 8, 8, 8, 8, 8, 8, 8, 8, 8, 8, 8, 8, 8, 8, 8, 8, 8, 8, 8, 8, 8, 8])) (.s 21), none⟩, ⟨(some 23), .cvI .i64 (.s 22), none⟩, xb .add 24 19 23, xm 2 24])
 (.ret)))))
theorem fn64 : IsFn prog 64 ac64 [.tmp 2] 25 := ⟨f64, ⟨[], []⟩, func64, by kernel_rfl, by kernel_rfl, by kernel_rfl, by kernel_rfl⟩
def ac65 : AC := .seq (.reg [xi 2 0])
 (.seq (.seq (.reg [xm 3 0])
 (.cond (.s 3) (.seq (.reg [xi 2 1])
 (.ret))
 (.skip)))
 (.seq (.reg [xi 2 0])
 (.ret)))
theorem fn65 : IsFn prog 65 ac65 [.tmp 2] 4 := ⟨f65, ⟨[], []⟩, func65, by kernel_rfl, by kernel_rfl, by kernel_rfl, by kernel_rfl⟩
theorem wrap_u64 {x : Int} (h1 : 0 ≤ x) (h2 : x ≤ 18446744073709551615) : IntKind.u64.wrap x = x := by
  simp only [IntKind.wrap, IntKind.bits, IntKind.signed]
  simp
  omega
theorem wrap_u32 {x : Int} (h1 : 0 ≤ x) (h2 : x ≤ 4294967295) : IntKind.u32.wrap x = x := by
  simp only [IntKind.wrap, IntKind.bits, IntKind.signed]
  simp
  omega
theorem wrap_u8 {x : Int} (h1 : 0 ≤ x) (h2 : x ≤ 255) : IntKind.u8.wrap x = x := by
  simp only [IntKind.wrap, IntKind.bits, IntKind.signed]
  simp
  omega
def digitsT : List UInt8 := [48, 49, 50, 51, 52, 53, 54, 55, 56, 57, 97, 98, 99, 100, 101, 102, 103, 104, 105, 106, 107, 108, 109, 110, 111, 112, 113, 114, 115, 116, 117, 118, 119, 120, 121, 122]
theorem small_digit {n : Nat} (h : n < 10) : (digitsT.take (n + 1)).drop n = digN n := by
  have key : ∀ n < 10, (digitsT.take (n + 1)).drop n = digN n := by decide +kernel
  exact key n h
theorem smallsT_eq : smallsT = [48, 48, 48, 49, 48, 50, 48, 51, 48, 52, 48, 53, 48, 54, 48, 55, 48, 56, 48, 57, 49, 48, 49, 49, 49, 50, 49, 51, 49, 52, 49, 53, 49, 54, 49, 55, 49, 56, 49, 57, 50, 48, 50, 49, 50, 50, 50, 51, 50, 52, 50, 53, 50, 54, 50, 55, 50, 56, 50, 57, 51, 48, 51, 49, 51, 50, 51, 51, 51, 52, 51, 53, 51, 54, 51, 55, 51, 56, 51, 57, 52, 48, 52, 49, 52, 50, 52, 51, 52, 52, 52, 53, 52, 54, 52, 55, 52, 56, 52, 57, 53, 48, 53, 49, 53, 50, 53, 51, 53, 52, 53, 53, 53, 54, 53, 55, 53, 56, 53, 57, 54, 48, 54, 49, 54, 50, 54, 51, 54, 52, 54, 53, 54, 54, 54, 55, 54, 56, 54, 57, 55, 48, 55, 49, 55, 50, 55, 51, 55, 52, 55, 53, 55, 54, 55, 55, 55, 56, 55, 57, 56, 48, 56, 49, 56, 50, 56, 51, 56, 52, 56, 53, 56, 54, 56, 55, 56, 56, 56, 57, 57, 48, 57, 49, 57, 50, 57, 51, 57, 52, 57, 53, 57, 54, 57, 55, 57, 56, 57, 57] := by decide +kernel
theorem small_calls (n : Nat) (σ : Store) (h : n < 100) : PCalls prog 54 [.int .i64 (n : Nat)] σ fun v σ' => v = .str (digN n) ∧ σ' = σ := by
  refine fn54.calls ?_
  simp only [slots, ac54, am, amo, amc, ams, Nat.reduceAdd, Nat.reduceEqDiff, decide_true, decide_false, Int.reduceEq, Int.reduceLT, Int.reduceLE, Nat.reduceLT, Int.reduceToNat, Nat.reduceMul, Int.reduceMul, Int.reduceAdd]
  by_cases h10 : n < 10
  · simp only [am, amo, amc, Nat.reduceAdd, Nat.reduceEqDiff, encs_length, List.length_map, decide_true, decide_false, Int.reduceEq, Int.reduceLT, Int.reduceLE, Nat.reduceLT, Int.reduceToNat, Nat.reduceMul, Int.reduceMul, Int.reduceAdd, decide_eq_true (show (n : Int) < 10 by omega)]
    rw [wrap_i64 (by omega) (by omega)]
    refine slSL_intro (a := n) (b := n + 1) (by omega) (by simp; omega) ?_
    simp only [am, amo, amc, Nat.reduceAdd, Nat.reduceEqDiff, encs_length, List.length_map, decide_true, decide_false, Int.reduceEq, Int.reduceLT, Int.reduceLE, Nat.reduceLT, Int.reduceToNat, Nat.reduceMul, Int.reduceMul, Int.reduceAdd]
    refine retK_intro rfl (Store.sub_refl _) ⟨?_, rfl⟩
    rw [← small_digit h10]; rfl
  · simp only [am, amo, amc, Nat.reduceAdd, Nat.reduceEqDiff, encs_length, List.length_map, decide_true, decide_false, Int.reduceEq, Int.reduceLT, Int.reduceLE, Nat.reduceLT, Int.reduceToNat, Nat.reduceMul, Int.reduceMul, Int.reduceAdd, decide_eq_false (show ¬ (n : Int) < 10 by omega)]
    rw [wrap_i64 (x := (n : Int) * 2) (by omega) (by omega), wrap_i64 (x := (n : Int) * 2 + 2) (by omega) (by omega)]
    rw [show ((n : Int) * 2) = ((n * 2 : Nat) : Int) by omega, show ((n * 2 : Nat) : Int) + 2 = ((n * 2 + 2 : Nat) : Int) by omega]
    refine slSL_intro (a := n * 2) (b := n * 2 + 2) (by omega) (by simp; omega) ?_
    simp only [am, amo, amc, Nat.reduceAdd, Nat.reduceEqDiff, encs_length, List.length_map, decide_true, decide_false, Int.reduceEq, Int.reduceLT, Int.reduceLE, Nat.reduceLT, Int.reduceToNat, Nat.reduceMul, Int.reduceMul, Int.reduceAdd]
    refine retK_intro rfl (Store.sub_refl _) ⟨?_, rfl⟩
    rw [small_two (by omega) h, smallsT_eq]; rfl
theorem fdiv_pow (x k m : Nat) (hk : k ≤ m) : ((x : Nat) : Int).fdiv (2 ^ Nat.min k m) = ((x / 2 ^ k : Nat) : Int) := by
  rw [show Nat.min k m = k from Nat.min_eq_left hk, Int.fdiv_eq_ediv_of_nonneg _ (Int.le_of_lt (Int.pow_pos (by decide)))]
  simp
theorem log10_calls (b : Nat) (σ : Store) (h : b ≤ 64) : PCalls prog 63 [.int .i64 (b : Nat)] σ fun v σ' => v = .int .i64 ((b * 78913 / 2 ^ 18 : Nat) : Int) ∧ σ' = σ := by
  refine fn63.calls ?_
  simp only [slots, ac63, am, amo, amc, ams, Nat.reduceAdd, Nat.reduceEqDiff, decide_true, decide_false, Int.reduceEq, Int.reduceLT, Int.reduceLE, Nat.reduceLT, Int.reduceToNat, Nat.reduceMul, Int.reduceMul, Int.reduceAdd]
  rw [wrap_i64 (by omega) (by omega)]
  simp only [am, amo, amc, Nat.reduceAdd, Nat.reduceEqDiff, encs_length, List.length_map, decide_true, decide_false, Int.reduceEq, Int.reduceLT, Int.reduceLE, Nat.reduceLT, Int.reduceToNat, Nat.reduceMul, Int.reduceMul, Int.reduceAdd, ami]
  rw [show ((b : Int) * 78913) = ((b * 78913 : Nat) : Int) by omega, fdiv_pow _ 18 _ (by decide)]
  refine retK_intro rfl (Store.sub_refl _) ⟨?_, rfl⟩
  simp [V.erase, eraseL]
theorem bool2_calls (b : Bool) (σ : Store) : PCalls prog 65 [.bool b] σ fun v σ' => v = .int .i64 (if b then 1 else 0) ∧ σ' = σ := by
  refine fn65.calls ?_
  simp only [slots, ac65, am, amo, amc, ams, Nat.reduceAdd, Nat.reduceEqDiff, decide_true, decide_false, Int.reduceEq, Int.reduceLT, Int.reduceLE, Nat.reduceLT, Int.reduceToNat, Nat.reduceMul, Int.reduceMul, Int.reduceAdd]
  cases b
  · simp only [am, amo, amc, Nat.reduceAdd, Nat.reduceEqDiff, encs_length, List.length_map, decide_true, decide_false, Int.reduceEq, Int.reduceLT, Int.reduceLE, Nat.reduceLT, Int.reduceToNat, Nat.reduceMul, Int.reduceMul, Int.reduceAdd]
    refine retK_intro rfl (Store.sub_refl _) ⟨?_, rfl⟩
    simp [V.erase, eraseL]
  · simp only [am, amo, amc, Nat.reduceAdd, Nat.reduceEqDiff, encs_length, List.length_map, decide_true, decide_false, Int.reduceEq, Int.reduceLT, Int.reduceLE, Nat.reduceLT, Int.reduceToNat, Nat.reduceMul, Int.reduceMul, Int.reduceAdd]
    refine retK_intro rfl (Store.sub_refl _) ⟨?_, rfl⟩
    simp [V.erase, eraseL]
theorem len_final {u x n l : Nat} (hx : x = u / 2 ^ n) (hx0 : u ≠ 0 → x ≠ 0) (hl : x < 2 ^ l) (hl2 : x ≠ 0 → 2 ^ (l - 1) ≤ x ∧ 1 ≤ l) : u < 2 ^ (n + l) ∧ (u ≠ 0 → 2 ^ (n + l - 1) ≤ u) := by
  have hp : 0 < 2 ^ n := Nat.pow_pos (by decide)
  constructor
  · rw [hx] at hl
    have := (Nat.div_lt_iff_lt_mul hp).1 hl
    rwa [Nat.pow_add, Nat.mul_comm]
  · intro h0
    obtain ⟨h1, h2⟩ := hl2 (hx0 h0)
    rw [hx] at h1
    have := (Nat.le_div_iff_mul_le hp).1 h1
    rw [show n + l - 1 = n + (l - 1) by omega, Nat.pow_add, Nat.mul_comm]
    exact this
def len8T : List UInt8 := (List.range 256).map fun n => UInt8.ofNat (if n = 0 then 0 else Nat.log2 n + 1)
theorem len8_spec {x : Nat} (h : x < 256) : ∃ l, len8T[x]? = some (UInt8.ofNat l) ∧ l ≤ 8 ∧ x < 2 ^ l ∧ (x ≠ 0 → 2 ^ (l - 1) ≤ x ∧ 1 ≤ l) := by
  have key : ∀ x < 256, len8T[x]? = some (UInt8.ofNat (if x = 0 then 0 else Nat.log2 x + 1)) ∧ (if x = 0 then 0 else Nat.log2 x + 1) ≤ 8 ∧ x < 2 ^ (if x = 0 then 0 else Nat.log2 x + 1) ∧ (x ≠ 0 → 2 ^ ((if x = 0 then 0 else Nat.log2 x + 1) - 1) ≤ x ∧ 1 ≤ (if x = 0 then 0 else Nat.log2 x + 1)) := by decide +kernel
  exact ⟨_, key x h⟩
def LenQ (u : Nat) (σ : Store) (v : V) (σ' : Store) : Prop := (∃ b : Nat, v = .int .i64 (b : Nat) ∧ b ≤ 64 ∧ u < 2 ^ b ∧ (u ≠ 0 → 2 ^ (b - 1) ≤ u)) ∧ σ' = σ
theorem len8T_eq : len8T = [0, 1, 2, 2, 3, 3, 3, 3, 4, 4, 4, 4, 4, 4, 4, 4, 5, 5, 5, 5, 5, 5, 5, 5, 5, 5, 5, 5, 5, 5, 5, 5, 6, 6, 6, 6, 6, 6, 6, 6, 6, 6, 6, 6, 6, 6, 6, 6, 6, 6, 6, 6, 6, 6, 6, 6, 6, 6, 6, 6, 6, 6, 6, 6, 7, 7, 7, 7, 7, 7, 7, 7, 7, 7, 7, 7, 7, 7, 7, 7, 7, 7, 7, 7, 7, 7, 7, 7, 7, 7, 7, 7, 7, 7, 7, 7, 7, 7, 7, 7, 7, 7, 7, 7, 7, 7, 7, 7, 7, 7, 7, 7, 7, 7, 7, 7, 7, 7, 7, 7, 7, 7, 7, 7, 7, 7, 7, 7, 8, 8, 8, 8, 8, 8, 8, 8, 8, 8, 8, 8, 8, 8, 8, 8, 8, 8, 8, 8, 8, 8, 8, 8, 8, 8, 8, 8, 8, 8, 8, 8, 8, 8, 8, 8, 8, 8, 8, 8, 8, 8, 8, 8, 8, 8, 8, 8, 8, 8, 8, 8, 8, 8, 8, 8, 8, 8, 8, 8, 8, 8, 8, 8, 8, 8, 8, 8, 8, 8, 8, 8, 8, 8, 8, 8, 8, 8, 8, 8, 8, 8, 8, 8, 8, 8, 8, 8, 8, 8, 8, 8, 8, 8, 8, 8, 8, 8, 8, 8, 8, 8, 8, 8, 8, 8, 8, 8, 8, 8, 8, 8, 8, 8, 8, 8, 8, 8, 8, 8, 8, 8, 8, 8, 8, 8, 8, 8] := by decide +kernel
theorem len64_calls (u : Nat) (σ : Store) (h : u < 2 ^ 64) : PCalls prog 64 [.int .u64 (u : Nat)] σ (LenQ u σ) := by
  generalize hQ : LenQ u σ = Q
  have fin : ∀ (x n : Nat), x = u / 2 ^ n → (u ≠ 0 → x ≠ 0) → x < 256 → n ≤ 56 → ∃ l : Nat, len8T[x]? = some (UInt8.ofNat l) ∧ l ≤ 8 ∧ ∀ v, v = V.int .i64 ((n : Int) + (l : Int)) → Q v σ := by
    intro x n h1 h2 h3 h4
    obtain ⟨l, k1, k2, k3, k4⟩ := len8_spec h3
    obtain ⟨g1, g2⟩ := len_final h1 h2 k3 k4
    refine ⟨l, k1, k2, fun v hv => ?_⟩
    rw [← hQ]
    exact ⟨⟨n + l, by rw [hv]; simp, by omega, g1, g2⟩, rfl⟩
  rw [len8T_eq] at fin
  refine fn64.calls ?_
  simp only [slots, ac64, am, amo, amc, ams, Nat.reduceAdd, Nat.reduceEqDiff, decide_true, decide_false, Int.reduceEq, Int.reduceLT, Int.reduceLE, Nat.reduceLT, Int.reduceToNat, Nat.reduceMul, Int.reduceMul, Int.reduceAdd]
  by_cases h1 : 4294967296 ≤ u
  case' neg =>
    have e1 : u / 2 ^ 0 = u / 2 ^ 0 := rfl
    have z1 : u ≠ 0 → u / 2 ^ 0 ≠ 0 := fun h => by simpa using h
    have b1 : u / 2 ^ 0 < 2 ^ 32 := by omega
    simp only [am, amo, amc, Nat.reduceAdd, Nat.reduceEqDiff, encs_length, List.length_map, decide_true, decide_false, Int.reduceEq, Int.reduceLT, Int.reduceLE, Nat.reduceLT, Int.reduceToNat, Nat.reduceMul, Int.reduceMul, Int.reduceAdd, decide_eq_false (show ¬ (4294967296 : Int) ≤ u by omega)]
    rw [show (u : Int) = ((u / 2 ^ 0 : Nat) : Int) by simp]
    generalize hx1 : u / 2 ^ 0 = x1 at e1 z1 b1 ⊢
  case' pos =>
    have e1 : u / 2 ^ 32 = u / 2 ^ 32 := rfl
    have z1 : u ≠ 0 → u / 2 ^ 32 ≠ 0 := fun _ => by omega
    have b1 : u / 2 ^ 32 < 2 ^ 32 := by omega
    simp only [am, amo, amc, Nat.reduceAdd, Nat.reduceEqDiff, encs_length, List.length_map, decide_true, decide_false, Int.reduceEq, Int.reduceLT, Int.reduceLE, Nat.reduceLT, Int.reduceToNat, Nat.reduceMul, Int.reduceMul, Int.reduceAdd, decide_eq_true (show (4294967296 : Int) ≤ u by omega), ami]
    rw [fdiv_pow _ 32 _ (by decide)]
    generalize hx1 : u / 2 ^ 32 = x1 at e1 z1 b1 ⊢
  all_goals
    by_cases h2 : 65536 ≤ x1
    case' neg =>
      have z2 : u ≠ 0 → x1 / 2 ^ 0 ≠ 0 := fun h => by simpa using z1 h
      have b2 : x1 / 2 ^ 0 < 2 ^ 16 := by omega
      simp only [am, amo, amc, Nat.reduceAdd, Nat.reduceEqDiff, encs_length, List.length_map, decide_true, decide_false, Int.reduceEq, Int.reduceLT, Int.reduceLE, Nat.reduceLT, Int.reduceToNat, Nat.reduceMul, Int.reduceMul, Int.reduceAdd, decide_eq_false (show ¬ (65536 : Int) ≤ x1 by omega)]
      rw [show (x1 : Int) = ((x1 / 2 ^ 0 : Nat) : Int) by simp]
      generalize hx2 : x1 / 2 ^ 0 = x2 at z2 b2 ⊢
      rw [← hx1, Nat.div_div_eq_div_mul, ← Nat.pow_add] at hx2
    case' pos =>
      have z2 : u ≠ 0 → x1 / 2 ^ 16 ≠ 0 := fun _ => by omega
      have b2 : x1 / 2 ^ 16 < 2 ^ 16 := by omega
      simp only [am, amo, amc, Nat.reduceAdd, Nat.reduceEqDiff, encs_length, List.length_map, decide_true, decide_false, Int.reduceEq, Int.reduceLT, Int.reduceLE, Nat.reduceLT, Int.reduceToNat, Nat.reduceMul, Int.reduceMul, Int.reduceAdd, decide_eq_true (show (65536 : Int) ≤ x1 by omega), ami]
      rw [fdiv_pow _ 16 _ (by decide), wrap_i64 (by decide) (by decide)]
      generalize hx2 : x1 / 2 ^ 16 = x2 at z2 b2 ⊢
      rw [← hx1, Nat.div_div_eq_div_mul, ← Nat.pow_add] at hx2
  all_goals
    by_cases h3 : 256 ≤ x2
    case' neg =>
      have z3 : u ≠ 0 → x2 / 2 ^ 0 ≠ 0 := fun h => by simpa using z2 h
      have b3 : x2 / 2 ^ 0 < 2 ^ 8 := by omega
      simp only [am, amo, amc, Nat.reduceAdd, Nat.reduceEqDiff, encs_length, List.length_map, decide_true, decide_false, Int.reduceEq, Int.reduceLT, Int.reduceLE, Nat.reduceLT, Int.reduceToNat, Nat.reduceMul, Int.reduceMul, Int.reduceAdd, decide_eq_false (show ¬ (256 : Int) ≤ x2 by omega)]
      rw [show (x2 : Int) = ((x2 / 2 ^ 0 : Nat) : Int) by simp]
      generalize hx3 : x2 / 2 ^ 0 = x3 at z3 b3 ⊢
      rw [← hx2, Nat.div_div_eq_div_mul, ← Nat.pow_add] at hx3
    case' pos =>
      have z3 : u ≠ 0 → x2 / 2 ^ 8 ≠ 0 := fun _ => by omega
      have b3 : x2 / 2 ^ 8 < 2 ^ 8 := by omega
      simp only [am, amo, amc, Nat.reduceAdd, Nat.reduceEqDiff, encs_length, List.length_map, decide_true, decide_false, Int.reduceEq, Int.reduceLT, Int.reduceLE, Nat.reduceLT, Int.reduceToNat, Nat.reduceMul, Int.reduceMul, Int.reduceAdd, decide_eq_true (show (256 : Int) ≤ x2 by omega), ami]
      rw [fdiv_pow _ 8 _ (by decide), wrap_i64 (by decide) (by decide)]
      generalize hx3 : x2 / 2 ^ 8 = x3 at z3 b3 ⊢
      rw [← hx2, Nat.div_div_eq_div_mul, ← Nat.pow_add] at hx3
  all_goals
    obtain ⟨l, g1, g2, g3⟩ := fin x3 _ hx3.symm z3 b3 (by decide)
    rw [wrap_u8 (by omega) (by omega)]
    refine idxSL_intro (by omega) (by simpa using g1) ?_
    have gl : (UInt8.ofNat l).toNat = l := by rw [UInt8.toNat_ofNat']; omega
    simp only [am, amo, amc, Nat.reduceAdd, Nat.reduceEqDiff, encs_length, List.length_map, decide_true, decide_false, Int.reduceEq, Int.reduceLT, Int.reduceLE, Nat.reduceLT, Int.reduceToNat, Nat.reduceMul, Int.reduceMul, Int.reduceAdd, gl]
    rw [wrap_i64 (x := (l : Int)) (by omega) (by omega), wrap_i64 (by omega) (by omega)]
    exact retK_intro rfl (Store.sub_refl _) (g3 _ (by simp [V.erase]))
def powCells : List V := (List.range 20).map fun n => .int .u64 (10 ^ n : Nat)
theorem pow_at {n : Nat} (h : n < 20) : powCells.drop n = .int .u64 (10 ^ n : Nat) :: powCells.drop (n + 1) := by
  rw [List.drop_eq_getElem_cons (show n < powCells.length by simp [powCells]; omega)]
  simp [powCells]
theorem numDigits_calls (u : Nat) {σ : Store} (hg : σ.box 3 = some powCells) (h : u < 2 ^ 64) (h0 : u ≠ 0) : PCalls prog 55 [.int .u64 (u : Nat)] σ fun v σ' => v = .int .i64 (nd u : Nat) ∧ σ' = σ := by
  refine fn55.calls ?_
  simp only [slots, ac55, am, amo, amc, ams, Nat.reduceAdd, Nat.reduceEqDiff, decide_true, decide_false, Int.reduceEq, Int.reduceLT, Int.reduceLE, Nat.reduceLT, Int.reduceToNat, Nat.reduceMul, Int.reduceMul, Int.reduceAdd]
  refine (len64_calls u σ h).mono ?_
  rintro v σ' ⟨⟨b, rfl, h1, h2, h3⟩, rfl⟩
  simp only [am, amo, amc, Nat.reduceAdd, Nat.reduceEqDiff, encs_length, List.length_map, decide_true, decide_false, Int.reduceEq, Int.reduceLT, Int.reduceLE, Nat.reduceLT, Int.reduceToNat, Nat.reduceMul, Int.reduceMul, Int.reduceAdd]
  refine (log10_calls b σ' h1).mono ?_
  rintro v σ ⟨rfl, rfl⟩
  simp only [am, amo, amc, Nat.reduceAdd, Nat.reduceEqDiff, encs_length, List.length_map, decide_true, decide_false, Int.reduceEq, Int.reduceLT, Int.reduceLE, Nat.reduceLT, Int.reduceToNat, Nat.reduceMul, Int.reduceMul, Int.reduceAdd]
  obtain ⟨k1, k2⟩ := nd_bits h1 h2 h3 h0
  generalize b * 78913 / 2 ^ 18 = e at k1 k2 ⊢
  refine idxPL_ptr (by omega) (by omega) ?_
  simp only [am, amo, amc, Nat.reduceAdd, Nat.reduceEqDiff, encs_length, List.length_map, decide_true, decide_false, Int.reduceEq, Int.reduceLT, Int.reduceLE, Nat.reduceLT, Int.reduceToNat, Nat.reduceMul, Int.reduceMul, Int.reduceAdd, hg, Int.toNat_natCast, Nat.zero_add, Nat.mul_one, pow_at k2]
  refine (bool2_calls _ σ).mono ?_
  rintro v σ ⟨rfl, rfl⟩
  simp only [am, amo, amc, Nat.reduceAdd, Nat.reduceEqDiff, encs_length, List.length_map, decide_true, decide_false, Int.reduceEq, Int.reduceLT, Int.reduceLE, Nat.reduceLT, Int.reduceToNat, Nat.reduceMul, Int.reduceMul, Int.reduceAdd]
  have e2 : decide (((10 ^ e : Nat) : Int) ≤ (u : Int)) = decide (10 ^ e ≤ u) := decide_eq_decide.2 Int.ofNat_le
  rw [e2]
  refine retK_intro rfl (Store.sub_refl _) ⟨?_, rfl⟩
  rw [k1]
  by_cases h10 : 10 ^ e ≤ u
  · rw [if_pos h10, decide_eq_true h10]
    simp only [if_true, V.erase]
    rw [wrap_i64 (by omega) (by omega)]; simp
  · rw [if_neg h10, decide_eq_false h10]
    simp only [Bool.false_eq_true, if_false, V.erase]
    rw [wrap_i64 (by omega) (by omega)]; simp
end Go.Proofs.Tryd

namespace Go.Proofs.Tryd
open Go.Am
set_option maxRecDepth 4000
set_option maxHeartbeats 4000000
def ac56 : AC := .seq (.reg [xm 17 0, xL 18 17, xm 4 18])
 (.seq (.block 0 (.loop (.seq (.seq (.reg [xm 19 4, xB .geq 20 19 8])
 (.cond (.s 20) (.skip)
 (.exit 0)))
 (.block 1 (.seq (.reg [xm 21 1, ⟨(some 22), .binI .rem (.s 21) (.c (.int .u64 100000000)), none⟩, ⟨(some 23), .cvI .u32 (.s 22), none⟩, xm 5 23])
 (.seq (.reg [xm 24 1, ⟨(some 25), .binI .quo (.s 24) (.c (.int .u64 100000000)), none⟩, xm 1 25])
 (.seq (.reg [xm 26 5, ⟨(some 27), .binI .quo (.s 26) (.c (.int .u32 10000)), none⟩, xm 28 5, ⟨(some 29), .binI .rem (.s 28) (.c (.int .u32 10000)), none⟩, xm 6 27, xm 7 29])
 (.seq (.reg [xm 30 7, ⟨(some 31), .binI .quo (.s 30) (.c (.int .u32 100)), none⟩, ⟨(some 32), .binI .mul (.s 31) (.c (.int .u32 2)), none⟩, xm 33 7, ⟨(some 34), .binI .rem (.s 33) (.c (.int .u32 100)), none⟩, ⟨(some 35), .binI .mul (.s 34) (.c (.int .u32 2)), none⟩, xm 8 32, xm 9 35])
 (.seq (.reg [xm 36 6, ⟨(some 37), .binI .quo (.s 36) (.c (.int .u32 100)), none⟩, ⟨(some 38), .binI .mul (.s 37) (.c (.int .u32 2)), none⟩, xm 39 6, ⟨(some 40), .binI .rem (.s 39) (.c (.int .u32 100)), none⟩, ⟨(some 41), .binI .mul (.s 40) (.c (.int .u32 2)), none⟩, xm 10 38, xm 11 41])
 (.seq (.draw [(xm 42 0, []), (xm 43 4, []), (xB .sub 44 43 1, []), (xm 45 0, []), (xm 46 4, []), (xB .sub 47 46 2, []), (xm 48 9, []), (⟨(some 49), .binI .add (.s 48) (.c (.int .u32 1)), none⟩, []), (⟨(some 50), .idxS (.c (.str [48, 48, 48, 49, 48, 50, 48, 51, 48, 52, 48, 53, 48, 54, 48, 55, 48, 56, 48, 57, 49, 48, 49, 49, 49, 50, 49, 51, 49, 52, 49, 53, 49, 54, 49, 55, 49, 56, 49, 57, 50, 48, 50, 49, 50, 50, 50, 51, 50, 52, 50, 53, 50, 54, 50, 55, 50, 56, 50, 57, 51, 48, 51, 49, 51, 50, 51, 51, 51, 52, 51, 53, 51, 54, 51, 55, 51, 56, 51, 57, 52, 48, 52, 49, 52, 50, 52, 51, 52, 52, 52, 53, 52, 54, 52, 55, 52, 56, 52, 57, 53, 48, 53, 49, 53, 50, 53, 51, 53, 52, 53, 53, 53, 54, 53, 55, 53, 56, 53, 57, 54, 48, 54, 49, 54, 50, 54, 51, 54, 52, 54, 53, 54, 54, 54, 55, 54, 56, 54, 57, 55, 48, 55, 49, 55, 50, 55, 51, 55, 52, 55, 53, 55, 54, 55, 55, 55, 56, 55, 57, 56, 48, 56, 49, 56, 50, 56, 51, 56, 52, 56, 53, 56, 54, 56, 55, 56, 56, 56, 57, 57, 48, 57, 49, 57, 50, 57, 51, 57, 52, 57, 53, 57, 54, 57, 55, 57, 56, 57, 57])) (.s 49), none⟩, []), (xm 51 9, []), (⟨(some 52), .idxS (.c (.str [48, 48, 48, 49, 48, 50, 48, 51, 48, 52, 48, 53, 48, 54, 48, 55, 48, 56, 48, 57, 49, 48, 49, 49, 49, 50, 49, 51, 49, 52, 49, 53, 49, 54, 49, 55, 49, 56, 49, 57, 50, 48, 50, 49, 50, 50, 50, 51, 50, 52, 50, 53, 50, 54, 50, 55, 50, 56, 50, 57, 51, 48, 51, 49, 51, 50, 51, 51, 51, 52, 51, 53, 51, 54, 51, 55, 51, 56, 51, 57, 52, 48, 52, 49, 52, 50, 52, 51, 52, 52, 52, 53, 52, 54, 52, 55, 52, 56, 52, 57, 53, 48, 53, 49, 53, 50, 53, 51, 53, 52, 53, 53, 53, 54, 53, 55, 53, 56, 53, 57, 54, 48, 54, 49, 54, 50, 54, 51, 54, 52, 54, 53, 54, 54, 54, 55, 54, 56, 54, 57, 55, 48, 55, 49, 55, 50, 55, 51, 55, 52, 55, 53, 55, 54, 55, 55, 55, 56, 55, 57, 56, 48, 56, 49, 56, 50, 56, 51, 56, 52, 56, 53, 56, 54, 56, 55, 56, 56, 56, 57, 57, 48, 57, 49, 57, 50, 57, 51, 57, 52, 57, 53, 57, 54, 57, 55, 57, 56, 57, 57])) (.s 51), none⟩, []), (xA 1 53 42 44, []), (xs 1 53 50, []), (xA 1 54 45 47, []), (xs 1 54 52, [])])
 (.seq (.draw [(xm 55 0, []), (xm 56 4, []), (xB .sub 57 56 3, []), (xm 58 0, []), (xm 59 4, []), (xB .sub 60 59 4, []), (xm 61 8, []), (⟨(some 62), .binI .add (.s 61) (.c (.int .u32 1)), none⟩, []), (⟨(some 63), .idxS (.c (.str [48, 48, 48, 49, 48, 50, 48, 51, 48, 52, 48, 53, 48, 54, 48, 55, 48, 56, 48, 57, 49, 48, 49, 49, 49, 50, 49, 51, 49, 52, 49, 53, 49, 54, 49, 55, 49, 56, 49, 57, 50, 48, 50, 49, 50, 50, 50, 51, 50, 52, 50, 53, 50, 54, 50, 55, 50, 56, 50, 57, 51, 48, 51, 49, 51, 50, 51, 51, 51, 52, 51, 53, 51, 54, 51, 55, 51, 56, 51, 57, 52, 48, 52, 49, 52, 50, 52, 51, 52, 52, 52, 53, 52, 54, 52, 55, 52, 56, 52, 57, 53, 48, 53, 49, 53, 50, 53, 51, 53, 52, 53, 53, 53, 54, 53, 55, 53, 56, 53, 57, 54, 48, 54, 49, 54, 50, 54, 51, 54, 52, 54, 53, 54, 54, 54, 55, 54, 56, 54, 57, 55, 48, 55, 49, 55, 50, 55, 51, 55, 52, 55, 53, 55, 54, 55, 55, 55, 56, 55, 57, 56, 48, 56, 49, 56, 50, 56, 51, 56, 52, 56, 53, 56, 54, 56, 55, 56, 56, 56, 57, 57, 48, 57, 49, 57, 50, 57, 51, 57, 52, 57, 53, 57, 54, 57, 55, 57, 56, 57, 57])) (.s 62), none⟩, []), (xm 64 8, []), (⟨(some 65), .idxS (.c (.str [48, 48, 48, 49, 48, 50, 48, 51, 48, 52, 48, 53, 48, 54, 48, 55, 48, 56, 48, 57, 49, 48, 49, 49, 49, 50, 49, 51, 49, 52, 49, 53, 49, 54, 49, 55, 49, 56, 49, 57, 50, 48, 50, 49, 50, 50, 50, 51, 50, 52, 50, 53, 50, 54, 50, 55, 50, 56, 50, 57, 51, 48, 51, 49, 51, 50, 51, 51, 51, 52, 51, 53, 51, 54, 51, 55, 51, 56, 51, 57, 52, 48, 52, 49, 52, 50, 52, 51, 52, 52, 52, 53, 52, 54, 52, 55, 52, 56, 52, 57, 53, 48, 53, 49, 53, 50, 53, 51, 53, 52, 53, 53, 53, 54, 53, 55, 53, 56, 53, 57, 54, 48, 54, 49, 54, 50, 54, 51, 54, 52, 54, 53, 54, 54, 54, 55, 54, 56, 54, 57, 55, 48, 55, 49, 55, 50, 55, 51, 55, 52, 55, 53, 55, 54, 55, 55, 55, 56, 55, 57, 56, 48, 56, 49, 56, 50, 56, 51, 56, 52, 56, 53, 56, 54, 56, 55, 56, 56, 56, 57, 57, 48, 57, 49, 57, 50, 57, 51, 57, 52, 57, 53, 57, 54, 57, 55, 57, 56, 57, 57])) (.s 64), none⟩, []), (xA 1 66 55 57, []), (xs 1 66 63, []), (xA 1 67 58 60, []), (xs 1 67 65, [])])
 (.seq (.draw [(xm 68 0, []), (xm 69 4, []), (xB .sub 70 69 5, []), (xm 71 0, []), (xm 72 4, []), (xB .sub 73 72 6, []), (xm 74 11, []), (⟨(some 75), .binI .add (.s 74) (.c (.int .u32 1)), none⟩, []), (⟨(some 76), .idxS (.c (.str [48, 48, 48, 49, 48, 50, 48, 51, 48, 52, 48, 53, 48, 54, 48, 55, 48, 56, 48, 57, 49, 48, 49, 49, 49, 50, 49, 51, 49, 52, 49, 53, 49, 54, 49, 55, 49, 56, 49, 57, 50, 48, 50, 49, 50, 50, 50, 51, 50, 52, 50, 53, 50, 54, 50, 55, 50, 56, 50, 57, 51, 48, 51, 49, 51, 50, 51, 51, 51, 52, 51, 53, 51, 54, 51, 55, 51, 56, 51, 57, 52, 48, 52, 49, 52, 50, 52, 51, 52, 52, 52, 53, 52, 54, 52, 55, 52, 56, 52, 57, 53, 48, 53, 49, 53, 50, 53, 51, 53, 52, 53, 53, 53, 54, 53, 55, 53, 56, 53, 57, 54, 48, 54, 49, 54, 50, 54, 51, 54, 52, 54, 53, 54, 54, 54, 55, 54, 56, 54, 57, 55, 48, 55, 49, 55, 50, 55, 51, 55, 52, 55, 53, 55, 54, 55, 55, 55, 56, 55, 57, 56, 48, 56, 49, 56, 50, 56, 51, 56, 52, 56, 53, 56, 54, 56, 55, 56, 56, 56, 57, 57, 48, 57, 49, 57, 50, 57, 51, 57, 52, 57, 53, 57, 54, 57, 55, 57, 56, 57, 57])) (.s 75), none⟩, []), (xm 77 11, []), (⟨(some 78), .idxS (.c (.str [48, 48, 48, 49, 48, 50, 48, 51, 48, 52, 48, 53, 48, 54, 48, 55, 48, 56, 48, 57, 49, 48, 49, 49, 49, 50, 49, 51, 49, 52, 49, 53, 49, 54, 49, 55, 49, 56, 49, 57, 50, 48, 50, 49, 50, 50, 50, 51, 50, 52, 50, 53, 50, 54, 50, 55, 50, 56, 50, 57, 51, 48, 51, 49, 51, 50, 51, 51, 51, 52, 51, 53, 51, 54, 51, 55, 51, 56, 51, 57, 52, 48, 52, 49, 52, 50, 52, 51, 52, 52, 52, 53, 52, 54, 52, 55, 52, 56, 52, 57, 53, 48, 53, 49, 53, 50, 53, 51, 53, 52, 53, 53, 53, 54, 53, 55, 53, 56, 53, 57, 54, 48, 54, 49, 54, 50, 54, 51, 54, 52, 54, 53, 54, 54, 54, 55, 54, 56, 54, 57, 55, 48, 55, 49, 55, 50, 55, 51, 55, 52, 55, 53, 55, 54, 55, 55, 55, 56, 55, 57, 56, 48, 56, 49, 56, 50, 56, 51, 56, 52, 56, 53, 56, 54, 56, 55, 56, 56, 56, 57, 57, 48, 57, 49, 57, 50, 57, 51, 57, 52, 57, 53, 57, 54, 57, 55, 57, 56, 57, 57])) (.s 77), none⟩, []), (xA 1 79 68 70, []), (xs 1 79 76, []), (xA 1 80 71 73, []), (xs 1 80 78, [])])
 (.seq (.draw [(xm 81 0, []), (xm 82 4, []), (xB .sub 83 82 7, []), (xm 84 0, []), (xm 85 4, []), (xB .sub 86 85 8, []), (xm 87 10, []), (⟨(some 88), .binI .add (.s 87) (.c (.int .u32 1)), none⟩, []), (⟨(some 89), .idxS (.c (.str [48, 48, 48, 49, 48, 50, 48, 51, 48, 52, 48, 53, 48, 54, 48, 55, 48, 56, 48, 57, 49, 48, 49, 49, 49, 50, 49, 51, 49, 52, 49, 53, 49, 54, 49, 55, 49, 56, 49, 57, 50, 48, 50, 49, 50, 50, 50, 51, 50, 52, 50, 53, 50, 54, 50, 55, 50, 56, 50, 57, 51, 48, 51, 49, 51, 50, 51, 51, 51, 52, 51, 53, 51, 54, 51, 55, 51, 56, 51, 57, 52, 48, 52, 49, 52, 50, 52, 51, 52, 52, 52, 53, 52, 54, 52, 55, 52, 56, 52, 57, 53, 48, 53, 49, 53, 50, 53, 51, 53, 52, 53, 53, 53, 54, 53, 55, 53, 56, 53, 57, 54, 48, 54, 49, 54, 50, 54, 51, 54, 52, 54, 53, 54, 54, 54, 55, 54, 56, 54, 57, 55, 48, 55, 49, 55, 50, 55, 51, 55, 52, 55, 53, 55, 54, 55, 55, 55, 56, 55, 57, 56, 48, 56, 49, 56, 50, 56, 51, 56, 52, 56, 53, 56, 54, 56, 55, 56, 56, 56, 57, 57, 48, 57, 49, 57, 50, 57, 51, 57, 52, 57, 53, 57, 54, 57, 55, 57, 56, 57, 57])) (.s 88), none⟩, []), (xm 90 10, []), (⟨(some 91), .idxS (.c (.str [48, 48, 48, 49, 48, 50, 48, 51, 48, 52, 48, 53, 48, 54, 48, 55, 48, 56, 48, 57, 49, 48, 49, 49, 49, 50, 49, 51, 49, 52, 49, 53, 49, 54, 49, 55, 49, 56, 49, 57, 50, 48, 50, 49, 50, 50, 50, 51, 50, 52, 50, 53, 50, 54, 50, 55, 50, 56, 50, 57, 51, 48, 51, 49, 51, 50, 51, 51, 51, 52, 51, 53, 51, 54, 51, 55, 51, 56, 51, 57, 52, 48, 52, 49, 52, 50, 52, 51, 52, 52, 52, 53, 52, 54, 52, 55, 52, 56, 52, 57, 53, 48, 53, 49, 53, 50, 53, 51, 53, 52, 53, 53, 53, 54, 53, 55, 53, 56, 53, 57, 54, 48, 54, 49, 54, 50, 54, 51, 54, 52, 54, 53, 54, 54, 54, 55, 54, 56, 54, 57, 55, 48, 55, 49, 55, 50, 55, 51, 55, 52, 55, 53, 55, 54, 55, 55, 55, 56, 55, 57, 56, 48, 56, 49, 56, 50, 56, 51, 56, 52, 56, 53, 56, 54, 56, 55, 56, 56, 56, 57, 57, 48, 57, 49, 57, 50, 57, 51, 57, 52, 57, 53, 57, 54, 57, 55, 57, 56, 57, 57])) (.s 90), none⟩, []), (xA 1 92 81 83, []), (xs 1 92 89, []), (xA 1 93 84 86, []), (xs 1 93 91, [])])
 (.reg [xm 94 4, xB .sub 95 94 8, xm 4 95]))))))))))))))
 (.seq (.reg [xm 96 1, ⟨(some 97), .cvI .u32 (.s 96), none⟩, xm 12 97])
 (.seq (.seq (.reg [xm 98 4, xB .geq 99 98 4])
 (.cond (.s 99) (.seq (.reg [xm 100 12, ⟨(some 101), .binI .rem (.s 100) (.c (.int .u32 10000)), none⟩, xm 13 101])
 (.seq (.reg [xm 102 12, ⟨(some 103), .binI .quo (.s 102) (.c (.int .u32 10000)), none⟩, xm 12 103])
 (.seq (.reg [xm 104 13, ⟨(some 105), .binI .quo (.s 104) (.c (.int .u32 100)), none⟩, ⟨(some 106), .binI .mul (.s 105) (.c (.int .u32 2)), none⟩, xm 107 13, ⟨(some 108), .binI .rem (.s 107) (.c (.int .u32 100)), none⟩, ⟨(some 109), .binI .mul (.s 108) (.c (.int .u32 2)), none⟩, xm 14 106, xm 15 109])
 (.seq (.draw [(xm 110 0, []), (xm 111 4, []), (xB .sub 112 111 1, []), (xm 113 0, []), (xm 114 4, []), (xB .sub 115 114 2, []), (xm 116 15, []), (⟨(some 117), .binI .add (.s 116) (.c (.int .u32 1)), none⟩, []), (⟨(some 118), .idxS (.c (.str [48, 48, 48, 49, 48, 50, 48, 51, 48, 52, 48, 53, 48, 54, 48, 55, 48, 56, 48, 57, 49, 48, 49, 49, 49, 50, 49, 51, 49, 52, 49, 53, 49, 54, 49, 55, 49, 56, 49, 57, 50, 48, 50, 49, 50, 50, 50, 51, 50, 52, 50, 53, 50, 54, 50, 55, 50, 56, 50, 57, 51, 48, 51, 49, 51, 50, 51, 51, 51, 52, 51, 53, 51, 54, 51, 55, 51, 56, 51, 57, 52, 48, 52, 49, 52, 50, 52, 51, 52, 52, 52, 53, 52, 54, 52, 55, 52, 56, 52, 57, 53, 48, 53, 49, 53, 50, 53, 51, 53, 52, 53, 53, 53, 54, 53, 55, 53, 56, 53, 57, 54, 48, 54, 49, 54, 50, 54, 51, 54, 52, 54, 53, 54, 54, 54, 55, 54, 56, 54, 57, 55, 48, 55, 49, 55, 50, 55, 51, 55, 52, 55, 53, 55, 54, 55, 55, 55, 56, 55, 57, 56, 48, 56, 49, 56, 50, 56, 51, 56, 52, 56, 53, 56, 54, 56, 55, 56, 56, 56, 57, 57, 48, 57, 49, 57, 50, 57, 51, 57, 52, 57, 53, 57, 54, 57, 55, 57, 56, 57, 57])) (.s 117), none⟩, []), (xm 119 15, []), (⟨(some 120), .idxS (.c (.str [48, 48, 48, 49, 48, 50, 48, 51, 48, 52, 48, 53, 48, 54, 48, 55, 48, 56, 48, 57, 49, 48, 49, 49, 49, 50, 49, 51, 49, 52, 49, 53, 49, 54, 49, 55, 49, 56, 49, 57, 50, 48, 50, 49, 50, 50, 50, 51, 50, 52, 50, 53, 50, 54, 50, 55, 50, 56, 50, 57, 51, 48, 51, 49, 51, 50, 51, 51, 51, 52, 51, 53, 51, 54, 51, 55, 51, 56, 51, 57, 52, 48, 52, 49, 52, 50, 52, 51, 52, 52, 52, 53, 52, 54, 52, 55, 52, 56, 52, 57, 53, 48, 53, 49, 53, 50, 53, 51, 53, 52, 53, 53, 53, 54, 53, 55, 53, 56, 53, 57, 54, 48, 54, 49, 54, 50, 54, 51, 54, 52, 54, 53, 54, 54, 54, 55, 54, 56, 54, 57, 55, 48, 55, 49, 55, 50, 55, 51, 55, 52, 55, 53, 55, 54, 55, 55, 55, 56, 55, 57, 56, 48, 56, 49, 56, 50, 56, 51, 56, 52, 56, 53, 56, 54, 56, 55, 56, 56, 56, 57, 57, 48, 57, 49, 57, 50, 57, 51, 57, 52, 57, 53, 57, 54, 57, 55, 57, 56, 57, 57])) (.s 119), none⟩, []), (xA 1 121 110 112, []), (xs 1 121 118, []), (xA 1 122 113 115, []), (xs 1 122 120, [])])
 (.seq (.draw [(xm 123 0, []), (xm 124 4, []), (xB .sub 125 124 3, []), (xm 126 0, []), (xm 127 4, []), (xB .sub 128 127 4, []), (xm 129 14, []), (⟨(some 130), .binI .add (.s 129) (.c (.int .u32 1)), none⟩, []), (⟨(some 131), .idxS (.c (.str [48, 48, 48, 49, 48, 50, 48, 51, 48, 52, 48, 53, 48, 54, 48, 55, 48, 56, 48, 57, 49, 48, 49, 49, 49, 50, 49, 51, 49, 52, 49, 53, 49, 54, 49, 55, 49, 56, 49, 57, 50, 48, 50, 49, 50, 50, 50, 51, 50, 52, 50, 53, 50, 54, 50, 55, 50, 56, 50, 57, 51, 48, 51, 49, 51, 50, 51, 51, 51, 52, 51, 53, 51, 54, 51, 55, 51, 56, 51, 57, 52, 48, 52, 49, 52, 50, 52, 51, 52, 52, 52, 53, 52, 54, 52, 55, 52, 56, 52, 57, 53, 48, 53, 49, 53, 50, 53, 51, 53, 52, 53, 53, 53, 54, 53, 55, 53, 56, 53, 57, 54, 48, 54, 49, 54, 50, 54, 51, 54, 52, 54, 53, 54, 54, 54, 55, 54, 56, 54, 57, 55, 48, 55, 49, 55, 50, 55, 51, 55, 52, 55, 53, 55, 54, 55, 55, 55, 56, 55, 57, 56, 48, 56, 49, 56, 50, 56, 51, 56, 52, 56, 53, 56, 54, 56, 55, 56, 56, 56, 57, 57, 48, 57, 49, 57, 50, 57, 51, 57, 52, 57, 53, 57, 54, 57, 55, 57, 56, 57, 57])) (.s 130), none⟩, []), (xm 132 14, []), (⟨(some 133), .idxS (.c (.str [48, 48, 48, 49, 48, 50, 48, 51, 48, 52, 48, 53, 48, 54, 48, 55, 48, 56, 48, 57, 49, 48, 49, 49, 49, 50, 49, 51, 49, 52, 49, 53, 49, 54, 49, 55, 49, 56, 49, 57, 50, 48, 50, 49, 50, 50, 50, 51, 50, 52, 50, 53, 50, 54, 50, 55, 50, 56, 50, 57, 51, 48, 51, 49, 51, 50, 51, 51, 51, 52, 51, 53, 51, 54, 51, 55, 51, 56, 51, 57, 52, 48, 52, 49, 52, 50, 52, 51, 52, 52, 52, 53, 52, 54, 52, 55, 52, 56, 52, 57, 53, 48, 53, 49, 53, 50, 53, 51, 53, 52, 53, 53, 53, 54, 53, 55, 53, 56, 53, 57, 54, 48, 54, 49, 54, 50, 54, 51, 54, 52, 54, 53, 54, 54, 54, 55, 54, 56, 54, 57, 55, 48, 55, 49, 55, 50, 55, 51, 55, 52, 55, 53, 55, 54, 55, 55, 55, 56, 55, 57, 56, 48, 56, 49, 56, 50, 56, 51, 56, 52, 56, 53, 56, 54, 56, 55, 56, 56, 56, 57, 57, 48, 57, 49, 57, 50, 57, 51, 57, 52, 57, 53, 57, 54, 57, 55, 57, 56, 57, 57])) (.s 132), none⟩, []), (xA 1 134 123 125, []), (xs 1 134 131, []), (xA 1 135 126 128, []), (xs 1 135 133, [])])
 (.reg [xm 136 4, xB .sub 137 136 4, xm 4 137]))))))
 (.skip)))
 (.seq (.seq (.reg [xm 138 4, xB .geq 139 138 2])
 (.cond (.s 139) (.seq (.reg [xm 140 12, ⟨(some 141), .binI .rem (.s 140) (.c (.int .u32 100)), none⟩, ⟨(some 142), .binI .mul (.s 141) (.c (.int .u32 2)), none⟩, xm 16 142])
 (.seq (.reg [xm 143 12, ⟨(some 144), .binI .quo (.s 143) (.c (.int .u32 100)), none⟩, xm 12 144])
 (.seq (.draw [(xm 145 0, []), (xm 146 4, []), (xB .sub 147 146 1, []), (xm 148 0, []), (xm 149 4, []), (xB .sub 150 149 2, []), (xm 151 16, []), (⟨(some 152), .binI .add (.s 151) (.c (.int .u32 1)), none⟩, []), (⟨(some 153), .idxS (.c (.str [48, 48, 48, 49, 48, 50, 48, 51, 48, 52, 48, 53, 48, 54, 48, 55, 48, 56, 48, 57, 49, 48, 49, 49, 49, 50, 49, 51, 49, 52, 49, 53, 49, 54, 49, 55, 49, 56, 49, 57, 50, 48, 50, 49, 50, 50, 50, 51, 50, 52, 50, 53, 50, 54, 50, 55, 50, 56, 50, 57, 51, 48, 51, 49, 51, 50, 51, 51, 51, 52, 51, 53, 51, 54, 51, 55, 51, 56, 51, 57, 52, 48, 52, 49, 52, 50, 52, 51, 52, 52, 52, 53, 52, 54, 52, 55, 52, 56, 52, 57, 53, 48, 53, 49, 53, 50, 53, 51, 53, 52, 53, 53, 53, 54, 53, 55, 53, 56, 53, 57, 54, 48, 54, 49, 54, 50, 54, 51, 54, 52, 54, 53, 54, 54, 54, 55, 54, 56, 54, 57, 55, 48, 55, 49, 55, 50, 55, 51, 55, 52, 55, 53, 55, 54, 55, 55, 55, 56, 55, 57, 56, 48, 56, 49, 56, 50, 56, 51, 56, 52, 56, 53, 56, 54, 56, 55, 56, 56, 56, 57, 57, 48, 57, 49, 57, 50, 57, 51, 57, 52, 57, 53, 57, 54, 57, 55, 57, 56, 57, 57])) (.s 152), none⟩, []), (xm 154 16, []), (⟨(some 155), .idxS (.c (.str [48, 48, 48, 49, 48, 50, 48, 51, 48, 52, 48, 53, 48, 54, 48, 55, 48, 56, 48, 57, 49, 48, 49, 49, 49, 50, 49, 51, 49, 52, 49, 53, 49, 54, 49, 55, 49, 56, 49, 57, 50, 48, 50, 49, 50, 50, 50, 51, 50, 52, 50, 53, 50, 54, 50, 55, 50, 56, 50, 57, 51, 48, 51, 49, 51, 50, 51, 51, 51, 52, 51, 53, 51, 54, 51, 55, 51, 56, 51, 57, 52, 48, 52, 49, 52, 50, 52, 51, 52, 52, 52, 53, 52, 54, 52, 55, 52, 56, 52, 57, 53, 48, 53, 49, 53, 50, 53, 51, 53, 52, 53, 53, 53, 54, 53, 55, 53, 56, 53, 57, 54, 48, 54, 49, 54, 50, 54, 51, 54, 52, 54, 53, 54, 54, 54, 55, 54, 56, 54, 57, 55, 48, 55, 49, 55, 50, 55, 51, 55, 52, 55, 53, 55, 54, 55, 55, 55, 56, 55, 57, 56, 48, 56, 49, 56, 50, 56, 51, 56, 52, 56, 53, 56, 54, 56, 55, 56, 56, 56, 57, 57, 48, 57, 49, 57, 50, 57, 51, 57, 52, 57, 53, 57, 54, 57, 55, 57, 56, 57, 57])) (.s 154), none⟩, []), (xA 1 156 145 147, []), (xs 1 156 153, []), (xA 1 157 148 150, []), (xs 1 157 155, [])])
 (.reg [xm 158 4, xB .sub 159 158 2, xm 4 159]))))
 (.skip)))
 (.seq (.reg [xm 160 4, xB .gtr 161 160 0])
 (.cond (.s 161) (.reg [xm 162 0, xm 163 12, ⟨(some 164), .binI .add (.c (.int .u32 48)) (.s 163), none⟩, ⟨(some 165), .cvI .u8 (.s 164), none⟩, ⟨(some 166), .idxA 1 (.s 162) (.c (.int .i64 0)), none⟩, xs 1 166 165])
 (.skip)))))))
theorem fn56 : IsFn prog 56 ac56 [] 167 := ⟨f56, ⟨[], []⟩, func56, by kernel_rfl, by kernel_rfl, by kernel_rfl, by kernel_rfl⟩
def dgV (s : List UInt8) : List V := s.map fun c => .int .u8 c.toNat
theorem dgV_app (s t : List UInt8) : dgV (s ++ t) = dgV s ++ dgV t := by simp [dgV]
theorem last_one {Y : List V} {k : Nat} (h : Y.length = k + 1) : ∃ Y' p, Y = Y' ++ [p] ∧ Y'.length = k := by
  refine ⟨Y.take k, Y[k], ?_, by simp; omega⟩
  have h1 := List.take_append_drop k Y
  rw [List.drop_eq_getElem_cons (by omega), List.drop_of_length_le (by omega)] at h1
  exact h1.symm
theorem last_two {Y : List V} {k : Nat} (h : Y.length = k + 2) : ∃ Y' p q, Y = Y' ++ [p, q] ∧ Y'.length = k := by
  obtain ⟨Y1, q, rfl, h1⟩ := last_one (k := k + 1) h
  obtain ⟨Y2, p, rfl, h2⟩ := last_one h1
  exact ⟨Y2, p, q, by simp, h2⟩
theorem last_four {Y : List V} {k : Nat} (h : Y.length = k + 4) : ∃ Y' p q r s, Y = Y' ++ [p, q, r, s] ∧ Y'.length = k := by
  obtain ⟨Y1, r, s, rfl, h1⟩ := last_two (k := k + 2) h
  obtain ⟨Y2, p, q, rfl, h2⟩ := last_two h1
  exact ⟨Y2, p, q, r, s, by simp, h2⟩
theorem last_eight {Y : List V} {k : Nat} (h : Y.length = k + 8) : ∃ Y' p q r s t u v w, Y = Y' ++ [p, q, r, s, t, u, v, w] ∧ Y'.length = k := by
  obtain ⟨Y1, t, u, v, w, rfl, h1⟩ := last_four (k := k + 4) h
  obtain ⟨Y2, p, q, r, s, rfl, h2⟩ := last_four h1
  exact ⟨Y2, p, q, r, s, t, u, v, w, by simp, h2⟩
theorem set_app' {P L : List V} {k : Nat} {v : List V} : setAt (P ++ L) (P.length + k) v = P ++ setAt L k v := by
  induction P with
  | nil => simp
  | cons a P ih => rw [List.cons_append, List.length_cons, show P.length + 1 + k = (P.length + k) + 1 by omega]; simp only [setAt]; rw [ih]; rfl
theorem set_app {P L : List V} {o M k : Nat} {v : List V} (h : P.length = o + M) : setAt (P ++ L) (o + (M + k)) v = P ++ setAt L k v := by
  rw [show o + (M + k) = P.length + k by omega, set_app']
theorem drop_app {P L : List V} {o M k : Nat} (h : P.length = o + M) : (P ++ L).drop (o + (M + k)) = L.drop k := by
  rw [show o + (M + k) = P.length + k by omega, List.drop_append, List.drop_of_length_le (by omega), Nat.add_sub_cancel_left]; rfl
theorem set_app0 {P L : List V} {m : Nat} {v : List V} (h : P.length = m) : setAt (P ++ L) m v = P ++ setAt L 0 v := by
  subst h; exact set_app' (k := 0)
theorem drop_app0 {P L : List V} {m : Nat} (h : P.length = m) : (P ++ L).drop m = L := by
  subst h; exact List.drop_left
theorem set_o {P L : List V} {o k : Nat} {v : List V} (h : P.length = o) : setAt (P ++ L) (o + k) v = P ++ setAt L k v := by
  subst h; exact set_app'
theorem drop_o {P L : List V} {o k : Nat} (h : P.length = o) : (P ++ L).drop (o + k) = L.drop k := by
  subst h; simp
theorem ex0 {Y : List V} (h : Y.length = 0) : Y = [] := List.length_eq_zero_iff.1 h
theorem ex1 {Y : List V} (h : Y.length = 1) : ∃ a, Y = [a] := List.length_eq_one_iff.1 h
theorem exS {Y : List V} {k : Nat} (h : Y.length = k + 1) : ∃ a Y', Y = a :: Y' ∧ Y'.length = k := by
  cases Y with
  | nil => simp at h
  | cons a Y' => exact ⟨a, Y', rfl, by simpa using h⟩
theorem ex2 {Y : List V} (h : Y.length = 2) : ∃ a b, Y = [a, b] := by
  obtain ⟨a, Y1, rfl, h1⟩ := exS h; obtain ⟨b, rfl⟩ := ex1 h1; exact ⟨a, b, rfl⟩
theorem ex3 {Y : List V} (h : Y.length = 3) : ∃ a b c, Y = [a, b, c] := by
  obtain ⟨a, Y1, rfl, h1⟩ := exS h; obtain ⟨b, c, rfl⟩ := ex2 h1; exact ⟨a, b, c, rfl⟩
theorem ex4 {Y : List V} (h : Y.length = 4) : ∃ a b c d, Y = [a, b, c, d] := by
  obtain ⟨a, Y1, rfl, h1⟩ := exS h; obtain ⟨b, c, d, rfl⟩ := ex3 h1; exact ⟨a, b, c, d, rfl⟩
theorem ex5 {Y : List V} (h : Y.length = 5) : ∃ a b c d e, Y = [a, b, c, d, e] := by
  obtain ⟨a, Y1, rfl, h1⟩ := exS h; obtain ⟨b, c, d, e, rfl⟩ := ex4 h1; exact ⟨a, b, c, d, e, rfl⟩
theorem ex6 {Y : List V} (h : Y.length = 6) : ∃ a b c d e f, Y = [a, b, c, d, e, f] := by
  obtain ⟨a, Y1, rfl, h1⟩ := exS h; obtain ⟨b, c, d, e, f, rfl⟩ := ex5 h1; exact ⟨a, b, c, d, e, f, rfl⟩
theorem ex7 {Y : List V} (h : Y.length = 7) : ∃ a b c d e f g, Y = [a, b, c, d, e, f, g] := by
  obtain ⟨a, Y1, rfl, h1⟩ := exS h; obtain ⟨b, c, d, e, f, g, rfl⟩ := ex6 h1; exact ⟨a, b, c, d, e, f, g, rfl⟩
theorem wl : IntKind.i64.wrap 0 = 0 ∧ IntKind.i64.wrap 1 = 1 ∧ IntKind.i64.wrap 2 = 2 ∧ IntKind.i64.wrap 3 = 3 ∧ IntKind.i64.wrap 4 = 4 ∧ IntKind.i64.wrap 5 = 5 ∧ IntKind.i64.wrap 6 = 6 ∧ IntKind.i64.wrap 7 = 7 := by decide
theorem u32_self {w : Nat} (h : w < 10000000) : IntKind.u32.wrap (w : Int) = (w : Int) := wrap_u32 (by omega) (by omega)
theorem u32_dig {x : Nat} (h : x < 10) : IntKind.u32.wrap (48 + (x : Int)) = ((48 + x : Nat) : Int) := by rw [wrap_u32 (by omega) (by omega)]; omega
theorem u8_dig {x : Nat} (h : x < 10) : IntKind.u8.wrap ((48 + x : Nat) : Int) = ((UInt8.ofNat (48 + x)).toNat : Int) := by
  rw [wrap_u8 (by omega) (by omega), UInt8.toNat_ofNat']; omega
def inv10 (b o n cap : Nat) (A B : List V) (u j : Nat) (Y : List V) (σ : Store) : St :=
  ⟨[.raw (.slice (some ⟨b, o, none⟩) n cap), .int .u64 ((u / 10 ^ (8 * j) : Nat) : Int), .any, .any, .int .i64 (Y.length : Nat)] ++ List.replicate 162 .any, [], σ.set b (A ++ Y ++ dgV (digK (8 * j) u) ++ B)⟩
theorem tmod_nat (a b : Nat) : (a : Int).tmod (b : Int) = ((a % b : Nat) : Int) := by simp [Int.tmod_eq_emod_of_nonneg]
theorem tdiv_nat (a b : Nat) : (a : Int).tdiv (b : Int) = ((a / b : Nat) : Int) := by simp [Int.tdiv_eq_ediv_of_nonneg]
theorem sm_lo {L : List UInt8} (hL : L = smallsT) {m : Nat} (h : m < 100) : L[(((m * 2 + 1 : Nat) : Int)).toNat]? = some (UInt8.ofNat (48 + m % 10)) := by rw [hL, Int.toNat_natCast]; exact smalls_lo h
theorem sm_hi {L : List UInt8} (hL : L = smallsT) {m : Nat} (h : m < 100) : L[(((m * 2 : Nat) : Int)).toNat]? = some (UInt8.ofNat (48 + m / 10)) := by rw [hL, Int.toNat_natCast]; exact smalls_hi h
theorem u32_mod {m : Nat} : IntKind.u32.wrap ((m : Int).tmod 100 * 2) = ((m % 100 * 2 : Nat) : Int) := by
  rw [show ((m : Int).tmod 100) = ((m % 100 : Nat) : Int) from tmod_nat m 100, wrap_u32 (by omega) (by omega)]; omega
theorem u32_div {m : Nat} (h : m < 10000) : IntKind.u32.wrap (IntKind.u32.wrap ((m : Int).tdiv 100) * 2) = ((m / 100 * 2 : Nat) : Int) := by
  rw [show ((m : Int).tdiv 100) = ((m / 100 : Nat) : Int) from tdiv_nat m 100, wrap_u32 (x := ((m / 100 : Nat) : Int)) (by omega) (by omega), wrap_u32 (by omega) (by omega)]; omega
theorem u32_one {m : Nat} (h : m < 100) : IntKind.u32.wrap (((m * 2 : Nat) : Int) + 1) = ((m * 2 + 1 : Nat) : Int) := by
  rw [wrap_u32 (by omega) (by omega)]; omega
theorem u32_cut (w : Nat) : IntKind.u32.wrap ((w : Int).tmod 100000000) = ((w % 100000000 : Nat) : Int) := by
  rw [show ((w : Int).tmod 100000000) = ((w % 100000000 : Nat) : Int) from tmod_nat w 100000000, wrap_u32 (by omega) (by omega)]
theorem u64_next {w : Nat} (h : w < 2 ^ 64) : IntKind.u64.wrap ((w : Int).tdiv 100000000) = ((w / 100000000 : Nat) : Int) := by
  rw [show ((w : Int).tdiv 100000000) = ((w / 100000000 : Nat) : Int) from tdiv_nat w 100000000, wrap_u64 (by omega) (by omega)]
theorem u32_hi {x : Nat} (h : x < 4294967296) : IntKind.u32.wrap ((x : Int).tdiv 10000) = ((x / 10000 : Nat) : Int) := by
  rw [show ((x : Int).tdiv 10000) = ((x / 10000 : Nat) : Int) from tdiv_nat x 10000, wrap_u32 (by omega) (by omega)]
theorem t_lo (x : Nat) : (x : Int).tmod 10000 = ((x % 10000 : Nat) : Int) := tmod_nat x 10000
theorem u32_h100 {x : Nat} (h : x < 10000000) : IntKind.u32.wrap ((x : Int).tdiv 100) = ((x / 100 : Nat) : Int) := by
  rw [show ((x : Int).tdiv 100) = ((x / 100 : Nat) : Int) from tdiv_nat x 100, wrap_u32 (by omega) (by omega)]
theorem base10_calls {b o n cap : Nat} {A X0 B : List V} (u : Nat) {σ : Store} (hA : A.length = o) (hX : X0.length = n) (hbox : σ.box b = some (A ++ X0 ++ B)) (hn : n ≤ 20) (hu : u < 10 ^ n) (hu64 : u < 2 ^ 64) (hcap : n ≤ cap) :
    PCalls prog 56 [.raw (.slice (some ⟨b, o, none⟩) n cap), .int .u64 (u : Nat)] σ fun v σ' => v = .tup [] ∧ σ' = σ.set b (A ++ dgV (digK n u) ++ B) := by
  refine fn56.calls ?_
  simp only [slots, ac56, am, amo, amc, ams, Nat.reduceAdd, Nat.reduceEqDiff, decide_true, decide_false, Int.reduceEq, Int.reduceLT, Int.reduceLE, Nat.reduceLT, Int.reduceToNat, Nat.reduceMul, Int.reduceMul, Int.reduceAdd, Int.reduceSub, if_false, reduceCtorEq]
  simp only [am, amo, amc, Nat.reduceAdd, Nat.reduceEqDiff, encs_length, List.length_map, decide_true, decide_false, Int.reduceEq, Int.reduceLT, Int.reduceLE, Nat.reduceLT, Int.reduceToNat, Nat.reduceMul, Int.reduceMul, Int.reduceAdd, Int.reduceSub, if_false, reduceCtorEq, ami]
  refine vc_loop (fun p : { p : Nat × List V // p.2.length + 8 * p.1 = n } => inv10 b o n cap A B u p.1.1 p.1.2 σ) (fun p => p.1.2.length) ?_ ?_
  · refine Upd.enter ⟨(0, X0), by simp [hX]⟩ ?_ LLLe.rfl ?_
    · simp [inv10, List.replicate, am, hX]
    · have e : σ.set b (A ++ X0 ++ dgV (digK (8 * 0) u) ++ B) = σ := Store.set_id (by simpa [dgV, digK] using hbox)
      simp only [inv10, e]; exact OLe.rfl
  rintro ⟨⟨j, Y⟩, hj⟩
  simp only at hj
  simp only [inv10, List.replicate, am]
  by_cases h8 : 8 ≤ Y.length
  · have hle : u / 10 ^ (8 * j) < 2 ^ 64 := Nat.lt_of_le_of_lt (Nat.div_le_self _ _) hu64
    have hdg : digK (8 * (j + 1)) u = digK 2 (u / 10 ^ (8 * j) % 100000000 / 10000 / 100) ++ digK 2 (u / 10 ^ (8 * j) % 100000000 / 10000 % 100) ++ (digK 2 (u / 10 ^ (8 * j) % 100000000 % 10000 / 100) ++ digK 2 (u / 10 ^ (8 * j) % 100000000 % 10000 % 100)) ++ digK (8 * j) u := by
      rw [show 8 * (j + 1) = 8 + 8 * j by omega, digK_add, digK_eight, digK_four, digK_four]
      rw [Nat.mod_eq_of_lt (show u / 10 ^ (8 * j) % 100000000 / 10000 < 10000 by omega), Nat.mod_eq_of_lt (show u / 10 ^ (8 * j) % 100000000 % 10000 < 10000 by omega)]
    have hnx : u / 10 ^ (8 * (j + 1)) = u / 10 ^ (8 * j) / 100000000 := by
      rw [show 8 * (j + 1) = 8 * j + 8 by omega, Nat.pow_add, ← Nat.div_div_eq_div_mul]
    have again : ∀ (st : List V) (Y' : List V) (S : List V) (τ : Store), Y'.length + 8 = Y.length → S = dgV (digK (8 * (j + 1)) u) → LLe st (inv10 b o n cap A B u (j + 1) Y' σ).t → τ = σ.set b (A ++ Y' ++ S ++ B) →
        Upd ⟨st, [], τ⟩ fun st' => ∃ i : { p : Nat × List V // p.2.length + 8 * p.1 = n }, st' = inv10 b o n cap A B u i.1.1 i.1.2 σ ∧ i.1.2.length < Y.length := fun st Y' S τ h1 h2 h3 h4 => by
      subst h2; subst h4
      exact Upd.again (I := fun p : { p : Nat × List V // p.2.length + 8 * p.1 = n } => inv10 b o n cap A B u p.1.1 p.1.2 σ) (μ := fun p => p.1.2.length) ⟨(j + 1, Y'), by simp only; omega⟩ (by simp only; omega) h3 LLLe.rfl (by simp only [inv10]; exact OLe.rfl)
    generalize hw : u / 10 ^ (8 * j) = w at hle hdg hnx ⊢
    generalize digK (8 * j) u = D at hdg ⊢
    have hxl : w % 100000000 < 100000000 := by omega
    have ulo := @u32_div (w % 100000000 % 10000) (by omega)
    have uhi := @u32_div (w % 100000000 / 10000) (by omega)
    obtain ⟨M, hM⟩ : ∃ M, Y.length = M + 8 := ⟨Y.length - 8, by omega⟩
    obtain ⟨Y', p1, p2, p3, p4, p5, p6, p7, p8, hY, hl⟩ := last_eight hM
    have y1 : ∀ k : Nat, k ≤ 8 → IntKind.i64.wrap (((M + 8 : Nat) : Int) - k) = ((M + (8 - k) : Nat) : Int) := fun k hk => by rw [wrap_i64 (by omega) (by omega)]; omega
    have z1 := y1 1 (by omega); have z2 := y1 2 (by omega); have z3 := y1 3 (by omega); have z4 := y1 4 (by omega)
    have z5 := y1 5 (by omega); have z6 := y1 6 (by omega); have z7 := y1 7 (by omega); have z8 := y1 8 (by omega)
    simp only [Nat.reduceSub, Int.natCast_one, Int.cast_ofNat_Int] at z1 z2 z3 z4 z5 z6 z7 z8
    have hP : (A ++ Y').length = o + M := by rw [List.length_append]; omega
    rw [hM] at again ⊢
    rw [show A ++ Y ++ dgV D ++ B = (A ++ Y') ++ p1 :: p2 :: p3 :: p4 :: p5 :: p6 :: p7 :: p8 :: (dgV D ++ B) by rw [hY]; simp]
    simp only [am, amo, amc, Nat.reduceAdd, Nat.reduceEqDiff, encs_length, List.length_map, decide_true, decide_false, Int.reduceEq, Int.reduceLT, Int.reduceLE, Nat.reduceLT, Int.reduceToNat, Nat.reduceMul, Int.reduceMul, Int.reduceAdd, Int.reduceSub, if_false, reduceCtorEq, decide_eq_true (show (8 : Int) ≤ (M + 8 : Nat) by omega), ami, u32_cut, u64_next hle, u32_hi (show w % 100000000 < 4294967296 by omega), t_lo, u32_mod, ulo, uhi, u32_one (show w % 100000000 % 10000 % 100 < 100 by omega)]
    refine idxSL_intro (by omega) (sm_lo smallsT_eq.symm (by omega)) ?_
    simp only [am, amo, amc, Nat.reduceAdd, Nat.reduceEqDiff, encs_length, List.length_map, decide_true, decide_false, Int.reduceEq, Int.reduceLT, Int.reduceLE, Nat.reduceLT, Int.reduceToNat, Nat.reduceMul, Int.reduceMul, Int.reduceAdd, Int.reduceSub, if_false, reduceCtorEq]
    refine idxSL_intro (by omega) (sm_hi smallsT_eq.symm (by omega)) ?_
    simp only [am, amo, amc, Nat.reduceAdd, Nat.reduceEqDiff, encs_length, List.length_map, decide_true, decide_false, Int.reduceEq, Int.reduceLT, Int.reduceLE, Nat.reduceLT, Int.reduceToNat, Nat.reduceMul, Int.reduceMul, Int.reduceAdd, Int.reduceSub, if_false, reduceCtorEq, z1]
    refine idxL_raw (by omega) (by omega) ?_
    simp only [am, amo, amc, Nat.reduceAdd, Nat.reduceEqDiff, encs_length, List.length_map, decide_true, decide_false, Int.reduceEq, Int.reduceLT, Int.reduceLE, Nat.reduceLT, Int.reduceToNat, Nat.reduceMul, Int.reduceMul, Int.reduceAdd, Int.reduceSub, if_false, reduceCtorEq, Int.toNat_natCast, Nat.mul_one, set_app hP, drop_app hP, z2]
    refine idxL_raw (by omega) (by omega) ?_
    simp only [am, amo, amc, Nat.reduceAdd, Nat.reduceEqDiff, encs_length, List.length_map, decide_true, decide_false, Int.reduceEq, Int.reduceLT, Int.reduceLE, Nat.reduceLT, Int.reduceToNat, Nat.reduceMul, Int.reduceMul, Int.reduceAdd, Int.reduceSub, if_false, reduceCtorEq, Int.toNat_natCast, Nat.mul_one, set_app hP, drop_app hP, u32_one (show w % 100000000 % 10000 / 100 < 100 by omega)]
    refine idxSL_intro (by omega) (sm_lo smallsT_eq.symm (by omega)) ?_
    simp only [am, amo, amc, Nat.reduceAdd, Nat.reduceEqDiff, encs_length, List.length_map, decide_true, decide_false, Int.reduceEq, Int.reduceLT, Int.reduceLE, Nat.reduceLT, Int.reduceToNat, Nat.reduceMul, Int.reduceMul, Int.reduceAdd, Int.reduceSub, if_false, reduceCtorEq]
    refine idxSL_intro (by omega) (sm_hi smallsT_eq.symm (by omega)) ?_
    simp only [am, amo, amc, Nat.reduceAdd, Nat.reduceEqDiff, encs_length, List.length_map, decide_true, decide_false, Int.reduceEq, Int.reduceLT, Int.reduceLE, Nat.reduceLT, Int.reduceToNat, Nat.reduceMul, Int.reduceMul, Int.reduceAdd, Int.reduceSub, if_false, reduceCtorEq, z3]
    refine idxL_raw (by omega) (by omega) ?_
    simp only [am, amo, amc, Nat.reduceAdd, Nat.reduceEqDiff, encs_length, List.length_map, decide_true, decide_false, Int.reduceEq, Int.reduceLT, Int.reduceLE, Nat.reduceLT, Int.reduceToNat, Nat.reduceMul, Int.reduceMul, Int.reduceAdd, Int.reduceSub, if_false, reduceCtorEq, Int.toNat_natCast, Nat.mul_one, set_app hP, drop_app hP, z4]
    refine idxL_raw (by omega) (by omega) ?_
    simp only [am, amo, amc, Nat.reduceAdd, Nat.reduceEqDiff, encs_length, List.length_map, decide_true, decide_false, Int.reduceEq, Int.reduceLT, Int.reduceLE, Nat.reduceLT, Int.reduceToNat, Nat.reduceMul, Int.reduceMul, Int.reduceAdd, Int.reduceSub, if_false, reduceCtorEq, Int.toNat_natCast, Nat.mul_one, set_app hP, drop_app hP, u32_one (show w % 100000000 / 10000 % 100 < 100 by omega)]
    refine idxSL_intro (by omega) (sm_lo smallsT_eq.symm (by omega)) ?_
    simp only [am, amo, amc, Nat.reduceAdd, Nat.reduceEqDiff, encs_length, List.length_map, decide_true, decide_false, Int.reduceEq, Int.reduceLT, Int.reduceLE, Nat.reduceLT, Int.reduceToNat, Nat.reduceMul, Int.reduceMul, Int.reduceAdd, Int.reduceSub, if_false, reduceCtorEq]
    refine idxSL_intro (by omega) (sm_hi smallsT_eq.symm (by omega)) ?_
    simp only [am, amo, amc, Nat.reduceAdd, Nat.reduceEqDiff, encs_length, List.length_map, decide_true, decide_false, Int.reduceEq, Int.reduceLT, Int.reduceLE, Nat.reduceLT, Int.reduceToNat, Nat.reduceMul, Int.reduceMul, Int.reduceAdd, Int.reduceSub, if_false, reduceCtorEq, z5]
    refine idxL_raw (by omega) (by omega) ?_
    simp only [am, amo, amc, Nat.reduceAdd, Nat.reduceEqDiff, encs_length, List.length_map, decide_true, decide_false, Int.reduceEq, Int.reduceLT, Int.reduceLE, Nat.reduceLT, Int.reduceToNat, Nat.reduceMul, Int.reduceMul, Int.reduceAdd, Int.reduceSub, if_false, reduceCtorEq, Int.toNat_natCast, Nat.mul_one, set_app hP, drop_app hP, z6]
    refine idxL_raw (by omega) (by omega) ?_
    simp only [am, amo, amc, Nat.reduceAdd, Nat.reduceEqDiff, encs_length, List.length_map, decide_true, decide_false, Int.reduceEq, Int.reduceLT, Int.reduceLE, Nat.reduceLT, Int.reduceToNat, Nat.reduceMul, Int.reduceMul, Int.reduceAdd, Int.reduceSub, if_false, reduceCtorEq, Int.toNat_natCast, Nat.mul_one, set_app hP, drop_app hP, u32_one (show w % 100000000 / 10000 / 100 < 100 by omega)]
    refine idxSL_intro (by omega) (sm_lo smallsT_eq.symm (by omega)) ?_
    simp only [am, amo, amc, Nat.reduceAdd, Nat.reduceEqDiff, encs_length, List.length_map, decide_true, decide_false, Int.reduceEq, Int.reduceLT, Int.reduceLE, Nat.reduceLT, Int.reduceToNat, Nat.reduceMul, Int.reduceMul, Int.reduceAdd, Int.reduceSub, if_false, reduceCtorEq]
    refine idxSL_intro (by omega) (sm_hi smallsT_eq.symm (by omega)) ?_
    simp only [am, amo, amc, Nat.reduceAdd, Nat.reduceEqDiff, encs_length, List.length_map, decide_true, decide_false, Int.reduceEq, Int.reduceLT, Int.reduceLE, Nat.reduceLT, Int.reduceToNat, Nat.reduceMul, Int.reduceMul, Int.reduceAdd, Int.reduceSub, if_false, reduceCtorEq, z7]
    refine idxL_raw (by omega) (by omega) ?_
    simp only [am, amo, amc, Nat.reduceAdd, Nat.reduceEqDiff, encs_length, List.length_map, decide_true, decide_false, Int.reduceEq, Int.reduceLT, Int.reduceLE, Nat.reduceLT, Int.reduceToNat, Nat.reduceMul, Int.reduceMul, Int.reduceAdd, Int.reduceSub, if_false, reduceCtorEq, Int.toNat_natCast, Nat.mul_one, set_app hP, drop_app hP, z8]
    refine idxL_raw (by omega) (by omega) ?_
    simp only [am, amo, amc, Nat.reduceAdd, Nat.reduceEqDiff, encs_length, List.length_map, decide_true, decide_false, Int.reduceEq, Int.reduceLT, Int.reduceLE, Nat.reduceLT, Int.reduceToNat, Nat.reduceMul, Int.reduceMul, Int.reduceAdd, Int.reduceSub, if_false, reduceCtorEq, Int.toNat_natCast, Nat.mul_one, set_app0 hP, drop_app0 hP, z8]
    refine again _ Y' (dgV (digK 2 (w % 100000000 / 10000 / 100) ++ digK 2 (w % 100000000 / 10000 % 100) ++ (digK 2 (w % 100000000 % 10000 / 100) ++ digK 2 (w % 100000000 % 10000 % 100)) ++ D)) _ (by omega) (by rw [hdg]) ?_ ?_
    · simp only [inv10, List.replicate, hl, hnx, am]
    · simp only [digK_two, dgV, List.map_append, List.map_cons, List.map_nil, List.append_assoc, List.cons_append, List.nil_append]
      simp only [Nat.mod_mod, Nat.mod_eq_of_lt (show w % 100000000 / 10000 / 100 < 100 by omega), Nat.mod_eq_of_lt (show w % 100000000 % 10000 / 100 < 100 by omega)]
  · obtain ⟨M, hM⟩ : ∃ M, Y.length = M := ⟨_, rfl⟩
    have hdg : digK n u = digK M (u / 10 ^ (8 * j)) ++ digK (8 * j) u := by rw [← digK_add, ← hM, hj]
    have hlw : u / 10 ^ (8 * j) < 10 ^ M := by
      rw [Nat.div_lt_iff_lt_mul (Nat.pow_pos (by decide)), ← Nat.pow_add, ← hM, hj]; exact hu
    generalize u / 10 ^ (8 * j) = w at hlw hdg ⊢
    generalize digK (8 * j) u = D at hdg ⊢
    rw [hM] at h8 hj
    have hM8 : M < 8 := by omega
    rcases (show M = 0 ∨ M = 1 ∨ M = 2 ∨ M = 3 ∨ M = 4 ∨ M = 5 ∨ M = 6 ∨ M = 7 by omega) with rfl | rfl | rfl | rfl | rfl | rfl | rfl | rfl
    all_goals have hlw4 : w / 10000 < 10000000 := by omega
    all_goals have hlw0 : w < 10000000 := by omega
    all_goals have ulo := @u32_div (w % 10000) (by omega)
    -- tail
    · obtain rfl := ex0 hM
      rw [show A ++ [] ++ dgV D ++ B = A ++ (dgV D ++ B) by simp]
      rw [show ([] : List V).length = 0 from rfl]
      simp only [am, amo, amc, Nat.reduceAdd, Nat.reduceEqDiff, encs_length, List.length_map, decide_true, decide_false, Int.reduceEq, Int.reduceLT, Int.reduceLE, Nat.reduceLT, Int.reduceToNat, Nat.reduceMul, Int.reduceMul, Int.reduceAdd, Int.reduceSub, if_false, reduceCtorEq, ami, Int.cast_ofNat_Int, wl, Int.reduceToNat, Nat.mul_one, Nat.reduceMul, u32_self hlw0, t_lo, u32_mod, ulo, u32_hi (show w < 4294967296 by omega), u32_h100 hlw0, u32_h100 hlw4, set_o hA, drop_o hA, set_app0 hA, drop_app0 hA]
      refine retK_intro rfl (Store.sub_refl _) ⟨rfl, ?_⟩
      rw [hdg]
      simp only [digK, dgV, List.map_append, List.map_cons, List.map_nil, List.append_assoc, List.cons_append, List.nil_append, Nat.mod_mod, Nat.mod_eq_of_lt (show w % 10000 / 100 < 100 by omega)]
    · obtain ⟨p0, rfl⟩ := ex1 hM
      rw [show A ++ [p0] ++ dgV D ++ B = A ++ p0 :: (dgV D ++ B) by simp]
      rw [show ([p0] : List V).length = 1 from rfl]
      simp only [am, amo, amc, Nat.reduceAdd, Nat.reduceEqDiff, encs_length, List.length_map, decide_true, decide_false, Int.reduceEq, Int.reduceLT, Int.reduceLE, Nat.reduceLT, Int.reduceToNat, Nat.reduceMul, Int.reduceMul, Int.reduceAdd, Int.reduceSub, if_false, reduceCtorEq, ami, Int.cast_ofNat_Int, wl, Int.reduceToNat, Nat.mul_one, Nat.reduceMul, u32_self hlw0, t_lo, u32_mod, ulo, u32_hi (show w < 4294967296 by omega), u32_h100 hlw0, u32_h100 hlw4, set_o hA, drop_o hA, set_app0 hA, drop_app0 hA]
      refine idxL_raw (by omega) (by omega) ?_
      simp only [am, amo, amc, Nat.reduceAdd, Nat.reduceEqDiff, encs_length, List.length_map, decide_true, decide_false, Int.reduceEq, Int.reduceLT, Int.reduceLE, Nat.reduceLT, Int.reduceToNat, Nat.reduceMul, Int.reduceMul, Int.reduceAdd, Int.reduceSub, if_false, reduceCtorEq, ami, Int.cast_ofNat_Int, wl, Int.reduceToNat, Nat.mul_one, Nat.reduceMul, u32_self hlw0, t_lo, u32_mod, ulo, u32_hi (show w < 4294967296 by omega), u32_h100 hlw0, u32_h100 hlw4, set_o hA, drop_o hA, set_app0 hA, drop_app0 hA, u32_dig (show w < 10 by omega), u8_dig (show w < 10 by omega)]
      refine retK_intro rfl (Store.sub_refl _) ⟨rfl, ?_⟩
      rw [hdg]
      simp only [digK_one (show w < 10 by omega), dgV, List.map_append, List.map_cons, List.map_nil, List.append_assoc, List.cons_append, List.nil_append, Nat.mod_mod, Nat.mod_eq_of_lt (show w % 10000 / 100 < 100 by omega)]
    · obtain ⟨p0, p1, rfl⟩ := ex2 hM
      rw [show A ++ [p0, p1] ++ dgV D ++ B = A ++ p0 :: p1 :: (dgV D ++ B) by simp]
      rw [show ([p0, p1] : List V).length = 2 from rfl]
      simp only [am, amo, amc, Nat.reduceAdd, Nat.reduceEqDiff, encs_length, List.length_map, decide_true, decide_false, Int.reduceEq, Int.reduceLT, Int.reduceLE, Nat.reduceLT, Int.reduceToNat, Nat.reduceMul, Int.reduceMul, Int.reduceAdd, Int.reduceSub, if_false, reduceCtorEq, ami, Int.cast_ofNat_Int, wl, Int.reduceToNat, Nat.mul_one, Nat.reduceMul, u32_self hlw0, t_lo, u32_mod, ulo, u32_hi (show w < 4294967296 by omega), u32_h100 hlw0, u32_h100 hlw4, set_o hA, drop_o hA, set_app0 hA, drop_app0 hA]
      simp only [am, amo, amc, Nat.reduceAdd, Nat.reduceEqDiff, encs_length, List.length_map, decide_true, decide_false, Int.reduceEq, Int.reduceLT, Int.reduceLE, Nat.reduceLT, Int.reduceToNat, Nat.reduceMul, Int.reduceMul, Int.reduceAdd, Int.reduceSub, if_false, reduceCtorEq, u32_one (show w % 100 < 100 by omega)]
      refine idxSL_intro (by omega) (sm_lo smallsT_eq.symm (by omega)) ?_
      simp only [am, amo, amc, Nat.reduceAdd, Nat.reduceEqDiff, encs_length, List.length_map, decide_true, decide_false, Int.reduceEq, Int.reduceLT, Int.reduceLE, Nat.reduceLT, Int.reduceToNat, Nat.reduceMul, Int.reduceMul, Int.reduceAdd, Int.reduceSub, if_false, reduceCtorEq]
      refine idxSL_intro (by omega) (sm_hi smallsT_eq.symm (by omega)) ?_
      simp only [am, amo, amc, Nat.reduceAdd, Nat.reduceEqDiff, encs_length, List.length_map, decide_true, decide_false, Int.reduceEq, Int.reduceLT, Int.reduceLE, Nat.reduceLT, Int.reduceToNat, Nat.reduceMul, Int.reduceMul, Int.reduceAdd, Int.reduceSub, if_false, reduceCtorEq, wl]
      refine idxL_raw (by omega) (by omega) ?_
      simp only [am, amo, amc, Nat.reduceAdd, Nat.reduceEqDiff, encs_length, List.length_map, decide_true, decide_false, Int.reduceEq, Int.reduceLT, Int.reduceLE, Nat.reduceLT, Int.reduceToNat, Nat.reduceMul, Int.reduceMul, Int.reduceAdd, Int.reduceSub, if_false, reduceCtorEq, ami, Int.cast_ofNat_Int, wl, Int.reduceToNat, Nat.mul_one, Nat.reduceMul, u32_self hlw0, t_lo, u32_mod, ulo, u32_hi (show w < 4294967296 by omega), u32_h100 hlw0, u32_h100 hlw4, set_o hA, drop_o hA, set_app0 hA, drop_app0 hA]
      refine idxL_raw (by omega) (by omega) ?_
      simp only [am, amo, amc, Nat.reduceAdd, Nat.reduceEqDiff, encs_length, List.length_map, decide_true, decide_false, Int.reduceEq, Int.reduceLT, Int.reduceLE, Nat.reduceLT, Int.reduceToNat, Nat.reduceMul, Int.reduceMul, Int.reduceAdd, Int.reduceSub, if_false, reduceCtorEq, ami, Int.cast_ofNat_Int, wl, Int.reduceToNat, Nat.mul_one, Nat.reduceMul, u32_self hlw0, t_lo, u32_mod, ulo, u32_hi (show w < 4294967296 by omega), u32_h100 hlw0, u32_h100 hlw4, set_o hA, drop_o hA, set_app0 hA, drop_app0 hA]
      refine retK_intro rfl (Store.sub_refl _) ⟨rfl, ?_⟩
      rw [hdg]
      simp only [digK_two, dgV, List.map_append, List.map_cons, List.map_nil, List.append_assoc, List.cons_append, List.nil_append, Nat.mod_mod, Nat.mod_eq_of_lt (show w % 10000 / 100 < 100 by omega)]
    · obtain ⟨p0, p1, p2, rfl⟩ := ex3 hM
      rw [show A ++ [p0, p1, p2] ++ dgV D ++ B = A ++ p0 :: p1 :: p2 :: (dgV D ++ B) by simp]
      rw [show ([p0, p1, p2] : List V).length = 3 from rfl]
      simp only [am, amo, amc, Nat.reduceAdd, Nat.reduceEqDiff, encs_length, List.length_map, decide_true, decide_false, Int.reduceEq, Int.reduceLT, Int.reduceLE, Nat.reduceLT, Int.reduceToNat, Nat.reduceMul, Int.reduceMul, Int.reduceAdd, Int.reduceSub, if_false, reduceCtorEq, ami, Int.cast_ofNat_Int, wl, Int.reduceToNat, Nat.mul_one, Nat.reduceMul, u32_self hlw0, t_lo, u32_mod, ulo, u32_hi (show w < 4294967296 by omega), u32_h100 hlw0, u32_h100 hlw4, set_o hA, drop_o hA, set_app0 hA, drop_app0 hA]
      simp only [am, amo, amc, Nat.reduceAdd, Nat.reduceEqDiff, encs_length, List.length_map, decide_true, decide_false, Int.reduceEq, Int.reduceLT, Int.reduceLE, Nat.reduceLT, Int.reduceToNat, Nat.reduceMul, Int.reduceMul, Int.reduceAdd, Int.reduceSub, if_false, reduceCtorEq, u32_one (show w % 100 < 100 by omega)]
      refine idxSL_intro (by omega) (sm_lo smallsT_eq.symm (by omega)) ?_
      simp only [am, amo, amc, Nat.reduceAdd, Nat.reduceEqDiff, encs_length, List.length_map, decide_true, decide_false, Int.reduceEq, Int.reduceLT, Int.reduceLE, Nat.reduceLT, Int.reduceToNat, Nat.reduceMul, Int.reduceMul, Int.reduceAdd, Int.reduceSub, if_false, reduceCtorEq]
      refine idxSL_intro (by omega) (sm_hi smallsT_eq.symm (by omega)) ?_
      simp only [am, amo, amc, Nat.reduceAdd, Nat.reduceEqDiff, encs_length, List.length_map, decide_true, decide_false, Int.reduceEq, Int.reduceLT, Int.reduceLE, Nat.reduceLT, Int.reduceToNat, Nat.reduceMul, Int.reduceMul, Int.reduceAdd, Int.reduceSub, if_false, reduceCtorEq, wl]
      refine idxL_raw (by omega) (by omega) ?_
      simp only [am, amo, amc, Nat.reduceAdd, Nat.reduceEqDiff, encs_length, List.length_map, decide_true, decide_false, Int.reduceEq, Int.reduceLT, Int.reduceLE, Nat.reduceLT, Int.reduceToNat, Nat.reduceMul, Int.reduceMul, Int.reduceAdd, Int.reduceSub, if_false, reduceCtorEq, ami, Int.cast_ofNat_Int, wl, Int.reduceToNat, Nat.mul_one, Nat.reduceMul, u32_self hlw0, t_lo, u32_mod, ulo, u32_hi (show w < 4294967296 by omega), u32_h100 hlw0, u32_h100 hlw4, set_o hA, drop_o hA, set_app0 hA, drop_app0 hA]
      refine idxL_raw (by omega) (by omega) ?_
      simp only [am, amo, amc, Nat.reduceAdd, Nat.reduceEqDiff, encs_length, List.length_map, decide_true, decide_false, Int.reduceEq, Int.reduceLT, Int.reduceLE, Nat.reduceLT, Int.reduceToNat, Nat.reduceMul, Int.reduceMul, Int.reduceAdd, Int.reduceSub, if_false, reduceCtorEq, ami, Int.cast_ofNat_Int, wl, Int.reduceToNat, Nat.mul_one, Nat.reduceMul, u32_self hlw0, t_lo, u32_mod, ulo, u32_hi (show w < 4294967296 by omega), u32_h100 hlw0, u32_h100 hlw4, set_o hA, drop_o hA, set_app0 hA, drop_app0 hA]
      refine idxL_raw (by omega) (by omega) ?_
      simp only [am, amo, amc, Nat.reduceAdd, Nat.reduceEqDiff, encs_length, List.length_map, decide_true, decide_false, Int.reduceEq, Int.reduceLT, Int.reduceLE, Nat.reduceLT, Int.reduceToNat, Nat.reduceMul, Int.reduceMul, Int.reduceAdd, Int.reduceSub, if_false, reduceCtorEq, ami, Int.cast_ofNat_Int, wl, Int.reduceToNat, Nat.mul_one, Nat.reduceMul, u32_self hlw0, t_lo, u32_mod, ulo, u32_hi (show w < 4294967296 by omega), u32_h100 hlw0, u32_h100 hlw4, set_o hA, drop_o hA, set_app0 hA, drop_app0 hA, u32_dig (show w / 100 < 10 by omega), u8_dig (show w / 100 < 10 by omega)]
      refine retK_intro rfl (Store.sub_refl _) ⟨rfl, ?_⟩
      rw [hdg]
      simp only [show digK 3 w = digK (1 + 2) w from rfl, digK_add 1 2, digK_two, show (10:Nat)^2 = 100 by decide, digK_one (show w / 100 < 10 by omega), dgV, List.map_append, List.map_cons, List.map_nil, List.append_assoc, List.cons_append, List.nil_append, Nat.mod_mod, Nat.mod_eq_of_lt (show w % 10000 / 100 < 100 by omega)]
    · obtain ⟨p0, p1, p2, p3, rfl⟩ := ex4 hM
      rw [show A ++ [p0, p1, p2, p3] ++ dgV D ++ B = A ++ p0 :: p1 :: p2 :: p3 :: (dgV D ++ B) by simp]
      rw [show ([p0, p1, p2, p3] : List V).length = 4 from rfl]
      simp only [am, amo, amc, Nat.reduceAdd, Nat.reduceEqDiff, encs_length, List.length_map, decide_true, decide_false, Int.reduceEq, Int.reduceLT, Int.reduceLE, Nat.reduceLT, Int.reduceToNat, Nat.reduceMul, Int.reduceMul, Int.reduceAdd, Int.reduceSub, if_false, reduceCtorEq, ami, Int.cast_ofNat_Int, wl, Int.reduceToNat, Nat.mul_one, Nat.reduceMul, u32_self hlw0, t_lo, u32_mod, ulo, u32_hi (show w < 4294967296 by omega), u32_h100 hlw0, u32_h100 hlw4, set_o hA, drop_o hA, set_app0 hA, drop_app0 hA]
      simp only [am, amo, amc, Nat.reduceAdd, Nat.reduceEqDiff, encs_length, List.length_map, decide_true, decide_false, Int.reduceEq, Int.reduceLT, Int.reduceLE, Nat.reduceLT, Int.reduceToNat, Nat.reduceMul, Int.reduceMul, Int.reduceAdd, Int.reduceSub, if_false, reduceCtorEq, u32_one (show w % 10000 % 100 < 100 by omega)]
      refine idxSL_intro (by omega) (sm_lo smallsT_eq.symm (by omega)) ?_
      simp only [am, amo, amc, Nat.reduceAdd, Nat.reduceEqDiff, encs_length, List.length_map, decide_true, decide_false, Int.reduceEq, Int.reduceLT, Int.reduceLE, Nat.reduceLT, Int.reduceToNat, Nat.reduceMul, Int.reduceMul, Int.reduceAdd, Int.reduceSub, if_false, reduceCtorEq]
      refine idxSL_intro (by omega) (sm_hi smallsT_eq.symm (by omega)) ?_
      simp only [am, amo, amc, Nat.reduceAdd, Nat.reduceEqDiff, encs_length, List.length_map, decide_true, decide_false, Int.reduceEq, Int.reduceLT, Int.reduceLE, Nat.reduceLT, Int.reduceToNat, Nat.reduceMul, Int.reduceMul, Int.reduceAdd, Int.reduceSub, if_false, reduceCtorEq, wl]
      refine idxL_raw (by omega) (by omega) ?_
      simp only [am, amo, amc, Nat.reduceAdd, Nat.reduceEqDiff, encs_length, List.length_map, decide_true, decide_false, Int.reduceEq, Int.reduceLT, Int.reduceLE, Nat.reduceLT, Int.reduceToNat, Nat.reduceMul, Int.reduceMul, Int.reduceAdd, Int.reduceSub, if_false, reduceCtorEq, ami, Int.cast_ofNat_Int, wl, Int.reduceToNat, Nat.mul_one, Nat.reduceMul, u32_self hlw0, t_lo, u32_mod, ulo, u32_hi (show w < 4294967296 by omega), u32_h100 hlw0, u32_h100 hlw4, set_o hA, drop_o hA, set_app0 hA, drop_app0 hA]
      refine idxL_raw (by omega) (by omega) ?_
      simp only [am, amo, amc, Nat.reduceAdd, Nat.reduceEqDiff, encs_length, List.length_map, decide_true, decide_false, Int.reduceEq, Int.reduceLT, Int.reduceLE, Nat.reduceLT, Int.reduceToNat, Nat.reduceMul, Int.reduceMul, Int.reduceAdd, Int.reduceSub, if_false, reduceCtorEq, ami, Int.cast_ofNat_Int, wl, Int.reduceToNat, Nat.mul_one, Nat.reduceMul, u32_self hlw0, t_lo, u32_mod, ulo, u32_hi (show w < 4294967296 by omega), u32_h100 hlw0, u32_h100 hlw4, set_o hA, drop_o hA, set_app0 hA, drop_app0 hA]
      simp only [am, amo, amc, Nat.reduceAdd, Nat.reduceEqDiff, encs_length, List.length_map, decide_true, decide_false, Int.reduceEq, Int.reduceLT, Int.reduceLE, Nat.reduceLT, Int.reduceToNat, Nat.reduceMul, Int.reduceMul, Int.reduceAdd, Int.reduceSub, if_false, reduceCtorEq, u32_one (show w % 10000 / 100 < 100 by omega)]
      refine idxSL_intro (by omega) (sm_lo smallsT_eq.symm (by omega)) ?_
      simp only [am, amo, amc, Nat.reduceAdd, Nat.reduceEqDiff, encs_length, List.length_map, decide_true, decide_false, Int.reduceEq, Int.reduceLT, Int.reduceLE, Nat.reduceLT, Int.reduceToNat, Nat.reduceMul, Int.reduceMul, Int.reduceAdd, Int.reduceSub, if_false, reduceCtorEq]
      refine idxSL_intro (by omega) (sm_hi smallsT_eq.symm (by omega)) ?_
      simp only [am, amo, amc, Nat.reduceAdd, Nat.reduceEqDiff, encs_length, List.length_map, decide_true, decide_false, Int.reduceEq, Int.reduceLT, Int.reduceLE, Nat.reduceLT, Int.reduceToNat, Nat.reduceMul, Int.reduceMul, Int.reduceAdd, Int.reduceSub, if_false, reduceCtorEq, wl]
      refine idxL_raw (by omega) (by omega) ?_
      simp only [am, amo, amc, Nat.reduceAdd, Nat.reduceEqDiff, encs_length, List.length_map, decide_true, decide_false, Int.reduceEq, Int.reduceLT, Int.reduceLE, Nat.reduceLT, Int.reduceToNat, Nat.reduceMul, Int.reduceMul, Int.reduceAdd, Int.reduceSub, if_false, reduceCtorEq, ami, Int.cast_ofNat_Int, wl, Int.reduceToNat, Nat.mul_one, Nat.reduceMul, u32_self hlw0, t_lo, u32_mod, ulo, u32_hi (show w < 4294967296 by omega), u32_h100 hlw0, u32_h100 hlw4, set_o hA, drop_o hA, set_app0 hA, drop_app0 hA]
      refine idxL_raw (by omega) (by omega) ?_
      simp only [am, amo, amc, Nat.reduceAdd, Nat.reduceEqDiff, encs_length, List.length_map, decide_true, decide_false, Int.reduceEq, Int.reduceLT, Int.reduceLE, Nat.reduceLT, Int.reduceToNat, Nat.reduceMul, Int.reduceMul, Int.reduceAdd, Int.reduceSub, if_false, reduceCtorEq, ami, Int.cast_ofNat_Int, wl, Int.reduceToNat, Nat.mul_one, Nat.reduceMul, u32_self hlw0, t_lo, u32_mod, ulo, u32_hi (show w < 4294967296 by omega), u32_h100 hlw0, u32_h100 hlw4, set_o hA, drop_o hA, set_app0 hA, drop_app0 hA]
      refine retK_intro rfl (Store.sub_refl _) ⟨rfl, ?_⟩
      rw [hdg]
      simp only [digK_four, digK_two, dgV, List.map_append, List.map_cons, List.map_nil, List.append_assoc, List.cons_append, List.nil_append, Nat.mod_mod, Nat.mod_eq_of_lt (show w % 10000 / 100 < 100 by omega)]
    · obtain ⟨p0, p1, p2, p3, p4, rfl⟩ := ex5 hM
      rw [show A ++ [p0, p1, p2, p3, p4] ++ dgV D ++ B = A ++ p0 :: p1 :: p2 :: p3 :: p4 :: (dgV D ++ B) by simp]
      rw [show ([p0, p1, p2, p3, p4] : List V).length = 5 from rfl]
      simp only [am, amo, amc, Nat.reduceAdd, Nat.reduceEqDiff, encs_length, List.length_map, decide_true, decide_false, Int.reduceEq, Int.reduceLT, Int.reduceLE, Nat.reduceLT, Int.reduceToNat, Nat.reduceMul, Int.reduceMul, Int.reduceAdd, Int.reduceSub, if_false, reduceCtorEq, ami, Int.cast_ofNat_Int, wl, Int.reduceToNat, Nat.mul_one, Nat.reduceMul, u32_self hlw0, t_lo, u32_mod, ulo, u32_hi (show w < 4294967296 by omega), u32_h100 hlw0, u32_h100 hlw4, set_o hA, drop_o hA, set_app0 hA, drop_app0 hA]
      simp only [am, amo, amc, Nat.reduceAdd, Nat.reduceEqDiff, encs_length, List.length_map, decide_true, decide_false, Int.reduceEq, Int.reduceLT, Int.reduceLE, Nat.reduceLT, Int.reduceToNat, Nat.reduceMul, Int.reduceMul, Int.reduceAdd, Int.reduceSub, if_false, reduceCtorEq, u32_one (show w % 10000 % 100 < 100 by omega)]
      refine idxSL_intro (by omega) (sm_lo smallsT_eq.symm (by omega)) ?_
      simp only [am, amo, amc, Nat.reduceAdd, Nat.reduceEqDiff, encs_length, List.length_map, decide_true, decide_false, Int.reduceEq, Int.reduceLT, Int.reduceLE, Nat.reduceLT, Int.reduceToNat, Nat.reduceMul, Int.reduceMul, Int.reduceAdd, Int.reduceSub, if_false, reduceCtorEq]
      refine idxSL_intro (by omega) (sm_hi smallsT_eq.symm (by omega)) ?_
      simp only [am, amo, amc, Nat.reduceAdd, Nat.reduceEqDiff, encs_length, List.length_map, decide_true, decide_false, Int.reduceEq, Int.reduceLT, Int.reduceLE, Nat.reduceLT, Int.reduceToNat, Nat.reduceMul, Int.reduceMul, Int.reduceAdd, Int.reduceSub, if_false, reduceCtorEq, wl]
      refine idxL_raw (by omega) (by omega) ?_
      simp only [am, amo, amc, Nat.reduceAdd, Nat.reduceEqDiff, encs_length, List.length_map, decide_true, decide_false, Int.reduceEq, Int.reduceLT, Int.reduceLE, Nat.reduceLT, Int.reduceToNat, Nat.reduceMul, Int.reduceMul, Int.reduceAdd, Int.reduceSub, if_false, reduceCtorEq, ami, Int.cast_ofNat_Int, wl, Int.reduceToNat, Nat.mul_one, Nat.reduceMul, u32_self hlw0, t_lo, u32_mod, ulo, u32_hi (show w < 4294967296 by omega), u32_h100 hlw0, u32_h100 hlw4, set_o hA, drop_o hA, set_app0 hA, drop_app0 hA]
      refine idxL_raw (by omega) (by omega) ?_
      simp only [am, amo, amc, Nat.reduceAdd, Nat.reduceEqDiff, encs_length, List.length_map, decide_true, decide_false, Int.reduceEq, Int.reduceLT, Int.reduceLE, Nat.reduceLT, Int.reduceToNat, Nat.reduceMul, Int.reduceMul, Int.reduceAdd, Int.reduceSub, if_false, reduceCtorEq, ami, Int.cast_ofNat_Int, wl, Int.reduceToNat, Nat.mul_one, Nat.reduceMul, u32_self hlw0, t_lo, u32_mod, ulo, u32_hi (show w < 4294967296 by omega), u32_h100 hlw0, u32_h100 hlw4, set_o hA, drop_o hA, set_app0 hA, drop_app0 hA]
      simp only [am, amo, amc, Nat.reduceAdd, Nat.reduceEqDiff, encs_length, List.length_map, decide_true, decide_false, Int.reduceEq, Int.reduceLT, Int.reduceLE, Nat.reduceLT, Int.reduceToNat, Nat.reduceMul, Int.reduceMul, Int.reduceAdd, Int.reduceSub, if_false, reduceCtorEq, u32_one (show w % 10000 / 100 < 100 by omega)]
      refine idxSL_intro (by omega) (sm_lo smallsT_eq.symm (by omega)) ?_
      simp only [am, amo, amc, Nat.reduceAdd, Nat.reduceEqDiff, encs_length, List.length_map, decide_true, decide_false, Int.reduceEq, Int.reduceLT, Int.reduceLE, Nat.reduceLT, Int.reduceToNat, Nat.reduceMul, Int.reduceMul, Int.reduceAdd, Int.reduceSub, if_false, reduceCtorEq]
      refine idxSL_intro (by omega) (sm_hi smallsT_eq.symm (by omega)) ?_
      simp only [am, amo, amc, Nat.reduceAdd, Nat.reduceEqDiff, encs_length, List.length_map, decide_true, decide_false, Int.reduceEq, Int.reduceLT, Int.reduceLE, Nat.reduceLT, Int.reduceToNat, Nat.reduceMul, Int.reduceMul, Int.reduceAdd, Int.reduceSub, if_false, reduceCtorEq, wl]
      refine idxL_raw (by omega) (by omega) ?_
      simp only [am, amo, amc, Nat.reduceAdd, Nat.reduceEqDiff, encs_length, List.length_map, decide_true, decide_false, Int.reduceEq, Int.reduceLT, Int.reduceLE, Nat.reduceLT, Int.reduceToNat, Nat.reduceMul, Int.reduceMul, Int.reduceAdd, Int.reduceSub, if_false, reduceCtorEq, ami, Int.cast_ofNat_Int, wl, Int.reduceToNat, Nat.mul_one, Nat.reduceMul, u32_self hlw0, t_lo, u32_mod, ulo, u32_hi (show w < 4294967296 by omega), u32_h100 hlw0, u32_h100 hlw4, set_o hA, drop_o hA, set_app0 hA, drop_app0 hA]
      refine idxL_raw (by omega) (by omega) ?_
      simp only [am, amo, amc, Nat.reduceAdd, Nat.reduceEqDiff, encs_length, List.length_map, decide_true, decide_false, Int.reduceEq, Int.reduceLT, Int.reduceLE, Nat.reduceLT, Int.reduceToNat, Nat.reduceMul, Int.reduceMul, Int.reduceAdd, Int.reduceSub, if_false, reduceCtorEq, ami, Int.cast_ofNat_Int, wl, Int.reduceToNat, Nat.mul_one, Nat.reduceMul, u32_self hlw0, t_lo, u32_mod, ulo, u32_hi (show w < 4294967296 by omega), u32_h100 hlw0, u32_h100 hlw4, set_o hA, drop_o hA, set_app0 hA, drop_app0 hA]
      refine idxL_raw (by omega) (by omega) ?_
      simp only [am, amo, amc, Nat.reduceAdd, Nat.reduceEqDiff, encs_length, List.length_map, decide_true, decide_false, Int.reduceEq, Int.reduceLT, Int.reduceLE, Nat.reduceLT, Int.reduceToNat, Nat.reduceMul, Int.reduceMul, Int.reduceAdd, Int.reduceSub, if_false, reduceCtorEq, ami, Int.cast_ofNat_Int, wl, Int.reduceToNat, Nat.mul_one, Nat.reduceMul, u32_self hlw0, t_lo, u32_mod, ulo, u32_hi (show w < 4294967296 by omega), u32_h100 hlw0, u32_h100 hlw4, set_o hA, drop_o hA, set_app0 hA, drop_app0 hA, u32_dig (show w / 10000 < 10 by omega), u8_dig (show w / 10000 < 10 by omega)]
      refine retK_intro rfl (Store.sub_refl _) ⟨rfl, ?_⟩
      rw [hdg]
      simp only [show digK 5 w = digK (1 + 4) w from rfl, digK_add 1 4, show (10:Nat)^4 = 10000 by decide, digK_one (show w / 10000 < 10 by omega), digK_four, digK_two, dgV, List.map_append, List.map_cons, List.map_nil, List.append_assoc, List.cons_append, List.nil_append, Nat.mod_mod, Nat.mod_eq_of_lt (show w % 10000 / 100 < 100 by omega)]
    · obtain ⟨p0, p1, p2, p3, p4, p5, rfl⟩ := ex6 hM
      rw [show A ++ [p0, p1, p2, p3, p4, p5] ++ dgV D ++ B = A ++ p0 :: p1 :: p2 :: p3 :: p4 :: p5 :: (dgV D ++ B) by simp]
      rw [show ([p0, p1, p2, p3, p4, p5] : List V).length = 6 from rfl]
      simp only [am, amo, amc, Nat.reduceAdd, Nat.reduceEqDiff, encs_length, List.length_map, decide_true, decide_false, Int.reduceEq, Int.reduceLT, Int.reduceLE, Nat.reduceLT, Int.reduceToNat, Nat.reduceMul, Int.reduceMul, Int.reduceAdd, Int.reduceSub, if_false, reduceCtorEq, ami, Int.cast_ofNat_Int, wl, Int.reduceToNat, Nat.mul_one, Nat.reduceMul, u32_self hlw0, t_lo, u32_mod, ulo, u32_hi (show w < 4294967296 by omega), u32_h100 hlw0, u32_h100 hlw4, set_o hA, drop_o hA, set_app0 hA, drop_app0 hA]
      simp only [am, amo, amc, Nat.reduceAdd, Nat.reduceEqDiff, encs_length, List.length_map, decide_true, decide_false, Int.reduceEq, Int.reduceLT, Int.reduceLE, Nat.reduceLT, Int.reduceToNat, Nat.reduceMul, Int.reduceMul, Int.reduceAdd, Int.reduceSub, if_false, reduceCtorEq, u32_one (show w % 10000 % 100 < 100 by omega)]
      refine idxSL_intro (by omega) (sm_lo smallsT_eq.symm (by omega)) ?_
      simp only [am, amo, amc, Nat.reduceAdd, Nat.reduceEqDiff, encs_length, List.length_map, decide_true, decide_false, Int.reduceEq, Int.reduceLT, Int.reduceLE, Nat.reduceLT, Int.reduceToNat, Nat.reduceMul, Int.reduceMul, Int.reduceAdd, Int.reduceSub, if_false, reduceCtorEq]
      refine idxSL_intro (by omega) (sm_hi smallsT_eq.symm (by omega)) ?_
      simp only [am, amo, amc, Nat.reduceAdd, Nat.reduceEqDiff, encs_length, List.length_map, decide_true, decide_false, Int.reduceEq, Int.reduceLT, Int.reduceLE, Nat.reduceLT, Int.reduceToNat, Nat.reduceMul, Int.reduceMul, Int.reduceAdd, Int.reduceSub, if_false, reduceCtorEq, wl]
      refine idxL_raw (by omega) (by omega) ?_
      simp only [am, amo, amc, Nat.reduceAdd, Nat.reduceEqDiff, encs_length, List.length_map, decide_true, decide_false, Int.reduceEq, Int.reduceLT, Int.reduceLE, Nat.reduceLT, Int.reduceToNat, Nat.reduceMul, Int.reduceMul, Int.reduceAdd, Int.reduceSub, if_false, reduceCtorEq, ami, Int.cast_ofNat_Int, wl, Int.reduceToNat, Nat.mul_one, Nat.reduceMul, u32_self hlw0, t_lo, u32_mod, ulo, u32_hi (show w < 4294967296 by omega), u32_h100 hlw0, u32_h100 hlw4, set_o hA, drop_o hA, set_app0 hA, drop_app0 hA]
      refine idxL_raw (by omega) (by omega) ?_
      simp only [am, amo, amc, Nat.reduceAdd, Nat.reduceEqDiff, encs_length, List.length_map, decide_true, decide_false, Int.reduceEq, Int.reduceLT, Int.reduceLE, Nat.reduceLT, Int.reduceToNat, Nat.reduceMul, Int.reduceMul, Int.reduceAdd, Int.reduceSub, if_false, reduceCtorEq, ami, Int.cast_ofNat_Int, wl, Int.reduceToNat, Nat.mul_one, Nat.reduceMul, u32_self hlw0, t_lo, u32_mod, ulo, u32_hi (show w < 4294967296 by omega), u32_h100 hlw0, u32_h100 hlw4, set_o hA, drop_o hA, set_app0 hA, drop_app0 hA]
      simp only [am, amo, amc, Nat.reduceAdd, Nat.reduceEqDiff, encs_length, List.length_map, decide_true, decide_false, Int.reduceEq, Int.reduceLT, Int.reduceLE, Nat.reduceLT, Int.reduceToNat, Nat.reduceMul, Int.reduceMul, Int.reduceAdd, Int.reduceSub, if_false, reduceCtorEq, u32_one (show w % 10000 / 100 < 100 by omega)]
      refine idxSL_intro (by omega) (sm_lo smallsT_eq.symm (by omega)) ?_
      simp only [am, amo, amc, Nat.reduceAdd, Nat.reduceEqDiff, encs_length, List.length_map, decide_true, decide_false, Int.reduceEq, Int.reduceLT, Int.reduceLE, Nat.reduceLT, Int.reduceToNat, Nat.reduceMul, Int.reduceMul, Int.reduceAdd, Int.reduceSub, if_false, reduceCtorEq]
      refine idxSL_intro (by omega) (sm_hi smallsT_eq.symm (by omega)) ?_
      simp only [am, amo, amc, Nat.reduceAdd, Nat.reduceEqDiff, encs_length, List.length_map, decide_true, decide_false, Int.reduceEq, Int.reduceLT, Int.reduceLE, Nat.reduceLT, Int.reduceToNat, Nat.reduceMul, Int.reduceMul, Int.reduceAdd, Int.reduceSub, if_false, reduceCtorEq, wl]
      refine idxL_raw (by omega) (by omega) ?_
      simp only [am, amo, amc, Nat.reduceAdd, Nat.reduceEqDiff, encs_length, List.length_map, decide_true, decide_false, Int.reduceEq, Int.reduceLT, Int.reduceLE, Nat.reduceLT, Int.reduceToNat, Nat.reduceMul, Int.reduceMul, Int.reduceAdd, Int.reduceSub, if_false, reduceCtorEq, ami, Int.cast_ofNat_Int, wl, Int.reduceToNat, Nat.mul_one, Nat.reduceMul, u32_self hlw0, t_lo, u32_mod, ulo, u32_hi (show w < 4294967296 by omega), u32_h100 hlw0, u32_h100 hlw4, set_o hA, drop_o hA, set_app0 hA, drop_app0 hA]
      refine idxL_raw (by omega) (by omega) ?_
      simp only [am, amo, amc, Nat.reduceAdd, Nat.reduceEqDiff, encs_length, List.length_map, decide_true, decide_false, Int.reduceEq, Int.reduceLT, Int.reduceLE, Nat.reduceLT, Int.reduceToNat, Nat.reduceMul, Int.reduceMul, Int.reduceAdd, Int.reduceSub, if_false, reduceCtorEq, ami, Int.cast_ofNat_Int, wl, Int.reduceToNat, Nat.mul_one, Nat.reduceMul, u32_self hlw0, t_lo, u32_mod, ulo, u32_hi (show w < 4294967296 by omega), u32_h100 hlw0, u32_h100 hlw4, set_o hA, drop_o hA, set_app0 hA, drop_app0 hA]
      simp only [am, amo, amc, Nat.reduceAdd, Nat.reduceEqDiff, encs_length, List.length_map, decide_true, decide_false, Int.reduceEq, Int.reduceLT, Int.reduceLE, Nat.reduceLT, Int.reduceToNat, Nat.reduceMul, Int.reduceMul, Int.reduceAdd, Int.reduceSub, if_false, reduceCtorEq, u32_one (show w / 10000 % 100 < 100 by omega)]
      refine idxSL_intro (by omega) (sm_lo smallsT_eq.symm (by omega)) ?_
      simp only [am, amo, amc, Nat.reduceAdd, Nat.reduceEqDiff, encs_length, List.length_map, decide_true, decide_false, Int.reduceEq, Int.reduceLT, Int.reduceLE, Nat.reduceLT, Int.reduceToNat, Nat.reduceMul, Int.reduceMul, Int.reduceAdd, Int.reduceSub, if_false, reduceCtorEq]
      refine idxSL_intro (by omega) (sm_hi smallsT_eq.symm (by omega)) ?_
      simp only [am, amo, amc, Nat.reduceAdd, Nat.reduceEqDiff, encs_length, List.length_map, decide_true, decide_false, Int.reduceEq, Int.reduceLT, Int.reduceLE, Nat.reduceLT, Int.reduceToNat, Nat.reduceMul, Int.reduceMul, Int.reduceAdd, Int.reduceSub, if_false, reduceCtorEq, wl]
      refine idxL_raw (by omega) (by omega) ?_
      simp only [am, amo, amc, Nat.reduceAdd, Nat.reduceEqDiff, encs_length, List.length_map, decide_true, decide_false, Int.reduceEq, Int.reduceLT, Int.reduceLE, Nat.reduceLT, Int.reduceToNat, Nat.reduceMul, Int.reduceMul, Int.reduceAdd, Int.reduceSub, if_false, reduceCtorEq, ami, Int.cast_ofNat_Int, wl, Int.reduceToNat, Nat.mul_one, Nat.reduceMul, u32_self hlw0, t_lo, u32_mod, ulo, u32_hi (show w < 4294967296 by omega), u32_h100 hlw0, u32_h100 hlw4, set_o hA, drop_o hA, set_app0 hA, drop_app0 hA]
      refine idxL_raw (by omega) (by omega) ?_
      simp only [am, amo, amc, Nat.reduceAdd, Nat.reduceEqDiff, encs_length, List.length_map, decide_true, decide_false, Int.reduceEq, Int.reduceLT, Int.reduceLE, Nat.reduceLT, Int.reduceToNat, Nat.reduceMul, Int.reduceMul, Int.reduceAdd, Int.reduceSub, if_false, reduceCtorEq, ami, Int.cast_ofNat_Int, wl, Int.reduceToNat, Nat.mul_one, Nat.reduceMul, u32_self hlw0, t_lo, u32_mod, ulo, u32_hi (show w < 4294967296 by omega), u32_h100 hlw0, u32_h100 hlw4, set_o hA, drop_o hA, set_app0 hA, drop_app0 hA]
      refine retK_intro rfl (Store.sub_refl _) ⟨rfl, ?_⟩
      rw [hdg]
      simp only [show digK 6 w = digK (2 + 4) w from rfl, digK_add 2 4, show (10:Nat)^4 = 10000 by decide, digK_four, digK_two, dgV, List.map_append, List.map_cons, List.map_nil, List.append_assoc, List.cons_append, List.nil_append, Nat.mod_mod, Nat.mod_eq_of_lt (show w % 10000 / 100 < 100 by omega)]
    · obtain ⟨p0, p1, p2, p3, p4, p5, p6, rfl⟩ := ex7 hM
      rw [show A ++ [p0, p1, p2, p3, p4, p5, p6] ++ dgV D ++ B = A ++ p0 :: p1 :: p2 :: p3 :: p4 :: p5 :: p6 :: (dgV D ++ B) by simp]
      rw [show ([p0, p1, p2, p3, p4, p5, p6] : List V).length = 7 from rfl]
      simp only [am, amo, amc, Nat.reduceAdd, Nat.reduceEqDiff, encs_length, List.length_map, decide_true, decide_false, Int.reduceEq, Int.reduceLT, Int.reduceLE, Nat.reduceLT, Int.reduceToNat, Nat.reduceMul, Int.reduceMul, Int.reduceAdd, Int.reduceSub, if_false, reduceCtorEq, ami, Int.cast_ofNat_Int, wl, Int.reduceToNat, Nat.mul_one, Nat.reduceMul, u32_self hlw0, t_lo, u32_mod, ulo, u32_hi (show w < 4294967296 by omega), u32_h100 hlw0, u32_h100 hlw4, set_o hA, drop_o hA, set_app0 hA, drop_app0 hA]
      simp only [am, amo, amc, Nat.reduceAdd, Nat.reduceEqDiff, encs_length, List.length_map, decide_true, decide_false, Int.reduceEq, Int.reduceLT, Int.reduceLE, Nat.reduceLT, Int.reduceToNat, Nat.reduceMul, Int.reduceMul, Int.reduceAdd, Int.reduceSub, if_false, reduceCtorEq, u32_one (show w % 10000 % 100 < 100 by omega)]
      refine idxSL_intro (by omega) (sm_lo smallsT_eq.symm (by omega)) ?_
      simp only [am, amo, amc, Nat.reduceAdd, Nat.reduceEqDiff, encs_length, List.length_map, decide_true, decide_false, Int.reduceEq, Int.reduceLT, Int.reduceLE, Nat.reduceLT, Int.reduceToNat, Nat.reduceMul, Int.reduceMul, Int.reduceAdd, Int.reduceSub, if_false, reduceCtorEq]
      refine idxSL_intro (by omega) (sm_hi smallsT_eq.symm (by omega)) ?_
      simp only [am, amo, amc, Nat.reduceAdd, Nat.reduceEqDiff, encs_length, List.length_map, decide_true, decide_false, Int.reduceEq, Int.reduceLT, Int.reduceLE, Nat.reduceLT, Int.reduceToNat, Nat.reduceMul, Int.reduceMul, Int.reduceAdd, Int.reduceSub, if_false, reduceCtorEq, wl]
      refine idxL_raw (by omega) (by omega) ?_
      simp only [am, amo, amc, Nat.reduceAdd, Nat.reduceEqDiff, encs_length, List.length_map, decide_true, decide_false, Int.reduceEq, Int.reduceLT, Int.reduceLE, Nat.reduceLT, Int.reduceToNat, Nat.reduceMul, Int.reduceMul, Int.reduceAdd, Int.reduceSub, if_false, reduceCtorEq, ami, Int.cast_ofNat_Int, wl, Int.reduceToNat, Nat.mul_one, Nat.reduceMul, u32_self hlw0, t_lo, u32_mod, ulo, u32_hi (show w < 4294967296 by omega), u32_h100 hlw0, u32_h100 hlw4, set_o hA, drop_o hA, set_app0 hA, drop_app0 hA]
      refine idxL_raw (by omega) (by omega) ?_
      simp only [am, amo, amc, Nat.reduceAdd, Nat.reduceEqDiff, encs_length, List.length_map, decide_true, decide_false, Int.reduceEq, Int.reduceLT, Int.reduceLE, Nat.reduceLT, Int.reduceToNat, Nat.reduceMul, Int.reduceMul, Int.reduceAdd, Int.reduceSub, if_false, reduceCtorEq, ami, Int.cast_ofNat_Int, wl, Int.reduceToNat, Nat.mul_one, Nat.reduceMul, u32_self hlw0, t_lo, u32_mod, ulo, u32_hi (show w < 4294967296 by omega), u32_h100 hlw0, u32_h100 hlw4, set_o hA, drop_o hA, set_app0 hA, drop_app0 hA]
      simp only [am, amo, amc, Nat.reduceAdd, Nat.reduceEqDiff, encs_length, List.length_map, decide_true, decide_false, Int.reduceEq, Int.reduceLT, Int.reduceLE, Nat.reduceLT, Int.reduceToNat, Nat.reduceMul, Int.reduceMul, Int.reduceAdd, Int.reduceSub, if_false, reduceCtorEq, u32_one (show w % 10000 / 100 < 100 by omega)]
      refine idxSL_intro (by omega) (sm_lo smallsT_eq.symm (by omega)) ?_
      simp only [am, amo, amc, Nat.reduceAdd, Nat.reduceEqDiff, encs_length, List.length_map, decide_true, decide_false, Int.reduceEq, Int.reduceLT, Int.reduceLE, Nat.reduceLT, Int.reduceToNat, Nat.reduceMul, Int.reduceMul, Int.reduceAdd, Int.reduceSub, if_false, reduceCtorEq]
      refine idxSL_intro (by omega) (sm_hi smallsT_eq.symm (by omega)) ?_
      simp only [am, amo, amc, Nat.reduceAdd, Nat.reduceEqDiff, encs_length, List.length_map, decide_true, decide_false, Int.reduceEq, Int.reduceLT, Int.reduceLE, Nat.reduceLT, Int.reduceToNat, Nat.reduceMul, Int.reduceMul, Int.reduceAdd, Int.reduceSub, if_false, reduceCtorEq, wl]
      refine idxL_raw (by omega) (by omega) ?_
      simp only [am, amo, amc, Nat.reduceAdd, Nat.reduceEqDiff, encs_length, List.length_map, decide_true, decide_false, Int.reduceEq, Int.reduceLT, Int.reduceLE, Nat.reduceLT, Int.reduceToNat, Nat.reduceMul, Int.reduceMul, Int.reduceAdd, Int.reduceSub, if_false, reduceCtorEq, ami, Int.cast_ofNat_Int, wl, Int.reduceToNat, Nat.mul_one, Nat.reduceMul, u32_self hlw0, t_lo, u32_mod, ulo, u32_hi (show w < 4294967296 by omega), u32_h100 hlw0, u32_h100 hlw4, set_o hA, drop_o hA, set_app0 hA, drop_app0 hA]
      refine idxL_raw (by omega) (by omega) ?_
      simp only [am, amo, amc, Nat.reduceAdd, Nat.reduceEqDiff, encs_length, List.length_map, decide_true, decide_false, Int.reduceEq, Int.reduceLT, Int.reduceLE, Nat.reduceLT, Int.reduceToNat, Nat.reduceMul, Int.reduceMul, Int.reduceAdd, Int.reduceSub, if_false, reduceCtorEq, ami, Int.cast_ofNat_Int, wl, Int.reduceToNat, Nat.mul_one, Nat.reduceMul, u32_self hlw0, t_lo, u32_mod, ulo, u32_hi (show w < 4294967296 by omega), u32_h100 hlw0, u32_h100 hlw4, set_o hA, drop_o hA, set_app0 hA, drop_app0 hA]
      simp only [am, amo, amc, Nat.reduceAdd, Nat.reduceEqDiff, encs_length, List.length_map, decide_true, decide_false, Int.reduceEq, Int.reduceLT, Int.reduceLE, Nat.reduceLT, Int.reduceToNat, Nat.reduceMul, Int.reduceMul, Int.reduceAdd, Int.reduceSub, if_false, reduceCtorEq, u32_one (show w / 10000 % 100 < 100 by omega)]
      refine idxSL_intro (by omega) (sm_lo smallsT_eq.symm (by omega)) ?_
      simp only [am, amo, amc, Nat.reduceAdd, Nat.reduceEqDiff, encs_length, List.length_map, decide_true, decide_false, Int.reduceEq, Int.reduceLT, Int.reduceLE, Nat.reduceLT, Int.reduceToNat, Nat.reduceMul, Int.reduceMul, Int.reduceAdd, Int.reduceSub, if_false, reduceCtorEq]
      refine idxSL_intro (by omega) (sm_hi smallsT_eq.symm (by omega)) ?_
      simp only [am, amo, amc, Nat.reduceAdd, Nat.reduceEqDiff, encs_length, List.length_map, decide_true, decide_false, Int.reduceEq, Int.reduceLT, Int.reduceLE, Nat.reduceLT, Int.reduceToNat, Nat.reduceMul, Int.reduceMul, Int.reduceAdd, Int.reduceSub, if_false, reduceCtorEq, wl]
      refine idxL_raw (by omega) (by omega) ?_
      simp only [am, amo, amc, Nat.reduceAdd, Nat.reduceEqDiff, encs_length, List.length_map, decide_true, decide_false, Int.reduceEq, Int.reduceLT, Int.reduceLE, Nat.reduceLT, Int.reduceToNat, Nat.reduceMul, Int.reduceMul, Int.reduceAdd, Int.reduceSub, if_false, reduceCtorEq, ami, Int.cast_ofNat_Int, wl, Int.reduceToNat, Nat.mul_one, Nat.reduceMul, u32_self hlw0, t_lo, u32_mod, ulo, u32_hi (show w < 4294967296 by omega), u32_h100 hlw0, u32_h100 hlw4, set_o hA, drop_o hA, set_app0 hA, drop_app0 hA]
      refine idxL_raw (by omega) (by omega) ?_
      simp only [am, amo, amc, Nat.reduceAdd, Nat.reduceEqDiff, encs_length, List.length_map, decide_true, decide_false, Int.reduceEq, Int.reduceLT, Int.reduceLE, Nat.reduceLT, Int.reduceToNat, Nat.reduceMul, Int.reduceMul, Int.reduceAdd, Int.reduceSub, if_false, reduceCtorEq, ami, Int.cast_ofNat_Int, wl, Int.reduceToNat, Nat.mul_one, Nat.reduceMul, u32_self hlw0, t_lo, u32_mod, ulo, u32_hi (show w < 4294967296 by omega), u32_h100 hlw0, u32_h100 hlw4, set_o hA, drop_o hA, set_app0 hA, drop_app0 hA]
      refine idxL_raw (by omega) (by omega) ?_
      simp only [am, amo, amc, Nat.reduceAdd, Nat.reduceEqDiff, encs_length, List.length_map, decide_true, decide_false, Int.reduceEq, Int.reduceLT, Int.reduceLE, Nat.reduceLT, Int.reduceToNat, Nat.reduceMul, Int.reduceMul, Int.reduceAdd, Int.reduceSub, if_false, reduceCtorEq, ami, Int.cast_ofNat_Int, wl, Int.reduceToNat, Nat.mul_one, Nat.reduceMul, u32_self hlw0, t_lo, u32_mod, ulo, u32_hi (show w < 4294967296 by omega), u32_h100 hlw0, u32_h100 hlw4, set_o hA, drop_o hA, set_app0 hA, drop_app0 hA, u32_dig (show w / 10000 / 100 < 10 by omega), u8_dig (show w / 10000 / 100 < 10 by omega)]
      refine retK_intro rfl (Store.sub_refl _) ⟨rfl, ?_⟩
      rw [hdg]
      simp only [show digK 7 w = digK ((1 + 2) + 4) w from rfl, digK_add (1 + 2) 4, show (10:Nat)^4 = 10000 by decide, digK_add 1 2, show (10:Nat)^2 = 100 by decide, digK_one (show w / 10000 / 100 < 10 by omega), digK_four, digK_two, dgV, List.map_append, List.map_cons, List.map_nil, List.append_assoc, List.cons_append, List.nil_append, Nat.mod_mod, Nat.mod_eq_of_lt (show w % 10000 / 100 < 100 by omega)]
    -- end of tail
end Go.Proofs.Tryd

namespace Go.Proofs.Tryd
open Go.Am
set_option maxRecDepth 4000
set_option maxHeartbeats 4000000
def ac28 : AC := .seq (.reg [⟨(some 6), .mv (.c (.sl .full 1 [])), none⟩])
 (.seq (.reg [xm 7 0, xm 8 1, xm 9 2, xc 38 10 [.s 7, .s 8, .s 9], xm 6 10])
 (.ret))
theorem fn28 : IsFn prog 28 ac28 [.tmp 6] 11 := ⟨f28, ⟨[], []⟩, func28, by kernel_rfl, by kernel_rfl, by kernel_rfl, by kernel_rfl⟩
def ac29 : AC := .seq (.reg [⟨(some 2), .mv (.c (.str [])), none⟩])
 (.seq (.reg [xm 3 0, xc 39 4 [.s 3], xm 2 4])
 (.ret))
theorem fn29 : IsFn prog 29 ac29 [.tmp 2] 5 := ⟨f29, ⟨[], []⟩, func29, by kernel_rfl, by kernel_rfl, by kernel_rfl, by kernel_rfl⟩
def ac38 : AC := .seq (.reg [⟨(some 6), .mv (.c (.sl .full 1 [])), none⟩])
 (.seq (.reg [xm 8 1, ⟨(some 9), .cvI .u64 (.s 8), none⟩, xm 7 9])
 (.seq (.seq (.reg [xm 10 1, xB .lss 11 10 0])
 (.cond (.s 11) (.seq (.reg [xm 12 0, ⟨(some 13), .bslice 1 [(.c (.int .u8 45))], none⟩, ⟨(some 14), .own (.app 1) [(.s 12), (.s 13)], none⟩, xm 0 14])
 (.reg [xm 15 7, ⟨(some 16), .binI .sub (.c (.int .u64 0)) (.s 15), none⟩, xm 7 16]))
 (.skip)))
 (.seq (.reg [xm 17 0, xm 18 7, xm 19 2, xc 45 20 [.s 17, .s 18, .s 19], xm 6 20])
 (.ret))))
theorem fn38 : IsFn prog 38 ac38 [.tmp 6] 21 := ⟨f38, ⟨[14], []⟩, func38, by kernel_rfl, by kernel_rfl, by kernel_rfl, by kernel_rfl⟩
def ac39 : AC := .seq (.reg [⟨(some 2), .mv (.c (.str [])), none⟩])
 (.seq (.reg [xm 3 0, xc 46 4 [.s 3, .c (.int .i64 10)], xm 2 4])
 (.ret))
theorem fn39 : IsFn prog 39 ac39 [.tmp 2] 5 := ⟨f39, ⟨[], []⟩, func39, by kernel_rfl, by kernel_rfl, by kernel_rfl, by kernel_rfl⟩
def ac45 : AC := .seq (.reg [⟨(some 6), .mv (.c (.sl .full 1 [])), none⟩])
 (.seq (.seq (.reg [xm 9 2, xB .eql 10 9 10])
 (.cond (.s 10) (.seq (.seq (.reg [xm 11 1, ⟨(some 12), .binI .lss (.s 11) (.c (.int .u64 100)), none⟩])
 (.cond (.s 12) (.seq (.reg [xm 13 0, xm 14 1, ⟨(some 15), .cvI .i64 (.s 14), none⟩, xc 54 16 [.s 15], ⟨(some 17), .own .appS [(.s 13), (.s 16)], none⟩, xm 6 17])
 (.ret))
 (.skip)))
 (.seq (.reg [⟨(some 7), .allocO [(.int .u8 0), (.int .u8 0), (.int .u8 0), (.int .u8 0), (.int .u8 0), (.int .u8 0), (.int .u8 0), (.int .u8 0), (.int .u8 0), (.int .u8 0), (.int .u8 0), (.int .u8 0), (.int .u8 0), (.int .u8 0), (.int .u8 0), (.int .u8 0), (.int .u8 0), (.int .u8 0), (.int .u8 0), (.int .u8 0), (.int .u8 0), (.int .u8 0), (.int .u8 0), (.int .u8 0)], none⟩])
 (.seq (.reg [xm 18 1, xc 55 19 [.s 18], xm 8 19])
 (.seq (.reg [xm 20 8, ⟨(some 21), .own (.slcA 24 1 false true) [(.s 7), (.s 20)], none⟩, xm 22 1, xc 56 23 [.s 21, .s 22]])
 (.seq (.reg [xm 24 0, xm 25 8, ⟨(some 26), .own (.slcA 24 1 false true) [(.s 7), (.s 25)], none⟩, ⟨(some 27), .own .appR [(.s 24), (.s 26)], none⟩, xm 6 27])
 (.ret))))))
 (.skip)))
 (.seq (.reg [xm 29 0, xm 30 1, xm 31 2, xc 57 32 [.s 29, .s 30, .s 31, .c (.bool false), .c (.bool true)], xm 28 32, xe 33 28 0, xe 34 28 1, xm 0 33])
 (.seq (.reg [xm 35 0, xm 6 35])
 (.ret))))
theorem fn45 : IsFn prog 45 ac45 [.tmp 6] 36 := ⟨f45, ⟨[7, 100017, 100021, 100026, 100027], []⟩, func45, by kernel_rfl, by kernel_rfl, by kernel_rfl, by kernel_rfl⟩
def ac46 : AC := .seq (.reg [⟨(some 4), .mv (.c (.str [])), none⟩])
 (.seq (.seq (.reg [xm 10 1, xB .eql 11 10 10])
 (.cond (.s 11) (.seq (.seq (.reg [xm 12 0, ⟨(some 13), .binI .leq (.c (.int .i64 0)) (.s 12), none⟩, xm 14 13, xg 14 (xm 15 0), xg 14 (xB .lss 16 15 100), ⟨(some 17), .pick (.s 14) (.s 16) (.c (.bool false)), none⟩])
 (.cond (.s 17) (.seq (.reg [xm 18 0, xc 54 19 [.s 18], xm 4 19])
 (.ret))
 (.skip)))
 (.seq (.reg [⟨(some 5), .allocO [(.int .u8 0), (.int .u8 0), (.int .u8 0), (.int .u8 0), (.int .u8 0), (.int .u8 0), (.int .u8 0), (.int .u8 0), (.int .u8 0), (.int .u8 0), (.int .u8 0), (.int .u8 0), (.int .u8 0), (.int .u8 0), (.int .u8 0), (.int .u8 0), (.int .u8 0), (.int .u8 0), (.int .u8 0), (.int .u8 0), (.int .u8 0), (.int .u8 0), (.int .u8 0), (.int .u8 0)], none⟩])
 (.seq (.reg [xm 20 0, ⟨(some 21), .cvI .u64 (.s 20), none⟩, xm 6 21])
 (.seq (.seq (.reg [xm 22 0, xB .lss 23 22 0])
 (.cond (.s 23) (.reg [xm 24 6, ⟨(some 25), .binI .sub (.c (.int .u64 0)) (.s 24), none⟩, xm 6 25])
 (.skip)))
 (.seq (.reg [xm 26 6, xc 55 27 [.s 26], xm 7 27])
 (.seq (.reg [xm 28 7, ⟨(some 29), .binI .add (.c (.int .i64 1)) (.s 28), none⟩, ⟨(some 30), .own (.slcA 24 1 true true) [(.s 5), (.c (.int .i64 1)), (.s 29)], none⟩, xm 31 6, xc 56 32 [.s 30, .s 31]])
 (.seq (.seq (.reg [xm 33 0, xB .lss 34 33 0])
 (.cond (.s 34) (.seq (.reg [⟨(some 35), .idxP 24 1 (.s 5) (.c (.int .i64 0)), none⟩, ⟨none, .store 1 (.s 35) (.c (.int .u8 45)), none⟩])
 (.seq (.reg [xm 36 7, ⟨(some 37), .binI .add (.c (.int .i64 1)) (.s 36), none⟩, ⟨(some 38), .own (.slcA 24 1 false true) [(.s 5), (.s 37)], none⟩, ⟨(some 39), .own .cvR [(.s 38)], none⟩, xm 4 39])
 (.ret)))
 (.skip)))
 (.seq (.reg [xm 40 7, ⟨(some 41), .binI .add (.c (.int .i64 1)) (.s 40), none⟩, ⟨(some 42), .own (.slcA 24 1 true true) [(.s 5), (.c (.int .i64 1)), (.s 41)], none⟩, ⟨(some 43), .own .cvR [(.s 42)], none⟩, xm 4 43])
 (.ret)))))))))
 (.skip)))
 (.seq (.reg [xm 45 0, ⟨(some 46), .cvI .u64 (.s 45), none⟩, xm 47 1, xm 48 0, xB .lss 49 48 0, xc 57 50 [.c (.sl .full 1 []), .s 46, .s 47, .s 49, .c (.bool false)], xm 44 50, xe 51 44 0, xe 52 44 1, xm 8 51, xm 9 52])
 (.seq (.reg [xm 53 9, xm 4 53])
 (.ret))))
theorem fn46 : IsFn prog 46 ac46 [.tmp 4] 54 := ⟨f46, ⟨[5, 100030, 100038, 100039, 100042, 100043], []⟩, func46, by kernel_rfl, by kernel_rfl, by kernel_rfl, by kernel_rfl⟩
theorem wrap_nat {i : Int} (h0 : 0 ≤ i) (h : i < 2 ^ 63) : IntKind.u64.wrap i = (i.natAbs : Int) := by
  rw [wrap_u64 h0 (by omega)]; omega
theorem wrap_neg {i : Int} (h0 : i < 0) (h : -2 ^ 63 ≤ i) : IntKind.u64.wrap (0 - IntKind.u64.wrap i) = (i.natAbs : Int) := by
  simp only [IntKind.wrap, IntKind.bits, IntKind.signed]
  simp
  omega
theorem nd_64 {u : Nat} (h : u < 2 ^ 64) : 1 ≤ nd u ∧ nd u ≤ 20 ∧ u < 10 ^ nd u := by
  have hs := nd_spec (n := u) (Nat.lt_of_lt_of_le h (by decide))
  refine ⟨hs.1, ?_, hs.2.1⟩
  refine Nat.le_of_not_lt fun hc => ?_
  by_cases h0 : u = 0
  · subst h0; exact absurd hc (by decide +kernel)
  · have h1 := hs.2.2 h0
    have h2 : 10 ^ 20 ≤ 10 ^ (nd u - 1) := Nat.pow_le_pow_right (by decide) (by omega)
    have h3 : (2 : Nat) ^ 64 < 10 ^ 20 := by decide
    omega
def zero24 : List V := List.replicate 24 (.int .u8 0)
theorem dgV_len (s : List UInt8) : (dgV s).length = s.length := by simp [dgV]
theorem digN_eq (u : Nat) : digN u = digK (nd u) u := rfl
theorem digN_len (u : Nat) : (digN u).length = nd u := digK_len _ _
theorem raw_mid {σ : Store} {b : Nat} {A B : List V} {s : List UInt8} {n o : Nat} (hA : A.length = o) (hn : s.length = n) : rawText (σ.set b (A ++ dgV s ++ B)) (some ⟨b, o, none⟩) n s := by
  refine ⟨hn, .inr ⟨b, o, _, rfl, Store.set_same _ _ _, ?_⟩⟩
  subst hA; subst hn
  rw [List.append_assoc, List.drop_left, ← dgV_len s, List.take_left]
  rfl
theorem format_calls (i : Int) {σ : Store} (hg : σ.box 3 = some powCells) (h1 : -2 ^ 63 ≤ i) (h2 : i < 2 ^ 63) : PCalls prog 46 [.int .i64 i, .int .i64 10] σ fun v σ' => v = .str (numT i) ∧ σ' = σ := by
  refine fn46.calls ?_
  simp only [slots, ac46, am, amo, amc, ams, Nat.reduceAdd, Nat.reduceEqDiff, decide_true, decide_false, Int.reduceEq, Int.reduceLT, Int.reduceLE, Nat.reduceLT, Int.reduceToNat, Nat.reduceMul, Int.reduceMul, Int.reduceAdd, Int.reduceSub, if_false, reduceCtorEq]
  by_cases hs : 0 ≤ i ∧ i < 100
  · obtain ⟨n, rfl⟩ : ∃ n : Nat, i = n := ⟨i.toNat, by omega⟩
    simp only [am, amo, amc, Nat.reduceAdd, Nat.reduceEqDiff, encs_length, List.length_map, decide_true, decide_false, Int.reduceEq, Int.reduceLT, Int.reduceLE, Nat.reduceLT, Int.reduceToNat, Nat.reduceMul, Int.reduceMul, Int.reduceAdd, Int.reduceSub, if_false, reduceCtorEq, decide_eq_true hs.1, decide_eq_true hs.2]
    refine (small_calls n σ (by omega)).mono ?_
    rintro v σ' ⟨rfl, rfl⟩
    simp only [am, amo, amc, Nat.reduceAdd, Nat.reduceEqDiff, encs_length, List.length_map, decide_true, decide_false, Int.reduceEq, Int.reduceLT, Int.reduceLE, Nat.reduceLT, Int.reduceToNat, Nat.reduceMul, Int.reduceMul, Int.reduceAdd, Int.reduceSub, if_false, reduceCtorEq]
    refine retK_intro rfl (Store.sub_refl _) ⟨?_, rfl⟩
    simp only [numT, if_neg (show ¬ (n : Int) < 0 by omega), Int.natAbs_natCast]
    rfl
  · have hnz : i.natAbs ≠ 0 := by omega
    have hu : i.natAbs < 2 ^ 64 := by omega
    obtain ⟨n1, n2, n3⟩ := nd_64 hu
    have e1 : IntKind.i64.wrap (1 + (nd i.natAbs : Int)) = ((nd i.natAbs + 1 : Nat) : Int) := by rw [wrap_i64 (by omega) (by omega)]; omega
    have zs : zero24 = [.int .u8 0] ++ List.replicate (nd i.natAbs) (.int .u8 0) ++ List.replicate (23 - nd i.natAbs) (.int .u8 0) := by
      rw [List.append_assoc, List.replicate_append_replicate, show nd i.natAbs + (23 - nd i.natAbs) = 23 by omega]; rfl
    have e2 : ((nd i.natAbs + 1 : Nat) : Int).toNat - 1 = nd i.natAbs := by simp
    by_cases hneg : i < 0
    · simp only [am, amo, amc, Nat.reduceAdd, Nat.reduceEqDiff, encs_length, List.length_map, decide_true, decide_false, Int.reduceEq, Int.reduceLT, Int.reduceLE, Nat.reduceLT, Int.reduceToNat, Nat.reduceMul, Int.reduceMul, Int.reduceAdd, Int.reduceSub, if_false, reduceCtorEq, decide_eq_false (show ¬ 0 ≤ i by omega), decide_eq_true hneg, ami, wrap_neg hneg h1]
      refine kO_intro fun b hb => ?_
      simp only [am, amo, amc, Nat.reduceAdd, Nat.reduceEqDiff, encs_length, List.length_map, decide_true, decide_false, Int.reduceEq, Int.reduceLT, Int.reduceLE, Nat.reduceLT, Int.reduceToNat, Nat.reduceMul, Int.reduceMul, Int.reduceAdd, Int.reduceSub, if_false, reduceCtorEq, decide_eq_true hneg, ami, wrap_neg hneg h1]
      refine (numDigits_calls i.natAbs (set_new hb hg) hu hnz).mono ?_
      rintro _ _ ⟨rfl, rfl⟩
      simp only [am, amo, amc, Nat.reduceAdd, Nat.reduceEqDiff, encs_length, List.length_map, decide_true, decide_false, Int.reduceEq, Int.reduceLT, Int.reduceLE, Nat.reduceLT, Int.reduceToNat, Nat.reduceMul, Int.reduceMul, Int.reduceAdd, Int.reduceSub, if_false, reduceCtorEq, e1, o_own]
      refine slcA_both (by omega) (by omega) (by omega) (by omega) (by omega) ?_
      simp only [am, amo, amc, Nat.reduceAdd, Nat.reduceEqDiff, encs_length, List.length_map, decide_true, decide_false, Int.reduceEq, Int.reduceLT, Int.reduceLE, Nat.reduceLT, Int.reduceToNat, Nat.reduceMul, Int.reduceMul, Int.reduceAdd, Int.reduceSub, if_false, reduceCtorEq]
      refine (base10_calls (A := [.int .u8 0]) (X0 := List.replicate (nd i.natAbs) (.int .u8 0)) (B := List.replicate (23 - nd i.natAbs) (.int .u8 0)) i.natAbs rfl ?_ ?_ ?_ ?_ hu ?_).mono ?_
      · simp
      · rw [Store.set_same]; exact congrArg some zs
      · simp; omega
      · simpa using n3
      · simp; omega
      rintro _ _ ⟨rfl, rfl⟩
      simp only [am, amo, amc, Nat.reduceAdd, Nat.reduceEqDiff, encs_length, List.length_map, decide_true, decide_false, Int.reduceEq, Int.reduceLT, Int.reduceLE, Nat.reduceLT, Int.reduceToNat, Nat.reduceMul, Int.reduceMul, Int.reduceAdd, Int.reduceSub, if_false, reduceCtorEq, decide_eq_true hneg, amc]
      refine idxPL_ptr (by omega) (by omega) ?_
      simp only [am, amo, amc, Nat.reduceAdd, Nat.reduceEqDiff, encs_length, List.length_map, decide_true, decide_false, Int.reduceEq, Int.reduceLT, Int.reduceLE, Nat.reduceLT, Int.reduceToNat, Nat.reduceMul, Int.reduceMul, Int.reduceAdd, Int.reduceSub, if_false, reduceCtorEq, o_own, e1]
      refine slcA_hi (by omega) (by omega) (by omega) ?_
      simp only [am, amo, amc, Nat.reduceAdd, Nat.reduceEqDiff, encs_length, List.length_map, decide_true, decide_false, Int.reduceEq, Int.reduceLT, Int.reduceLE, Nat.reduceLT, Int.reduceToNat, Nat.reduceMul, Int.reduceMul, Int.reduceAdd, Int.reduceSub, if_false, reduceCtorEq, o_own]
      rw [e2, Int.toNat_natCast]
      refine cvR_intro (s := 45 :: digN i.natAbs) (raw_mid (A := []) (o := 0) (s := 45 :: digN i.natAbs) rfl (by simp [digN_len])) ?_
      simp only [am, amo, amc, Nat.reduceAdd, Nat.reduceEqDiff, encs_length, List.length_map, decide_true, decide_false, Int.reduceEq, Int.reduceLT, Int.reduceLE, Nat.reduceLT, Int.reduceToNat, Nat.reduceMul, Int.reduceMul, Int.reduceAdd, Int.reduceSub, if_false, reduceCtorEq]
      refine retK_intro rfl (sub_set hb) ⟨?_, rfl⟩
      rw [numT, if_pos hneg]; rfl
    · simp only [am, amo, amc, Nat.reduceAdd, Nat.reduceEqDiff, encs_length, List.length_map, decide_true, decide_false, Int.reduceEq, Int.reduceLT, Int.reduceLE, Nat.reduceLT, Int.reduceToNat, Nat.reduceMul, Int.reduceMul, Int.reduceAdd, Int.reduceSub, if_false, reduceCtorEq, decide_eq_true (show 0 ≤ i by omega), decide_eq_false (show ¬ i < 100 by omega), decide_eq_false hneg, ami, wrap_nat (show 0 ≤ i by omega) h2]
      refine kO_intro fun b hb => ?_
      simp only [am, amo, amc, Nat.reduceAdd, Nat.reduceEqDiff, encs_length, List.length_map, decide_true, decide_false, Int.reduceEq, Int.reduceLT, Int.reduceLE, Nat.reduceLT, Int.reduceToNat, Nat.reduceMul, Int.reduceMul, Int.reduceAdd, Int.reduceSub, if_false, reduceCtorEq, decide_eq_false hneg, ami, wrap_nat (show 0 ≤ i by omega) h2]
      refine (numDigits_calls i.natAbs (set_new hb hg) hu hnz).mono ?_
      rintro _ _ ⟨rfl, rfl⟩
      simp only [am, amo, amc, Nat.reduceAdd, Nat.reduceEqDiff, encs_length, List.length_map, decide_true, decide_false, Int.reduceEq, Int.reduceLT, Int.reduceLE, Nat.reduceLT, Int.reduceToNat, Nat.reduceMul, Int.reduceMul, Int.reduceAdd, Int.reduceSub, if_false, reduceCtorEq, e1, o_own]
      refine slcA_both (by omega) (by omega) (by omega) (by omega) (by omega) ?_
      simp only [am, amo, amc, Nat.reduceAdd, Nat.reduceEqDiff, encs_length, List.length_map, decide_true, decide_false, Int.reduceEq, Int.reduceLT, Int.reduceLE, Nat.reduceLT, Int.reduceToNat, Nat.reduceMul, Int.reduceMul, Int.reduceAdd, Int.reduceSub, if_false, reduceCtorEq]
      refine (base10_calls (A := [.int .u8 0]) (X0 := List.replicate (nd i.natAbs) (.int .u8 0)) (B := List.replicate (23 - nd i.natAbs) (.int .u8 0)) i.natAbs rfl ?_ ?_ ?_ ?_ hu ?_).mono ?_
      · simp
      · rw [Store.set_same]; exact congrArg some zs
      · simp; omega
      · simpa using n3
      · simp; omega
      rintro _ _ ⟨rfl, rfl⟩
      simp only [am, amo, amc, Nat.reduceAdd, Nat.reduceEqDiff, encs_length, List.length_map, decide_true, decide_false, Int.reduceEq, Int.reduceLT, Int.reduceLE, Nat.reduceLT, Int.reduceToNat, Nat.reduceMul, Int.reduceMul, Int.reduceAdd, Int.reduceSub, if_false, reduceCtorEq, decide_eq_false hneg, e1, o_own]
      refine slcA_both (by omega) (by omega) (by omega) (by omega) (by omega) ?_
      simp only [am, amo, amc, Nat.reduceAdd, Nat.reduceEqDiff, encs_length, List.length_map, decide_true, decide_false, Int.reduceEq, Int.reduceLT, Int.reduceLE, Nat.reduceLT, Int.reduceToNat, Nat.reduceMul, Int.reduceMul, Int.reduceAdd, Int.reduceSub, if_false, reduceCtorEq, o_own]
      rw [e2]
      refine cvR_intro (s := digN i.natAbs) (raw_mid (A := [.int .u8 0]) (o := 1) (s := digN i.natAbs) rfl (by simp [digN_len])) ?_
      simp only [am, amo, amc, Nat.reduceAdd, Nat.reduceEqDiff, encs_length, List.length_map, decide_true, decide_false, Int.reduceEq, Int.reduceLT, Int.reduceLE, Nat.reduceLT, Int.reduceToNat, Nat.reduceMul, Int.reduceMul, Int.reduceAdd, Int.reduceSub, if_false, reduceCtorEq]
      refine retK_intro rfl (sub_set hb) ⟨?_, rfl⟩
      rw [numT, if_neg hneg]; rfl
theorem itoa1_calls (i : Int) {σ : Store} (hg : σ.box 3 = some powCells) (h1 : -2 ^ 63 ≤ i) (h2 : i < 2 ^ 63) : PCalls prog 39 [.int .i64 i] σ fun v σ' => v = .str (numT i) ∧ σ' = σ := by
  refine fn39.calls ?_
  simp only [slots, ac39, am, amo, amc, ams, Nat.reduceAdd, Nat.reduceEqDiff, decide_true, decide_false, Int.reduceEq, Int.reduceLT, Int.reduceLE, Nat.reduceLT, Int.reduceToNat, Nat.reduceMul, Int.reduceMul, Int.reduceAdd, Int.reduceSub, if_false, reduceCtorEq]
  refine (format_calls i hg h1 h2).mono ?_
  rintro _ _ ⟨rfl, rfl⟩
  simp only [am, amo, amc, Nat.reduceAdd, Nat.reduceEqDiff, encs_length, List.length_map, decide_true, decide_false, Int.reduceEq, Int.reduceLT, Int.reduceLE, Nat.reduceLT, Int.reduceToNat, Nat.reduceMul, Int.reduceMul, Int.reduceAdd, Int.reduceSub, if_false, reduceCtorEq]
  refine retK_intro rfl (Store.sub_refl _) ⟨?_, rfl⟩
  simp [V.erase, eraseL]
theorem itoa_calls (i : Int) {σ : Store} (hg : σ.box 3 = some powCells) (h1 : -2 ^ 63 ≤ i) (h2 : i < 2 ^ 63) : PCalls prog 29 [.int .i64 i] σ fun v σ' => v = .str (numT i) ∧ σ' = σ := by
  refine fn29.calls ?_
  simp only [slots, ac29, am, amo, amc, ams, Nat.reduceAdd, Nat.reduceEqDiff, decide_true, decide_false, Int.reduceEq, Int.reduceLT, Int.reduceLE, Nat.reduceLT, Int.reduceToNat, Nat.reduceMul, Int.reduceMul, Int.reduceAdd, Int.reduceSub, if_false, reduceCtorEq]
  refine (itoa1_calls i hg h1 h2).mono ?_
  rintro _ _ ⟨rfl, rfl⟩
  simp only [am, amo, amc, Nat.reduceAdd, Nat.reduceEqDiff, encs_length, List.length_map, decide_true, decide_false, Int.reduceEq, Int.reduceLT, Int.reduceLE, Nat.reduceLT, Int.reduceToNat, Nat.reduceMul, Int.reduceMul, Int.reduceAdd, Int.reduceSub, if_false, reduceCtorEq]
  refine retK_intro rfl (Store.sub_refl _) ⟨?_, rfl⟩
  simp [V.erase, eraseL]
theorem Own.nol {k : Nat} {σ : Store} {v : V} {rows : List (List V)} (h : Own σ k v rows) : v.nol = true := by
  obtain ⟨a, cap, rfl, _⟩ := h; rfl
theorem Own.set {k c : Nat} {σ : Store} {v : V} {rows : List (List V)} {cs : List V} (h : Own σ k v rows) (hc : σ.box c = none) : Own (σ.set c cs) k v rows := by
  obtain ⟨a, cap, h1, h2, h3, h4⟩ := h
  refine ⟨a, cap, h1, h2, h3, ?_⟩
  rcases h4 with h4 | ⟨b, ds, h5, h6, h7⟩
  · exact .inl h4
  · exact .inr ⟨b, ds, h5, set_new hc h6, h7⟩
theorem OwnF.of_set {c : Nat} {σ σ' : Store} {v v' : V} {cs : List V} (h : OwnF (σ.set c cs) v σ' v') (hc : σ.box c = none) : OwnF σ v σ' v' := by
  refine ⟨fun b ds hb hne => h.keep b ds (set_new hc hb) hne, h.tip, fun b hb => ?_⟩
  rcases h.new b hb with e | e
  · exact .inl e
  · by_cases hbc : b = c
    · subst hbc; exact .inr hc
    · rw [Store.set_other _ _ hbc] at e; exact .inr e
theorem OwnF.trans {σ σ' σ'' : Store} {v v' v'' : V} (h : OwnF σ v σ' v') (h' : OwnF σ' v' σ'' v'') : OwnF σ v σ'' v'' := by
  refine ⟨fun b ds hb hne => ?_, h'.tip.trans h.tip, fun b hb => ?_⟩
  · refine h'.keep b ds (h.keep b ds hb hne) (fun e => ?_)
    rcases h.new b e with e | e
    · exact hne e
    · rw [e] at hb; simp at hb
  · rcases h'.new b hb with e | e
    · exact h.new b e
    · by_cases hv : ownB v = some b
      · exact .inl hv
      · cases hq : σ.box b with
        | none => exact .inr rfl
        | some ds => rw [h.keep b ds hq hv] at e; simp at e
theorem apuint_calls (u : Nat) {σ : Store} {v : V} {rows : List (List V)} (ho : Own σ 1 v rows) (hl : rows.length + 20 ≤ big) (hg : σ.box 3 = some powCells) (hu : u < 2 ^ 64) : PCalls prog 45 [v, .int .u64 (u : Nat), .int .i64 10] σ fun v' σ' => Own σ' 1 v' (rows ++ encB (digN u)) ∧ OwnF σ v σ' v' := by
  refine fn45.calls ?_
  simp only [slots, ac45, am, amo, amc, ams, Nat.reduceAdd, Nat.reduceEqDiff, decide_true, decide_false, Int.reduceEq, Int.reduceLT, Int.reduceLE, Nat.reduceLT, Int.reduceToNat, Nat.reduceMul, Int.reduceMul, Int.reduceAdd, Int.reduceSub, if_false, reduceCtorEq]
  obtain ⟨n1, n2, n3⟩ := nd_64 hu
  by_cases hs : u < 100
  · simp only [am, amo, amc, Nat.reduceAdd, Nat.reduceEqDiff, encs_length, List.length_map, decide_true, decide_false, Int.reduceEq, Int.reduceLT, Int.reduceLE, Nat.reduceLT, Int.reduceToNat, Nat.reduceMul, Int.reduceMul, Int.reduceAdd, Int.reduceSub, if_false, reduceCtorEq, decide_eq_true (show (u : Int) < 100 by omega), wrap_i64 (x := (u : Int)) (by omega) (by omega)]
    refine (small_calls u σ hs).mono ?_
    rintro _ _ ⟨rfl, rfl⟩
    simp only [am, amo, amc, Nat.reduceAdd, Nat.reduceEqDiff, encs_length, List.length_map, decide_true, decide_false, Int.reduceEq, Int.reduceLT, Int.reduceLE, Nat.reduceLT, Int.reduceToNat, Nat.reduceMul, Int.reduceMul, Int.reduceAdd, Int.reduceSub, if_false, reduceCtorEq, o_own]
    refine ho.appS (by rw [digN_len]; omega) fun v' σ' h1 h2 => ?_
    simp only [am, amo, amc, Nat.reduceAdd, Nat.reduceEqDiff, encs_length, List.length_map, decide_true, decide_false, Int.reduceEq, Int.reduceLT, Int.reduceLE, Nat.reduceLT, Int.reduceToNat, Nat.reduceMul, Int.reduceMul, Int.reduceAdd, Int.reduceSub, if_false, reduceCtorEq]
    obtain ⟨a, cap, rfl, _⟩ := id h1
    exact retK_intro rfl (Store.sub_refl _) ⟨h1, h2⟩
  · have hnz : u ≠ 0 := by omega
    have zs : zero24 = [] ++ List.replicate (nd u) (.int .u8 0) ++ List.replicate (24 - nd u) (.int .u8 0) := by
      rw [List.nil_append, List.replicate_append_replicate, show nd u + (24 - nd u) = 24 by omega]; rfl
    simp only [am, amo, amc, Nat.reduceAdd, Nat.reduceEqDiff, encs_length, List.length_map, decide_true, decide_false, Int.reduceEq, Int.reduceLT, Int.reduceLE, Nat.reduceLT, Int.reduceToNat, Nat.reduceMul, Int.reduceMul, Int.reduceAdd, Int.reduceSub, if_false, reduceCtorEq, decide_eq_false (show ¬ (u : Int) < 100 by omega)]
    refine kO_intro fun b hb => ?_
    simp only [am, amo, amc, Nat.reduceAdd, Nat.reduceEqDiff, encs_length, List.length_map, decide_true, decide_false, Int.reduceEq, Int.reduceLT, Int.reduceLE, Nat.reduceLT, Int.reduceToNat, Nat.reduceMul, Int.reduceMul, Int.reduceAdd, Int.reduceSub, if_false, reduceCtorEq]
    refine (numDigits_calls u (set_new hb hg) hu hnz).mono ?_
    rintro _ _ ⟨rfl, rfl⟩
    simp only [am, amo, amc, Nat.reduceAdd, Nat.reduceEqDiff, encs_length, List.length_map, decide_true, decide_false, Int.reduceEq, Int.reduceLT, Int.reduceLE, Nat.reduceLT, Int.reduceToNat, Nat.reduceMul, Int.reduceMul, Int.reduceAdd, Int.reduceSub, if_false, reduceCtorEq, o_own]
    refine slcA_hi (by omega) (by omega) (by omega) ?_
    simp only [am, amo, amc, Nat.reduceAdd, Nat.reduceEqDiff, encs_length, List.length_map, decide_true, decide_false, Int.reduceEq, Int.reduceLT, Int.reduceLE, Nat.reduceLT, Int.reduceToNat, Nat.reduceMul, Int.reduceMul, Int.reduceAdd, Int.reduceSub, if_false, reduceCtorEq]
    refine (base10_calls (A := []) (X0 := List.replicate (nd u) (.int .u8 0)) (B := List.replicate (24 - nd u) (.int .u8 0)) u rfl ?_ ?_ ?_ ?_ hu ?_).mono ?_
    · simp
    · rw [Store.set_same]; exact congrArg some zs
    · simp; omega
    · simpa using n3
    · simp; omega
    rintro _ _ ⟨rfl, rfl⟩
    simp only [am, amo, amc, Nat.reduceAdd, Nat.reduceEqDiff, encs_length, List.length_map, decide_true, decide_false, Int.reduceEq, Int.reduceLT, Int.reduceLE, Nat.reduceLT, Int.reduceToNat, Nat.reduceMul, Int.reduceMul, Int.reduceAdd, Int.reduceSub, if_false, reduceCtorEq, o_own]
    refine slcA_hi (by omega) (by omega) (by omega) ?_
    simp only [am, amo, amc, Nat.reduceAdd, Nat.reduceEqDiff, encs_length, List.length_map, decide_true, decide_false, Int.reduceEq, Int.reduceLT, Int.reduceLE, Nat.reduceLT, Int.reduceToNat, Nat.reduceMul, Int.reduceMul, Int.reduceAdd, Int.reduceSub, if_false, reduceCtorEq, o_own]
    rw [Int.toNat_natCast]
    refine (Own.set ho hb).appR (s := digN u) (raw_mid (A := []) (o := 0) (s := digN u) rfl (by simp [digN_len])) (by rw [digN_len]; omega) fun v' σ' h1 h2 => ?_
    simp only [am, amo, amc, Nat.reduceAdd, Nat.reduceEqDiff, encs_length, List.length_map, decide_true, decide_false, Int.reduceEq, Int.reduceLT, Int.reduceLE, Nat.reduceLT, Int.reduceToNat, Nat.reduceMul, Int.reduceMul, Int.reduceAdd, Int.reduceSub, if_false, reduceCtorEq]
    obtain ⟨a, cap, rfl, _⟩ := id h1
    exact retK_intro rfl (Store.sub_refl _) ⟨h1, OwnF.of_set h2 hb⟩
theorem apint1_calls (i : Int) {σ : Store} {v : V} {rows : List (List V)} (ho : Own σ 1 v rows) (hl : rows.length + 21 ≤ big) (hg : σ.box 3 = some powCells) (hn : ownB v ≠ some 3) (h1 : -2 ^ 63 ≤ i) (h2 : i < 2 ^ 63) : PCalls prog 38 [v, .int .i64 i, .int .i64 10] σ fun v' σ' => Own σ' 1 v' (rows ++ encB (numT i)) ∧ OwnF σ v σ' v' := by
  refine fn38.calls ?_
  simp only [slots, ac38, am, amo, amc, ams, Nat.reduceAdd, Nat.reduceEqDiff, decide_true, decide_false, Int.reduceEq, Int.reduceLT, Int.reduceLE, Nat.reduceLT, Int.reduceToNat, Nat.reduceMul, Int.reduceMul, Int.reduceAdd, Int.reduceSub, if_false, reduceCtorEq]
  by_cases hneg : i < 0
  · simp only [am, amo, amc, Nat.reduceAdd, Nat.reduceEqDiff, encs_length, List.length_map, decide_true, decide_false, Int.reduceEq, Int.reduceLT, Int.reduceLE, Nat.reduceLT, Int.reduceToNat, Nat.reduceMul, Int.reduceMul, Int.reduceAdd, Int.reduceSub, if_false, reduceCtorEq, decide_eq_true hneg, ami, o_own]
    refine (ho.app (m := [[.int .u8 45]]) (tk := _) (by simp) rfl (by simp; omega) fun v' σ' e1 e2 => ?_)
    simp only [am, amo, amc, Nat.reduceAdd, Nat.reduceEqDiff, encs_length, List.length_map, decide_true, decide_false, Int.reduceEq, Int.reduceLT, Int.reduceLE, Nat.reduceLT, Int.reduceToNat, Nat.reduceMul, Int.reduceMul, Int.reduceAdd, Int.reduceSub, if_false, reduceCtorEq, ami, wrap_neg hneg h1]
    refine ⟨Own.nol e1, (apuint_calls i.natAbs e1 (by simp; omega) (e2.keep _ _ hg hn) (by omega)).mono ?_⟩
    rintro v'' σ'' ⟨e3, e4⟩
    simp only [am, amo, amc, Nat.reduceAdd, Nat.reduceEqDiff, encs_length, List.length_map, decide_true, decide_false, Int.reduceEq, Int.reduceLT, Int.reduceLE, Nat.reduceLT, Int.reduceToNat, Nat.reduceMul, Int.reduceMul, Int.reduceAdd, Int.reduceSub, if_false, reduceCtorEq]
    obtain ⟨a, cap, rfl, _⟩ := id e3
    refine retK_intro rfl (Store.sub_refl _) ⟨?_, OwnF.trans e2 e4⟩
    rw [numT, if_pos hneg]
    have e5 : rows ++ [[.int .u8 45]] ++ encB (digN i.natAbs) = rows ++ encB (45 :: digN i.natAbs) := by simp [encB]
    rw [← e5]; exact e3
  · simp only [am, amo, amc, Nat.reduceAdd, Nat.reduceEqDiff, encs_length, List.length_map, decide_true, decide_false, Int.reduceEq, Int.reduceLT, Int.reduceLE, Nat.reduceLT, Int.reduceToNat, Nat.reduceMul, Int.reduceMul, Int.reduceAdd, Int.reduceSub, if_false, reduceCtorEq, decide_eq_false hneg, ami, wrap_nat (show 0 ≤ i by omega) h2]
    refine ⟨Own.nol ho, (apuint_calls i.natAbs ho (by omega) hg (by omega)).mono ?_⟩
    rintro v'' σ'' ⟨e3, e4⟩
    simp only [am, amo, amc, Nat.reduceAdd, Nat.reduceEqDiff, encs_length, List.length_map, decide_true, decide_false, Int.reduceEq, Int.reduceLT, Int.reduceLE, Nat.reduceLT, Int.reduceToNat, Nat.reduceMul, Int.reduceMul, Int.reduceAdd, Int.reduceSub, if_false, reduceCtorEq]
    obtain ⟨a, cap, rfl, _⟩ := id e3
    refine retK_intro rfl (Store.sub_refl _) ⟨?_, e4⟩
    rw [numT, if_neg hneg]
    exact e3
theorem apint_calls (i : Int) {σ : Store} {v : V} {rows : List (List V)} (ho : Own σ 1 v rows) (hl : rows.length + 21 ≤ big) (hg : σ.box 3 = some powCells) (hn : ownB v ≠ some 3) (h1 : -2 ^ 63 ≤ i) (h2 : i < 2 ^ 63) : PCalls prog 28 [v, .int .i64 i, .int .i64 10] σ fun v' σ' => Own σ' 1 v' (rows ++ encB (numT i)) ∧ OwnF σ v σ' v' := by
  refine fn28.calls ?_
  simp only [slots, ac28, am, amo, amc, ams, Nat.reduceAdd, Nat.reduceEqDiff, decide_true, decide_false, Int.reduceEq, Int.reduceLT, Int.reduceLE, Nat.reduceLT, Int.reduceToNat, Nat.reduceMul, Int.reduceMul, Int.reduceAdd, Int.reduceSub, if_false, reduceCtorEq]
  refine ⟨Own.nol ho, (apint1_calls i ho hl hg hn h1 h2).mono ?_⟩
  rintro v'' σ'' ⟨e3, e4⟩
  simp only [am, amo, amc, Nat.reduceAdd, Nat.reduceEqDiff, encs_length, List.length_map, decide_true, decide_false, Int.reduceEq, Int.reduceLT, Int.reduceLE, Nat.reduceLT, Int.reduceToNat, Nat.reduceMul, Int.reduceMul, Int.reduceAdd, Int.reduceSub, if_false, reduceCtorEq]
  obtain ⟨a, cap, rfl, _⟩ := id e3
  exact retK_intro rfl (Store.sub_refl _) ⟨e3, e4⟩
end Go.Proofs.Tryd

namespace Go.Proofs.Tryd
open Go.Am
set_option maxRecDepth 4000
set_option maxHeartbeats 4000000
def ac13 : AC := .seq (.reg [⟨(some 2), .mv (.c (.str [])), none⟩])
 (.seq (.seq (.reg [xm 3 0, xB .lss 4 3 1, xm 5 4, xh 5 (xm 6 0), xh 5 (xB .gtr 7 6 8), ⟨(some 8), .pick (.s 5) (.c (.bool true)) (.s 7), none⟩])
 (.cond (.s 8) (.seq (.reg [⟨(some 2), .mv (.c (.str [])), none⟩])
 (.ret))
 (.skip)))
 (.seq (.reg [xm 9 0, ⟨(some 10), .idxP 9 1 (.c (.ptr (.out 1) 0)) (.s 9), none⟩, xo 11 10, xm 2 11])
 (.ret)))
theorem fn13 : IsFn prog 13 ac13 [.tmp 2] 12 := ⟨f13, ⟨[], []⟩, func13, by kernel_rfl, by kernel_rfl, by kernel_rfl, by kernel_rfl⟩
def ac14 : AC := .seq (.reg [⟨(some 2), .mv (.c (.str [])), none⟩])
 (.seq (.reg [⟨(some 4), .bslice 1 [(.c (.str [])), (.c (.str [108, 101, 120])), (.c (.str [102, 111, 114, 109])), (.c (.str [110, 97, 109, 101])), (.c (.str [115, 111, 114, 116])), (.c (.str [111, 114, 100, 101, 114])), (.c (.str [100, 101, 102, 105, 110, 105, 116, 101])), (.c (.str [108, 105, 109, 105, 116])), (.c (.str [102, 114, 97, 109, 101]))], none⟩, xm 3 4])
 (.seq (.seq (.reg [xm 5 0, xB .lss 6 5 0, xm 7 6, xh 7 (xm 8 0), xh 7 (xB .gtr 9 8 8), ⟨(some 10), .pick (.s 7) (.c (.bool true)) (.s 9), none⟩])
 (.cond (.s 10) (.seq (.reg [⟨(some 2), .mv (.c (.str [])), none⟩])
 (.ret))
 (.skip)))
 (.seq (.reg [xm 11 3, xm 12 0, xA 1 13 11 12, xo 14 13, xm 2 14])
 (.ret))))
theorem fn14 : IsFn prog 14 ac14 [.tmp 2] 15 := ⟨f14, ⟨[], []⟩, func14, by kernel_rfl, by kernel_rfl, by kernel_rfl, by kernel_rfl⟩
def ac18 : AC := .seq (.reg [⟨(some 2), .mv (.c (.str [])), none⟩])
 (.seq (.reg [⟨(some 3), .own .nil [], none⟩])
 (.seq (.seq (.reg [xm 6 0, xL 7 6, xi 8 0])
 (.block 0 (.loop (.seq (.reg [xb .lss 9 8 7])
 (.seq (.cond (.s 9) (.skip)
 (.exit 0))
 (.seq (.block 1 (.seq (.reg [xA 1 10 6 8, xo 11 10, xm 5 11])
 (.seq (.reg [xm 12 3, ⟨(some 13), .bslice 1 [(.c (.int .u8 32))], none⟩, ⟨(some 14), .own (.app 1) [(.s 12), (.s 13)], none⟩, xm 3 14])
 (.reg [xm 15 3, xm 16 5, xc 28 17 [.s 15, .s 16, .c (.int .i64 10)], xm 3 17]))))
 (.reg [xB .add 18 8 1, xm 8 18])))))))
 (.seq (.reg [xm 19 3, ⟨(some 20), .own .cvR [(.s 19)], none⟩, xm 2 20])
 (.ret))))
theorem fn18 : IsFn prog 18 ac18 [.tmp 2] 21 := ⟨f18, ⟨[3, 14, 100020], []⟩, func18, by kernel_rfl, by kernel_rfl, by kernel_rfl, by kernel_rfl⟩
def ac19 : AC := .seq (.reg [⟨(some 1), .box 6 (.s 0), none⟩, ⟨(some 2), .mv (.c (.str [])), none⟩])
 (.seq (.reg [⟨(some 3), .mv (.c (.str [32])), none⟩])
 (.seq (.seq (.reg [xf 3 4 1, xo 5 4, xB .gtr 6 5 0])
 (.cond (.s 6) (.reg [xm 7 3, xf 3 8 1, xo 9 8, xc 29 10 [.s 9], ⟨(some 11), .cat (.c (.str [108, 105, 110, 101, 32])) (.s 10), none⟩, ⟨(some 12), .cat (.s 11) (.c (.str [32])), none⟩, ⟨(some 13), .cat (.s 7) (.s 12), none⟩, xm 3 13])
 (.skip)))
 (.seq (.draw [(xm 14 3, []), (xf 4 15 1, []), (xo 16 15, []), (xc 13 17 [.s 16], []), (⟨(some 18), .cat (.s 14) (.s 17), none⟩, []), (⟨(some 19), .cat (.s 18) (.c (.str [32])), none⟩, []), (xf 5 20 1, []), (xo 21 20, [0]), (xc 29 22 [.s 21], []), (⟨(some 23), .cat (.s 19) (.s 22), none⟩, []), (xm 2 23, [])])
 (.ret))))
theorem fn19 : IsFn prog 19 ac19 [.tmp 2] 24 := ⟨f19, ⟨[], []⟩, func19, by kernel_rfl, by kernel_rfl, by kernel_rfl, by kernel_rfl⟩
def ac21 : AC := .seq (.reg [⟨(some 2), .mv (.c (.str [])), none⟩])
 (.seq (.seq (.reg [xm 6 0, xB .eql 7 6 0])
 (.cond (.s 7) (.seq (.reg [⟨(some 2), .mv (.c (.str [48])), none⟩])
 (.ret))
 (.skip)))
 (.seq (.reg [⟨(some 3), .mv (.c (.str [])), none⟩])
 (.seq (.reg [xm 8 0, xB .lss 9 8 0, xm 4 9])
 (.seq (.block 0 (.loop (.seq (.seq (.reg [xm 10 0, xB .neq 11 10 0])
 (.cond (.s 11) (.skip)
 (.exit 0)))
 (.block 1 (.seq (.reg [xm 12 0, xB .rem 13 12 10, xm 5 13])
 (.seq (.seq (.reg [xm 14 5, xB .lss 15 14 0])
 (.cond (.s 15) (.reg [xm 16 5, ⟨(some 17), .binI .sub (.c (.int .i64 0)) (.s 16), none⟩, xm 5 17])
 (.skip)))
 (.seq (.reg [xm 18 5, ⟨(some 19), .binI .add (.c (.int .i64 48)) (.s 18), none⟩, ⟨(some 20), .cvI .u8 (.s 19), none⟩, ⟨(some 21), .bslice 1 [(.s 20)], none⟩, ⟨(some 22), .cvBS (.s 21), none⟩, xm 23 3, ⟨(some 24), .cat (.s 22) (.s 23), none⟩, xm 3 24])
 (.reg [xm 25 0, xB .quo 26 25 10, xm 0 26]))))))))
 (.seq (.seq (.reg [xm 27 4])
 (.cond (.s 27) (.seq (.reg [xm 28 3, ⟨(some 29), .cat (.c (.str [45])) (.s 28), none⟩, xm 2 29])
 (.ret))
 (.skip)))
 (.seq (.reg [xm 30 3, xm 2 30])
 (.ret)))))))
theorem fn21 : IsFn prog 21 ac21 [.tmp 2] 31 := ⟨f21, ⟨[], []⟩, func21, by kernel_rfl, by kernel_rfl, by kernel_rfl, by kernel_rfl⟩
def iCells (l : List Int) : List (List V) := l.map fun n => [.int .i64 n]
def Iok (n : Int) : Prop := -2 ^ 63 ≤ n ∧ n < 2 ^ 63
theorem iCells_len (l : List Int) : (iCells l).length = l.length := by simp [iCells]
theorem iCells_at {l : List Int} {j : Nat} (h : j < l.length) : (iCells l)[((j : Nat) : Int).toNat]? = some [.int .i64 l[j]] := by simp [iCells, h]
theorem numT_len {n : Int} (h : Iok n) : (numT n).length ≤ 20 := by
  have hu : n.natAbs < 10 ^ 19 := by have := h.1; have := h.2; omega
  have hs := nd_spec (n := n.natAbs) (by omega)
  have h19 : nd n.natAbs ≤ 19 := by
    refine Nat.le_of_not_lt fun hc => ?_
    by_cases h0 : n.natAbs = 0
    · rw [h0] at hc; exact absurd hc (by decide +kernel)
    · have h1 := hs.2.2 h0
      have h2 : 10 ^ 19 ≤ 10 ^ (nd n.natAbs - 1) := Nat.pow_le_pow_right (by decide) (by omega)
      omega
  unfold numT
  split <;> simp only [List.length_cons, digN_len] <;> omega
theorem listT_len : ∀ {l : List Int}, (∀ n ∈ l, Iok n) → (listT l).length ≤ 21 * l.length
  | [], _ => by simp [listT]
  | n :: l, h => by
    have h1 := listT_len (l := l) fun m hm => h m (by simp [hm])
    have h2 := numT_len (h n (by simp))
    simp only [listT, List.flatMap_cons, List.length_append, List.length_cons] at h1 ⊢
    omega
theorem listT_take {l : List Int} {i : Nat} (h : i < l.length) : listT (l.take (i + 1)) = listT (l.take i) ++ 32 :: numT l[i] := by
  rw [List.take_succ_eq_append_getElem h]; simp only [listT, List.flatMap_append, List.flatMap_cons, List.flatMap_nil, List.append_nil]
theorem encB_app (s t : List UInt8) : encB (s ++ t) = encB s ++ encB t := by simp [encB]
theorem encB_len (s : List UInt8) : (encB s).length = s.length := by simp [encB]
structure FL (l : List Int) (σ : Store) where
  i : Nat
  v : V
  s : Store
  le : i ≤ l.length
  own : Own s 1 v (encB (listT (l.take i)))
  sub : OwnS σ s v
def invL (l : List Int) (i : Nat) (v : V) (σ : Store) : St :=
  ⟨[.sl .no 1 (iCells l), .any, .str [], v, .any, .any, .sl .no 1 (iCells l), .int .i64 (l.length : Nat), .int .i64 (i : Nat)] ++ List.replicate 12 .any, [], σ⟩
theorem list_calls (l : List Int) {σ : Store} (hg : σ.box 3 = some powCells) (hl : l.length ≤ 5000) (hi : ∀ n ∈ l, Iok n) : PCalls prog 18 [.sl .no 1 (iCells l)] σ fun v σ' => v = .str (listT l) ∧ σ' = σ := by
  refine fn18.calls ?_
  simp only [slots, ac18, am, ams, amo]
  simp only [iCells_len]
  refine vc_loop (fun p : FL l σ => invL l p.i p.v p.s) (fun p => l.length - p.i) ?_ ?_
  · refine Upd.enter ⟨0, _, σ, by simp, Own.none, OwnS.start⟩ ?_ LLLe.rfl OLe.rfl
    simp [invL, List.replicate, am, amo]
  · rintro ⟨i, v, s, hle, hO, hS⟩
    simp only [invL, List.replicate, am, amo]
    refine vcIf_split ?_ ?_
    · intro hlt
      have hlt : i < l.length := by simpa using hlt
      have hb : (listT (l.take i)).length ≤ 105000 := by
        have := listT_len (l := l.take i) fun n hn => hi n (List.mem_of_mem_take hn)
        rw [List.length_take] at this; omega
      have hI := hi l[i] (List.getElem_mem _)
      simp only [am, amo, amc, Nat.reduceAdd, Nat.reduceEqDiff, encs_length, List.length_map, decide_true, decide_false, Int.reduceEq, Int.reduceLT, Int.reduceLE, Nat.reduceLT, Int.reduceToNat, Nat.reduceMul, Int.reduceMul, Int.reduceAdd, Int.reduceSub, if_false, reduceCtorEq]
      refine idxL_intro (by omega) (iCells_at hlt) ?_
      simp only [am, amo, amc, Nat.reduceAdd, Nat.reduceEqDiff, encs_length, List.length_map, decide_true, decide_false, Int.reduceEq, Int.reduceLT, Int.reduceLE, Nat.reduceLT, Int.reduceToNat, Nat.reduceMul, Int.reduceMul, Int.reduceAdd, Int.reduceSub, if_false, reduceCtorEq]
      refine Own.app (m := [[.int .u8 32]]) hO (by simp) rfl (by simp [big, encB_len]; omega) fun v1 s1 hO1 hF1 => ?_
      simp only [am, amo, amc, Nat.reduceAdd, Nat.reduceEqDiff, encs_length, List.length_map, decide_true, decide_false, Int.reduceEq, Int.reduceLT, Int.reduceLE, Nat.reduceLT, Int.reduceToNat, Nat.reduceMul, Int.reduceMul, Int.reduceAdd, Int.reduceSub, if_false, reduceCtorEq]
      have hS1 := hS.step hF1
      refine ⟨Own.nol hO1, (apint_calls l[i] hO1 (by simp [big, encB_len]; omega) (hS1.sub.1 _ _ hg) (fun e => by rw [hS1.new _ e] at hg; simp at hg) hI.1 hI.2).mono ?_⟩
      rintro v2 s2 ⟨hO2, hF2⟩
      have hS2 := hS1.step hF2
      simp only [am, amo, amc, Nat.reduceAdd, Nat.reduceEqDiff, encs_length, List.length_map, decide_true, decide_false, Int.reduceEq, Int.reduceLT, Int.reduceLE, Nat.reduceLT, Int.reduceToNat, Nat.reduceMul, Int.reduceMul, Int.reduceAdd, Int.reduceSub, if_false, reduceCtorEq]
      rw [wrap_i64 (by omega) (by omega)]
      refine Upd.again (I := fun p : FL l σ => invL l p.i p.v p.s) (μ := fun p : FL l σ => l.length - p.i) ⟨i + 1, v2, s2, hlt, ?_, hS2⟩ (by simp only; omega) ?_ LLLe.rfl OLe.rfl
      · rw [listT_take hlt, encB_app]
        simpa [encB] using hO2
      · simp [invL, List.replicate, am]
    · intro hge
      have hge : i = l.length := by simp at hge; omega
      subst hge
      rw [List.take_length] at hO
      simp only [am, amo, amc, Nat.reduceAdd, Nat.reduceEqDiff, encs_length, List.length_map, decide_true, decide_false, Int.reduceEq, Int.reduceLT, Int.reduceLE, Nat.reduceLT, Int.reduceToNat, Nat.reduceMul, Int.reduceMul, Int.reduceAdd, Int.reduceSub, if_false, reduceCtorEq]
      refine hO.cvR ?_
      simp only [am, amo, amc, Nat.reduceAdd, Nat.reduceEqDiff, encs_length, List.length_map, decide_true, decide_false, Int.reduceEq, Int.reduceLT, Int.reduceLE, Nat.reduceLT, Int.reduceToNat, Nat.reduceMul, Int.reduceMul, Int.reduceAdd, Int.reduceSub, if_false, reduceCtorEq]
      exact retK_intro rfl hS.sub ⟨rfl, rfl⟩
def clsCells : List V := classT.map .str
def wordCells : List V := wordT.map .str
theorem tab_drop {l : List (List UInt8)} {c : Int} (hl : l.length = 9) (h0 : 0 ≤ c) (h9 : c < 9) : (l.map V.str).drop c.toNat = .str (tabAt l c) :: (l.map V.str).drop (c.toNat + 1) := by
  have hc : c.toNat < (l.map V.str).length := by rw [List.length_map]; omega
  rw [List.drop_eq_getElem_cons hc, tabAt, if_pos ⟨h0, h9⟩, List.getElem_map, List.getD_eq_getElem?_getD, List.getElem?_eq_getElem (by omega)]; rfl
theorem tab_idx {l : List (List UInt8)} {c : Int} (hl : l.length = 9) (h0 : 0 ≤ c) (h9 : c < 9) : (l.map fun w => [V.str w])[c.toNat]? = some [.str (tabAt l c)] := by
  rw [List.getElem?_map, List.getElem?_eq_getElem (by omega), tabAt, if_pos ⟨h0, h9⟩, List.getD_eq_getElem?_getD, List.getElem?_eq_getElem (by omega)]; rfl
theorem cls_low {c : Int} (h : ¬ (1 ≤ c ∧ c ≤ 8)) : tabAt classT c = [] := by
  unfold tabAt
  split
  · have : c = 0 := by omega
    subst this; rfl
  · rfl
theorem Class_calls (c : Int) {σ : Store} (hc : σ.box 1 = some clsCells) : PCalls prog 13 [.int .i64 c] σ fun v σ' => v = .str (tabAt classT c) ∧ σ' = σ := by
  refine fn13.calls ?_
  simp only [slots, ac13, am, amo, amc, ams, Nat.reduceAdd, Nat.reduceEqDiff, decide_true, decide_false, Int.reduceEq, Int.reduceLT, Int.reduceLE, Nat.reduceLT, Int.reduceToNat, Nat.reduceMul, Int.reduceMul, Int.reduceAdd, Int.reduceSub, if_false, reduceCtorEq]
  by_cases h : 1 ≤ c ∧ c ≤ 8
  · simp only [am, amo, amc, Nat.reduceAdd, Nat.reduceEqDiff, encs_length, List.length_map, decide_true, decide_false, Int.reduceEq, Int.reduceLT, Int.reduceLE, Nat.reduceLT, Int.reduceToNat, Nat.reduceMul, Int.reduceMul, Int.reduceAdd, Int.reduceSub, if_false, reduceCtorEq, decide_eq_false (show ¬ c < 1 by omega), decide_eq_false (show ¬ 8 < c by omega)]
    refine idxPL_ptr (by omega) (by omega) ?_
    simp only [am, amo, amc, Nat.reduceAdd, Nat.reduceEqDiff, encs_length, List.length_map, decide_true, decide_false, Int.reduceEq, Int.reduceLT, Int.reduceLE, Nat.reduceLT, Int.reduceToNat, Nat.reduceMul, Int.reduceMul, Int.reduceAdd, Int.reduceSub, if_false, reduceCtorEq, hc, clsCells, Nat.zero_add, Nat.mul_one, tab_drop (l := classT) (c := c) rfl (by omega) (by omega)]
    refine retK_intro rfl (Store.sub_refl _) ⟨?_, rfl⟩
    simp [V.erase, eraseL]
  · by_cases h1 : c < 1
    · simp only [am, amo, amc, Nat.reduceAdd, Nat.reduceEqDiff, encs_length, List.length_map, decide_true, decide_false, Int.reduceEq, Int.reduceLT, Int.reduceLE, Nat.reduceLT, Int.reduceToNat, Nat.reduceMul, Int.reduceMul, Int.reduceAdd, Int.reduceSub, if_false, reduceCtorEq, decide_eq_true h1]
      refine retK_intro rfl (Store.sub_refl _) ⟨?_, rfl⟩
      rw [cls_low h]; rfl
    · simp only [am, amo, amc, Nat.reduceAdd, Nat.reduceEqDiff, encs_length, List.length_map, decide_true, decide_false, Int.reduceEq, Int.reduceLT, Int.reduceLE, Nat.reduceLT, Int.reduceToNat, Nat.reduceMul, Int.reduceMul, Int.reduceAdd, Int.reduceSub, if_false, reduceCtorEq, decide_eq_false h1, decide_eq_true (show 8 < c by omega)]
      refine retK_intro rfl (Store.sub_refl _) ⟨?_, rfl⟩
      rw [cls_low h]; rfl
theorem ClassR_calls (c : Int) (σ : Store) : PCalls prog 14 [.int .i64 c] σ fun v σ' => v = .str (tabAt classT c) ∧ σ' = σ := by
  refine fn14.calls ?_
  simp only [slots, ac14, am, amo, amc, ams, Nat.reduceAdd, Nat.reduceEqDiff, decide_true, decide_false, Int.reduceEq, Int.reduceLT, Int.reduceLE, Nat.reduceLT, Int.reduceToNat, Nat.reduceMul, Int.reduceMul, Int.reduceAdd, Int.reduceSub, if_false, reduceCtorEq]
  by_cases h : 0 ≤ c ∧ c ≤ 8
  · simp only [am, amo, amc, Nat.reduceAdd, Nat.reduceEqDiff, encs_length, List.length_map, decide_true, decide_false, Int.reduceEq, Int.reduceLT, Int.reduceLE, Nat.reduceLT, Int.reduceToNat, Nat.reduceMul, Int.reduceMul, Int.reduceAdd, Int.reduceSub, if_false, reduceCtorEq, decide_eq_false (show ¬ c < 0 by omega), decide_eq_false (show ¬ 8 < c by omega)]
    refine idxL_intro (by omega) (tab_idx (l := classT) rfl (by omega) (by omega)) ?_
    simp only [am, amo, amc, Nat.reduceAdd, Nat.reduceEqDiff, encs_length, List.length_map, decide_true, decide_false, Int.reduceEq, Int.reduceLT, Int.reduceLE, Nat.reduceLT, Int.reduceToNat, Nat.reduceMul, Int.reduceMul, Int.reduceAdd, Int.reduceSub, if_false, reduceCtorEq]
    refine retK_intro rfl (Store.sub_refl _) ⟨?_, rfl⟩
    simp [V.erase, eraseL]
  · have e : tabAt classT c = [] := by
      unfold tabAt; rw [if_neg (by omega)]
    by_cases h1 : c < 0
    · simp only [am, amo, amc, Nat.reduceAdd, Nat.reduceEqDiff, encs_length, List.length_map, decide_true, decide_false, Int.reduceEq, Int.reduceLT, Int.reduceLE, Nat.reduceLT, Int.reduceToNat, Nat.reduceMul, Int.reduceMul, Int.reduceAdd, Int.reduceSub, if_false, reduceCtorEq, decide_eq_true h1]
      refine retK_intro rfl (Store.sub_refl _) ⟨?_, rfl⟩
      rw [e]; rfl
    · simp only [am, amo, amc, Nat.reduceAdd, Nat.reduceEqDiff, encs_length, List.length_map, decide_true, decide_false, Int.reduceEq, Int.reduceLT, Int.reduceLE, Nat.reduceLT, Int.reduceToNat, Nat.reduceMul, Int.reduceMul, Int.reduceAdd, Int.reduceSub, if_false, reduceCtorEq, decide_eq_false h1, decide_eq_true (show 8 < c by omega)]
      refine retK_intro rfl (Store.sub_refl _) ⟨?_, rfl⟩
      rw [e]; rfl
def renc (r : Rep) : List V := [.int .i64 r.kind, .str r.text, .sl .no 1 (iCells r.list), .int .i64 r.line, .int .i64 r.cls, .int .i64 r.at_]
structure ROk (r : Rep) : Prop where
  line : Iok r.line
  at_ : Iok r.at_
  len : r.list.length ≤ 5000
  nums : ∀ n ∈ r.list, Iok n
  text : r.text.length ≤ 5000
structure Glob (σ : Store) : Prop where
  w : σ.box 0 = some wordCells
  c : σ.box 1 = some clsCells
  p : σ.box 3 = some powCells
theorem tab_len {l : List (List UInt8)} {c : Int} {k : Nat} (h : ∀ w ∈ l, w.length ≤ k) : (tabAt l c).length ≤ k := by
  unfold tabAt
  split
  · rw [List.getD_eq_getElem?_getD]
    cases hq : l[c.toNat]? with
    | none => simp
    | some w => exact h w (List.mem_of_getElem? hq)
  · simp
theorem cls_len (c : Int) : (tabAt classT c).length ≤ 8 := tab_len (by decide)
theorem word_len (c : Int) : (tabAt wordT c).length ≤ 7 := tab_len (by decide)
theorem fault_calls (r : Rep) {σ : Store} (hg : Glob σ) (hr : ROk r) : PCalls prog 19 [.agg (renc r)] σ fun v σ' => v = .str (faultT r) ∧ σ' = σ := by
  obtain ⟨k, t, l, ln, c, a⟩ := r
  have h1 := hr.line.1; have h2 := hr.line.2; have h3 := hr.at_.1; have h4 := hr.at_.2
  have k1 := numT_len hr.line; have k2 := numT_len hr.at_; have k3 := cls_len c
  simp only at h1 h2 h3 h4 k1 k2
  simp only [renc]
  refine fn19.calls ?_
  simp only [slots, ac19, am, amo, amc, ams, Nat.reduceAdd, Nat.reduceEqDiff, decide_true, decide_false, Int.reduceEq, Int.reduceLT, Int.reduceLE, Nat.reduceLT, Int.reduceToNat, Nat.reduceMul, Int.reduceMul, Int.reduceAdd, Int.reduceSub, if_false, reduceCtorEq]
  by_cases h : 0 < ln
  · simp only [am, amo, amc, Nat.reduceAdd, Nat.reduceEqDiff, encs_length, List.length_map, decide_true, decide_false, Int.reduceEq, Int.reduceLT, Int.reduceLE, Nat.reduceLT, Int.reduceToNat, Nat.reduceMul, Int.reduceMul, Int.reduceAdd, Int.reduceSub, if_false, reduceCtorEq, decide_eq_true h]
    refine (itoa_calls ln hg.p h1 h2).mono ?_
    rintro v σ ⟨rfl, rfl⟩
    simp only [am, amo, amc, Nat.reduceAdd, Nat.reduceEqDiff, encs_length, List.length_map, decide_true, decide_false, Int.reduceEq, Int.reduceLT, Int.reduceLE, Nat.reduceLT, Int.reduceToNat, Nat.reduceMul, Int.reduceMul, Int.reduceAdd, Int.reduceSub, if_false, reduceCtorEq]
    refine ⟨by simp [big]; omega, by simp [big]; omega, by simp [big]; omega, ?_⟩
    refine CallD.intro (Class_calls c hg.c) ?_
    simp only [am, amo, amc, Nat.reduceAdd, Nat.reduceEqDiff, encs_length, List.length_map, decide_true, decide_false, Int.reduceEq, Int.reduceLT, Int.reduceLE, Nat.reduceLT, Int.reduceToNat, Nat.reduceMul, Int.reduceMul, Int.reduceAdd, Int.reduceSub, if_false, reduceCtorEq]
    refine ⟨by simp [big]; omega, by simp [big]; omega, ?_⟩
    refine CallD.intro (itoa_calls a hg.p h3 h4) ?_
    simp only [am, amo, amc, Nat.reduceAdd, Nat.reduceEqDiff, encs_length, List.length_map, decide_true, decide_false, Int.reduceEq, Int.reduceLT, Int.reduceLE, Nat.reduceLT, Int.reduceToNat, Nat.reduceMul, Int.reduceMul, Int.reduceAdd, Int.reduceSub, if_false, reduceCtorEq]
    refine ⟨by simp [big]; omega, ?_⟩
    refine retK_intro rfl (Store.sub_refl _) ⟨?_, rfl⟩
    simp [V.erase, eraseL, faultT, lineW, h]
  · simp only [am, amo, amc, Nat.reduceAdd, Nat.reduceEqDiff, encs_length, List.length_map, decide_true, decide_false, Int.reduceEq, Int.reduceLT, Int.reduceLE, Nat.reduceLT, Int.reduceToNat, Nat.reduceMul, Int.reduceMul, Int.reduceAdd, Int.reduceSub, if_false, reduceCtorEq, decide_eq_false h]
    refine CallD.intro (Class_calls c hg.c) ?_
    simp only [am, amo, amc, Nat.reduceAdd, Nat.reduceEqDiff, encs_length, List.length_map, decide_true, decide_false, Int.reduceEq, Int.reduceLT, Int.reduceLE, Nat.reduceLT, Int.reduceToNat, Nat.reduceMul, Int.reduceMul, Int.reduceAdd, Int.reduceSub, if_false, reduceCtorEq]
    refine ⟨by simp [big]; omega, by simp [big]; omega, ?_⟩
    refine CallD.intro (itoa_calls a hg.p h3 h4) ?_
    simp only [am, amo, amc, Nat.reduceAdd, Nat.reduceEqDiff, encs_length, List.length_map, decide_true, decide_false, Int.reduceEq, Int.reduceLT, Int.reduceLE, Nat.reduceLT, Int.reduceToNat, Nat.reduceMul, Int.reduceMul, Int.reduceAdd, Int.reduceSub, if_false, reduceCtorEq]
    refine ⟨by simp [big]; omega, ?_⟩
    refine retK_intro rfl (Store.sub_refl _) ⟨?_, rfl⟩
    simp [V.erase, eraseL, faultT, lineW, h]
theorem td_abs (x : Int) : (x.tdiv 10).natAbs = x.natAbs / 10 ∧ (0 ≤ x → 0 ≤ x.tdiv 10) ∧ (x ≤ 0 → x.tdiv 10 ≤ 0) ∧ (0 ≤ x → x.tmod 10 = ((x.natAbs % 10 : Nat) : Int)) ∧ (x ≤ 0 → x.tmod 10 = -((x.natAbs % 10 : Nat) : Int)) := by
  rcases Int.le_total 0 x with h | h
  · have e1 : x.tdiv 10 = x / 10 := Int.tdiv_eq_ediv_of_nonneg h
    have e2 : x.tmod 10 = x % 10 := Int.tmod_eq_emod_of_nonneg h
    rw [e1, e2]; refine ⟨?_, ?_, ?_, ?_, ?_⟩ <;> omega
  · have e1 : x.tdiv 10 = -((-x) / 10) := by
      rw [← Int.tdiv_eq_ediv_of_nonneg (show 0 ≤ -x by omega), Int.neg_tdiv]; omega
    have e2 : x.tmod 10 = -((-x) % 10) := by
      rw [← Int.tmod_eq_emod_of_nonneg (show 0 ≤ -x by omega), Int.neg_tmod]; omega
    rw [e1, e2]; refine ⟨?_, ?_, ?_, ?_, ?_⟩ <;> omega
structure FN (n : Int) where
  k : Nat
  x : Int
  abs : x.natAbs = n.natAbs / 10 ^ k
  neg : n < 0 → x ≤ 0
  pos : 0 ≤ n → 0 ≤ x
  low : k = 0 ∨ 10 ^ (k - 1) ≤ n.natAbs
def invN (n : Int) (k : Nat) (x : Int) (σ : Store) : St :=
  ⟨[.int .i64 x, .any, .str [], .str (digK k n.natAbs), .bool (decide (n < 0)), .any, .int .i64 n, .bool false, .int .i64 n, .bool (decide (n < 0))] ++ List.replicate 21 .any, [], σ⟩
theorem number_calls (n : Int) (σ : Store) (hn : Iok n) : PCalls prog 21 [.int .i64 n] σ fun v σ' => v = .str (numT n) ∧ σ' = σ := by
  obtain ⟨h1, h2⟩ := hn
  refine fn21.calls ?_
  simp only [slots, ac21, am, ams, amo]
  by_cases h0 : n = 0
  · subst h0
    simp only [am, amo, amc, Nat.reduceAdd, Nat.reduceEqDiff, encs_length, List.length_map, decide_true, decide_false, Int.reduceEq, Int.reduceLT, Int.reduceLE, Nat.reduceLT, Int.reduceToNat, Nat.reduceMul, Int.reduceMul, Int.reduceAdd, Int.reduceSub, if_false, reduceCtorEq]
    refine retK_intro rfl (Store.sub_refl _) ⟨?_, rfl⟩
    rfl
  · simp only [am, amo, amc, Nat.reduceAdd, Nat.reduceEqDiff, encs_length, List.length_map, decide_true, decide_false, Int.reduceEq, Int.reduceLT, Int.reduceLE, Nat.reduceLT, Int.reduceToNat, Nat.reduceMul, Int.reduceMul, Int.reduceAdd, Int.reduceSub, if_false, reduceCtorEq, decide_eq_false h0]
    refine vc_loop (fun p : FN n => invN n p.k p.x σ) (fun p => p.x.natAbs) ?_ ?_
    · refine Upd.enter ⟨0, n, by simp, fun h => by omega, fun h => h, .inl rfl⟩ ?_ LLLe.rfl OLe.rfl
      simp [invN, List.replicate, am, amo, digK]
    rintro ⟨k, x, hx, hneg, hpos, hlow⟩
    simp only [invN, List.replicate, am, amo]
    have hk : k ≤ 19 := by
      rcases hlow with h | h
      · omega
      · refine Nat.le_of_not_lt fun hc => ?_
        have := Nat.pow_le_pow_right (show 0 < 10 by omega) (show 19 ≤ k - 1 by omega)
        omega
    by_cases hx0 : x = 0
    · subst hx0
      have hm : n.natAbs < 10 ^ k := by
        have h : n.natAbs / 10 ^ k = 0 := hx.symm
        exact (Nat.div_eq_zero_iff.1 h).resolve_left (Nat.ne_of_gt (Nat.pow_pos (by omega)))
      have hk1 : 1 ≤ k := by
        rcases Nat.eq_zero_or_pos k with h | h
        · subst h; simp at hm; omega
        · exact h
      have e : digN n.natAbs = digK k n.natAbs := by
        rw [digN_eq, nd_unique (d := k) (by omega) hk1 hm (fun h => by rcases hlow with h' | h'; omega; exact h')]
      simp only [am, amo, amc, Nat.reduceAdd, Nat.reduceEqDiff, encs_length, List.length_map, decide_true, decide_false, Int.reduceEq, Int.reduceLT, Int.reduceLE, Nat.reduceLT, Int.reduceToNat, Nat.reduceMul, Int.reduceMul, Int.reduceAdd, Int.reduceSub, if_false, reduceCtorEq]
      by_cases hneg : n < 0
      · simp only [am, amo, amc, Nat.reduceAdd, Nat.reduceEqDiff, encs_length, List.length_map, decide_true, decide_false, Int.reduceEq, Int.reduceLT, Int.reduceLE, Nat.reduceLT, Int.reduceToNat, Nat.reduceMul, Int.reduceMul, Int.reduceAdd, Int.reduceSub, if_false, reduceCtorEq, decide_eq_true hneg]
        refine ⟨by simp [big, digK_len]; omega, ?_⟩
        refine retK_intro rfl (Store.sub_refl _) ⟨?_, rfl⟩
        rw [numT, if_pos hneg, e]; rfl
      · simp only [am, amo, amc, Nat.reduceAdd, Nat.reduceEqDiff, encs_length, List.length_map, decide_true, decide_false, Int.reduceEq, Int.reduceLT, Int.reduceLE, Nat.reduceLT, Int.reduceToNat, Nat.reduceMul, Int.reduceMul, Int.reduceAdd, Int.reduceSub, if_false, reduceCtorEq, decide_eq_false hneg]
        refine retK_intro rfl (Store.sub_refl _) ⟨?_, rfl⟩
        rw [numT, if_neg hneg, e]; rfl
    · have hm : 1 ≤ n.natAbs / 10 ^ k := by omega
      have hlow' : 10 ^ k ≤ n.natAbs := by
        have := Nat.div_mul_le_self n.natAbs (10 ^ k)
        have h2 : 1 * 10 ^ k ≤ n.natAbs / 10 ^ k * 10 ^ k := Nat.mul_le_mul_right _ hm
        omega
      have hsp : digK (k + 1) n.natAbs = [UInt8.ofNat (48 + x.natAbs % 10)] ++ digK k n.natAbs := by
        rw [Nat.add_comm, digK_add, ← hx]; simp [digK]
      obtain ⟨d1, d2, d3, d4, d5⟩ := td_abs x
      have again : ∀ (st : List V), LLe st (invN n (k + 1) (x.tdiv 10) σ).t → Upd ⟨st, [], σ⟩ fun st' => ∃ p : FN n, st' = invN n p.k p.x σ ∧ p.x.natAbs < x.natAbs := fun st h =>
        Upd.again (I := fun p : FN n => invN n p.k p.x σ) (μ := fun p : FN n => p.x.natAbs) ⟨k + 1, x.tdiv 10, by rw [d1, hx, Nat.div_div_eq_div_mul, ← Nat.pow_succ], fun h => d3 (hneg h), fun h => d2 (hpos h), .inr (by simpa using hlow')⟩ (by simp only; omega) h LLLe.rfl OLe.rfl
      have hxa : x.natAbs ≤ n.natAbs := by rw [hx]; exact Nat.div_le_self _ _
      have hr : IntKind.i64.wrap (x.tdiv 10) = x.tdiv 10 := wrap_i64 (by omega) (by omega)
      have hdd : x.natAbs % 10 < 10 := Nat.mod_lt _ (by omega)
      generalize hd : x.natAbs % 10 = d at hdd d4 d5 hsp
      have e2 : IntKind.i64.wrap (48 + (d : Int)) = ((48 + d : Nat) : Int) := by rw [wrap_i64 (by omega) (by omega)]; omega
      have e3 := u8_dig hdd
      rw [decide_eq_false hx0]
      have ht : x.tmod 10 = (d : Int) ∨ (x.tmod 10 = -(d : Int) ∧ 0 < d) := by omega
      have e1 : IntKind.i64.wrap (0 - -(d : Int)) = (d : Int) := by rw [wrap_i64 (by omega) (by omega)]; omega
      rcases ht with ht | ⟨ht, hd0⟩
      · simp only [am, amo, amc, Nat.reduceAdd, Nat.reduceEqDiff, encs_length, List.length_map, decide_true, decide_false, Int.reduceEq, Int.reduceLT, Int.reduceLE, Nat.reduceLT, Int.reduceToNat, Nat.reduceMul, Int.reduceMul, Int.reduceAdd, Int.reduceSub, if_false, reduceCtorEq, ami, ht, decide_eq_false (show ¬ (d : Int) < 0 by omega), e2, e3]
        refine ⟨_, [UInt8.ofNat (48 + d)], rfl, ?_⟩
        refine ⟨by simp [big, digK_len]; omega, ?_⟩
        rw [hr, ← hsp]
        exact again _ (by simp [invN, List.replicate, am])
      · simp only [am, amo, amc, Nat.reduceAdd, Nat.reduceEqDiff, encs_length, List.length_map, decide_true, decide_false, Int.reduceEq, Int.reduceLT, Int.reduceLE, Nat.reduceLT, Int.reduceToNat, Nat.reduceMul, Int.reduceMul, Int.reduceAdd, Int.reduceSub, if_false, reduceCtorEq, ami, ht, decide_eq_true (show -(d : Int) < 0 by omega), e1, e2, e3]
        refine ⟨_, [UInt8.ofNat (48 + d)], rfl, ?_⟩
        refine ⟨by simp [big, digK_len]; omega, ?_⟩
        rw [hr, ← hsp]
        exact again _ (by simp [invN, List.replicate, am])
end Go.Proofs.Tryd

namespace Go.Proofs.Tryd
open Go.Am
set_option maxRecDepth 4000
set_option maxHeartbeats 4000000
def ac9 : AC := .seq (.reg [⟨(some 1), .box 6 (.s 0), none⟩, ⟨(some 2), .mv (.c (.str [])), none⟩])
 (.seq (.seq (.reg [xf 0 4 1, xo 5 4, xB .lss 6 5 1, xm 7 6, xh 7 (xf 0 8 1), xh 7 (xo 9 8), xh 7 (xB .gtr 10 9 8), ⟨(some 11), .pick (.s 7) (.c (.bool true)) (.s 10), none⟩])
 (.cond (.s 11) (.seq (.reg [⟨(some 2), .mv (.c (.str [])), none⟩])
 (.ret))
 (.skip)))
 (.seq (.reg [xf 0 12 1, xo 13 12, ⟨(some 14), .idxP 9 1 (.c (.ptr (.out 0) 0)) (.s 13), none⟩, xo 15 14, xm 3 15])
 (.seq (.seq (.reg [xf 0 16 1, xo 17 16])
 (.block 0 (.seq (.reg [xB .eql 19 17 2, xm 18 19])
 (.cond (.s 18) (.seq (.reg [xf 1 20 1, xo 21 20, ⟨(some 22), .binS .neq (.s 21) (.c (.str [])), none⟩])
 (.cond (.s 22) (.reg [xm 23 3, xf 1 24 1, xo 25 24, ⟨(some 26), .cat (.c (.str [32])) (.s 25), none⟩, ⟨(some 27), .cat (.s 23) (.s 26), none⟩, xm 3 27])
 (.skip)))
 (.seq (.seq (.reg [xB .eql 29 17 4, xm 28 29])
 (.cond (.s 28) (.skip)
 (.reg [xB .eql 30 17 6, xm 28 30])))
 (.cond (.s 28) (.reg [xm 31 3, xf 2 32 1, xo 33 32, xc 18 34 [.s 33], ⟨(some 35), .cat (.s 31) (.s 34), none⟩, xm 3 35])
 (.seq (.reg [xB .eql 37 17 8, xm 36 37])
 (.cond (.s 36) (.reg [xm 38 3, xl 6 39 1, xc 19 40 [.s 39], ⟨(some 41), .cat (.s 38) (.s 40), none⟩, xm 3 41])
 (.skip)))))))))
 (.seq (.reg [xm 42 3, xm 2 42])
 (.ret)))))
theorem fn9 : IsFn prog 9 ac9 [.tmp 2] 43 := ⟨f9, ⟨[], []⟩, func9, by kernel_rfl, by kernel_rfl, by kernel_rfl, by kernel_rfl⟩
def ac10 : AC := .seq (.reg [⟨(some 1), .box 6 (.s 0), none⟩, ⟨(some 2), .mv (.c (.str [])), none⟩])
 (.seq (.reg [⟨(some 5), .bslice 1 [(.c (.str [])), (.c (.str [111, 107])), (.c (.str [115, 97, 116])), (.c (.str [117, 110, 115, 97, 116])), (.c (.str [99, 111, 114, 101])), (.c (.str [110, 111, 32, 99, 111, 114, 101])), (.c (.str [119, 104, 121])), (.c (.str [110, 111, 32, 119, 104, 121])), (.c (.str [101, 114, 114, 111, 114]))], none⟩, xm 3 5])
 (.seq (.seq (.reg [xf 0 6 1, xo 7 6, xB .lss 8 7 1, xm 9 8, xh 9 (xf 0 10 1), xh 9 (xo 11 10), xh 9 (xB .gtr 12 11 8), ⟨(some 13), .pick (.s 9) (.c (.bool true)) (.s 12), none⟩])
 (.cond (.s 13) (.seq (.reg [⟨(some 2), .mv (.c (.str [])), none⟩])
 (.ret))
 (.skip)))
 (.seq (.reg [xm 14 3, xf 0 15 1, xo 16 15, xA 1 17 14 16, xo 18 17, xm 4 18])
 (.seq (.seq (.reg [xf 0 19 1, xo 20 19, xB .eql 21 20 2, xm 22 21, xg 22 (xf 1 23 1), xg 22 (xo 24 23), ⟨(some 25), .binS .neq (.s 24) (.c (.str [])), (some (22, true))⟩, ⟨(some 26), .pick (.s 22) (.s 25) (.c (.bool false)), none⟩])
 (.cond (.s 26) (.seq (.reg [xm 27 4, ⟨(some 28), .cat (.s 27) (.c (.str [32])), none⟩, xf 1 29 1, xo 30 29, ⟨(some 31), .cat (.s 28) (.s 30), none⟩, xm 2 31])
 (.ret))
 (.skip)))
 (.seq (.seq (.reg [xf 0 32 1, xo 33 32, xB .eql 34 33 4, xm 35 34, xh 35 (xf 0 36 1), xh 35 (xo 37 36), xh 35 (xB .eql 38 37 6), ⟨(some 39), .pick (.s 35) (.c (.bool true)) (.s 38), none⟩])
 (.cond (.s 39) (.seq (.reg [xm 40 4, xf 2 41 1, xo 42 41, xc 20 43 [.s 42], ⟨(some 44), .cat (.s 40) (.s 43), none⟩, xm 2 44])
 (.ret))
 (.skip)))
 (.seq (.seq (.reg [xf 0 45 1, xo 46 45, xB .eql 47 46 8])
 (.cond (.s 47) (.seq (.seq (.reg [xf 3 48 1, xo 49 48, xB .gtr 50 49 0])
 (.cond (.s 50) (.reg [xm 51 4, ⟨(some 52), .cat (.s 51) (.c (.str [32, 108, 105, 110, 101, 32])), none⟩, xf 3 53 1, xo 54 53, xc 21 55 [.s 54], ⟨(some 56), .cat (.s 52) (.s 55), none⟩, xm 4 56])
 (.skip)))
 (.seq (.draw [(xm 57 4, []), (⟨(some 58), .cat (.s 57) (.c (.str [32])), none⟩, []), (xf 4 59 1, []), (xo 60 59, []), (xc 14 61 [.s 60], []), (⟨(some 62), .cat (.s 58) (.s 61), none⟩, []), (⟨(some 63), .cat (.s 62) (.c (.str [32])), none⟩, []), (xf 5 64 1, []), (xo 65 64, [0]), (xc 21 66 [.s 65], []), (⟨(some 67), .cat (.s 63) (.s 66), none⟩, []), (xm 2 67, [])])
 (.ret)))
 (.skip)))
 (.seq (.reg [xm 68 4, xm 2 68])
 (.ret))))))))
theorem fn10 : IsFn prog 10 ac10 [.tmp 2] 69 := ⟨f10, ⟨[], []⟩, func10, by kernel_rfl, by kernel_rfl, by kernel_rfl, by kernel_rfl⟩
def ac20 : AC := .seq (.reg [⟨(some 2), .mv (.c (.str [])), none⟩])
 (.seq (.reg [⟨(some 3), .mv (.c (.str [])), none⟩])
 (.seq (.seq (.reg [xi 4 0])
 (.block 0 (.loop (.seq (.seq (.reg [xm 5 4, xm 6 0, xL 7 6, xb .lss 8 5 7])
 (.cond (.s 8) (.skip)
 (.exit 0)))
 (.seq (.block 1 (.reg [xm 11 3, ⟨(some 12), .cat (.s 11) (.c (.str [32])), none⟩, xm 13 0, xm 14 4, xA 1 15 13 14, xo 16 15, xc 21 17 [.s 16], ⟨(some 18), .cat (.s 12) (.s 17), none⟩, xm 3 18]))
 (.reg [xm 9 4, xB .add 10 9 1, xm 4 10]))))))
 (.seq (.reg [xm 19 3, xm 2 19])
 (.ret))))
theorem fn20 : IsFn prog 20 ac20 [.tmp 2] 20 := ⟨f20, ⟨[], []⟩, func20, by kernel_rfl, by kernel_rfl, by kernel_rfl, by kernel_rfl⟩
structure FL2 (l : List Int) where
  i : Nat
  le : i ≤ l.length
def invL2 (l : List Int) (i : Nat) (σ : Store) : St :=
  ⟨[.sl .no 1 (iCells l), .any, .str [], .str (listT (l.take i)), .int .i64 (i : Nat)] ++ List.replicate 15 .any, [], σ⟩
theorem listR_calls (l : List Int) (σ : Store) (hl : l.length ≤ 5000) (hi : ∀ n ∈ l, Iok n) : PCalls prog 20 [.sl .no 1 (iCells l)] σ fun v σ' => v = .str (listT l) ∧ σ' = σ := by
  refine fn20.calls ?_
  simp only [slots, ac20, am, ams, amo]
  refine vc_loop (fun p : FL2 l => invL2 l p.i σ) (fun p => l.length - p.i) ?_ ?_
  · refine Upd.enter ⟨0, by simp⟩ ?_ LLLe.rfl OLe.rfl
    simp [invL2, List.replicate, am, amo, listT]
  · rintro ⟨i, hle⟩
    simp only [invL2, List.replicate, am, amo, iCells_len]
    by_cases hlt : i < l.length
    · have hb : (listT (l.take i)).length ≤ 105000 := by
        have := listT_len (l := l.take i) fun n hn => hi n (List.mem_of_mem_take hn)
        rw [List.length_take] at this; omega
      have hI := hi l[i] (List.getElem_mem _)
      have hnl := numT_len hI
      rw [decide_eq_true (show (i : Int) < l.length by omega)]
      simp only [am, amo, amc, Nat.reduceAdd, Nat.reduceEqDiff, encs_length, List.length_map, decide_true, decide_false, Int.reduceEq, Int.reduceLT, Int.reduceLE, Nat.reduceLT, Int.reduceToNat, Nat.reduceMul, Int.reduceMul, Int.reduceAdd, Int.reduceSub, if_false, reduceCtorEq]
      refine ⟨by simp [big]; omega, ?_⟩
      refine idxL_intro (by omega) (iCells_at hlt) ?_
      simp only [am, amo, amc, Nat.reduceAdd, Nat.reduceEqDiff, encs_length, List.length_map, decide_true, decide_false, Int.reduceEq, Int.reduceLT, Int.reduceLE, Nat.reduceLT, Int.reduceToNat, Nat.reduceMul, Int.reduceMul, Int.reduceAdd, Int.reduceSub, if_false, reduceCtorEq]
      refine (number_calls l[i] _ hI).mono ?_
      rintro v σ ⟨rfl, rfl⟩
      simp only [am, amo, amc, Nat.reduceAdd, Nat.reduceEqDiff, encs_length, List.length_map, decide_true, decide_false, Int.reduceEq, Int.reduceLT, Int.reduceLE, Nat.reduceLT, Int.reduceToNat, Nat.reduceMul, Int.reduceMul, Int.reduceAdd, Int.reduceSub, if_false, reduceCtorEq]
      refine ⟨by simp [big]; omega, ?_⟩
      rw [wrap_i64 (by omega) (by omega)]
      refine Upd.again (I := fun p : FL2 l => invL2 l p.i σ) (μ := fun p : FL2 l => l.length - p.i) ⟨i + 1, hlt⟩ (by simp only; omega) ?_ LLLe.rfl OLe.rfl
      have e : listT (l.take (i + 1)) = listT (l.take i) ++ [32] ++ numT l[i] := by rw [listT_take hlt]; simp
      simp [invL2, List.replicate, am, e]
    · have hge : i = l.length := by omega
      subst hge
      rw [decide_eq_false (by omega)]
      simp only [am, amo, amc, Nat.reduceAdd, Nat.reduceEqDiff, encs_length, List.length_map, decide_true, decide_false, Int.reduceEq, Int.reduceLT, Int.reduceLE, Nat.reduceLT, Int.reduceToNat, Nat.reduceMul, Int.reduceMul, Int.reduceAdd, Int.reduceSub, if_false, reduceCtorEq]
      refine retK_intro rfl (Store.sub_refl _) ⟨?_, rfl⟩
      simp [V.erase, eraseL]
theorem Text_calls (r : Rep) {σ : Store} (hg : Glob σ) (hr : ROk r) : PCalls prog 9 [.agg (renc r)] σ fun v σ' => v = .str (textR29 r) ∧ σ' = σ := by
  have hlist := list_calls r.list hg.p hr.len hr.nums
  have hfault := fault_calls r hg hr
  have hlen := listT_len hr.nums
  have hln := hr.len
  have htx := hr.text
  have hwl := word_len r.kind
  have hfl : (faultT r).length ≤ 100 := by
    have k1 := numT_len hr.line; have k2 := numT_len hr.at_; have k3 := cls_len r.cls
    simp only [faultT, lineW]
    split <;> simp <;> omega
  have hT : textR29 r = if r.kind < 1 ∨ 8 < r.kind then [] else tabAt wordT r.kind ++ (if r.kind = 2 then (if r.text = [] then [] else 32 :: r.text) else if r.kind = 4 ∨ r.kind = 6 then listT r.list else if r.kind = 8 then faultT r else []) := rfl
  generalize textR29 r = T at hT ⊢
  generalize hF : faultT r = F at hfault hfl hT
  have hL : ∀ l, r.list = l → listT l = listT r.list := fun l h => by rw [h]
  obtain ⟨k, t, l, ln, c, a⟩ := r
  simp only [renc] at hfault ⊢
  simp only at hlist hlen hln htx hwl hT
  refine fn9.calls ?_
  simp only [slots, ac9, am, amo, amc, ams, Nat.reduceAdd, Nat.reduceEqDiff, decide_true, decide_false, Int.reduceEq, Int.reduceLT, Int.reduceLE, Nat.reduceLT, Int.reduceToNat, Nat.reduceMul, Int.reduceMul, Int.reduceAdd, Int.reduceSub, if_false, reduceCtorEq]
  by_cases h : 1 ≤ k ∧ k ≤ 8
  · rw [if_neg (by omega)] at hT
    simp only [am, amo, amc, Nat.reduceAdd, Nat.reduceEqDiff, encs_length, List.length_map, decide_true, decide_false, Int.reduceEq, Int.reduceLT, Int.reduceLE, Nat.reduceLT, Int.reduceToNat, Nat.reduceMul, Int.reduceMul, Int.reduceAdd, Int.reduceSub, if_false, reduceCtorEq, decide_eq_false (show ¬ k < 1 by omega), decide_eq_false (show ¬ 8 < k by omega)]
    refine idxPL_ptr (by omega) (by omega) ?_
    simp only [am, amo, amc, Nat.reduceAdd, Nat.reduceEqDiff, encs_length, List.length_map, decide_true, decide_false, Int.reduceEq, Int.reduceLT, Int.reduceLE, Nat.reduceLT, Int.reduceToNat, Nat.reduceMul, Int.reduceMul, Int.reduceAdd, Int.reduceSub, if_false, reduceCtorEq, hg.w, wordCells, Nat.zero_add, Nat.mul_one, tab_drop (l := wordT) (c := k) rfl (by omega) (by omega)]
    by_cases k2 : k = 2
    · subst k2
      rw [if_pos rfl] at hT
      simp only [am, amo, amc, Nat.reduceAdd, Nat.reduceEqDiff, encs_length, List.length_map, decide_true, decide_false, Int.reduceEq, Int.reduceLT, Int.reduceLE, Nat.reduceLT, Int.reduceToNat, Nat.reduceMul, Int.reduceMul, Int.reduceAdd, Int.reduceSub, if_false, reduceCtorEq]
      by_cases ht : t = []
      · rw [if_pos ht] at hT
        rw [decide_eq_true ht]
        simp only [am, amo, amc, Nat.reduceAdd, Nat.reduceEqDiff, encs_length, List.length_map, decide_true, decide_false, Int.reduceEq, Int.reduceLT, Int.reduceLE, Nat.reduceLT, Int.reduceToNat, Nat.reduceMul, Int.reduceMul, Int.reduceAdd, Int.reduceSub, if_false, reduceCtorEq]
        refine retK_intro rfl (Store.sub_refl _) ⟨?_, rfl⟩
        simp [V.erase, eraseL, hT]
      · rw [if_neg ht] at hT
        rw [decide_eq_false ht]
        simp only [am, amo, amc, Nat.reduceAdd, Nat.reduceEqDiff, encs_length, List.length_map, decide_true, decide_false, Int.reduceEq, Int.reduceLT, Int.reduceLE, Nat.reduceLT, Int.reduceToNat, Nat.reduceMul, Int.reduceMul, Int.reduceAdd, Int.reduceSub, if_false, reduceCtorEq]
        refine ⟨by simp [big]; omega, by simp [big]; omega, ?_⟩
        refine retK_intro rfl (Store.sub_refl _) ⟨?_, rfl⟩
        simp [V.erase, eraseL, hT]
    · rw [if_neg k2] at hT
      simp only [am, amo, amc, Nat.reduceAdd, Nat.reduceEqDiff, encs_length, List.length_map, decide_true, decide_false, Int.reduceEq, Int.reduceLT, Int.reduceLE, Nat.reduceLT, Int.reduceToNat, Nat.reduceMul, Int.reduceMul, Int.reduceAdd, Int.reduceSub, if_false, reduceCtorEq, decide_eq_false k2]
      by_cases k46 : k = 4 ∨ k = 6
      · rw [if_pos k46] at hT
        rcases k46 with rfl | rfl
        · simp only [am, amo, amc, Nat.reduceAdd, Nat.reduceEqDiff, encs_length, List.length_map, decide_true, decide_false, Int.reduceEq, Int.reduceLT, Int.reduceLE, Nat.reduceLT, Int.reduceToNat, Nat.reduceMul, Int.reduceMul, Int.reduceAdd, Int.reduceSub, if_false, reduceCtorEq]
          refine (hlist).mono ?_
          rintro v σ ⟨rfl, rfl⟩
          simp only [am, amo, amc, Nat.reduceAdd, Nat.reduceEqDiff, encs_length, List.length_map, decide_true, decide_false, Int.reduceEq, Int.reduceLT, Int.reduceLE, Nat.reduceLT, Int.reduceToNat, Nat.reduceMul, Int.reduceMul, Int.reduceAdd, Int.reduceSub, if_false, reduceCtorEq]
          refine ⟨by simp [big]; omega, ?_⟩
          refine retK_intro rfl (Store.sub_refl _) ⟨?_, rfl⟩
          simp [V.erase, eraseL, hT]
        · simp only [am, amo, amc, Nat.reduceAdd, Nat.reduceEqDiff, encs_length, List.length_map, decide_true, decide_false, Int.reduceEq, Int.reduceLT, Int.reduceLE, Nat.reduceLT, Int.reduceToNat, Nat.reduceMul, Int.reduceMul, Int.reduceAdd, Int.reduceSub, if_false, reduceCtorEq]
          refine (hlist).mono ?_
          rintro v σ ⟨rfl, rfl⟩
          simp only [am, amo, amc, Nat.reduceAdd, Nat.reduceEqDiff, encs_length, List.length_map, decide_true, decide_false, Int.reduceEq, Int.reduceLT, Int.reduceLE, Nat.reduceLT, Int.reduceToNat, Nat.reduceMul, Int.reduceMul, Int.reduceAdd, Int.reduceSub, if_false, reduceCtorEq]
          refine ⟨by simp [big]; omega, ?_⟩
          refine retK_intro rfl (Store.sub_refl _) ⟨?_, rfl⟩
          simp [V.erase, eraseL, hT]
      · rw [if_neg k46] at hT
        by_cases k8 : k = 8
        · subst k8
          rw [if_pos rfl] at hT
          simp only [am, amo, amc, Nat.reduceAdd, Nat.reduceEqDiff, encs_length, List.length_map, decide_true, decide_false, Int.reduceEq, Int.reduceLT, Int.reduceLE, Nat.reduceLT, Int.reduceToNat, Nat.reduceMul, Int.reduceMul, Int.reduceAdd, Int.reduceSub, if_false, reduceCtorEq]
          refine (hfault).mono ?_
          rintro v σ ⟨rfl, rfl⟩
          simp only [am, amo, amc, Nat.reduceAdd, Nat.reduceEqDiff, encs_length, List.length_map, decide_true, decide_false, Int.reduceEq, Int.reduceLT, Int.reduceLE, Nat.reduceLT, Int.reduceToNat, Nat.reduceMul, Int.reduceMul, Int.reduceAdd, Int.reduceSub, if_false, reduceCtorEq]
          refine ⟨by simp [big]; omega, ?_⟩
          refine retK_intro rfl (Store.sub_refl _) ⟨?_, rfl⟩
          simp [V.erase, eraseL, hT]
        · rw [if_neg k8] at hT
          simp only [am, amo, amc, Nat.reduceAdd, Nat.reduceEqDiff, encs_length, List.length_map, decide_true, decide_false, Int.reduceEq, Int.reduceLT, Int.reduceLE, Nat.reduceLT, Int.reduceToNat, Nat.reduceMul, Int.reduceMul, Int.reduceAdd, Int.reduceSub, if_false, reduceCtorEq, decide_eq_false (show ¬ k = 4 by omega), decide_eq_false (show ¬ k = 6 by omega), decide_eq_false k8]
          refine retK_intro rfl (Store.sub_refl _) ⟨?_, rfl⟩
          simp [V.erase, eraseL, hT]
  · rw [if_pos (by omega)] at hT
    subst hT
    by_cases h1 : k < 1
    · simp only [am, amo, amc, Nat.reduceAdd, Nat.reduceEqDiff, encs_length, List.length_map, decide_true, decide_false, Int.reduceEq, Int.reduceLT, Int.reduceLE, Nat.reduceLT, Int.reduceToNat, Nat.reduceMul, Int.reduceMul, Int.reduceAdd, Int.reduceSub, if_false, reduceCtorEq, decide_eq_true h1]
      refine retK_intro rfl (Store.sub_refl _) ⟨?_, rfl⟩
      simp [V.erase, eraseL]
    · simp only [am, amo, amc, Nat.reduceAdd, Nat.reduceEqDiff, encs_length, List.length_map, decide_true, decide_false, Int.reduceEq, Int.reduceLT, Int.reduceLE, Nat.reduceLT, Int.reduceToNat, Nat.reduceMul, Int.reduceMul, Int.reduceAdd, Int.reduceSub, if_false, reduceCtorEq, decide_eq_false h1, decide_eq_true (show 8 < k by omega)]
      refine retK_intro rfl (Store.sub_refl _) ⟨?_, rfl⟩
      simp [V.erase, eraseL]
theorem TextR_calls (r : Rep) (σ : Store) (hr : ROk r) : PCalls prog 10 [.agg (renc r)] σ fun v σ' => v = .str (textR29 r) ∧ σ' = σ := by
  have hlist := listR_calls r.list σ hr.len hr.nums
  have hlen := listT_len hr.nums
  have hln := hr.len
  have htx := hr.text
  have hwl := word_len r.kind
  have k1 := numT_len hr.line; have k2 := numT_len hr.at_; have k3 := cls_len r.cls
  have hT : textR29 r = if r.kind < 1 ∨ 8 < r.kind then [] else tabAt wordT r.kind ++ (if r.kind = 2 then (if r.text = [] then [] else 32 :: r.text) else if r.kind = 4 ∨ r.kind = 6 then listT r.list else if r.kind = 8 then faultT r else []) := rfl
  generalize textR29 r = T at hT ⊢
  have hF : faultT r = [32] ++ (if 0 < r.line then lineW ++ [32] ++ numT r.line ++ [32] else []) ++ tabAt classT r.cls ++ [32] ++ numT r.at_ := rfl
  generalize faultT r = F at hF hT
  have hn1 := hr.line; have hn2 := hr.at_
  obtain ⟨k, t, l, ln, c, a⟩ := r
  simp only [renc]
  simp only at hlist hlen hln htx hwl hT hF k1 k2 k3 hn1 hn2
  refine fn10.calls ?_
  simp only [slots, ac10, am, amo, amc, ams, Nat.reduceAdd, Nat.reduceEqDiff, decide_true, decide_false, Int.reduceEq, Int.reduceLT, Int.reduceLE, Nat.reduceLT, Int.reduceToNat, Nat.reduceMul, Int.reduceMul, Int.reduceAdd, Int.reduceSub, if_false, reduceCtorEq]
  by_cases h : 1 ≤ k ∧ k ≤ 8
  · rw [if_neg (by omega)] at hT
    simp only [am, amo, amc, Nat.reduceAdd, Nat.reduceEqDiff, encs_length, List.length_map, decide_true, decide_false, Int.reduceEq, Int.reduceLT, Int.reduceLE, Nat.reduceLT, Int.reduceToNat, Nat.reduceMul, Int.reduceMul, Int.reduceAdd, Int.reduceSub, if_false, reduceCtorEq, decide_eq_false (show ¬ k < 1 by omega), decide_eq_false (show ¬ 8 < k by omega)]
    refine idxL_intro (by omega) (tab_idx (l := wordT) rfl (by omega) (by omega)) ?_
    simp only [am, amo, amc, Nat.reduceAdd, Nat.reduceEqDiff, encs_length, List.length_map, decide_true, decide_false, Int.reduceEq, Int.reduceLT, Int.reduceLE, Nat.reduceLT, Int.reduceToNat, Nat.reduceMul, Int.reduceMul, Int.reduceAdd, Int.reduceSub, if_false, reduceCtorEq]
    by_cases k2 : k = 2
    · subst k2
      rw [if_pos rfl] at hT
      simp only [am, amo, amc, Nat.reduceAdd, Nat.reduceEqDiff, encs_length, List.length_map, decide_true, decide_false, Int.reduceEq, Int.reduceLT, Int.reduceLE, Nat.reduceLT, Int.reduceToNat, Nat.reduceMul, Int.reduceMul, Int.reduceAdd, Int.reduceSub, if_false, reduceCtorEq]
      by_cases ht : t = []
      · rw [if_pos ht] at hT
        rw [decide_eq_true ht]
        simp only [am, amo, amc, Nat.reduceAdd, Nat.reduceEqDiff, encs_length, List.length_map, decide_true, decide_false, Int.reduceEq, Int.reduceLT, Int.reduceLE, Nat.reduceLT, Int.reduceToNat, Nat.reduceMul, Int.reduceMul, Int.reduceAdd, Int.reduceSub, if_false, reduceCtorEq]
        refine retK_intro rfl (Store.sub_refl _) ⟨?_, rfl⟩
        simp [V.erase, eraseL, hT]
      · rw [if_neg ht] at hT
        rw [decide_eq_false ht]
        simp only [am, amo, amc, Nat.reduceAdd, Nat.reduceEqDiff, encs_length, List.length_map, decide_true, decide_false, Int.reduceEq, Int.reduceLT, Int.reduceLE, Nat.reduceLT, Int.reduceToNat, Nat.reduceMul, Int.reduceMul, Int.reduceAdd, Int.reduceSub, if_false, reduceCtorEq]
        refine ⟨by simp [big]; omega, by simp [big]; omega, ?_⟩
        refine retK_intro rfl (Store.sub_refl _) ⟨?_, rfl⟩
        simp [V.erase, eraseL, hT]
    · rw [if_neg k2] at hT
      simp only [am, amo, amc, Nat.reduceAdd, Nat.reduceEqDiff, encs_length, List.length_map, decide_true, decide_false, Int.reduceEq, Int.reduceLT, Int.reduceLE, Nat.reduceLT, Int.reduceToNat, Nat.reduceMul, Int.reduceMul, Int.reduceAdd, Int.reduceSub, if_false, reduceCtorEq, decide_eq_false k2]
      by_cases k46 : k = 4 ∨ k = 6
      · rw [if_pos k46] at hT
        rcases k46 with rfl | rfl
        · simp only [am, amo, amc, Nat.reduceAdd, Nat.reduceEqDiff, encs_length, List.length_map, decide_true, decide_false, Int.reduceEq, Int.reduceLT, Int.reduceLE, Nat.reduceLT, Int.reduceToNat, Nat.reduceMul, Int.reduceMul, Int.reduceAdd, Int.reduceSub, if_false, reduceCtorEq]
          refine (hlist).mono ?_
          rintro v σ ⟨rfl, rfl⟩
          simp only [am, amo, amc, Nat.reduceAdd, Nat.reduceEqDiff, encs_length, List.length_map, decide_true, decide_false, Int.reduceEq, Int.reduceLT, Int.reduceLE, Nat.reduceLT, Int.reduceToNat, Nat.reduceMul, Int.reduceMul, Int.reduceAdd, Int.reduceSub, if_false, reduceCtorEq]
          refine ⟨by simp [big]; omega, ?_⟩
          refine retK_intro rfl (Store.sub_refl _) ⟨?_, rfl⟩
          simp [V.erase, eraseL, hT]
        · simp only [am, amo, amc, Nat.reduceAdd, Nat.reduceEqDiff, encs_length, List.length_map, decide_true, decide_false, Int.reduceEq, Int.reduceLT, Int.reduceLE, Nat.reduceLT, Int.reduceToNat, Nat.reduceMul, Int.reduceMul, Int.reduceAdd, Int.reduceSub, if_false, reduceCtorEq]
          refine (hlist).mono ?_
          rintro v σ ⟨rfl, rfl⟩
          simp only [am, amo, amc, Nat.reduceAdd, Nat.reduceEqDiff, encs_length, List.length_map, decide_true, decide_false, Int.reduceEq, Int.reduceLT, Int.reduceLE, Nat.reduceLT, Int.reduceToNat, Nat.reduceMul, Int.reduceMul, Int.reduceAdd, Int.reduceSub, if_false, reduceCtorEq]
          refine ⟨by simp [big]; omega, ?_⟩
          refine retK_intro rfl (Store.sub_refl _) ⟨?_, rfl⟩
          simp [V.erase, eraseL, hT]
      · rw [if_neg k46] at hT
        by_cases k8 : k = 8
        · subst k8
          rw [if_pos rfl] at hT
          simp only [am, amo, amc, Nat.reduceAdd, Nat.reduceEqDiff, encs_length, List.length_map, decide_true, decide_false, Int.reduceEq, Int.reduceLT, Int.reduceLE, Nat.reduceLT, Int.reduceToNat, Nat.reduceMul, Int.reduceMul, Int.reduceAdd, Int.reduceSub, if_false, reduceCtorEq]
          by_cases hl0 : 0 < ln
          · simp only [am, amo, amc, Nat.reduceAdd, Nat.reduceEqDiff, encs_length, List.length_map, decide_true, decide_false, Int.reduceEq, Int.reduceLT, Int.reduceLE, Nat.reduceLT, Int.reduceToNat, Nat.reduceMul, Int.reduceMul, Int.reduceAdd, Int.reduceSub, if_false, reduceCtorEq, decide_eq_true hl0]
            refine ⟨by simp [big]; omega, ?_⟩
            refine (number_calls ln _ hn1).mono ?_
            rintro v σ ⟨rfl, rfl⟩
            simp only [am, amo, amc, Nat.reduceAdd, Nat.reduceEqDiff, encs_length, List.length_map, decide_true, decide_false, Int.reduceEq, Int.reduceLT, Int.reduceLE, Nat.reduceLT, Int.reduceToNat, Nat.reduceMul, Int.reduceMul, Int.reduceAdd, Int.reduceSub, if_false, reduceCtorEq]
            refine ⟨by simp [big]; omega, by simp [big]; omega, ?_⟩
            refine CallD.intro (ClassR_calls c σ) ?_
            simp only [am, amo, amc, Nat.reduceAdd, Nat.reduceEqDiff, encs_length, List.length_map, decide_true, decide_false, Int.reduceEq, Int.reduceLT, Int.reduceLE, Nat.reduceLT, Int.reduceToNat, Nat.reduceMul, Int.reduceMul, Int.reduceAdd, Int.reduceSub, if_false, reduceCtorEq]
            refine ⟨by simp [big]; omega, by simp [big]; omega, ?_⟩
            refine CallD.intro (number_calls a σ hn2) ?_
            simp only [am, amo, amc, Nat.reduceAdd, Nat.reduceEqDiff, encs_length, List.length_map, decide_true, decide_false, Int.reduceEq, Int.reduceLT, Int.reduceLE, Nat.reduceLT, Int.reduceToNat, Nat.reduceMul, Int.reduceMul, Int.reduceAdd, Int.reduceSub, if_false, reduceCtorEq]
            refine ⟨by simp [big]; omega, ?_⟩
            refine retK_intro rfl (Store.sub_refl _) ⟨?_, rfl⟩
            simp [V.erase, eraseL, hT, hF, hl0, lineW]
          · simp only [am, amo, amc, Nat.reduceAdd, Nat.reduceEqDiff, encs_length, List.length_map, decide_true, decide_false, Int.reduceEq, Int.reduceLT, Int.reduceLE, Nat.reduceLT, Int.reduceToNat, Nat.reduceMul, Int.reduceMul, Int.reduceAdd, Int.reduceSub, if_false, reduceCtorEq, decide_eq_false hl0]
            refine ⟨by simp [big]; omega, ?_⟩
            refine CallD.intro (ClassR_calls c σ) ?_
            simp only [am, amo, amc, Nat.reduceAdd, Nat.reduceEqDiff, encs_length, List.length_map, decide_true, decide_false, Int.reduceEq, Int.reduceLT, Int.reduceLE, Nat.reduceLT, Int.reduceToNat, Nat.reduceMul, Int.reduceMul, Int.reduceAdd, Int.reduceSub, if_false, reduceCtorEq]
            refine ⟨by simp [big]; omega, by simp [big]; omega, ?_⟩
            refine CallD.intro (number_calls a σ hn2) ?_
            simp only [am, amo, amc, Nat.reduceAdd, Nat.reduceEqDiff, encs_length, List.length_map, decide_true, decide_false, Int.reduceEq, Int.reduceLT, Int.reduceLE, Nat.reduceLT, Int.reduceToNat, Nat.reduceMul, Int.reduceMul, Int.reduceAdd, Int.reduceSub, if_false, reduceCtorEq]
            refine ⟨by simp [big]; omega, ?_⟩
            refine retK_intro rfl (Store.sub_refl _) ⟨?_, rfl⟩
            simp [V.erase, eraseL, hT, hF, hl0, lineW]
        · rw [if_neg k8] at hT
          simp only [am, amo, amc, Nat.reduceAdd, Nat.reduceEqDiff, encs_length, List.length_map, decide_true, decide_false, Int.reduceEq, Int.reduceLT, Int.reduceLE, Nat.reduceLT, Int.reduceToNat, Nat.reduceMul, Int.reduceMul, Int.reduceAdd, Int.reduceSub, if_false, reduceCtorEq, decide_eq_false (show ¬ k = 4 by omega), decide_eq_false (show ¬ k = 6 by omega), decide_eq_false k8]
          refine retK_intro rfl (Store.sub_refl _) ⟨?_, rfl⟩
          simp [V.erase, eraseL, hT]
  · rw [if_pos (by omega)] at hT
    subst hT
    by_cases h1 : k < 1
    · simp only [am, amo, amc, Nat.reduceAdd, Nat.reduceEqDiff, encs_length, List.length_map, decide_true, decide_false, Int.reduceEq, Int.reduceLT, Int.reduceLE, Nat.reduceLT, Int.reduceToNat, Nat.reduceMul, Int.reduceMul, Int.reduceAdd, Int.reduceSub, if_false, reduceCtorEq, decide_eq_true h1]
      refine retK_intro rfl (Store.sub_refl _) ⟨?_, rfl⟩
      simp [V.erase, eraseL]
    · simp only [am, amo, amc, Nat.reduceAdd, Nat.reduceEqDiff, encs_length, List.length_map, decide_true, decide_false, Int.reduceEq, Int.reduceLT, Int.reduceLE, Nat.reduceLT, Int.reduceToNat, Nat.reduceMul, Int.reduceMul, Int.reduceAdd, Int.reduceSub, if_false, reduceCtorEq, decide_eq_false h1, decide_eq_true (show 8 < k by omega)]
      refine retK_intro rfl (Store.sub_refl _) ⟨?_, rfl⟩
      simp [V.erase, eraseL]
end Go.Proofs.Tryd

namespace Go.Proofs.Tryd
open Go.Am
set_option maxRecDepth 4000
set_option maxHeartbeats 4000000
def ac11 : AC := .seq (.reg [⟨(some 1), .box 6 (.s 0), none⟩, ⟨(some 2), .mv (.c (.bool false)), none⟩])
 (.seq (.seq (.reg [xf 0 3 1, xo 4 3, xB .neq 5 4 8, xm 6 5, xg 6 (xf 3 7 1), xg 6 (xo 8 7), xg 6 (xB .neq 9 8 0), xg 6 (xm 10 9), xh 10 (xf 4 11 1), xh 10 (xo 12 11), xh 10 (xB .neq 13 12 0), ⟨(some 14), .pick (.s 10) (.c (.bool true)) (.s 13), (some (6, true))⟩, xg 6 (xm 15 14), xh 15 (xf 5 16 1), xh 15 (xo 17 16), xh 15 (xB .neq 18 17 0), ⟨(some 19), .pick (.s 15) (.c (.bool true)) (.s 18), (some (6, true))⟩, ⟨(some 20), .pick (.s 6) (.s 19) (.c (.bool false)), none⟩, xm 21 20, xh 21 (xf 0 22 1), xh 21 (xo 23 22), xh 21 (xB .neq 24 23 2), xh 21 (xm 25 24), xg 25 (xf 1 26 1), xg 25 (xo 27 26), ⟨(some 28), .binS .neq (.s 27) (.c (.str [])), (some (25, true))⟩, ⟨(some 29), .pick (.s 25) (.s 28) (.c (.bool false)), (some (21, false))⟩, ⟨(some 30), .pick (.s 21) (.c (.bool true)) (.s 29), none⟩])
 (.cond (.s 30) (.seq (.reg [⟨(some 2), .mv (.c (.bool false)), none⟩])
 (.ret))
 (.skip)))
 (.seq (.seq (.reg [xf 0 31 1, xo 32 31])
 (.block 0 (.seq (.reg [xB .eql 34 32 4, xm 33 34])
 (.cond (.s 33) (.seq (.reg [xf 2 35 1, xo 36 35, xL 37 36, xB .gtr 38 37 0, xm 39 38, xg 39 (xf 2 40 1), xg 39 (xo 41 40), xg 39 (xc 22 42 [.s 41]), ⟨(some 43), .pick (.s 39) (.s 42) (.c (.bool false)), none⟩, xm 2 43])
 (.ret))
 (.seq (.reg [xB .eql 45 32 6, xm 44 45])
 (.cond (.s 44) (.seq (.reg [xf 2 46 1, xo 47 46, xc 22 48 [.s 47], xm 2 48])
 (.ret))
 (.seq (.reg [xB .eql 50 32 8, xm 49 50])
 (.cond (.s 49) (.seq (.reg [xf 2 51 1, xo 52 51, xL 53 52, xB .eql 54 53 0, xm 55 54, xg 55 (xf 3 56 1), xg 55 (xo 57 56), xg 55 (xB .geq 58 57 0), ⟨(some 59), .pick (.s 55) (.s 58) (.c (.bool false)), none⟩, xm 60 59, xg 60 (xf 5 61 1), xg 60 (xo 62 61), xg 60 (xB .geq 63 62 0), ⟨(some 64), .pick (.s 60) (.s 63) (.c (.bool false)), none⟩, xm 65 64, xg 65 (xf 4 66 1), xg 65 (xo 67 66), xg 65 (xc 13 68 [.s 67]), ⟨(some 69), .binS .neq (.s 68) (.c (.str [])), (some (65, true))⟩, ⟨(some 70), .pick (.s 65) (.s 69) (.c (.bool false)), none⟩, xm 2 70])
 (.ret))
 (.seq (.reg [xB .eql 72 32 2, xm 71 72])
 (.cond (.s 71) (.seq (.reg [xf 2 73 1, xo 74 73, xL 75 74, xB .eql 76 75 0, xm 77 76, xg 77 (xf 1 78 1), xg 77 (xo 79 78), xg 77 (xc 23 80 [.s 79, .c (.str [10])]), ⟨(some 81), .not (.s 80), (some (77, true))⟩, ⟨(some 82), .pick (.s 77) (.s 81) (.c (.bool false)), none⟩, xm 2 82])
 (.ret))
 (.skip)))))))))))
 (.seq (.reg [xf 0 83 1, xo 84 83, xB .geq 85 84 1, xm 86 85, xg 86 (xf 0 87 1), xg 86 (xo 88 87), xg 86 (xB .leq 89 88 8), ⟨(some 90), .pick (.s 86) (.s 89) (.c (.bool false)), none⟩, xm 91 90, xg 91 (xf 2 92 1), xg 91 (xo 93 92), xg 91 (xL 94 93), xg 91 (xB .eql 95 94 0), ⟨(some 96), .pick (.s 91) (.s 95) (.c (.bool false)), none⟩, xm 2 96])
 (.ret))))
theorem fn11 : IsFn prog 11 ac11 [.tmp 2] 97 := ⟨f11, ⟨[], []⟩, func11, by kernel_rfl, by kernel_rfl, by kernel_rfl, by kernel_rfl⟩
def ac22 : AC := .seq (.reg [⟨(some 2), .mv (.c (.bool false)), none⟩])
 (.seq (.reg [xi 3 0])
 (.seq (.seq (.reg [xm 6 0, xL 7 6, xi 8 0])
 (.block 0 (.loop (.seq (.reg [xb .lss 9 8 7])
 (.seq (.cond (.s 9) (.skip)
 (.exit 0))
 (.seq (.block 1 (.seq (.reg [xA 1 10 6 8, xo 11 10, xm 5 11])
 (.seq (.seq (.reg [xm 12 5, xm 13 3, xb .leq 14 12 13, xm 15 14, xh 15 (xm 16 5), xh 15 (xB .gtr 17 16 64), ⟨(some 18), .pick (.s 15) (.c (.bool true)) (.s 17), none⟩])
 (.cond (.s 18) (.seq (.reg [⟨(some 2), .mv (.c (.bool false)), none⟩])
 (.ret))
 (.skip)))
 (.reg [xm 19 5, xm 3 19]))))
 (.reg [xB .add 20 8 1, xm 8 20])))))))
 (.seq (.reg [⟨(some 2), .mv (.c (.bool true)), none⟩])
 (.ret))))
theorem fn22 : IsFn prog 22 ac22 [.tmp 2] 21 := ⟨f22, ⟨[], []⟩, func22, by kernel_rfl, by kernel_rfl, by kernel_rfl, by kernel_rfl⟩
def ac23 : AC := .seq (.reg [⟨(some 4), .mv (.c (.bool false)), none⟩])
 (.seq (.reg [xm 5 0, xm 6 1, xc 30 7 [.s 5, .s 6], xB .geq 8 7 0, xm 4 8])
 (.ret))
theorem fn23 : IsFn prog 23 ac23 [.tmp 4] 9 := ⟨f23, ⟨[], []⟩, func23, by kernel_rfl, by kernel_rfl, by kernel_rfl, by kernel_rfl⟩
def ac24 : AC := .seq (.reg [⟨(some 2), .mv (.c (.bool false)), none⟩])
 (.seq (.seq (.reg [xi 3 0])
 (.block 0 (.loop (.seq (.seq (.reg [xm 4 3, xm 5 0, xL 6 5, xb .lss 7 4 6])
 (.cond (.s 7) (.skip)
 (.exit 0)))
 (.seq (.block 1 (.seq (.draw [(xm 10 0, []), (xm 11 3, []), (xA 1 12 10 11, []), (xo 13 12, []), (xB .lss 14 13 1, []), (xm 15 14, []), (xh 15 (xm 16 0), []), (xh 15 (xm 17 3), []), (xh 15 (xA 1 18 16 17), []), (xh 15 (xo 19 18), []), (xh 15 (xB .gtr 20 19 64), []), (⟨(some 21), .pick (.s 15) (.c (.bool true)) (.s 20), none⟩, []), (xm 22 21, []), (xh 22 (xm 23 3), []), (xh 22 (xB .gtr 24 23 0), []), (xh 22 (xm 25 24), []), (xg 25 (xm 26 0), []), (xg 25 (xm 27 3), []), (xg 25 (xB .sub 28 27 1), []), (xg 25 (xA 1 29 26 28), []), (xg 25 (xo 30 29), []), (xg 25 (xm 31 0), []), (xg 25 (xm 32 3), []), (xg 25 (xA 1 33 31 32), []), (xg 25 (xo 34 33), []), (xg 25 (xb .geq 35 30 34), []), (⟨(some 36), .pick (.s 25) (.s 35) (.c (.bool false)), (some (22, false))⟩, []), (⟨(some 37), .pick (.s 22) (.c (.bool true)) (.s 36), none⟩, [])])
 (.cond (.s 37) (.seq (.reg [⟨(some 2), .mv (.c (.bool false)), none⟩])
 (.ret))
 (.skip))))
 (.reg [xm 8 3, xB .add 9 8 1, xm 3 9]))))))
 (.seq (.reg [⟨(some 2), .mv (.c (.bool true)), none⟩])
 (.ret)))
theorem fn24 : IsFn prog 24 ac24 [.tmp 2] 38 := ⟨f24, ⟨[], []⟩, func24, by kernel_rfl, by kernel_rfl, by kernel_rfl, by kernel_rfl⟩
def ac27 : AC := .seq (.reg [⟨(some 4), .mv (.c (.bool false)), none⟩])
 (.seq (.seq (.reg [xm 6 0, xL 7 6, xm 8 1, xL 9 8, xb .neq 10 7 9])
 (.cond (.s 10) (.seq (.reg [⟨(some 4), .mv (.c (.bool false)), none⟩])
 (.ret))
 (.skip)))
 (.seq (.seq (.reg [xi 5 0])
 (.block 0 (.loop (.seq (.seq (.reg [xm 11 5, xm 12 0, xL 13 12, xb .lss 14 11 13])
 (.cond (.s 14) (.skip)
 (.exit 0)))
 (.seq (.block 1 (.seq (.draw [(xm 17 0, []), (xm 18 5, []), (xA 1 19 17 18, []), (xo 20 19, []), (xm 21 1, []), (xm 22 5, []), (xA 1 23 21 22, []), (xo 24 23, []), (xb .neq 25 20 24, [])])
 (.cond (.s 25) (.seq (.reg [⟨(some 4), .mv (.c (.bool false)), none⟩])
 (.ret))
 (.skip))))
 (.reg [xm 15 5, xB .add 16 15 1, xm 5 16]))))))
 (.seq (.reg [⟨(some 4), .mv (.c (.bool true)), none⟩])
 (.ret))))
theorem fn27 : IsFn prog 27 ac27 [.tmp 4] 26 := ⟨f27, ⟨[], []⟩, func27, by kernel_rfl, by kernel_rfl, by kernel_rfl, by kernel_rfl⟩
def ac30 : AC := .seq (.reg [xi 4 0])
 (.seq (.reg [xm 5 0, xm 6 1, xc 40 7 [.s 5, .s 6], xm 4 7])
 (.ret))
theorem fn30 : IsFn prog 30 ac30 [.tmp 4] 8 := ⟨f30, ⟨[], []⟩, func30, by kernel_rfl, by kernel_rfl, by kernel_rfl, by kernel_rfl⟩
def ac40 : AC := .seq (.reg [xi 4 0])
 (.seq (.reg [xm 14 1, xT 15 14, xm 5 15])
 (.seq (.block 0 (.seq (.reg [xm 17 5, xB .eql 18 17 0, xm 19 18, xh 19 (xm 20 1), xh 19 (xm 21 0), ⟨(some 22), .binS .eql (.s 20) (.s 21), (some (19, false))⟩, ⟨(some 23), .pick (.s 19) (.c (.bool true)) (.s 22), none⟩, xm 16 23])
 (.cond (.s 16) (.seq (.reg [xi 4 0])
 (.ret))
 (.seq (.reg [xm 25 5, xB .eql 26 25 1, xm 24 26])
 (.cond (.s 24) (.seq (.reg [xm 27 0, xm 28 1, ⟨(some 29), .idxS (.s 28) (.c (.int .i64 0)), none⟩, xc 47 30 [.s 27, .s 29], xm 4 30])
 (.ret))
 (.seq (.reg [xm 32 5, xm 33 0, xT 34 33, xb .geq 35 32 34, xm 31 35])
 (.cond (.s 31) (.seq (.reg [xi 4 (-1)])
 (.ret))
 (.seq (.reg [xm 37 5, ⟨(some 38), .load false 1 (.c (.ptr (.out 2) 0)), none⟩, xb .leq 39 37 38, xm 40 39, xg 40 (xm 41 0), xg 40 (xT 42 41), xg 40 (xB .leq 43 42 64), ⟨(some 44), .pick (.s 40) (.s 43) (.c (.bool false)), none⟩, xm 36 44])
 (.cond (.s 36) (.seq (.reg [xm 45 0, xm 46 1, xc 48 47 [.s 45, .s 46], xm 4 47])
 (.ret))
 (.skip))))))))))
 (.seq (.reg [xm 48 1, ⟨(some 49), .idxS (.s 48) (.c (.int .i64 0)), none⟩, xm 6 49])
 (.seq (.reg [xm 50 1, ⟨(some 51), .idxS (.s 50) (.c (.int .i64 1)), none⟩, xm 7 51])
 (.seq (.reg [xi 8 0])
 (.seq (.reg [xm 52 0, xT 53 52, xm 54 5, xb .sub 55 53 54, xB .add 56 55 1, xm 9 56])
 (.seq (.reg [xi 10 0])
 (.seq (.block 1 (.loop (.seq (.seq (.reg [xm 57 8, xm 58 9, xb .lss 59 57 58])
 (.cond (.s 59) (.skip)
 (.exit 1)))
 (.block 2 (.seq (.seq (.reg [xm 60 0, xm 61 8, xS 62 60 61, xm 63 6, xb .neq 64 62 63])
 (.cond (.s 64) (.seq (.reg [xm 65 0, xm 66 8, xB .add 67 66 1, xm 68 9, ⟨(some 69), .slS (.s 65) (some (.s 67)) (some (.s 68)), none⟩, xm 70 6, xc 47 71 [.s 69, .s 70], xm 11 71])
 (.seq (.seq (.reg [xm 72 11, xB .lss 73 72 0])
 (.cond (.s 73) (.seq (.reg [xi 4 (-1)])
 (.ret))
 (.skip)))
 (.reg [xm 74 8, xm 75 11, xB .add 76 75 1, xb .add 77 74 76, xm 8 77])))
 (.skip)))
 (.seq (.seq (.reg [xm 78 0, xm 79 8, xB .add 80 79 1, xS 81 78 80, xm 82 7, xb .eql 83 81 82, xm 84 83, xg 84 (xm 85 0), xg 84 (xm 86 8), xg 84 (xm 87 8), xg 84 (xm 88 5), xg 84 (xb .add 89 87 88), ⟨(some 90), .slS (.s 85) (some (.s 86)) (some (.s 89)), (some (84, true))⟩, xg 84 (xm 91 1), ⟨(some 92), .binS .eql (.s 90) (.s 91), (some (84, true))⟩, ⟨(some 93), .pick (.s 84) (.s 92) (.c (.bool false)), none⟩])
 (.cond (.s 93) (.seq (.reg [xm 94 8, xm 4 94])
 (.ret))
 (.skip)))
 (.seq (.reg [xm 95 8, xB .add 96 95 1, xm 8 96])
 (.seq (.reg [xm 97 10, xB .add 98 97 1, xm 10 98])
 (.seq (.reg [xm 99 5, ⟨(some 100), .load false 1 (.c (.ptr (.out 2) 0)), none⟩, xb .leq 101 99 100, xm 102 101, xg 102 (xm 103 10), xg 102 (xm 104 8), xg 102 (xc 49 105 [.s 104]), xg 102 (xb .gtr 106 103 105), ⟨(some 107), .pick (.s 102) (.s 106) (.c (.bool false)), none⟩])
 (.cond (.s 107) (.seq (.reg [xm 108 0, xm 109 8, ⟨(some 110), .slS (.s 108) (some (.s 109)) none, none⟩, xm 111 1, xc 48 112 [.s 110, .s 111], xm 12 112])
 (.seq (.seq (.reg [xm 113 12, xB .geq 114 113 0])
 (.cond (.s 114) (.seq (.reg [xm 115 12, xm 116 8, xb .add 117 115 116, xm 4 117])
 (.ret))
 (.skip)))
 (.seq (.reg [xi 4 (-1)])
 (.ret))))
 (.seq (.reg [xm 118 5, ⟨(some 119), .load false 1 (.c (.ptr (.out 2) 0)), none⟩, xb .gtr 120 118 119, xm 121 120, xg 121 (xm 122 10), xg 121 (xm 123 8), ⟨(some 124), .binI .shr (.s 123) (.c (.int .u64 4)), (some (121, true))⟩, ⟨(some 125), .binI .add (.c (.int .i64 4)) (.s 124), (some (121, true))⟩, xg 121 (xb .geq 126 122 125), ⟨(some 127), .pick (.s 121) (.s 126) (.c (.bool false)), none⟩, xm 128 127, xg 128 (xm 129 8), xg 128 (xm 130 9), xg 128 (xb .lss 131 129 130), ⟨(some 132), .pick (.s 128) (.s 131) (.c (.bool false)), none⟩])
 (.cond (.s 132) (.seq (.reg [xm 133 0, xm 134 8, ⟨(some 135), .slS (.s 133) (some (.s 134)) none, none⟩, xm 136 1, xc 50 137 [.s 135, .s 136], xm 13 137])
 (.seq (.seq (.reg [xm 138 13, xB .lss 139 138 0])
 (.cond (.s 139) (.seq (.reg [xi 4 (-1)])
 (.ret))
 (.skip)))
 (.seq (.reg [xm 140 8, xm 141 13, xb .add 142 140 141, xm 4 142])
 (.ret))))
 (.skip)))))))))))))
 (.seq (.reg [xi 4 (-1)])
 (.ret))))))))))
theorem fn40 : IsFn prog 40 ac40 [.tmp 4] 143 := ⟨f40, ⟨[], []⟩, func40, by kernel_rfl, by kernel_rfl, by kernel_rfl, by kernel_rfl⟩
def ac47 : AC := .seq (.reg [xi 4 0])
 (.seq (.reg [xm 5 0, xm 6 1, ⟨(some 7), .own .idxB [(.s 5), (.s 6)], none⟩, xm 4 7])
 (.ret))
theorem fn47 : IsFn prog 47 ac47 [.tmp 4] 8 := ⟨f47, ⟨[], []⟩, func47, by kernel_rfl, by kernel_rfl, by kernel_rfl, by kernel_rfl⟩
structure FR (l : List Int) where
  i : Nat
  p : Int
  le : i ≤ l.length
  res : risesF 0 l = risesF p (l.drop i)
def invR (l : List Int) (i : Nat) (p : Int) (σ : Store) : St :=
  ⟨[.sl .no 1 (iCells l), .any, .bool false, .int .i64 p, .any, .any, .sl .no 1 (iCells l), .int .i64 (l.length : Nat), .int .i64 (i : Nat)] ++ List.replicate 12 .any, [], σ⟩
theorem rises_calls (l : List Int) (σ : Store) (hl : l.length ≤ 5000) : PCalls prog 22 [.sl .no 1 (iCells l)] σ fun v σ' => v = .bool (risesF 0 l) ∧ σ' = σ := by
  refine fn22.calls ?_
  simp only [slots, ac22, am, ams, amo]
  simp only [iCells_len]
  refine vc_loop (fun p : FR l => invR l p.i p.p σ) (fun p => l.length - p.i) ?_ ?_
  · refine Upd.enter ⟨0, 0, by simp, rfl⟩ ?_ LLLe.rfl OLe.rfl
    simp [invR, List.replicate, am, amo]
  · rintro ⟨i, p, hle, hres⟩
    simp only [invR, List.replicate, am, amo]
    by_cases hlt : i < l.length
    · rw [List.drop_eq_getElem_cons hlt, risesF] at hres
      rw [decide_eq_true (show (i : Int) < l.length by omega)]
      simp only [am, amo, amc, Nat.reduceAdd, Nat.reduceEqDiff, encs_length, List.length_map, decide_true, decide_false, Int.reduceEq, Int.reduceLT, Int.reduceLE, Nat.reduceLT, Int.reduceToNat, Nat.reduceMul, Int.reduceMul, Int.reduceAdd, Int.reduceSub, if_false, reduceCtorEq, iCells_len]
      refine idxL_intro (by omega) (iCells_at hlt) ?_
      simp only [am, amo, amc, Nat.reduceAdd, Nat.reduceEqDiff, encs_length, List.length_map, decide_true, decide_false, Int.reduceEq, Int.reduceLT, Int.reduceLE, Nat.reduceLT, Int.reduceToNat, Nat.reduceMul, Int.reduceMul, Int.reduceAdd, Int.reduceSub, if_false, reduceCtorEq, iCells_len]
      generalize hx : l[i] = x at hres
      by_cases h1 : x ≤ p
      · rw [decide_eq_true h1]
        rw [decide_eq_false (show ¬ p < x by omega)] at hres
        simp only [am, amo, amc, Nat.reduceAdd, Nat.reduceEqDiff, encs_length, List.length_map, decide_true, decide_false, Int.reduceEq, Int.reduceLT, Int.reduceLE, Nat.reduceLT, Int.reduceToNat, Nat.reduceMul, Int.reduceMul, Int.reduceAdd, Int.reduceSub, if_false, reduceCtorEq, iCells_len]
        refine retK_intro rfl (Store.sub_refl _) ⟨?_, rfl⟩
        simp [V.erase, eraseL, hres]
      · rw [decide_eq_false h1]
        rw [decide_eq_true (show p < x by omega), Bool.true_and] at hres
        simp only [am, amo, amc, Nat.reduceAdd, Nat.reduceEqDiff, encs_length, List.length_map, decide_true, decide_false, Int.reduceEq, Int.reduceLT, Int.reduceLE, Nat.reduceLT, Int.reduceToNat, Nat.reduceMul, Int.reduceMul, Int.reduceAdd, Int.reduceSub, if_false, reduceCtorEq, iCells_len]
        by_cases h2 : 64 < x
        · rw [decide_eq_true h2]
          rw [decide_eq_false (show ¬ x ≤ 64 by omega)] at hres
          simp only [am, amo, amc, Nat.reduceAdd, Nat.reduceEqDiff, encs_length, List.length_map, decide_true, decide_false, Int.reduceEq, Int.reduceLT, Int.reduceLE, Nat.reduceLT, Int.reduceToNat, Nat.reduceMul, Int.reduceMul, Int.reduceAdd, Int.reduceSub, if_false, reduceCtorEq, iCells_len]
          refine retK_intro rfl (Store.sub_refl _) ⟨?_, rfl⟩
          simp [V.erase, eraseL, hres]
        · rw [decide_eq_false h2]
          rw [decide_eq_true (show x ≤ 64 by omega), Bool.true_and] at hres
          simp only [am, amo, amc, Nat.reduceAdd, Nat.reduceEqDiff, encs_length, List.length_map, decide_true, decide_false, Int.reduceEq, Int.reduceLT, Int.reduceLE, Nat.reduceLT, Int.reduceToNat, Nat.reduceMul, Int.reduceMul, Int.reduceAdd, Int.reduceSub, if_false, reduceCtorEq, iCells_len]
          rw [wrap_i64 (by omega) (by omega)]
          refine Upd.again (I := fun p : FR l => invR l p.i p.p σ) (μ := fun p : FR l => l.length - p.i) ⟨i + 1, x, hlt, hres⟩ (by simp only; omega) ?_ LLLe.rfl OLe.rfl
          simp [invR, List.replicate, am]
    · have hge : i = l.length := by omega
      rw [hge, List.drop_length, risesF] at hres
      rw [decide_eq_false (by omega)]
      simp only [am, amo, amc, Nat.reduceAdd, Nat.reduceEqDiff, encs_length, List.length_map, decide_true, decide_false, Int.reduceEq, Int.reduceLT, Int.reduceLE, Nat.reduceLT, Int.reduceToNat, Nat.reduceMul, Int.reduceMul, Int.reduceAdd, Int.reduceSub, if_false, reduceCtorEq, iCells_len]
      refine retK_intro rfl (Store.sub_refl _) ⟨?_, rfl⟩
      simp [V.erase, eraseL, hres]
structure FR2 (l : List Int) where
  i : Nat
  p : Int
  le : i ≤ l.length
  res : risesF 0 l = risesF p (l.drop i)
  zero : i = 0 → p = 0
  prev : ∀ j, i = j + 1 → 1 ≤ p ∧ l[j]? = some p
def invR2 (l : List Int) (i : Nat) (σ : Store) : St :=
  ⟨[.sl .no 1 (iCells l), .any, .bool false, .int .i64 (i : Nat)] ++ List.replicate 34 .any, [], σ⟩
theorem risesR_calls (l : List Int) (σ : Store) (hl : l.length ≤ 5000) : PCalls prog 24 [.sl .no 1 (iCells l)] σ fun v σ' => v = .bool (risesF 0 l) ∧ σ' = σ := by
  refine fn24.calls ?_
  simp only [slots, ac24, am, ams, amo]
  refine vc_loop (fun p : FR2 l => invR2 l p.i σ) (fun p => l.length - p.i) ?_ ?_
  · refine Upd.enter ⟨0, 0, by simp, rfl, fun _ => rfl, fun _ h => by omega⟩ ?_ LLLe.rfl OLe.rfl
    simp [invR2, List.replicate, am, amo]
  · rintro ⟨i, p, hle, hres, hz, hp⟩
    simp only [invR2, List.replicate, am, amo, iCells_len]
    by_cases hlt : i < l.length
    · rw [List.drop_eq_getElem_cons hlt, risesF] at hres
      rw [decide_eq_true (show (i : Int) < l.length by omega)]
      simp only [am, amo, amc, Nat.reduceAdd, Nat.reduceEqDiff, encs_length, List.length_map, decide_true, decide_false, Int.reduceEq, Int.reduceLT, Int.reduceLE, Nat.reduceLT, Int.reduceToNat, Nat.reduceMul, Int.reduceMul, Int.reduceAdd, Int.reduceSub, if_false, reduceCtorEq, iCells_len]
      refine idxL_intro (by omega) (iCells_at hlt) ?_
      simp only [am, amo, amc, Nat.reduceAdd, Nat.reduceEqDiff, encs_length, List.length_map, decide_true, decide_false, Int.reduceEq, Int.reduceLT, Int.reduceLE, Nat.reduceLT, Int.reduceToNat, Nat.reduceMul, Int.reduceMul, Int.reduceAdd, Int.reduceSub, if_false, reduceCtorEq, iCells_len]
      have hat := iCells_at hlt
      have hget : l[i]? = some l[i] := List.getElem?_eq_getElem hlt
      generalize l[i] = x at hres hat hget ⊢
      have again : ∀ st, risesF 0 l = risesF x (l.drop (i + 1)) → 1 ≤ x → LLe st (invR2 l (i + 1) σ).t → Upd ⟨st, [], σ⟩ fun st' => ∃ j : FR2 l, st' = invR2 l j.i σ ∧ l.length - j.i < l.length - i := fun st h1 h2 h3 =>
        Upd.again (I := fun p : FR2 l => invR2 l p.i σ) (μ := fun p : FR2 l => l.length - p.i) ⟨i + 1, x, hlt, h1, fun h => by omega, fun j hj => (show i = j by omega) ▸ ⟨h2, hget⟩⟩ (by simp only; omega) h3 LLLe.rfl OLe.rfl
      by_cases h1 : x < 1
      · have hr : risesF 0 l = false := by
          rw [hres, decide_eq_false]
          · rfl
          · rcases Nat.eq_zero_or_pos i with h0 | h0
            · have := hz h0; omega
            · have := (hp (i - 1) (by omega)).1; omega
        rw [decide_eq_true h1]
        simp only [am, amo, amc, Nat.reduceAdd, Nat.reduceEqDiff, encs_length, List.length_map, decide_true, decide_false, Int.reduceEq, Int.reduceLT, Int.reduceLE, Nat.reduceLT, Int.reduceToNat, Nat.reduceMul, Int.reduceMul, Int.reduceAdd, Int.reduceSub, if_false, reduceCtorEq, iCells_len]
        refine retK_intro rfl (Store.sub_refl _) ⟨?_, rfl⟩
        simp [V.erase, eraseL, hr]
      · rw [decide_eq_false h1]
        simp only [am, amo, amc, Nat.reduceAdd, Nat.reduceEqDiff, encs_length, List.length_map, decide_true, decide_false, Int.reduceEq, Int.reduceLT, Int.reduceLE, Nat.reduceLT, Int.reduceToNat, Nat.reduceMul, Int.reduceMul, Int.reduceAdd, Int.reduceSub, if_false, reduceCtorEq, iCells_len]
        refine idxL_intro (by omega) (hat) ?_
        simp only [am, amo, amc, Nat.reduceAdd, Nat.reduceEqDiff, encs_length, List.length_map, decide_true, decide_false, Int.reduceEq, Int.reduceLT, Int.reduceLE, Nat.reduceLT, Int.reduceToNat, Nat.reduceMul, Int.reduceMul, Int.reduceAdd, Int.reduceSub, if_false, reduceCtorEq, iCells_len]
        by_cases h2 : 64 < x
        · rw [decide_eq_true h2]
          rw [decide_eq_false (show ¬ x ≤ 64 by omega), Bool.and_false, Bool.false_and] at hres
          simp only [am, amo, amc, Nat.reduceAdd, Nat.reduceEqDiff, encs_length, List.length_map, decide_true, decide_false, Int.reduceEq, Int.reduceLT, Int.reduceLE, Nat.reduceLT, Int.reduceToNat, Nat.reduceMul, Int.reduceMul, Int.reduceAdd, Int.reduceSub, if_false, reduceCtorEq, iCells_len]
          refine retK_intro rfl (Store.sub_refl _) ⟨?_, rfl⟩
          simp [V.erase, eraseL, hres]
        · rw [decide_eq_false h2]
          rw [decide_eq_true (show x ≤ 64 by omega), Bool.and_true] at hres
          simp only [am, amo, amc, Nat.reduceAdd, Nat.reduceEqDiff, encs_length, List.length_map, decide_true, decide_false, Int.reduceEq, Int.reduceLT, Int.reduceLE, Nat.reduceLT, Int.reduceToNat, Nat.reduceMul, Int.reduceMul, Int.reduceAdd, Int.reduceSub, if_false, reduceCtorEq, iCells_len]
          by_cases h3 : 0 < i
          · rw [decide_eq_true (show (0 : Int) < i by omega)]
            obtain ⟨j, rfl⟩ : ∃ j, i = j + 1 := ⟨i - 1, by omega⟩
            obtain ⟨p1, p2⟩ := hp j rfl
            simp only [am, amo, amc, Nat.reduceAdd, Nat.reduceEqDiff, encs_length, List.length_map, decide_true, decide_false, Int.reduceEq, Int.reduceLT, Int.reduceLE, Nat.reduceLT, Int.reduceToNat, Nat.reduceMul, Int.reduceMul, Int.reduceAdd, Int.reduceSub, if_false, reduceCtorEq, iCells_len]
            rw [wrap_i64 (x := ((j + 1 : Nat) : Int) - 1) (by omega) (by omega), show ((j + 1 : Nat) : Int) - 1 = (j : Nat) by omega]
            refine idxL_intro (c := [.int .i64 p]) (by omega) (by simp [iCells, p2]) ?_
            simp only [am, amo, amc, Nat.reduceAdd, Nat.reduceEqDiff, encs_length, List.length_map, decide_true, decide_false, Int.reduceEq, Int.reduceLT, Int.reduceLE, Nat.reduceLT, Int.reduceToNat, Nat.reduceMul, Int.reduceMul, Int.reduceAdd, Int.reduceSub, if_false, reduceCtorEq, iCells_len]
            refine idxL_intro (by omega) (hat) ?_
            simp only [am, amo, amc, Nat.reduceAdd, Nat.reduceEqDiff, encs_length, List.length_map, decide_true, decide_false, Int.reduceEq, Int.reduceLT, Int.reduceLE, Nat.reduceLT, Int.reduceToNat, Nat.reduceMul, Int.reduceMul, Int.reduceAdd, Int.reduceSub, if_false, reduceCtorEq, iCells_len]
            by_cases h4 : x ≤ p
            · rw [decide_eq_true h4]
              rw [decide_eq_false (show ¬ p < x by omega), Bool.false_and] at hres
              simp only [am, amo, amc, Nat.reduceAdd, Nat.reduceEqDiff, encs_length, List.length_map, decide_true, decide_false, Int.reduceEq, Int.reduceLT, Int.reduceLE, Nat.reduceLT, Int.reduceToNat, Nat.reduceMul, Int.reduceMul, Int.reduceAdd, Int.reduceSub, if_false, reduceCtorEq, iCells_len]
              refine retK_intro rfl (Store.sub_refl _) ⟨?_, rfl⟩
              simp [V.erase, eraseL, hres]
            · rw [decide_eq_false h4]
              rw [decide_eq_true (show p < x by omega), Bool.true_and] at hres
              simp only [am, amo, amc, Nat.reduceAdd, Nat.reduceEqDiff, encs_length, List.length_map, decide_true, decide_false, Int.reduceEq, Int.reduceLT, Int.reduceLE, Nat.reduceLT, Int.reduceToNat, Nat.reduceMul, Int.reduceMul, Int.reduceAdd, Int.reduceSub, if_false, reduceCtorEq, iCells_len]
              rw [wrap_i64 (by omega) (by omega)]
              exact again _ hres (by omega) (by simp [invR2, List.replicate, am])
          · obtain rfl : i = 0 := by omega
            have hp0 := hz rfl
            rw [hp0, decide_eq_true (show 0 < x by omega), Bool.true_and] at hres
            rw [decide_eq_false (show ¬ (0 : Int) < ((0 : Nat) : Int) by omega)]
            simp only [am, amo, amc, Nat.reduceAdd, Nat.reduceEqDiff, encs_length, List.length_map, decide_true, decide_false, Int.reduceEq, Int.reduceLT, Int.reduceLE, Nat.reduceLT, Int.reduceToNat, Nat.reduceMul, Int.reduceMul, Int.reduceAdd, Int.reduceSub, if_false, reduceCtorEq, iCells_len]
            exact again _ hres (by omega) (by simp [invR2, List.replicate, am]; exact wl.2.1)
    · have hge : i = l.length := by omega
      rw [hge, List.drop_length, risesF] at hres
      rw [decide_eq_false (by omega)]
      simp only [am, amo, amc, Nat.reduceAdd, Nat.reduceEqDiff, encs_length, List.length_map, decide_true, decide_false, Int.reduceEq, Int.reduceLT, Int.reduceLE, Nat.reduceLT, Int.reduceToNat, Nat.reduceMul, Int.reduceMul, Int.reduceAdd, Int.reduceSub, if_false, reduceCtorEq, iCells_len]
      refine retK_intro rfl (Store.sub_refl _) ⟨?_, rfl⟩
      simp [V.erase, eraseL, hres]
structure FI (a b : List Int) where
  i : Nat
  le : i ≤ a.length
  pre : a.take i = b.take i
def invI (a b : List Int) (i : Nat) (σ : Store) : St :=
  ⟨[.sl .no 1 (iCells a), .sl .no 1 (iCells b), .any, .any, .bool false, .int .i64 (i : Nat)] ++ List.replicate 20 .any, [], σ⟩
theorem ints_calls (a b : List Int) (σ : Store) (ha : a.length ≤ 5000) (hb : b.length ≤ 5000) : PCalls prog 27 [.sl .no 1 (iCells a), .sl .no 1 (iCells b)] σ fun v σ' => v = .bool (decide (a = b)) ∧ σ' = σ := by
  refine fn27.calls ?_
  simp only [slots, ac27, am, ams, amo]
  simp only [iCells_len]
  by_cases hne : a.length = b.length
  · rw [decide_eq_true (show (a.length : Int) = b.length by omega)]
    simp only [am, amo, amc, Nat.reduceAdd, Nat.reduceEqDiff, encs_length, List.length_map, decide_true, decide_false, Int.reduceEq, Int.reduceLT, Int.reduceLE, Nat.reduceLT, Int.reduceToNat, Nat.reduceMul, Int.reduceMul, Int.reduceAdd, Int.reduceSub, if_false, reduceCtorEq, iCells_len]
    refine vc_loop (fun p : FI a b => invI a b p.i σ) (fun p => a.length - p.i) ?_ ?_
    · refine Upd.enter ⟨0, by simp, by simp⟩ ?_ LLLe.rfl OLe.rfl
      simp [invI, List.replicate, am, amo]
    · rintro ⟨i, hle, hpre⟩
      simp only [invI, List.replicate, am, amo, iCells_len]
      by_cases hlt : i < a.length
      · have hltb : i < b.length := by omega
        rw [decide_eq_true (show (i : Int) < a.length by omega)]
        simp only [am, amo, amc, Nat.reduceAdd, Nat.reduceEqDiff, encs_length, List.length_map, decide_true, decide_false, Int.reduceEq, Int.reduceLT, Int.reduceLE, Nat.reduceLT, Int.reduceToNat, Nat.reduceMul, Int.reduceMul, Int.reduceAdd, Int.reduceSub, if_false, reduceCtorEq, iCells_len]
        refine idxL_intro (by omega) (iCells_at hlt) ?_
        simp only [am, amo, amc, Nat.reduceAdd, Nat.reduceEqDiff, encs_length, List.length_map, decide_true, decide_false, Int.reduceEq, Int.reduceLT, Int.reduceLE, Nat.reduceLT, Int.reduceToNat, Nat.reduceMul, Int.reduceMul, Int.reduceAdd, Int.reduceSub, if_false, reduceCtorEq, iCells_len]
        refine idxL_intro (by omega) (iCells_at hltb) ?_
        simp only [am, amo, amc, Nat.reduceAdd, Nat.reduceEqDiff, encs_length, List.length_map, decide_true, decide_false, Int.reduceEq, Int.reduceLT, Int.reduceLE, Nat.reduceLT, Int.reduceToNat, Nat.reduceMul, Int.reduceMul, Int.reduceAdd, Int.reduceSub, if_false, reduceCtorEq, iCells_len]
        by_cases hx : a[i] = b[i]
        · rw [decide_eq_true hx]
          simp only [am, amo, amc, Nat.reduceAdd, Nat.reduceEqDiff, encs_length, List.length_map, decide_true, decide_false, Int.reduceEq, Int.reduceLT, Int.reduceLE, Nat.reduceLT, Int.reduceToNat, Nat.reduceMul, Int.reduceMul, Int.reduceAdd, Int.reduceSub, if_false, reduceCtorEq, iCells_len]
          rw [wrap_i64 (by omega) (by omega)]
          refine Upd.again (I := fun p : FI a b => invI a b p.i σ) (μ := fun p : FI a b => a.length - p.i) ⟨i + 1, hlt, by rw [List.take_succ_eq_append_getElem hlt, List.take_succ_eq_append_getElem hltb, hpre, hx]⟩ (by simp only; omega) ?_ LLLe.rfl OLe.rfl
          simp [invI, List.replicate, am]
        · rw [decide_eq_false hx]
          have hr : a ≠ b := fun e => by subst e; exact hx rfl
          simp only [am, amo, amc, Nat.reduceAdd, Nat.reduceEqDiff, encs_length, List.length_map, decide_true, decide_false, Int.reduceEq, Int.reduceLT, Int.reduceLE, Nat.reduceLT, Int.reduceToNat, Nat.reduceMul, Int.reduceMul, Int.reduceAdd, Int.reduceSub, if_false, reduceCtorEq, iCells_len]
          refine retK_intro rfl (Store.sub_refl _) ⟨?_, rfl⟩
          simp [V.erase, eraseL, hr]
      · have hge : i = a.length := by omega
        have hr : a = b := by
          rw [hge, List.take_length, hne, List.take_length] at hpre; exact hpre
        rw [decide_eq_false (by omega)]
        simp only [am, amo, amc, Nat.reduceAdd, Nat.reduceEqDiff, encs_length, List.length_map, decide_true, decide_false, Int.reduceEq, Int.reduceLT, Int.reduceLE, Nat.reduceLT, Int.reduceToNat, Nat.reduceMul, Int.reduceMul, Int.reduceAdd, Int.reduceSub, if_false, reduceCtorEq, iCells_len]
        refine retK_intro rfl (Store.sub_refl _) ⟨?_, rfl⟩
        simp [V.erase, eraseL, hr]
  · rw [decide_eq_false (show ¬ (a.length : Int) = b.length by omega)]
    have hr : a ≠ b := fun e => hne (by rw [e])
    simp only [am, amo, amc, Nat.reduceAdd, Nat.reduceEqDiff, encs_length, List.length_map, decide_true, decide_false, Int.reduceEq, Int.reduceLT, Int.reduceLE, Nat.reduceLT, Int.reduceToNat, Nat.reduceMul, Int.reduceMul, Int.reduceAdd, Int.reduceSub, if_false, reduceCtorEq, iCells_len]
    refine retK_intro rfl (Store.sub_refl _) ⟨?_, rfl⟩
    simp [V.erase, eraseL, hr]
theorem findB_ge (s : List UInt8) (c : UInt8) : decide (0 ≤ findB s c) = s.contains c := by
  rcases findB_spec s c with ⟨h1, h2⟩ | ⟨w, r, h1, h2, h3⟩
  · rw [h1, decide_eq_false (by omega)]; exact (by simpa using h2 : s.contains c = false).symm
  · rw [h3, decide_eq_true (by omega)]; subst h1; simp
theorem indexByte_calls (s : List UInt8) (c : UInt8) (σ : Store) : PCalls prog 47 [.str s, .int .u8 c.toNat] σ fun v σ' => v = .int .i64 (findB s c) ∧ σ' = σ := by
  refine fn47.calls ?_
  simp only [slots, ac47, am, amo, amc, ams, Nat.reduceAdd, Nat.reduceEqDiff, decide_true, decide_false, Int.reduceEq, Int.reduceLT, Int.reduceLE, Nat.reduceLT, Int.reduceToNat, Nat.reduceMul, Int.reduceMul, Int.reduceAdd, Int.reduceSub, if_false, reduceCtorEq, iCells_len]
  rw [idxB_eq, show ((c.toNat : Nat) : Int).toNat.toUInt8 = c by simp]
  simp only [am, amo, amc, Nat.reduceAdd, Nat.reduceEqDiff, encs_length, List.length_map, decide_true, decide_false, Int.reduceEq, Int.reduceLT, Int.reduceLE, Nat.reduceLT, Int.reduceToNat, Nat.reduceMul, Int.reduceMul, Int.reduceAdd, Int.reduceSub, if_false, reduceCtorEq, iCells_len]
  refine retK_intro rfl (Store.sub_refl _) ⟨?_, rfl⟩
  simp [V.erase, eraseL]
theorem index1_calls (s : List UInt8) (c : UInt8) (σ : Store) : PCalls prog 40 [.str s, .str [c]] σ fun v σ' => v = .int .i64 (findB s c) ∧ σ' = σ := by
  refine fn40.calls ?_
  simp only [slots, ac40, am, amo, amc, ams, Nat.reduceAdd, Nat.reduceEqDiff, decide_true, decide_false, Int.reduceEq, Int.reduceLT, Int.reduceLE, Nat.reduceLT, Int.reduceToNat, Nat.reduceMul, Int.reduceMul, Int.reduceAdd, Int.reduceSub, if_false, reduceCtorEq, iCells_len]
  rw [show (([c] : List UInt8).length : Int) = 1 from rfl]
  simp only [am, amo, amc, Nat.reduceAdd, Nat.reduceEqDiff, encs_length, List.length_map, decide_true, decide_false, Int.reduceEq, Int.reduceLT, Int.reduceLE, Nat.reduceLT, Int.reduceToNat, Nat.reduceMul, Int.reduceMul, Int.reduceAdd, Int.reduceSub, if_false, reduceCtorEq, iCells_len]
  by_cases hs : [c] = s
  · rw [decide_eq_true hs]
    subst hs
    simp only [am, amo, amc, Nat.reduceAdd, Nat.reduceEqDiff, encs_length, List.length_map, decide_true, decide_false, Int.reduceEq, Int.reduceLT, Int.reduceLE, Nat.reduceLT, Int.reduceToNat, Nat.reduceMul, Int.reduceMul, Int.reduceAdd, Int.reduceSub, if_false, reduceCtorEq, iCells_len]
    refine retK_intro rfl (Store.sub_refl _) ⟨?_, rfl⟩
    simp [V.erase, eraseL, findB]
  · rw [decide_eq_false hs]
    simp only [am, amo, amc, Nat.reduceAdd, Nat.reduceEqDiff, encs_length, List.length_map, decide_true, decide_false, Int.reduceEq, Int.reduceLT, Int.reduceLE, Nat.reduceLT, Int.reduceToNat, Nat.reduceMul, Int.reduceMul, Int.reduceAdd, Int.reduceSub, if_false, reduceCtorEq, iCells_len]
    refine idxSL_intro (s := [c]) (n := 0) (c := c) (by omega) rfl ?_
    simp only [am, amo, amc, Nat.reduceAdd, Nat.reduceEqDiff, encs_length, List.length_map, decide_true, decide_false, Int.reduceEq, Int.reduceLT, Int.reduceLE, Nat.reduceLT, Int.reduceToNat, Nat.reduceMul, Int.reduceMul, Int.reduceAdd, Int.reduceSub, if_false, reduceCtorEq, iCells_len]
    refine (indexByte_calls s c σ).mono ?_
    rintro v σ ⟨rfl, rfl⟩
    simp only [am, amo, amc, Nat.reduceAdd, Nat.reduceEqDiff, encs_length, List.length_map, decide_true, decide_false, Int.reduceEq, Int.reduceLT, Int.reduceLE, Nat.reduceLT, Int.reduceToNat, Nat.reduceMul, Int.reduceMul, Int.reduceAdd, Int.reduceSub, if_false, reduceCtorEq, iCells_len]
    refine retK_intro rfl (Store.sub_refl _) ⟨?_, rfl⟩
    simp [V.erase, eraseL]
theorem index_calls (s : List UInt8) (c : UInt8) (σ : Store) : PCalls prog 30 [.str s, .str [c]] σ fun v σ' => v = .int .i64 (findB s c) ∧ σ' = σ := by
  refine fn30.calls ?_
  simp only [slots, ac30, am, amo, amc, ams, Nat.reduceAdd, Nat.reduceEqDiff, decide_true, decide_false, Int.reduceEq, Int.reduceLT, Int.reduceLE, Nat.reduceLT, Int.reduceToNat, Nat.reduceMul, Int.reduceMul, Int.reduceAdd, Int.reduceSub, if_false, reduceCtorEq, iCells_len]
  refine (index1_calls s c σ).mono ?_
  rintro v σ ⟨rfl, rfl⟩
  simp only [am, amo, amc, Nat.reduceAdd, Nat.reduceEqDiff, encs_length, List.length_map, decide_true, decide_false, Int.reduceEq, Int.reduceLT, Int.reduceLE, Nat.reduceLT, Int.reduceToNat, Nat.reduceMul, Int.reduceMul, Int.reduceAdd, Int.reduceSub, if_false, reduceCtorEq, iCells_len]
  refine retK_intro rfl (Store.sub_refl _) ⟨?_, rfl⟩
  simp [V.erase, eraseL]
theorem contains_calls (s : List UInt8) (c : UInt8) (σ : Store) : PCalls prog 23 [.str s, .str [c]] σ fun v σ' => v = .bool (s.contains c) ∧ σ' = σ := by
  refine fn23.calls ?_
  simp only [slots, ac23, am, amo, amc, ams, Nat.reduceAdd, Nat.reduceEqDiff, decide_true, decide_false, Int.reduceEq, Int.reduceLT, Int.reduceLE, Nat.reduceLT, Int.reduceToNat, Nat.reduceMul, Int.reduceMul, Int.reduceAdd, Int.reduceSub, if_false, reduceCtorEq, iCells_len]
  refine (index_calls s c σ).mono ?_
  rintro v σ ⟨rfl, rfl⟩
  simp only [am, amo, amc, Nat.reduceAdd, Nat.reduceEqDiff, encs_length, List.length_map, decide_true, decide_false, Int.reduceEq, Int.reduceLT, Int.reduceLE, Nat.reduceLT, Int.reduceToNat, Nat.reduceMul, Int.reduceMul, Int.reduceAdd, Int.reduceSub, if_false, reduceCtorEq, iCells_len]
  rw [findB_ge]
  refine retK_intro rfl (Store.sub_refl _) ⟨?_, rfl⟩
  simp [V.erase, eraseL]
theorem right_calls (r : Rep) {σ : Store} (hg : Glob σ) (hr : ROk r) : PCalls prog 11 [.agg (renc r)] σ fun v σ' => v = .bool r.rightP ∧ σ' = σ := by
  have hrise := rises_calls r.list σ hr.len
  have hR : r.rightP = if (r.kind ≠ 8 ∧ (r.line ≠ 0 ∨ r.cls ≠ 0 ∨ r.at_ ≠ 0)) ∨ (r.kind ≠ 2 ∧ r.text ≠ []) then false
    else if r.kind = 4 then decide (0 < r.list.length) && risesF 0 r.list
    else if r.kind = 6 then risesF 0 r.list
    else if r.kind = 8 then decide (r.list.length = 0) && decide (0 ≤ r.line) && decide (0 ≤ r.at_) && !decide (tabAt classT r.cls = [])
    else if r.kind = 2 then decide (r.list.length = 0) && !r.text.contains 10
    else decide (1 ≤ r.kind) && decide (r.kind ≤ 8) && decide (r.list.length = 0) := rfl
  generalize r.rightP = R at hR ⊢
  obtain ⟨k, t, l, ln, c, a⟩ := r
  simp only [renc]
  simp only at hR hrise
  refine fn11.calls ?_
  simp only [slots, ac11, am, amo, amc, ams, Nat.reduceAdd, Nat.reduceEqDiff, decide_true, decide_false, Int.reduceEq, Int.reduceLT, Int.reduceLE, Nat.reduceLT, Int.reduceToNat, Nat.reduceMul, Int.reduceMul, Int.reduceAdd, Int.reduceSub, if_false, reduceCtorEq, iCells_len]
  repeat' (first
    | (refine gL_split (fun h => ?_) (fun h => ?_) <;> simp only [am, amo, amc, h, Nat.reduceAdd, Nat.reduceEqDiff, encs_length, List.length_map, decide_true, decide_false, Int.reduceEq, Int.reduceLT, Int.reduceLE, Nat.reduceLT, Int.reduceToNat, Nat.reduceMul, Int.reduceMul, Int.reduceAdd, Int.reduceSub, if_false, reduceCtorEq, iCells_len])
    | (refine vcIf_split (fun h => ?_) (fun h => ?_) <;> simp only [am, amo, amc, h, Nat.reduceAdd, Nat.reduceEqDiff, encs_length, List.length_map, decide_true, decide_false, Int.reduceEq, Int.reduceLT, Int.reduceLE, Nat.reduceLT, Int.reduceToNat, Nat.reduceMul, Int.reduceMul, Int.reduceAdd, Int.reduceSub, if_false, reduceCtorEq, iCells_len])
    | (refine pickL_split (fun h => ?_) (fun h => ?_) <;> simp only [am, amo, amc, h, Nat.reduceAdd, Nat.reduceEqDiff, encs_length, List.length_map, decide_true, decide_false, Int.reduceEq, Int.reduceLT, Int.reduceLE, Nat.reduceLT, Int.reduceToNat, Nat.reduceMul, Int.reduceMul, Int.reduceAdd, Int.reduceSub, if_false, reduceCtorEq, iCells_len])
    | (refine (hrise).mono ?_; rintro v σ ⟨rfl, rfl⟩; simp only [am, amo, amc, Nat.reduceAdd, Nat.reduceEqDiff, encs_length, List.length_map, decide_true, decide_false, Int.reduceEq, Int.reduceLT, Int.reduceLE, Nat.reduceLT, Int.reduceToNat, Nat.reduceMul, Int.reduceMul, Int.reduceAdd, Int.reduceSub, if_false, reduceCtorEq, iCells_len])
    | (refine (Class_calls c hg.c).mono ?_; rintro v σ ⟨rfl, rfl⟩; simp only [am, amo, amc, Nat.reduceAdd, Nat.reduceEqDiff, encs_length, List.length_map, decide_true, decide_false, Int.reduceEq, Int.reduceLT, Int.reduceLE, Nat.reduceLT, Int.reduceToNat, Nat.reduceMul, Int.reduceMul, Int.reduceAdd, Int.reduceSub, if_false, reduceCtorEq, iCells_len])
    | (refine (contains_calls t 10 σ).mono ?_; rintro v σ ⟨rfl, rfl⟩; simp only [am, amo, amc, Nat.reduceAdd, Nat.reduceEqDiff, encs_length, List.length_map, decide_true, decide_false, Int.reduceEq, Int.reduceLT, Int.reduceLE, Nat.reduceLT, Int.reduceToNat, Nat.reduceMul, Int.reduceMul, Int.reduceAdd, Int.reduceSub, if_false, reduceCtorEq, iCells_len])
  )
  all_goals refine retK_intro rfl (Store.sub_refl _) ⟨?_, rfl⟩
  all_goals clear hrise hr hg
  all_goals simp only [V.erase]
  all_goals refine congrArg V.bool ?_
  all_goals simp_all
  all_goals (try omega)
end Go.Proofs.Tryd

namespace Go.Proofs.Tryd
open Go.Am
set_option maxRecDepth 4000
set_option maxHeartbeats 4000000
def ac12 : AC := .seq (.reg [⟨(some 1), .box 6 (.s 0), none⟩, ⟨(some 2), .mv (.c (.bool false)), none⟩])
 (.seq (.seq (.reg [xf 0 4 1, xo 5 4, xB .lss 6 5 1, xm 7 6, xh 7 (xf 0 8 1), xh 7 (xo 9 8), xh 7 (xB .gtr 10 9 8), ⟨(some 11), .pick (.s 7) (.c (.bool true)) (.s 10), none⟩, xm 12 11, xh 12 (xf 0 13 1), xh 12 (xo 14 13), xh 12 (xB .neq 15 14 2), xh 12 (xm 16 15), xg 16 (xf 1 17 1), xg 16 (xo 18 17), ⟨(some 19), .binS .neq (.s 18) (.c (.str [])), (some (16, true))⟩, ⟨(some 20), .pick (.s 16) (.s 19) (.c (.bool false)), (some (12, false))⟩, ⟨(some 21), .pick (.s 12) (.c (.bool true)) (.s 20), none⟩, xm 22 21, xh 22 (xf 0 23 1), xh 22 (xo 24 23), xh 22 (xB .neq 25 24 4), xh 22 (xm 26 25), xg 26 (xf 0 27 1), xg 26 (xo 28 27), xg 26 (xB .neq 29 28 6), ⟨(some 30), .pick (.s 26) (.s 29) (.c (.bool false)), (some (22, false))⟩, xh 22 (xm 31 30), xg 31 (xf 2 32 1), xg 31 (xo 33 32), xg 31 (xL 34 33), xg 31 (xB .gtr 35 34 0), ⟨(some 36), .pick (.s 31) (.s 35) (.c (.bool false)), (some (22, false))⟩, ⟨(some 37), .pick (.s 22) (.c (.bool true)) (.s 36), none⟩, xm 38 37, xh 38 (xf 0 39 1), xh 38 (xo 40 39), xh 38 (xB .eql 41 40 4), xh 38 (xm 42 41), xg 42 (xf 2 43 1), xg 42 (xo 44 43), xg 42 (xL 45 44), xg 42 (xB .eql 46 45 0), ⟨(some 47), .pick (.s 42) (.s 46) (.c (.bool false)), (some (38, false))⟩, ⟨(some 48), .pick (.s 38) (.c (.bool true)) (.s 47), none⟩, xm 49 48, xh 49 (xf 2 50 1), xh 49 (xo 51 50), xh 49 (xc 24 52 [.s 51]), ⟨(some 53), .not (.s 52), (some (49, false))⟩, ⟨(some 54), .pick (.s 49) (.c (.bool true)) (.s 53), none⟩])
 (.cond (.s 54) (.seq (.reg [⟨(some 2), .mv (.c (.bool false)), none⟩])
 (.ret))
 (.skip)))
 (.seq (.seq (.reg [xi 3 0])
 (.block 0 (.loop (.seq (.seq (.reg [xm 55 3, xf 1 56 1, xo 57 56, xT 58 57, xb .lss 59 55 58])
 (.cond (.s 59) (.skip)
 (.exit 0)))
 (.seq (.block 1 (.seq (.reg [xf 1 62 1, xo 63 62, xm 64 3, xS 65 63 64, xu .eql 66 65 10])
 (.cond (.s 66) (.seq (.reg [⟨(some 2), .mv (.c (.bool false)), none⟩])
 (.ret))
 (.skip))))
 (.reg [xm 60 3, xB .add 61 60 1, xm 3 61]))))))
 (.seq (.seq (.reg [xf 0 67 1, xo 68 67, xB .neq 69 68 8])
 (.cond (.s 69) (.seq (.reg [xf 3 70 1, xo 71 70, xB .eql 72 71 0, xm 73 72, xg 73 (xf 4 74 1), xg 73 (xo 75 74), xg 73 (xB .eql 76 75 0), ⟨(some 77), .pick (.s 73) (.s 76) (.c (.bool false)), none⟩, xm 78 77, xg 78 (xf 5 79 1), xg 78 (xo 80 79), xg 78 (xB .eql 81 80 0), ⟨(some 82), .pick (.s 78) (.s 81) (.c (.bool false)), none⟩, xm 2 82])
 (.ret))
 (.skip)))
 (.seq (.reg [xf 3 83 1, xo 84 83, xB .geq 85 84 0, xm 86 85, xg 86 (xf 5 87 1), xg 86 (xo 88 87), xg 86 (xB .geq 89 88 0), ⟨(some 90), .pick (.s 86) (.s 89) (.c (.bool false)), none⟩, xm 91 90, xg 91 (xf 4 92 1), xg 91 (xo 93 92), xg 91 (xB .geq 94 93 1), ⟨(some 95), .pick (.s 91) (.s 94) (.c (.bool false)), none⟩, xm 96 95, xg 96 (xf 4 97 1), xg 96 (xo 98 97), xg 96 (xB .leq 99 98 8), ⟨(some 100), .pick (.s 96) (.s 99) (.c (.bool false)), none⟩, xm 2 100])
 (.ret)))))
theorem fn12 : IsFn prog 12 ac12 [.tmp 2] 101 := ⟨f12, ⟨[], []⟩, func12, by kernel_rfl, by kernel_rfl, by kernel_rfl, by kernel_rfl⟩
structure FT (t : List UInt8) where
  i : Nat
  le : i ≤ t.length
  no : 10 ∉ t.take i
theorem take_no {t : List UInt8} {i : Nat} (h : i < t.length) (hn : 10 ∉ t.take i) (hc : ¬ t[i] = 10) : 10 ∉ t.take (i + 1) := by
  rw [List.take_succ_eq_append_getElem h]
  simp only [List.mem_append, not_or, List.mem_singleton]
  exact ⟨hn, fun e => hc e.symm⟩
def invT (k : Int) (t : List UInt8) (l : List Int) (ln c a : Int) (i : Nat) (σ : Store) : St :=
  ⟨[.agg [.int .i64 k, .str t, .sl .no 1 (iCells l), .int .i64 ln, .int .i64 c, .int .i64 a], .ptr (.loc 0) 0, .bool false, .int .i64 (i : Nat)] ++ List.replicate 97 .any, [[.int .i64 k, .str t, .sl .no 1 (iCells l), .int .i64 ln, .int .i64 c, .int .i64 a]], σ⟩
theorem rightR_calls (r : Rep) (σ : Store) (hr : ROk r) : PCalls prog 12 [.agg (renc r)] σ fun v σ' => v = .bool r.rightD ∧ σ' = σ := by
  have hrise := risesR_calls r.list σ hr.len
  have htx := hr.text
  have hR : r.rightD = if r.kind < 1 ∨ 8 < r.kind ∨ (r.kind ≠ 2 ∧ r.text ≠ []) ∨ (r.kind ≠ 4 ∧ r.kind ≠ 6 ∧ 0 < r.list.length) ∨ (r.kind = 4 ∧ r.list.length = 0) ∨ risesF 0 r.list = false then false
    else if r.text.contains 10 = true then false
    else if r.kind ≠ 8 then decide (r.line = 0) && decide (r.cls = 0) && decide (r.at_ = 0)
    else decide (0 ≤ r.line) && decide (0 ≤ r.at_) && decide (1 ≤ r.cls) && decide (r.cls ≤ 8) := rfl
  generalize r.rightD = R at hR ⊢
  obtain ⟨k, t, l, ln, c, a⟩ := r
  simp only [renc]
  simp only at hR hrise htx
  generalize hri : risesF 0 l = rs at hrise hR
  refine fn12.calls ?_
  simp only [slots, ac12, am, amo, amc, ams, Nat.reduceAdd, Nat.reduceEqDiff, decide_true, decide_false, Int.reduceEq, Int.reduceLT, Int.reduceLE, Nat.reduceLT, Int.reduceToNat, Nat.reduceMul, Int.reduceMul, Int.reduceAdd, Int.reduceSub, if_false, reduceCtorEq, iCells_len]
  repeat' (first
    | (refine gL_split (fun h => ?_) (fun h => ?_) <;> simp only [am, amo, amc, h, Nat.reduceAdd, Nat.reduceEqDiff, encs_length, List.length_map, decide_true, decide_false, Int.reduceEq, Int.reduceLT, Int.reduceLE, Nat.reduceLT, Int.reduceToNat, Nat.reduceMul, Int.reduceMul, Int.reduceAdd, Int.reduceSub, if_false, reduceCtorEq, iCells_len])
    | (refine vcIf_split (fun h => ?_) (fun h => ?_) <;> simp only [am, amo, amc, h, Nat.reduceAdd, Nat.reduceEqDiff, encs_length, List.length_map, decide_true, decide_false, Int.reduceEq, Int.reduceLT, Int.reduceLE, Nat.reduceLT, Int.reduceToNat, Nat.reduceMul, Int.reduceMul, Int.reduceAdd, Int.reduceSub, if_false, reduceCtorEq, iCells_len])
    | (refine pickL_split (fun h => ?_) (fun h => ?_) <;> simp only [am, amo, amc, h, Nat.reduceAdd, Nat.reduceEqDiff, encs_length, List.length_map, decide_true, decide_false, Int.reduceEq, Int.reduceLT, Int.reduceLE, Nat.reduceLT, Int.reduceToNat, Nat.reduceMul, Int.reduceMul, Int.reduceAdd, Int.reduceSub, if_false, reduceCtorEq, iCells_len])
    | (refine (hrise).mono ?_; rintro v σ ⟨rfl, rfl⟩; simp only [am, amo, amc, Nat.reduceAdd, Nat.reduceEqDiff, encs_length, List.length_map, decide_true, decide_false, Int.reduceEq, Int.reduceLT, Int.reduceLE, Nat.reduceLT, Int.reduceToNat, Nat.reduceMul, Int.reduceMul, Int.reduceAdd, Int.reduceSub, if_false, reduceCtorEq, iCells_len])
  )
  all_goals try first
    | (refine retK_intro rfl (Store.sub_refl _) ⟨?_, rfl⟩; clear hrise hr; simp only [V.erase]; refine congrArg V.bool ?_; simp_all; done)
    | (exfalso; clear hrise hr hR; simp_all; done)
  all_goals
    have hnb : ¬ (k < 1 ∨ 8 < k ∨ (k ≠ 2 ∧ t ≠ []) ∨ (k ≠ 4 ∧ k ≠ 6 ∧ 0 < l.length) ∨ (k = 4 ∧ l.length = 0) ∨ rs = false) := by
      clear hrise hr hR; simp_all
    rw [if_neg hnb] at hR
    clear hrise hri hnb
    refine vc_loop (fun p : FT t => invT k t l ln c a p.i σ) (fun p => t.length - p.i) ?_ ?_
    · refine Upd.enter ⟨0, by simp, by simp⟩ ?_ LLLe.rfl OLe.rfl
      simp [invT, List.replicate, am, amo]
    · rintro ⟨i, hle, hno⟩
      simp only [invT, List.replicate, am, amo]
      by_cases hlt : i < t.length
      · rw [decide_eq_true (show (i : Int) < t.length by omega)]
        simp only [am, amo, amc, Nat.reduceAdd, Nat.reduceEqDiff, encs_length, List.length_map, decide_true, decide_false, Int.reduceEq, Int.reduceLT, Int.reduceLE, Nat.reduceLT, Int.reduceToNat, Nat.reduceMul, Int.reduceMul, Int.reduceAdd, Int.reduceSub, if_false, reduceCtorEq, iCells_len]
        refine idxSL_intro (c := t[i]) (by omega) (by rw [Int.toNat_natCast]; exact List.getElem?_eq_getElem hlt) ?_
        simp only [am, amo, amc, Nat.reduceAdd, Nat.reduceEqDiff, encs_length, List.length_map, decide_true, decide_false, Int.reduceEq, Int.reduceLT, Int.reduceLE, Nat.reduceLT, Int.reduceToNat, Nat.reduceMul, Int.reduceMul, Int.reduceAdd, Int.reduceSub, if_false, reduceCtorEq, iCells_len]
        by_cases hc : t[i] = 10
        · have hm : t.contains 10 = true := by
            rw [List.contains_iff_mem, ← hc]; exact List.getElem_mem _
          rw [if_pos hm] at hR
          rw [decide_eq_true (show ((t[i].toNat : Nat) : Int) = 10 by rw [hc]; rfl)]
          simp only [am, amo, amc, Nat.reduceAdd, Nat.reduceEqDiff, encs_length, List.length_map, decide_true, decide_false, Int.reduceEq, Int.reduceLT, Int.reduceLE, Nat.reduceLT, Int.reduceToNat, Nat.reduceMul, Int.reduceMul, Int.reduceAdd, Int.reduceSub, if_false, reduceCtorEq, iCells_len]
          refine retK_intro rfl (Store.sub_refl _) ⟨?_, rfl⟩
          simp [V.erase, eraseL, hR]
        · have hm : ¬ ((t[i].toNat : Nat) : Int) = 10 := fun e => hc (UInt8.toNat_inj.1 (by simpa using Int.ofNat_inj.1 e))
          rw [decide_eq_false hm]
          simp only [am, amo, amc, Nat.reduceAdd, Nat.reduceEqDiff, encs_length, List.length_map, decide_true, decide_false, Int.reduceEq, Int.reduceLT, Int.reduceLE, Nat.reduceLT, Int.reduceToNat, Nat.reduceMul, Int.reduceMul, Int.reduceAdd, Int.reduceSub, if_false, reduceCtorEq, iCells_len]
          rw [wrap_i64 (by omega) (by omega)]
          refine Upd.again (I := fun p : FT t => invT k t l ln c a p.i σ) (μ := fun p : FT t => t.length - p.i) ⟨i + 1, hlt, take_no hlt hno hc⟩ (by simp only; omega) ?_ LLLe.rfl OLe.rfl
          simp [invT, List.replicate, am]
      · have hge : i = t.length := by omega
        rw [hge, List.take_length] at hno
        rw [if_neg (by simpa using hno)] at hR
        rw [decide_eq_false (by omega)]
        simp only [am, amo, amc, Nat.reduceAdd, Nat.reduceEqDiff, encs_length, List.length_map, decide_true, decide_false, Int.reduceEq, Int.reduceLT, Int.reduceLE, Nat.reduceLT, Int.reduceToNat, Nat.reduceMul, Int.reduceMul, Int.reduceAdd, Int.reduceSub, if_false, reduceCtorEq, iCells_len]
        clear hr hle hno hge
        repeat' (first
          | (refine gL_split (fun h => ?_) (fun h => ?_) <;> simp only [am, amo, amc, h, Nat.reduceAdd, Nat.reduceEqDiff, encs_length, List.length_map, decide_true, decide_false, Int.reduceEq, Int.reduceLT, Int.reduceLE, Nat.reduceLT, Int.reduceToNat, Nat.reduceMul, Int.reduceMul, Int.reduceAdd, Int.reduceSub, if_false, reduceCtorEq, iCells_len])
          | (refine vcIf_split (fun h => ?_) (fun h => ?_) <;> simp only [am, amo, amc, h, Nat.reduceAdd, Nat.reduceEqDiff, encs_length, List.length_map, decide_true, decide_false, Int.reduceEq, Int.reduceLT, Int.reduceLE, Nat.reduceLT, Int.reduceToNat, Nat.reduceMul, Int.reduceMul, Int.reduceAdd, Int.reduceSub, if_false, reduceCtorEq, iCells_len])
          | (refine pickL_split (fun h => ?_) (fun h => ?_) <;> simp only [am, amo, amc, h, Nat.reduceAdd, Nat.reduceEqDiff, encs_length, List.length_map, decide_true, decide_false, Int.reduceEq, Int.reduceLT, Int.reduceLE, Nat.reduceLT, Int.reduceToNat, Nat.reduceMul, Int.reduceMul, Int.reduceAdd, Int.reduceSub, if_false, reduceCtorEq, iCells_len])
        )
        all_goals refine retK_intro rfl (Store.sub_refl _) ⟨?_, rfl⟩
        all_goals simp only [V.erase]
        all_goals refine congrArg V.bool ?_
        all_goals simp_all
        all_goals trace_state
        all_goals (try omega)
end Go.Proofs.Tryd

namespace Go.Proofs.Tryd
open Go.Am
set_option maxRecDepth 4000
set_option maxHeartbeats 4000000
def ac17 : AC := .seq (.reg [⟨(some 2), .box 6 (.s 0), none⟩, ⟨(some 3), .box 6 (.s 1), none⟩, ⟨(some 4), .mv (.c (.bool false)), none⟩])
 (.seq (.reg [xf 0 5 2, xo 6 5, xf 0 7 3, xo 8 7, xb .eql 9 6 8, xm 10 9, xg 10 (xf 1 11 2), xg 10 (xo 12 11), xg 10 (xf 1 13 3), xg 10 (xo 14 13), ⟨(some 15), .binS .eql (.s 12) (.s 14), (some (10, true))⟩, ⟨(some 16), .pick (.s 10) (.s 15) (.c (.bool false)), none⟩, xm 17 16, xg 17 (xf 2 18 2), xg 17 (xo 19 18), xg 17 (xf 2 20 3), xg 17 (xo 21 20), xg 17 (xc 27 22 [.s 19, .s 21]), ⟨(some 23), .pick (.s 17) (.s 22) (.c (.bool false)), none⟩, xm 24 23, xg 24 (xf 3 25 2), xg 24 (xo 26 25), xg 24 (xf 3 27 3), xg 24 (xo 28 27), xg 24 (xb .eql 29 26 28), ⟨(some 30), .pick (.s 24) (.s 29) (.c (.bool false)), none⟩, xm 31 30, xg 31 (xf 4 32 2), xg 31 (xo 33 32), xg 31 (xf 4 34 3), xg 31 (xo 35 34), xg 31 (xb .eql 36 33 35), ⟨(some 37), .pick (.s 31) (.s 36) (.c (.bool false)), none⟩, xm 38 37, xg 38 (xf 5 39 2), xg 38 (xo 40 39), xg 38 (xf 5 41 3), xg 38 (xo 42 41), xg 38 (xb .eql 43 40 42), ⟨(some 44), .pick (.s 38) (.s 43) (.c (.bool false)), none⟩, xm 4 44])
 (.ret))
theorem fn17 : IsFn prog 17 ac17 [.tmp 4] 45 := ⟨f17, ⟨[], []⟩, func17, by kernel_rfl, by kernel_rfl, by kernel_rfl, by kernel_rfl⟩
theorem rep_eq (a b : Rep) : a = b ↔ a.kind = b.kind ∧ a.text = b.text ∧ a.list = b.list ∧ a.line = b.line ∧ a.cls = b.cls ∧ a.at_ = b.at_ := by
  cases a; cases b; simp
theorem same_calls (a b : Rep) (σ : Store) (ha : a.list.length ≤ 5000) (hb : b.list.length ≤ 5000) : PCalls prog 17 [.agg (renc a), .agg (renc b)] σ fun v σ' => v = .bool (decide (a = b)) ∧ σ' = σ := by
  have hi := ints_calls a.list b.list σ ha hb
  have hR : decide (a = b) = decide (a.kind = b.kind ∧ a.text = b.text ∧ a.list = b.list ∧ a.line = b.line ∧ a.cls = b.cls ∧ a.at_ = b.at_) := decide_eq_decide.2 (rep_eq a b)
  generalize decide (a = b) = R at hR ⊢
  obtain ⟨k, t, l, ln, c, a⟩ := a
  obtain ⟨k2, t2, l2, ln2, c2, a2⟩ := b
  simp only [renc]
  simp only at hR hi
  refine fn17.calls ?_
  simp only [slots, ac17, am, amo, amc, ams, Nat.reduceAdd, Nat.reduceEqDiff, decide_true, decide_false, Int.reduceEq, Int.reduceLT, Int.reduceLE, Nat.reduceLT, Int.reduceToNat, Nat.reduceMul, Int.reduceMul, Int.reduceAdd, Int.reduceSub, if_false, reduceCtorEq, iCells_len]
  repeat' (first
    | (refine gL_split (fun h => ?_) (fun h => ?_) <;> simp only [am, amo, amc, h, Nat.reduceAdd, Nat.reduceEqDiff, encs_length, List.length_map, decide_true, decide_false, Int.reduceEq, Int.reduceLT, Int.reduceLE, Nat.reduceLT, Int.reduceToNat, Nat.reduceMul, Int.reduceMul, Int.reduceAdd, Int.reduceSub, if_false, reduceCtorEq, iCells_len])
    | (refine vcIf_split (fun h => ?_) (fun h => ?_) <;> simp only [am, amo, amc, h, Nat.reduceAdd, Nat.reduceEqDiff, encs_length, List.length_map, decide_true, decide_false, Int.reduceEq, Int.reduceLT, Int.reduceLE, Nat.reduceLT, Int.reduceToNat, Nat.reduceMul, Int.reduceMul, Int.reduceAdd, Int.reduceSub, if_false, reduceCtorEq, iCells_len])
    | (refine pickL_split (fun h => ?_) (fun h => ?_) <;> simp only [am, amo, amc, h, Nat.reduceAdd, Nat.reduceEqDiff, encs_length, List.length_map, decide_true, decide_false, Int.reduceEq, Int.reduceLT, Int.reduceLE, Nat.reduceLT, Int.reduceToNat, Nat.reduceMul, Int.reduceMul, Int.reduceAdd, Int.reduceSub, if_false, reduceCtorEq, iCells_len])
    | (refine (hi).mono ?_; rintro v σ ⟨rfl, rfl⟩; simp only [am, amo, amc, Nat.reduceAdd, Nat.reduceEqDiff, encs_length, List.length_map, decide_true, decide_false, Int.reduceEq, Int.reduceLT, Int.reduceLE, Nat.reduceLT, Int.reduceToNat, Nat.reduceMul, Int.reduceMul, Int.reduceAdd, Int.reduceSub, if_false, reduceCtorEq, iCells_len])
  )
  all_goals refine retK_intro rfl (Store.sub_refl _) ⟨?_, rfl⟩
  all_goals clear hi
  all_goals simp only [V.erase]
  all_goals refine congrArg V.bool ?_
  all_goals simp_all
end Go.Proofs.Tryd
