/-
  For every two replies: a right one is read again of its text, and unlike right ones have unlike texts (ReplyBack).
-/
import Derived.Test.YthapdcoaahmbiaaDoorReply6
set_option linter.unusedVariables false
set_option linter.unusedSimpArgs false
set_option linter.defProp false
set_option linter.unusedSectionVars false

namespace Go.Proofs.Tryd
open Go.Am Go.ChangeShapes Go.WideShapes Go.ChangeAt Go.RowKit
open Go.Proofs.YthapdcoaahmbiaaDoor
theorem replyBack_globs {W : World} (h : laidMetH prog Rows.replyBackRow.laid W) : MGlob W gB := globs_at h
set_option maxRecDepth 100000 in
theorem replyBack_contract (H : Type) (enc : TypeId × Value → H) (W : World) (base : Nat) (args : Array Value) (ds gs : List (DataW H)) (before : List MemPlace)
    (hval : ∀ (j : Nat) t v, f5.params[j]? = some t → args[j]? = some v → Value.okWide prog W .any base t v)
    (hW : DataW.Whole enc prog f5.params.toList Rows.replyBackSpec.vars false W args.toList ds gs before) (hL : laidMetH prog Rows.replyBackRow.laid W) :
    Calls prog 5 args W fun e W' => ∃ v, e = .returned v ∧ Rows.replyBackSpec.post enc prog f5 false true false false W args v W' := by
  have hW' := hW
  obtain ⟨p, q, hA0, hV, rfl, hfz, hnd⟩ := hW
  have hA : DataW.TrodAll enc prog W 0 (fun _ => true) true f5.params.toList args.toList ds p := hA0
  rw [params5] at hA hval
  obtain ⟨v0, vs0, d0, ds0, pp0, qq0, hargs, rfl, rfl, ⟨n0, h0⟩, r0⟩ := trodAll_cons hA
  obtain ⟨v1, vs1, d1, ds1, pp1, qq1, rfl, rfl, rfl, ⟨n1, h1⟩, r1⟩ := trodAll_cons r0
  obtain ⟨rfl, rfl, rfl⟩ := trodAll_nil r1
  obtain rfl : args = #[v0, v1] := by cases args; simp_all
  obtain ⟨rfl, rfl⟩ := trodVars_none hV
  have hG := replyBack_globs hL
  obtain ⟨y0, a0, p0, q0, s0⟩ := rd_repE (E := mEnv W gB) rfl rfl (mEnv_com hG gB_no64) h0
  obtain ⟨y1, a1, p1, q1, s1⟩ := rd_repE (E := mEnv W gB) rfl rfl (mEnv_com hG gB_no64) h1
  simp only [List.append_nil] at hW'
  have hs0 := val_struct underlying24 (hval 0 24 v0 rfl rfl) a0
  have hs1 := val_struct underlying24 (hval 1 24 v1 rfl rfl) a1
  refine law_callsM (back_calls y0 y1 gB_glob p0 q0 s0 p1 q1 s1) hG ?_ laid rowed fulls rfl underlying4 (by rw [params5]; decide +kernel) rfl ⟨rfl, rfl, rfl⟩ hW'
  simp only [RL, and_true]
  exact ⟨hs0, hs1⟩
def zeroRepV : Value := .agg #[.int .i64 0, .string ⟨#[]⟩, .slice none 0 0, .int .i64 0, .int .i64 0, .int .i64 0]
set_option maxRecDepth 100000 in
theorem replyBack_laid_met (os : Os) : laidMet prog Rows.replyBackRow.laid ((laidWorld os).forCall (fun _ _ => 0) ⟨#[], #[zeroRepV, zeroRepV], []⟩).memory :=
  laidMet_of_run' 8 (by kernel_rfl) (by kernel_rfl)
theorem replyBack_reads (os : Os) {H : Type} (enc : TypeId × Value → H) : ∃ places, DataW.whole enc prog ((laidWorld os).forCall (fun _ _ => 0) ⟨#[], #[zeroRepV, zeroRepV], []⟩).memory f5.params.toList Rows.replyBackSpec.vars false (#[zeroRepV, zeroRepV] : Array Value).toList 8 = some ([.agg [.lit (.int .i64 0), .lit (.string []), .nil, .lit (.int .i64 0), .lit (.int .i64 0), .lit (.int .i64 0)], .agg [.lit (.int .i64 0), .lit (.string []), .nil, .lit (.int .i64 0), .lit (.int .i64 0), .lit (.int .i64 0)]], [], places) :=
  ⟨[], by kernel_rfl⟩
set_option maxRecDepth 100000 in
theorem replyBack_lifted (os : Os) (started : os.Started) (H : Type) (enc : TypeId × Value → H) (F : Stop.Interp) :
    ReturnsInHanded {} checked os 5 .any ((OpenSpec.ofChange Rows.replyBackSpec).preRow enc prog f5 Rows.replyBackRow.domain false Rows.replyBackRow.laid) (((OpenSpec.ofChange Rows.replyBackSpec).at F).post enc prog f5 false true false false) := by
  obtain ⟨places, hx⟩ := replyBack_reads os enc
  refine returnsInHanded_of_row (C := checked) (s := OpenSpec.ofChange Rows.replyBackSpec) own started (by kernel_rfl) func5
    (witness_row_at (enc := enc) (C := checked) false (laidWorld os) #[zeroRepV, zeroRepV] rfl (by kernel_rfl) (by kernel_rfl) (by kernel_rfl)
      (OpenSpec.preRow_of_cond 8 hx (by kernel_rfl) (fun k hk => by cases hk) (by kernel_rfl) (replyBack_laid_met os))) ?_
  intro W base args ds gs before hval hW _ hcond _ hL _ _
  exact replyBack_contract H enc W base args ds gs before hval hW hL
theorem replyBack_proved : Rows.ReplyBackSaid :=
  OpenClaim.holds_of_cond 5 f5 rfl rfl rfl rfl rfl rfl rfl ⟨rfl, rfl, rfl, rfl, rfl⟩ rfl rfl rfl rfl rfl (by kernel_rfl) func5 (by kernel_rfl)
    (of_decide_eq_true (by kernel_rfl)) (by unfold Func.isWrapper; first | (rw [if_pos (by decide +kernel)]; kernel_rfl) | (rw [if_neg (by decide +kernel)]; exact ⟨rfl, rfl⟩))
    (fun os started H enc _ F => by rw [OpenClaim.pre_eq_preRow]; exact replyBack_lifted os started H enc F)
theorem replyBack_plain (f : FuncId) (fn : Func) (hf : YthapdcoaahmbiaaDoor.Tryd.pinned.checked.prog.funcNamed "clearance/clearancelaw29.ReplyBack" = some f) (hfn : YthapdcoaahmbiaaDoor.Tryd.pinned.checked.prog.funcs[f]? = some fn) :
    false = YthapdcoaahmbiaaDoor.Tryd.pinned.checked.prog.looks [] ∧ ∀ (j : Nat) t, fn.params[j]? = some t → YthapdcoaahmbiaaDoor.Tryd.pinned.checked.prog.wantsStandIn t = false := by
  obtain rfl : f = 5 := Option.some.inj ((show prog.funcNamed "clearance/clearancelaw29.ReplyBack" = some 5 by kernel_rfl).symm.trans hf) |>.symm
  obtain rfl : fn = f5 := (Option.some.inj (func5.symm.trans hfn)).symm
  refine ⟨by kernel_rfl, fun j t ht => ?_⟩
  rw [params5] at ht
  have h : t = 24 := by simpa using Array.mem_of_getElem? ht
  subst h
  exact (show prog.wantsStandIn 24 = false by kernel_rfl)
theorem replyBack_card : Rows.ReplyBackCardSaid :=
  Claim7.holds_tied_plain_at .later [] _ _ _ _ replyBack_proved (fun _ h => by cases h) (by kernel_rfl) (fun _ h => by cases h) replyBack_row_tie rfl ⟨rfl, rfl⟩ (by kernel_rfl) rfl replyBack_plain (by kernel_rfl)
end Go.Proofs.Tryd

namespace Go.Proofs.YthapdcoaahmbiaaDoor
/-- For every two replies: a right one is read again of its text, and unlike right ones have unlike texts (ReplyBack). -/
theorem replyBack_card_holds : Rows.ReplyBackCardSaid := Go.Proofs.Tryd.replyBack_card
end Go.Proofs.YthapdcoaahmbiaaDoor
