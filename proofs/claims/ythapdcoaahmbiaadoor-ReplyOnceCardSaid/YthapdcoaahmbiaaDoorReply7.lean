/-
  For every text: what is read is right, and its text is the one that was read (ReplyOnce).
-/
import Derived.Test.YthapdcoaahmbiaaDoorReply6
set_option linter.unusedVariables false
set_option linter.unusedSimpArgs false
set_option linter.defProp false
set_option linter.unusedSectionVars false

namespace Go.Proofs.Tryd
open Go.Am Go.ChangeShapes Go.WideShapes Go.ChangeAt Go.RowKit
open Go.Proofs.YthapdcoaahmbiaaDoor
theorem replyOnce_globs {W : World} (h : laidMetH prog Rows.replyOnceRow.laid W) : MGlob W gB := globs_at h
set_option maxRecDepth 100000 in
theorem replyOnce_contract (H : Type) (enc : TypeId × Value → H) (W : World) (base : Nat) (args : Array Value) (ds gs : List (DataW H)) (before : List MemPlace)
    (hval : ∀ (j : Nat) t v, f6.params[j]? = some t → args[j]? = some v → Value.okWide prog W .any base t v)
    (hW : DataW.Whole enc prog f6.params.toList Rows.replyOnceSpec.vars false W args.toList ds gs before) (hL : laidMetH prog Rows.replyOnceRow.laid W) :
    Calls prog 6 args W fun e W' => ∃ v, e = .returned v ∧ Rows.replyOnceSpec.post enc prog f6 false true false false W args v W' := by
  have hW' := hW
  obtain ⟨p, q, hA0, hV, rfl, hfz, hnd⟩ := hW
  have hA : DataW.TrodAll enc prog W 0 (fun _ => true) true f6.params.toList args.toList ds p := hA0
  rw [params6] at hA hval
  obtain ⟨v0, vs0, d0, ds0, pp0, qq0, hargs, rfl, rfl, ⟨n0, h0⟩, r0⟩ := trodAll_cons hA
  obtain ⟨rfl, rfl, rfl⟩ := trodAll_nil r0
  obtain rfl : args = #[v0] := by cases args; simp_all
  obtain ⟨rfl, rfl⟩ := trodVars_none hV
  have hG := replyOnce_globs hL
  obtain ⟨y0, a0, _⟩ := rd_strE (E := mEnv W gB) h0
  simp only [List.append_nil] at hW'
  have hs0 := val_string underlying9 (hval 0 9 v0 rfl rfl) a0
  refine law_callsM (once_calls y0 gB_glob) hG ?_ laid rowed fulls rfl underlying4 (by rw [params6]; decide +kernel) rfl ⟨rfl, rfl, rfl⟩ hW'
  simp only [RL, and_true]
  exact hs0
set_option maxRecDepth 100000 in
theorem replyOnce_laid_met (os : Os) : laidMet prog Rows.replyOnceRow.laid ((laidWorld os).forCall (fun _ _ => 0) ⟨#[], #[.string ⟨#[]⟩], []⟩).memory :=
  laidMet_of_run' 8 (by kernel_rfl) (by kernel_rfl)
theorem replyOnce_reads (os : Os) {H : Type} (enc : TypeId × Value → H) : ∃ places, DataW.whole enc prog ((laidWorld os).forCall (fun _ _ => 0) ⟨#[], #[.string ⟨#[]⟩], []⟩).memory f6.params.toList Rows.replyOnceSpec.vars false (#[.string ⟨#[]⟩] : Array Value).toList 8 = some ([.lit (.string [])], [], places) :=
  ⟨[], by kernel_rfl⟩
set_option maxRecDepth 100000 in
theorem replyOnce_lifted (os : Os) (started : os.Started) (H : Type) (enc : TypeId × Value → H) (F : Stop.Interp) :
    ReturnsInHanded {} checked os 6 .any ((OpenSpec.ofChange Rows.replyOnceSpec).preRow enc prog f6 Rows.replyOnceRow.domain false Rows.replyOnceRow.laid) (((OpenSpec.ofChange Rows.replyOnceSpec).at F).post enc prog f6 false true false false) := by
  obtain ⟨places, hx⟩ := replyOnce_reads os enc
  refine returnsInHanded_of_row (C := checked) (s := OpenSpec.ofChange Rows.replyOnceSpec) own started (by kernel_rfl) func6
    (witness_row_at (enc := enc) (C := checked) false (laidWorld os) #[.string ⟨#[]⟩] rfl (by kernel_rfl) (by kernel_rfl) (by kernel_rfl)
      (OpenSpec.preRow_of_cond 8 hx (by kernel_rfl) (fun k hk => by cases hk) (by kernel_rfl) (replyOnce_laid_met os))) ?_
  intro W base args ds gs before hval hW _ hcond _ hL _ _
  exact replyOnce_contract H enc W base args ds gs before hval hW hL
theorem replyOnce_proved : Rows.ReplyOnceSaid :=
  OpenClaim.holds_of_cond 6 f6 rfl rfl rfl rfl rfl rfl rfl ⟨rfl, rfl, rfl, rfl, rfl⟩ rfl rfl rfl rfl rfl (by kernel_rfl) func6 (by kernel_rfl)
    (of_decide_eq_true (by kernel_rfl)) (by unfold Func.isWrapper; first | (rw [if_pos (by decide +kernel)]; kernel_rfl) | (rw [if_neg (by decide +kernel)]; exact ⟨rfl, rfl⟩))
    (fun os started H enc _ F => by rw [OpenClaim.pre_eq_preRow]; exact replyOnce_lifted os started H enc F)
theorem replyOnce_plain (f : FuncId) (fn : Func) (hf : YthapdcoaahmbiaaDoor.Tryd.pinned.checked.prog.funcNamed "clearance/clearancelaw29.ReplyOnce" = some f) (hfn : YthapdcoaahmbiaaDoor.Tryd.pinned.checked.prog.funcs[f]? = some fn) :
    false = YthapdcoaahmbiaaDoor.Tryd.pinned.checked.prog.looks [] ∧ ∀ (j : Nat) t, fn.params[j]? = some t → YthapdcoaahmbiaaDoor.Tryd.pinned.checked.prog.wantsStandIn t = false := by
  obtain rfl : f = 6 := Option.some.inj ((show prog.funcNamed "clearance/clearancelaw29.ReplyOnce" = some 6 by kernel_rfl).symm.trans hf) |>.symm
  obtain rfl : fn = f6 := (Option.some.inj (func6.symm.trans hfn)).symm
  refine ⟨by kernel_rfl, fun j t ht => ?_⟩
  rw [params6] at ht
  obtain rfl : t = 9 := by simpa using Array.mem_of_getElem? ht
  exact (show prog.wantsStandIn 9 = false by kernel_rfl)
theorem replyOnce_card : Rows.ReplyOnceCardSaid :=
  Claim7.holds_tied_plain_at .later [] _ _ _ _ replyOnce_proved (fun _ h => by cases h) (by kernel_rfl) (fun _ h => by cases h) replyOnce_row_tie rfl ⟨rfl, rfl⟩ (by kernel_rfl) rfl replyOnce_plain (by kernel_rfl)
end Go.Proofs.Tryd

namespace Go.Proofs.YthapdcoaahmbiaaDoor
/-- For every text: what is read is right, and its text is the one that was read (ReplyOnce). -/
theorem replyOnce_card_holds : Rows.ReplyOnceCardSaid := Go.Proofs.Tryd.replyOnce_card
end Go.Proofs.YthapdcoaahmbiaaDoor
