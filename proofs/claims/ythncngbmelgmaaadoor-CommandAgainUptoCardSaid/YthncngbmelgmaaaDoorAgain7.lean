/-
  For every line whose data is of bulk at most 1048576: a command that is read of it might have been read, its text is read as the same command and has itself as its text (CommandAgain); a tied card: the variable clearance/command.forms is tied to the copy of the project that the seat holds.
-/
import Derived.Test.YthncngbmelgmaaaDoorCards
import Derived.Test.YthncngbmelgmaaaDoorTie
import Derived.Test.YthncngbmelgmaaaDoorAgain6
set_option linter.unusedVariables false
set_option linter.unusedSimpArgs false
set_option linter.defProp false
set_option linter.unusedSectionVars false

namespace Go.Proofs.Tryd
open Go.Am Go.ChangeShapes Go.WideShapes Go.ChangeAt Go.RowKit
open Go.Proofs.YthncngbmelgmaaaDoor
theorem bulkFn (H : Type) : BulkFn (H := H) Rows.uptoBulk Rows.uptoBulkAll :=
  ⟨fun _ => by simp only [Rows.uptoBulk], fun _ _ => by simp only [Rows.uptoBulk], fun _ => by simp only [Rows.uptoBulk], by simp only [Rows.uptoBulk], fun _ _ => by simp only [Rows.uptoBulk], fun _ => by simp only [Rows.uptoBulk], by simp only [Rows.uptoBulkAll], fun _ _ => by simp only [Rows.uptoBulkAll]⟩
theorem laid : laidOutB prog = true := by kernel_rfl
theorem rowed : mapsRowed prog = true := by kernel_rfl
theorem fulls : ((List.range prog.types.size).all fun t => match prog.underlying t with | some (.slice e) => decide (0 < prog.cellsOf e) | _ => true) = true := by kernel_rfl
theorem own : ownKnob prog.godebug = none := by kernel_rfl
def formsL : List (List UInt8) := formT.flatMap fun p => [p.1, p.2]
theorem formsL_cells : formsL.map V.str = formCells := by simp [formsL, formCells, formT]
theorem forms_data {H : Type} : (Rows.laid_clearance_command_forms : DataW H) = pairsData formT := rfl
theorem c86 : prog.cellsOf 86 = 16 * 2 := by kernel_rfl
theorem c56 : prog.cellsOf 56 = 2 := by kernel_rfl
theorem c9 : prog.cellsOf 9 = 1 := by kernel_rfl
theorem forms_at {W : World} (h : laidMetH prog Rows.commandReadsRow.laid W) : ∃ e, W.heap[0]? = some (.cells (formsL.map txtVal).toArray e (0, 0)) := by
  have h : laidMet prog Rows.commandReadsRow.laid W := h
  obtain ⟨ps, ⟨g, t, cs, fuel, p, q, hg, ht, hv, hd, _, hps⟩, _, hb⟩ := h
  have e1 : g = 0 := Option.some.inj (hg.symm.trans (by kernel_rfl : prog.globalNamed "clearance/command.forms" = some 0))
  subst e1
  have e2 : t = 86 := Option.some.inj (ht.symm.trans (by kernel_rfl : (prog.globals[0]?).map (·.type) = some 86))
  subst e2
  rw [forms_data] at hd
  have hcs := cells_of_pairs underlying86 underlying56 (by kernel_rfl) (by kernel_rfl) (by kernel_rfl) underlying9 c9 c56 c86 hd
  have hcs' : cs = (formsL.map txtVal).toArray := by rw [show formsL.map txtVal = cs.toList from hcs.symm]
  obtain ⟨⟨c, e, hc⟩, _⟩ := hb 0 0 (by
    rw [hps]
    refine List.mem_append_left _ (List.mem_append_left _ ?_)
    rw [hcs']
    simp [MemPlace.row, formsL, formT])
  refine ⟨e, ?_⟩
  rw [hc]
  simp only [World.var?, hg, Option.bind_some, hc, Option.some.injEq] at hv
  rw [hv, hcs']
noncomputable def laidWorld (os : Os) : World :=
  { World.holding prog os ⟨#[], #[], []⟩ with heap := (World.holding prog os ⟨#[], #[], []⟩).heap.modify 0 fun
      | .cells _ t frozen => .cells (formsL.map txtVal).toArray t frozen
      | o => o }
theorem reads (os : Os) {H : Type} (enc : TypeId × Value → H) : ∃ places, DataW.whole enc prog ((laidWorld os).forCall (fun _ _ => 0) ⟨#[], #[.string ⟨#[]⟩], []⟩).memory f3.params.toList Rows.commandReadsSpec.vars false #[Value.string ⟨#[]⟩].toList 8 = some ([.lit (.string [])], [], places) :=
  ⟨[], by kernel_rfl⟩
end Go.Proofs.Tryd

namespace Go.Am
open Go.ChangeShapes Go.WideShapes Go.ChangeAt Go.RowKit
def IntCom (W : World) (E : Env) : Prop := ∀ b, (∃ j k n, W.cell? ⟨b, j, none⟩ = some (.int k n)) → ∀ o, (E.role b).com o
section
variable {H : Type} {enc : TypeId × Value → H} {P : Program} {W : World} {sp : Nat → Bool} {B : DataW H → Nat} {BA : List (DataW H) → Nat} {E : Env}
end
end Go.Am

namespace Go.Proofs.Tryd
open Go.Am Go.ChangeShapes Go.WideShapes Go.ChangeAt Go.RowKit
open Go.Proofs.YthncngbmelgmaaaDoor
set_option maxRecDepth 100000
theorem c3 : prog.cellsOf 3 = 1 := by kernel_rfl
section
variable {H : Type} {enc : TypeId × Value → H} {W : World} {sp : Nat → Bool} {E : Env} (hw : E.w = W) (hnl : E.nl = E) (hcom : IntCom W E)
end
end Go.Proofs.Tryd

namespace Go.Proofs.Tryd
open Go.Am Go.ChangeShapes Go.WideShapes Go.ChangeAt Go.RowKit
open Go.Proofs.YthncngbmelgmaaaDoor
end Go.Proofs.Tryd

namespace Go.Proofs.Tryd
open Go.Am Go.ChangeShapes Go.WideShapes Go.ChangeAt Go.RowKit
open Go.Proofs.YthncngbmelgmaaaDoor
theorem forms_at5 {W : World} (h : laidMetH prog Rows.commandAgainRow.laid W) : ∃ e, W.heap[0]? = some (.cells (formsL.map txtVal).toArray e (0, 0)) := forms_at h
set_option maxRecDepth 100000 in
theorem commandAgain_contract (H : Type) (enc : TypeId × Value → H) (W : World) (base : Nat) (args : Array Value) (ds gs : List (DataW H)) (before : List MemPlace)
    (hval : ∀ (j : Nat) t v, f5.params[j]? = some t → args[j]? = some v → Value.okWide prog W .any base t v)
    (hW : DataW.Whole enc prog f5.params.toList Rows.commandAgainSpec.vars false W args.toList ds gs before) (hk : Rows.uptoSmall H (ds ++ gs) = true) (hL : laidMetH prog Rows.commandAgainRow.laid W) :
    Calls prog 5 args W fun e W' => ∃ v, e = .returned v ∧ Rows.commandAgainSpec.post enc prog f5 false true false false W args v W' := by
  have hW' := hW
  obtain ⟨p, q, hA0, hV, rfl, hfz, hnd⟩ := hW
  have hA : DataW.TrodAll enc prog W 0 (fun _ => true) true f5.params.toList args.toList ds p := hA0
  rw [params5] at hA hval
  obtain ⟨v0, vs0, d0, ds0, p0, q0, hargs, rfl, rfl, ⟨n0, h0⟩, r0⟩ := trodAll_cons hA
  obtain ⟨rfl, rfl, rfl⟩ := trodAll_nil r0
  obtain rfl : args = #[v0] := by cases args; simp_all
  obtain ⟨rfl, rfl⟩ := trodVars_none hV
  obtain ⟨y0, a0, _, b0⟩ := rd_str underlying9 (bulkFn H) h0
  have hb : Rows.uptoBulkAll [d0] ≤ 1048576 := by
    have h := of_decide_eq_true hk
    rw [List.append_nil] at h
    exact h
  simp only [Rows.uptoBulkAll] at hb
  have k0 : y0.length + 1 ≤ big := by
    simp only at b0
    have hbig : 1048576 ≤ big := by simp only [big]; omega
    omega
  simp only [List.append_nil] at hW'
  obtain ⟨e, he⟩ := forms_at5 hL
  have hs := val_string underlying9 (hval 0 9 v0 rfl rfl) a0
  refine law_callsG (commandAgain_calls y0 (by rw [boxStore_box, formsL_cells]) k0) he ?_ laid rowed fulls rfl underlying4 (by rw [params5]; decide +kernel) rfl ⟨rfl, rfl, rfl⟩ hW'
  simp only [RL, R, and_true] at hs ⊢
  exact hs
theorem laid_met5 (os : Os) : laidMet prog Rows.commandAgainRow.laid ((laidWorld os).forCall (fun _ _ => 0) ⟨#[], #[.string ⟨#[]⟩], []⟩).memory :=
  laidMet_of_run' 8 (by kernel_rfl) (by kernel_rfl)
theorem reads5 (os : Os) {H : Type} (enc : TypeId × Value → H) : ∃ places, DataW.whole enc prog ((laidWorld os).forCall (fun _ _ => 0) ⟨#[], #[.string ⟨#[]⟩], []⟩).memory f5.params.toList Rows.commandAgainSpec.vars false #[Value.string ⟨#[]⟩].toList 8 = some ([.lit (.string [])], [], places) :=
  ⟨[], by kernel_rfl⟩
set_option maxRecDepth 100000 in
theorem commandAgain_lifted (os : Os) (started : os.Started) (H : Type) (enc : TypeId × Value → H) (F : Stop.Interp) :
    ReturnsInHanded {} checked os 5 .any ((Rows.OpenSpec.upto Rows.commandAgainSpec).preRow enc prog f5 Rows.commandAgainUptoRow.domain false Rows.commandAgainUptoRow.laid) (((Rows.OpenSpec.upto Rows.commandAgainSpec).at F).post enc prog f5 false true false false) := by
  obtain ⟨places, hx⟩ := reads5 os enc
  refine returnsInHanded_of_row (C := checked) (s := Rows.OpenSpec.upto Rows.commandAgainSpec) own started (by kernel_rfl) func5
    (witness_row_at (enc := enc) (C := checked) false (laidWorld os) #[.string ⟨#[]⟩] rfl (by kernel_rfl) (by kernel_rfl) (by kernel_rfl)
      (OpenSpec.preRow_of_cond 8 hx (by kernel_rfl) (fun k hk => by cases hk; kernel_rfl) (by kernel_rfl) (laid_met5 os))) ?_
  intro W base args ds gs before hval hW _ hcond _ hL _ _
  exact commandAgain_contract H enc W base args ds gs before hval hW (hcond _ rfl) hL
theorem commandAgain_proved : Rows.CommandAgainUptoSaid :=
  OpenClaim.holds_of_cond 5 f5 rfl rfl rfl rfl rfl rfl rfl ⟨rfl, rfl, rfl, rfl, rfl⟩ rfl rfl rfl rfl rfl (by kernel_rfl) func5 (by kernel_rfl)
    (of_decide_eq_true (by kernel_rfl)) (by unfold Func.isWrapper; first | (rw [if_pos (by decide +kernel)]; kernel_rfl) | (rw [if_neg (by decide +kernel)]; exact ⟨rfl, rfl⟩))
    (fun os started H enc _ F => by rw [OpenClaim.pre_eq_preRow]; exact commandAgain_lifted os started H enc F)
theorem commandAgain_plain (f : FuncId) (fn : Func) (hf : YthncngbmelgmaaaDoor.Tryd.pinned.checked.prog.funcNamed "clearance/clearancelaw12.CommandAgain" = some f) (hfn : YthncngbmelgmaaaDoor.Tryd.pinned.checked.prog.funcs[f]? = some fn) :
    false = YthncngbmelgmaaaDoor.Tryd.pinned.checked.prog.looks [] ∧ ∀ (j : Nat) t, fn.params[j]? = some t → YthncngbmelgmaaaDoor.Tryd.pinned.checked.prog.wantsStandIn t = false := by
  obtain rfl : f = 5 := Option.some.inj ((show prog.funcNamed "clearance/clearancelaw12.CommandAgain" = some 5 by kernel_rfl).symm.trans hf) |>.symm
  obtain rfl : fn = f5 := (Option.some.inj (func5.symm.trans hfn)).symm
  refine ⟨by kernel_rfl, fun j t ht => ?_⟩
  rw [params5] at ht
  obtain rfl : t = 9 := by simpa using Array.mem_of_getElem? ht
  exact (show prog.wantsStandIn 9 = false by kernel_rfl)
theorem commandAgain_card : Rows.CommandAgainUptoCardSaid :=
  Claim7.holds_tied_plain_at .later [] _ _ _ _ commandAgain_proved (fun _ h => by cases h) (by kernel_rfl) (fun _ h => by cases h) commandAgainUpto_row_tie rfl ⟨rfl, rfl⟩ (by kernel_rfl) rfl commandAgain_plain (by kernel_rfl)
end Go.Proofs.Tryd

namespace Go.Proofs.YthncngbmelgmaaaDoor
/-- For every line whose data is of bulk at most 1048576: a command that is read of it might have been read, its text is read as the same command and has itself as its text (CommandAgain); a tied card: the variable clearance/command.forms is tied to the copy of the project that the seat holds. -/
theorem commandAgain_card_holds : Rows.CommandAgainUptoCardSaid := Go.Proofs.Tryd.commandAgain_card
end Go.Proofs.YthncngbmelgmaaaDoor
