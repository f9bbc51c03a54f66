/-
  Timers: the statement TimerOnce: each timer is due once, not ahead of its moment, in order; at every list of moments and every step. No condition.
-/
import Derived.Test.YtbbkgjkknjpmcaaRows
import Derived.Test.YtbbkgjkknjpmcaaVm24
import Derived.Test.YtbbkgjkknjpmcaaT10k
import Derived.ProofKit
import Derived.SizedLaws
import Derived.Lib.RowBridge
set_option linter.unusedSimpArgs false
set_option linter.unusedVariables false
set_option linter.unusedSectionVars false
namespace Go.Proofs.Ytbbkgjkknjpmcaa
open Go.ChangeShapes Go.WideShapes Go.ChangeAt Go.RowKit Go.Vm

theorem own2 : ownKnob Try.prog.godebug = none := by kernel_rfl
theorem laidOut2 : laidOutB Try.prog = true := by kernel_rfl
theorem cells3 : Try.prog.cellsOf 3 = 1 := by kernel_rfl

theorem once_hard (us : List (List V)) (h : TyAll Try.prog 20 Try.f4.params.toList us) : VCalls Try.prog 4 (argsV Try.prog Try.f4.params.toList us) S0 (fun v _ => v = .bool true) := by
  have hp : Try.f4.params.toList = [45, 3] := by decide +kernel
  rw [hp] at h ⊢
  obtain ⟨a, r, rfl, ha, b, r', rfl, hb, hr⟩ := h
  have hr : r' = [] := hr
  subst hr
  obtain ⟨xs, c, rfl, hxs, _⟩ := TyV_slice Try.underlying45 ha
  obtain ⟨ts, rfl⟩ := exists_map (f := T10.one) (fun x hx => by
    obtain ⟨n, rfl⟩ := TyV_int Try.underlying3 (hxs x hx)
    exact ⟨n, rfl⟩)
  obtain ⟨step, rfl⟩ := TyV_int Try.underlying3 hb
  have : argsV Try.prog [45, 3] [[V.fz (Try.prog.cellsOf 3) (ts.map T10.one) c none], [.int .i64 step]] = [V.fz 1 (ts.map T10.one) c none, .int .i64 step] := by
    simp [argsV, argV, Try.underlying45, Try.underlying3, cells3]
  rw [this]
  exact T10.once_do ts c step

theorem once_lifted (os : Os) (started : os.Started) (H : Type) (enc : TypeId × Value → H) :
    ReturnsInHanded {} Try.checked os 4 .any (Rows.timerOnceSpec.pre6 enc Try.prog Try.f4 Rows.timerOnceRow.domain false) (Rows.timerOnceSpec.post enc Try.prog Try.f4 false true false false) := by
  refine returnsInHanded_of_change_sized (C := Try.checked) own2 started (by kernel_rfl) Try.func4
    (ChangeSpec.witness6 (enc := enc) (C := Try.checked) false ⟨#[], #[.slice none 0 0, .int .i64 0], []⟩ 8 (by kernel_rfl) (by kernel_rfl) (by kernel_rfl) (by kernel_rfl)) ?_
  intro W base args ds gs before hval hW _ hz _
  exact law_calls (tb := 4) laidOut2 (by decide +kernel) (by decide +kernel) rfl Try.underlying4 rfl (fun ds h => by
    match ds, h with
    | [_, _], _ => rfl) once_hard hval hW hz

theorem timerOnce_holds : Rows.TimerOnceSaid :=
  OpenClaim.holds_of_wide 4 Try.f4 rfl rfl rfl rfl rfl rfl rfl ⟨rfl, rfl, rfl, rfl, rfl⟩ rfl rfl rfl rfl rfl (by kernel_rfl) Try.func4 (by kernel_rfl)
    (of_decide_eq_true (by kernel_rfl)) (by unfold Func.isWrapper; first | (rw [if_pos (by decide +kernel)]; kernel_rfl) | (rw [if_neg (by decide +kernel)]; exact ⟨rfl, rfl⟩))
    (fun os started H enc _ => once_lifted os started H enc)
end Go.Proofs.Ytbbkgjkknjpmcaa
