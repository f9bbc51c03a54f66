/-
  Timers: the statement TimerDoes: any calls of timers, at every list of calls. No condition.
-/
import Derived.Test.YtbbkgjkknjpmcaaRows
import Derived.Test.YtbbkgjkknjpmcaaVm24
import Derived.Test.YtbbkgjkknjpmcaaT10j
import Derived.ProofKit
import Derived.SizedLaws
import Derived.Lib.RowBridge
set_option linter.unusedSimpArgs false
set_option linter.unusedVariables false
set_option linter.unusedSectionVars false
namespace Go.Proofs.Ytbbkgjkknjpmcaa
open Go.ChangeShapes Go.WideShapes Go.ChangeAt Go.RowKit Go.Vm

theorem own : ownKnob Try.prog.godebug = none := by kernel_rfl
theorem laidOut : laidOutB Try.prog = true := by kernel_rfl

theorem cells33 : Try.prog.cellsOf 33 = 4 := by kernel_rfl
theorem op33 {x : List V} (h : TyV Try.prog 19 33 x) : ∃ o, x = T10.opv o := by
  obtain ⟨a, r, rfl, ha, b, r2, rfl, hb, c, r3, rfl, hc, rfl⟩ := TyV_struct Try.underlying33 h
  obtain ⟨n1, rfl⟩ := TyV_int Try.underlying3 ha
  obtain ⟨n4, rfl⟩ := TyV_int Try.underlying3 hc
  obtain ⟨a', r, rfl, ha', b', r2, rfl, hb', rfl⟩ := TyV_struct Try.underlying31 hb
  obtain ⟨n2, rfl⟩ := TyV_int Try.underlying3 ha'
  obtain ⟨n3, rfl⟩ := TyV_int Try.underlying3 hb'
  exact ⟨(n1, (n2, n3), n4), rfl⟩

theorem does_hard (us : List (List V)) (h : TyAll Try.prog 20 Try.f3.params.toList us) : VCalls Try.prog 3 (argsV Try.prog Try.f3.params.toList us) S0 (fun v _ => v = .bool true) := by
  have hp : Try.f3.params.toList = [22] := by decide +kernel
  rw [hp] at h ⊢
  obtain ⟨a, r, rfl, ha, hr⟩ := h
  have hr : r = [] := hr
  subst hr
  obtain ⟨xs, c, rfl, hxs, _⟩ := TyV_slice Try.underlying22 ha
  obtain ⟨os, rfl⟩ := exists_map (fun x hx => op33 (hxs x hx))
  have : argsV Try.prog [22] [[V.fz (Try.prog.cellsOf 33) (os.map T10.opv) c none]] = [V.fz 4 (os.map T10.opv) c none] := by
    simp [argsV, argV, Try.underlying22, cells33]
  rw [this]
  exact T10.does_do os c

theorem does_lifted (os : Os) (started : os.Started) (H : Type) (enc : TypeId × Value → H) :
    ReturnsInHanded {} Try.checked os 3 .any (Rows.timerDoesSpec.pre6 enc Try.prog Try.f3 Rows.timerDoesRow.domain false) (Rows.timerDoesSpec.post enc Try.prog Try.f3 false true false false) := by
  refine returnsInHanded_of_change_sized (C := Try.checked) own started (by kernel_rfl) Try.func3
    (ChangeSpec.witness6 (enc := enc) (C := Try.checked) false ⟨#[], #[.slice none 0 0], []⟩ 8 (by kernel_rfl) (by kernel_rfl) (by kernel_rfl) (by kernel_rfl)) ?_
  intro W base args ds gs before hval hW _ hz _
  exact law_calls (tb := 4) laidOut (by decide +kernel) (by decide +kernel) rfl Try.underlying4 rfl (fun ds h => by
    match ds, h with
    | [d], _ => rfl) does_hard hval hW hz

theorem timerDoes_holds : Rows.TimerDoesSaid :=
  OpenClaim.holds_of_wide 3 Try.f3 rfl rfl rfl rfl rfl rfl rfl ⟨rfl, rfl, rfl, rfl, rfl⟩ rfl rfl rfl rfl rfl (by kernel_rfl) Try.func3 (by kernel_rfl)
    (of_decide_eq_true (by kernel_rfl)) (by unfold Func.isWrapper; first | (rw [if_pos (by decide +kernel)]; kernel_rfl) | (rw [if_neg (by decide +kernel)]; exact ⟨rfl, rfl⟩))
    (fun os started H enc _ => does_lifted os started H enc)
end Go.Proofs.Ytbbkgjkknjpmcaa
