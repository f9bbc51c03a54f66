/-
  The sort lies in layer 10's program.
-/
import Derived.Test.YtbbkgjkknjpmcaaProg
import Derived.Test.YtbbkgjkknjpmcaaSort0
set_option linter.unusedSimpArgs false
set_option linter.unusedVariables false
set_option linter.unusedSectionVars false
namespace Go.Vm.T10
open Go Go.Vm
theorem sortLays : Srt.Lays Go.Proofs.Try.prog 2 (fun n => n) where
  c21 := by kernel_rfl
  c24 := by kernel_rfl
  c25 := by kernel_rfl
  c29 := by kernel_rfl
  c30 := by kernel_rfl
  c31 := by kernel_rfl
  c32 := by kernel_rfl
  c33 := by kernel_rfl
  c34 := by kernel_rfl
  c35 := by kernel_rfl
  c36 := by kernel_rfl
  c38 := by kernel_rfl
  c40 := by kernel_rfl
  c41 := by kernel_rfl
  c42 := by kernel_rfl
  c43 := by kernel_rfl
  c44 := by kernel_rfl
  c45 := by kernel_rfl
end Go.Vm.T10
