/-
  VM 24: the arguments' types, one step at a time.
-/
import Derived.Test.YtbbkgjkknjpmcaaVm20
import Derived.Test.YtbbkgjkknjpmcaaVm23
set_option linter.unusedSimpArgs false
set_option linter.unusedVariables false
set_option linter.unusedSectionVars false
namespace Go.Vm
open Go Go.ChangeShapes Go.RowKit

variable {P : Program} {d t : Nat} {us : List V}
theorem TyV_int {k : IntKind} (hu : P.underlying t = some (.int k)) (h : TyV P (d + 1) t us) : ∃ n, us = [.int k n] := by
  simp only [TyV, hu] at h; exact h
theorem TyV_bool (hu : P.underlying t = some .bool) (h : TyV P (d + 1) t us) : ∃ b, us = [.bool b] := by
  simp only [TyV, hu] at h; exact h
theorem TyV_string (hu : P.underlying t = some .string) (h : TyV P (d + 1) t us) : ∃ s, us = [.str s] := by
  simp only [TyV, hu] at h; exact h
theorem TyV_slice {e : TypeId} (hu : P.underlying t = some (.slice e)) (h : TyV P (d + 1) t us) :
    ∃ xs c, us = [.fz (P.cellsOf e) xs c none] ∧ (∀ x ∈ xs, TyV P d e x) ∧ xs.length * P.bytesOf e ≤ reachBytes := by
  simp only [TyV, hu] at h; exact h
theorem TyV_struct {fs : Array Field} (hu : P.underlying t = some (.struct fs)) (h : TyV P (d + 1) t us) : TyFs P (TyV P d) fs.toList us := by
  simp only [TyV, hu] at h; exact h
theorem exists_map {α β : Type} {f : α → β} : ∀ {xs : List β}, (∀ x ∈ xs, ∃ o, x = f o) → ∃ os, xs = List.map f os
  | [], _ => ⟨[], rfl⟩
  | x :: xs, h => by
    obtain ⟨o, rfl⟩ := h x (by simp)
    obtain ⟨os, rfl⟩ := exists_map (xs := xs) (fun y hy => h y (by simp [hy]))
    exact ⟨o :: os, rfl⟩
end Go.Vm
