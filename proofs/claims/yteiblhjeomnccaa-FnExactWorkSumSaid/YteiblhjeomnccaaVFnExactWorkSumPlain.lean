import Derived.Test.YteiblhjeomnccaaVFnExactWorkSum
/- laws.FnExactWorkSum returns true: in plain words, no program in sight. -/
set_option linter.unusedVariables false
set_option linter.unusedSimpArgs false
namespace Go.VE.VFnExactWorkSum
open Go.VE
abbrev tysOf : List Ty := [(.pair (.int .i64) (.pair (.int .i64) (.pair (.int .i64) (.pair (.int .i64) .unit))))]
theorem plain : ∀ x, wfIns tysOf x → ∃ z, c3.F x = some ((true, ()), z) := by
  intro x _
  exact ⟨(), by simp [c3, f3, f15, f16, f17]⟩

end Go.VE.VFnExactWorkSum
