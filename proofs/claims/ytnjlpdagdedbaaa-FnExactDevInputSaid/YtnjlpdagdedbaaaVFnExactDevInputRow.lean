import Derived.Test.YtnjlpdagdedbaaaRows
import Derived.Test.YtnjlpdagdedbaaaVFnExactDevInputPlain
import Derived.WalkKit
import Derived.ProofKit
import Derived.OpenShut
import Derived.ShutString
import Derived.ChangeOld
import Derived.Below
import Derived.SizedLaws
/- laws.FnExactDevInput returns true for every input, and what it is handed reads as it did. No condition is laid on the input. -/
namespace Go.Proofs.Ytnjlpdagdedbaaa.fnExactDevInput
open Go.ChangeShapes Go.WideShapes Go.ChangeAt Go.RowKit
open Go.VE Go.VE.VFnExactDevInput
set_option linter.unusedVariables false
theorem own : ownKnob Try.prog.godebug = none := by kernel_rfl
theorem laid : laidOutB Try.prog = true := by kernel_rfl
set_option maxRecDepth 100000 in
theorem lifted (os : Os) (started : os.Started) (H : Type) (enc : TypeId × Value → H) :
    ReturnsInHanded {} Try.checked os 5 .any (Rows.fnExactDevInputSpec.pre6 enc Try.prog Try.f5 Rows.fnExactDevInputRow.domain false) (Rows.fnExactDevInputSpec.post enc Try.prog Try.f5 false true false false) := by
  refine returnsInHanded_of_change_sized (C := Try.checked) own started (by kernel_rfl) Try.func5
    (ChangeSpec.witness6 (enc := enc) (C := Try.checked) false ⟨#[], #[.agg #[.slice none 0 0, .slice none 0 0], .int .u32 0], []⟩ 16 (by kernel_rfl) (by kernel_rfl) (by kernel_rfl) (by kernel_rfl)) ?_
  intro W base args ds gs before hval hW hcnd hsz _
  exact law_calls (tys := tysOf) (F := c5.F) o5 plain laid (by kernel_rfl) (tb := 4) rfl (by kernel_rfl) rfl (fun ds h => match ds, h with | [d0, d1], _ => rfl) hval hW hsz
theorem over : Rows.fnExactDevInputRow.holds Try.pinned (OpenSpec.ofChange Rows.fnExactDevInputSpec) :=
  OpenClaim.holds_of_wide 5 Try.f5 rfl rfl rfl rfl rfl rfl rfl ⟨rfl, rfl, rfl, rfl, rfl⟩ rfl rfl rfl rfl rfl (by kernel_rfl) Try.func5 (by kernel_rfl)
    (of_decide_eq_true (by kernel_rfl)) (by unfold Func.isWrapper; first | (rw [if_pos (by decide +kernel)]; kernel_rfl) | (rw [if_neg (by decide +kernel)]; exact ⟨rfl, rfl⟩))
    (fun os started H enc _ => lifted os started H enc)
theorem proved : Rows.FnExactDevInputSaid := over
#print axioms proved
end Go.Proofs.Ytnjlpdagdedbaaa.fnExactDevInput
namespace Go.Proofs.Ytnjlpdagdedbaaa
/-- The row, under a short name, for the claim. -/
theorem fnExactDevInput_holds : Rows.FnExactDevInputSaid := fnExactDevInput.proved
end Go.Proofs.Ytnjlpdagdedbaaa
