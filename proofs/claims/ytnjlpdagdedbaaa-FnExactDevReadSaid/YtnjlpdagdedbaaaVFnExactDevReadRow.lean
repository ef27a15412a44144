import Derived.Test.YtnjlpdagdedbaaaRows
import Derived.Test.YtnjlpdagdedbaaaVFnExactDevReadPlain
import Derived.WalkKit
import Derived.ProofKit
import Derived.OpenShut
import Derived.ShutString
import Derived.ChangeOld
import Derived.Below
import Derived.SizedLaws
/- laws.FnExactDevRead returns true for every input, and what it is handed reads as it did. No condition is laid on the input. -/
namespace Go.Proofs.Ytnjlpdagdedbaaa.fnExactDevRead
open Go.ChangeShapes Go.WideShapes Go.ChangeAt Go.RowKit
open Go.VE Go.VE.VFnExactDevRead
set_option linter.unusedVariables false
theorem own : ownKnob Try.prog.godebug = none := by kernel_rfl
theorem laid : laidOutB Try.prog = true := by kernel_rfl
set_option maxRecDepth 100000 in
theorem lifted (os : Os) (started : os.Started) (H : Type) (enc : TypeId × Value → H) :
    ReturnsInHanded {} Try.checked os 6 .any (Rows.fnExactDevReadSpec.pre6 enc Try.prog Try.f6 Rows.fnExactDevReadRow.domain false) (Rows.fnExactDevReadSpec.post enc Try.prog Try.f6 false true false false) := by
  refine returnsInHanded_of_change_sized (C := Try.checked) own started (by kernel_rfl) Try.func6
    (ChangeSpec.witness6 (enc := enc) (C := Try.checked) false ⟨#[], #[.agg #[.slice none 0 0, .slice none 0 0]], []⟩ 16 (by kernel_rfl) (by kernel_rfl) (by kernel_rfl) (by kernel_rfl)) ?_
  intro W base args ds gs before hval hW hcnd hsz _
  exact law_calls (tys := tysOf) (F := c6.F) o6 plain laid (by kernel_rfl) (tb := 4) rfl (by kernel_rfl) rfl (fun ds h => match ds, h with | [d0], _ => rfl) hval hW hsz
theorem over : Rows.fnExactDevReadRow.holds Try.pinned (OpenSpec.ofChange Rows.fnExactDevReadSpec) :=
  OpenClaim.holds_of_wide 6 Try.f6 rfl rfl rfl rfl rfl rfl rfl ⟨rfl, rfl, rfl, rfl, rfl⟩ rfl rfl rfl rfl rfl (by kernel_rfl) Try.func6 (by kernel_rfl)
    (of_decide_eq_true (by kernel_rfl)) (by unfold Func.isWrapper; first | (rw [if_pos (by decide +kernel)]; kernel_rfl) | (rw [if_neg (by decide +kernel)]; exact ⟨rfl, rfl⟩))
    (fun os started H enc _ => lifted os started H enc)
theorem proved : Rows.FnExactDevReadSaid := over
#print axioms proved
end Go.Proofs.Ytnjlpdagdedbaaa.fnExactDevRead
namespace Go.Proofs.Ytnjlpdagdedbaaa
/-- The row, under a short name, for the claim. -/
theorem fnExactDevRead_holds : Rows.FnExactDevReadSaid := fnExactDevRead.proved
end Go.Proofs.Ytnjlpdagdedbaaa
