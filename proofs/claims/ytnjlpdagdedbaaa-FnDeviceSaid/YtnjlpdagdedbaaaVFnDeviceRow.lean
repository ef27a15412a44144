import Derived.Test.YtnjlpdagdedbaaaRows
import Derived.Test.YtnjlpdagdedbaaaVFnDevicePlain
import Derived.WalkKit
import Derived.ProofKit
import Derived.OpenShut
import Derived.ShutString
import Derived.ChangeOld
import Derived.Below
import Derived.SizedLaws
/- laws.FnDevice returns true for every input, and what it is handed reads as it did. No condition is laid on the input. -/
namespace Go.Proofs.Ytnjlpdagdedbaaa.fnDevice
open Go.ChangeShapes Go.WideShapes Go.ChangeAt Go.RowKit
open Go.VE Go.VE.VFnDevice
set_option linter.unusedVariables false
theorem own : ownKnob Try.prog.godebug = none := by kernel_rfl
theorem laid : laidOutB Try.prog = true := by kernel_rfl
set_option maxRecDepth 100000 in
theorem lifted (os : Os) (started : os.Started) (H : Type) (enc : TypeId × Value → H) :
    ReturnsInHanded {} Try.checked os 9 .any (Rows.fnDeviceSpec.pre6 enc Try.prog Try.f9 Rows.fnDeviceRow.domain false) (Rows.fnDeviceSpec.post enc Try.prog Try.f9 false true false false) := by
  refine returnsInHanded_of_change_sized (C := Try.checked) own started (by kernel_rfl) Try.func9
    (ChangeSpec.witness6 (enc := enc) (C := Try.checked) false ⟨#[], #[.slice none 0 0], []⟩ 16 (by kernel_rfl) (by kernel_rfl) (by kernel_rfl) (by kernel_rfl)) ?_
  intro W base args ds gs before hval hW hcnd hsz _
  exact law_calls (tys := tysOf) (F := c9.F) o9 plain laid (by kernel_rfl) (tb := 4) rfl (by kernel_rfl) rfl (fun ds h => match ds, h with | [d0], _ => rfl) hval hW hsz
theorem over : Rows.fnDeviceRow.holds Try.pinned (OpenSpec.ofChange Rows.fnDeviceSpec) :=
  OpenClaim.holds_of_wide 9 Try.f9 rfl rfl rfl rfl rfl rfl rfl ⟨rfl, rfl, rfl, rfl, rfl⟩ rfl rfl rfl rfl rfl (by kernel_rfl) Try.func9 (by kernel_rfl)
    (of_decide_eq_true (by kernel_rfl)) (by unfold Func.isWrapper; first | (rw [if_pos (by decide +kernel)]; kernel_rfl) | (rw [if_neg (by decide +kernel)]; exact ⟨rfl, rfl⟩))
    (fun os started H enc _ => lifted os started H enc)
theorem proved : Rows.FnDeviceSaid := over
#print axioms proved
end Go.Proofs.Ytnjlpdagdedbaaa.fnDevice
namespace Go.Proofs.Ytnjlpdagdedbaaa
/-- The row, under a short name, for the claim. -/
theorem fnDevice_holds : Rows.FnDeviceSaid := fnDevice.proved
end Go.Proofs.Ytnjlpdagdedbaaa
