import Derived.Test.YtnjlpdagdedbaaaRows
import Derived.Test.YtnjlpdagdedbaaaVFnCyclicPlain
import Derived.WalkKit
import Derived.ProofKit
import Derived.OpenShut
import Derived.ShutString
import Derived.ChangeOld
import Derived.Below
import Derived.SizedLaws
/- laws.FnCyclic returns true for every input, and what it is handed reads as it did. No condition is laid on the input. -/
namespace Go.Proofs.Ytnjlpdagdedbaaa.fnCyclic
open Go.ChangeShapes Go.WideShapes Go.ChangeAt Go.RowKit
open Go.VE Go.VE.VFnCyclic
set_option linter.unusedVariables false
theorem own : ownKnob Try.prog.godebug = none := by kernel_rfl
theorem laid : laidOutB Try.prog = true := by kernel_rfl
set_option maxRecDepth 100000 in
theorem lifted (os : Os) (started : os.Started) (H : Type) (enc : TypeId × Value → H) :
    ReturnsInHanded {} Try.checked os 11 .any (Rows.fnCyclicSpec.pre6 enc Try.prog Try.f11 Rows.fnCyclicRow.domain false) (Rows.fnCyclicSpec.post enc Try.prog Try.f11 false true false false) := by
  refine returnsInHanded_of_change_sized (C := Try.checked) own started (by kernel_rfl) Try.func11
    (ChangeSpec.witness6 (enc := enc) (C := Try.checked) false ⟨#[], #[.slice none 0 0], []⟩ 16 (by kernel_rfl) (by kernel_rfl) (by kernel_rfl) (by kernel_rfl)) ?_
  intro W base args ds gs before hval hW hcnd hsz _
  exact law_calls (tys := tysOf) (F := c11.F) o11 plain laid (by kernel_rfl) (tb := 4) rfl (by kernel_rfl) rfl (fun ds h => match ds, h with | [d0], _ => rfl) hval hW hsz
theorem over : Rows.fnCyclicRow.holds Try.pinned (OpenSpec.ofChange Rows.fnCyclicSpec) :=
  OpenClaim.holds_of_wide 11 Try.f11 rfl rfl rfl rfl rfl rfl rfl ⟨rfl, rfl, rfl, rfl, rfl⟩ rfl rfl rfl rfl rfl (by kernel_rfl) Try.func11 (by kernel_rfl)
    (of_decide_eq_true (by kernel_rfl)) (by unfold Func.isWrapper; first | (rw [if_pos (by decide +kernel)]; kernel_rfl) | (rw [if_neg (by decide +kernel)]; exact ⟨rfl, rfl⟩))
    (fun os started H enc _ => lifted os started H enc)
theorem proved : Rows.FnCyclicSaid := over
#print axioms proved
end Go.Proofs.Ytnjlpdagdedbaaa.fnCyclic
namespace Go.Proofs.Ytnjlpdagdedbaaa
/-- The row, under a short name, for the claim. -/
theorem fnCyclic_holds : Rows.FnCyclicSaid := fnCyclic.proved
end Go.Proofs.Ytnjlpdagdedbaaa
