import Derived.Test.YtlgaidekljnpjaaGreatRows
import Derived.Test.YtlgaidekljnpjaaGreatVFnExactSwitchWorkPlain
import Derived.WalkKit
import Derived.ProofKit
import Derived.OpenShut
import Derived.ShutString
import Derived.ChangeOld
import Derived.Below
import Derived.SizedLaws
/- laws.FnExactSwitchWork returns true for every input, and what it is handed reads as it did. No condition is laid on the input. -/
namespace Go.Proofs.YtlgaidekljnpjaaGreat.fnExactSwitchWork
open Go.ChangeShapes Go.WideShapes Go.ChangeAt Go.RowKit
open Go.VE Go.VE.VFnExactSwitchWork
set_option linter.unusedVariables false
theorem own : ownKnob Tryz.prog.godebug = none := by kernel_rfl
theorem laid : laidOutB Tryz.prog = true := by kernel_rfl
set_option maxRecDepth 100000 in
theorem lifted (os : Os) (started : os.Started) (H : Type) (enc : TypeId × Value → H) :
    ReturnsInHanded {} Tryz.checked os 11 .any (Rows.fnExactSwitchWorkSpec.pre6 enc Tryz.prog Tryz.f11 Rows.fnExactSwitchWorkRow.domain false) (Rows.fnExactSwitchWorkSpec.post enc Tryz.prog Tryz.f11 false true false false) := by
  refine returnsInHanded_of_change_sized (C := Tryz.checked) own started (by kernel_rfl) Tryz.func11
    (ChangeSpec.witness6 (enc := enc) (C := Tryz.checked) false ⟨#[], #[.agg #[.int .i64 0, .int .i64 0, .int .i64 0, .int .i64 0, .int .i64 0, .int .i64 0, .int .i64 0, .int .i64 0, .int .i64 0, .int .i64 0, .int .i64 0, .int .i64 0, .int .i64 0, .int .i64 0, .int .i64 0, .slice none 0 0, .slice none 0 0, .slice none 0 0, .slice none 0 0], .agg #[.int .i64 0, .int .i64 0, .int .i64 0, .slice none 0 0], .int .i64 0], []⟩ 16 (by kernel_rfl) (by kernel_rfl) (by kernel_rfl) (by kernel_rfl)) ?_
  intro W base args ds gs before hval hW hcnd hsz _
  exact law_calls (tys := tysOf) (F := c11.F) o11 plain laid (by kernel_rfl) (tb := 4) rfl (by kernel_rfl) rfl (fun ds h => match ds, h with | [d0, d1, d2], _ => rfl) hval hW hsz
theorem over : Rows.fnExactSwitchWorkRow.holds Tryz.pinned (OpenSpec.ofChange Rows.fnExactSwitchWorkSpec) :=
  OpenClaim.holds_of_wide 11 Tryz.f11 rfl rfl rfl rfl rfl rfl rfl ⟨rfl, rfl, rfl, rfl, rfl⟩ rfl rfl rfl rfl rfl (by kernel_rfl) Tryz.func11 (by kernel_rfl)
    (of_decide_eq_true (by kernel_rfl)) (by unfold Func.isWrapper; first | (rw [if_pos (by decide +kernel)]; kernel_rfl) | (rw [if_neg (by decide +kernel)]; exact ⟨rfl, rfl⟩))
    (fun os started H enc _ => lifted os started H enc)
theorem proved : Rows.FnExactSwitchWorkSaid := over
#print axioms proved
end Go.Proofs.YtlgaidekljnpjaaGreat.fnExactSwitchWork
namespace Go.Proofs.YtlgaidekljnpjaaGreat
/-- The row, under a short name, for the claim. -/
theorem fnExactSwitchWork_holds : Rows.FnExactSwitchWorkSaid := fnExactSwitchWork.proved
end Go.Proofs.YtlgaidekljnpjaaGreat
