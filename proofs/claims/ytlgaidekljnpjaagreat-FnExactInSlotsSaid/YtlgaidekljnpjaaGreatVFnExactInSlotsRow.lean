import Derived.Test.YtlgaidekljnpjaaGreatRows
import Derived.Test.YtlgaidekljnpjaaGreatVFnExactInSlotsPlain
import Derived.WalkKit
import Derived.ProofKit
import Derived.OpenShut
import Derived.ShutString
import Derived.ChangeOld
import Derived.Below
import Derived.SizedLaws
/- laws.FnExactInSlots returns true for every input, and what it is handed reads as it did. No condition is laid on the input. -/
namespace Go.Proofs.YtlgaidekljnpjaaGreat.fnExactInSlots
open Go.ChangeShapes Go.WideShapes Go.ChangeAt Go.RowKit
open Go.VE Go.VE.VFnExactInSlots
set_option linter.unusedVariables false
theorem own : ownKnob Tryz.prog.godebug = none := by kernel_rfl
theorem laid : laidOutB Tryz.prog = true := by kernel_rfl
set_option maxRecDepth 100000 in
theorem lifted (os : Os) (started : os.Started) (H : Type) (enc : TypeId × Value → H) :
    ReturnsInHanded {} Tryz.checked os 9 .any (Rows.fnExactInSlotsSpec.pre6 enc Tryz.prog Tryz.f9 Rows.fnExactInSlotsRow.domain false) (Rows.fnExactInSlotsSpec.post enc Tryz.prog Tryz.f9 false true false false) := by
  refine returnsInHanded_of_change_sized (C := Tryz.checked) own started (by kernel_rfl) Tryz.func9
    (ChangeSpec.witness6 (enc := enc) (C := Tryz.checked) false ⟨#[], #[.agg #[.int .i64 0, .int .i64 0, .int .i64 0, .int .i64 0, .int .i64 0, .int .i64 0, .int .i64 0, .int .i64 0, .int .i64 0, .int .i64 0, .int .i64 0, .int .i64 0, .int .i64 0, .int .i64 0, .int .i64 0, .slice none 0 0, .slice none 0 0, .slice none 0 0, .slice none 0 0], .int .i64 0, .slice none 0 0], []⟩ 16 (by kernel_rfl) (by kernel_rfl) (by kernel_rfl) (by kernel_rfl)) ?_
  intro W base args ds gs before hval hW hcnd hsz _
  exact law_calls (tys := tysOf) (F := c9.F) o9 plain laid (by kernel_rfl) (tb := 4) rfl (by kernel_rfl) rfl (fun ds h => match ds, h with | [d0, d1, d2], _ => rfl) hval hW hsz
theorem over : Rows.fnExactInSlotsRow.holds Tryz.pinned (OpenSpec.ofChange Rows.fnExactInSlotsSpec) :=
  OpenClaim.holds_of_wide 9 Tryz.f9 rfl rfl rfl rfl rfl rfl rfl ⟨rfl, rfl, rfl, rfl, rfl⟩ rfl rfl rfl rfl rfl (by kernel_rfl) Tryz.func9 (by kernel_rfl)
    (of_decide_eq_true (by kernel_rfl)) (by unfold Func.isWrapper; first | (rw [if_pos (by decide +kernel)]; kernel_rfl) | (rw [if_neg (by decide +kernel)]; exact ⟨rfl, rfl⟩))
    (fun os started H enc _ => lifted os started H enc)
theorem proved : Rows.FnExactInSlotsSaid := over
#print axioms proved
end Go.Proofs.YtlgaidekljnpjaaGreat.fnExactInSlots
namespace Go.Proofs.YtlgaidekljnpjaaGreat
/-- The row, under a short name, for the claim. -/
theorem fnExactInSlots_holds : Rows.FnExactInSlotsSaid := fnExactInSlots.proved
end Go.Proofs.YtlgaidekljnpjaaGreat
