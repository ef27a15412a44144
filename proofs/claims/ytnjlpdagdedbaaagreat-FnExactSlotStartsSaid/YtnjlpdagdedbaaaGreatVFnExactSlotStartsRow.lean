import Derived.Test.YtnjlpdagdedbaaaGreatRows
import Derived.Test.YtnjlpdagdedbaaaGreatVFnExactSlotStartsPlain
import Derived.WalkKit
import Derived.ProofKit
import Derived.OpenShut
import Derived.ShutString
import Derived.ChangeOld
import Derived.Below
import Derived.SizedLaws
/- laws.FnExactSlotStarts returns true for every input, and what it is handed reads as it did. No condition is laid on the input. -/
namespace Go.Proofs.YtnjlpdagdedbaaaGreat.fnExactSlotStarts
open Go.ChangeShapes Go.WideShapes Go.ChangeAt Go.RowKit
open Go.VE Go.VE.VFnExactSlotStarts
set_option linter.unusedVariables false
theorem own : ownKnob Tryz.prog.godebug = none := by kernel_rfl
theorem laid : laidOutB Tryz.prog = true := by kernel_rfl
set_option maxRecDepth 100000 in
theorem lifted (os : Os) (started : os.Started) (H : Type) (enc : TypeId × Value → H) :
    ReturnsInHanded {} Tryz.checked os 3 .any (Rows.fnExactSlotStartsSpec.pre6 enc Tryz.prog Tryz.f3 Rows.fnExactSlotStartsRow.domain false) (Rows.fnExactSlotStartsSpec.post enc Tryz.prog Tryz.f3 false true false false) := by
  refine returnsInHanded_of_change_sized (C := Tryz.checked) own started (by kernel_rfl) Tryz.func3
    (ChangeSpec.witness6 (enc := enc) (C := Tryz.checked) false ⟨#[], #[.agg #[.int .i64 0, .int .i64 0, .int .i64 0, .int .i64 0, .int .i64 0, .int .i64 0, .int .i64 0, .int .i64 0, .int .i64 0, .int .i64 0, .int .i64 0, .int .i64 0, .int .i64 0, .int .i64 0, .int .i64 0, .slice none 0 0, .slice none 0 0, .slice none 0 0, .slice none 0 0], .int .i64 0, .int .i64 0, .int .i64 0], []⟩ 16 (by kernel_rfl) (by kernel_rfl) (by kernel_rfl) (by kernel_rfl)) ?_
  intro W base args ds gs before hval hW hcnd hsz _
  exact law_calls (tys := tysOf) (F := c3.F) o3 plain laid (by kernel_rfl) (tb := 4) rfl (by kernel_rfl) rfl (fun ds h => match ds, h with | [d0, d1, d2, d3], _ => rfl) hval hW hsz
theorem over : Rows.fnExactSlotStartsRow.holds Tryz.pinned (OpenSpec.ofChange Rows.fnExactSlotStartsSpec) :=
  OpenClaim.holds_of_wide 3 Tryz.f3 rfl rfl rfl rfl rfl rfl rfl ⟨rfl, rfl, rfl, rfl, rfl⟩ rfl rfl rfl rfl rfl (by kernel_rfl) Tryz.func3 (by kernel_rfl)
    (of_decide_eq_true (by kernel_rfl)) (by unfold Func.isWrapper; first | (rw [if_pos (by decide +kernel)]; kernel_rfl) | (rw [if_neg (by decide +kernel)]; exact ⟨rfl, rfl⟩))
    (fun os started H enc _ => lifted os started H enc)
theorem proved : Rows.FnExactSlotStartsSaid := over
#print axioms proved
end Go.Proofs.YtnjlpdagdedbaaaGreat.fnExactSlotStarts
namespace Go.Proofs.YtnjlpdagdedbaaaGreat
/-- The row, under a short name, for the claim. -/
theorem fnExactSlotStarts_holds : Rows.FnExactSlotStartsSaid := fnExactSlotStarts.proved
end Go.Proofs.YtnjlpdagdedbaaaGreat
