import Derived.Test.YteiblhjeomnccaaVeZ
import Derived.Test.YteiblhjeomnccaaProg
/- What the functions do that laws.FnExactWorkSum reaches, as plain functions, and that they do it. -/
set_option linter.unusedVariables false
set_option linter.unusedSimpArgs false
namespace Go.VE.VFnExactWorkSum
open Go.Proofs Go.VE
def Γ : TypeId → Option Ty := fun e => none
theorem gamOk : GamOk Try.prog Γ := fun e ty h => by simp [Γ] at h
/-! ### 16: loop.example/g00076/laws.toWork -/
noncomputable def t16 : Tbl := []
noncomputable def a16 : Nat → Option LoopAnn := fun _ => none
noncomputable def g16 (x0 : (Int × (Int × (Int × (Int × Unit))))) : Option (TysT [(.pair (.int .i64) (.pair (.int .i64) (.pair (.int .i64) (.pair (.int .i64) .unit))))] × PtT [.v (.pair (.int .i64) (.pair (.int .i64) (.pair (.int .i64) (.pair (.int .i64) .unit))))]) :=
  some ((x0, ()), ())
noncomputable def f16 (x0 : (Int × (Int × (Int × (Int × Unit))))) : (Int × (Int × (Int × (Int × Unit)))) :=
  x0
theorem n16 (x0 : (Int × (Int × (Int × (Int × Unit))))) : g16 x0 = some ((f16 x0, ()), ()) := by
  simp only [g16, f16, pull1]
noncomputable def c16 : Ctr := { ins := [.v (.pair (.int .i64) (.pair (.int .i64) (.pair (.int .i64) (.pair (.int .i64) .unit))))], out := [(.pair (.int .i64) (.pair (.int .i64) (.pair (.int .i64) (.pair (.int .i64) .unit))))], F := fun x => some ((f16 x.1, ()), ()) }
theorem v16 : LoopsOk Try.prog Γ t16 a16 (loopsIn (Try.f16.body.getD .skip) 0) := loopsOk_nil (by kernel_rfl)
theorem r16 (x : InsT c16.ins) : fnK Try.prog Γ t16 a16 Try.f16 c16 x = g16 x.1 := by kernel_rfl
theorem k16 : TblOk Try.prog t16 := tblOk_nil
theorem o16 : Holds Try.prog 16 c16 := fn_holds (code := Try.f16.body.getD .skip) (by kernel_rfl) gamOk k16 Try.func16 (by kernel_rfl) (by kernel_rfl) (by kernel_rfl) (by kernel_rfl) v16 (fun x _ h => (r16 x).trans ((n16 x.1).trans h))
/-! ### 15: loop.example/g00076/spec.WorkSum -/
noncomputable def t15 : Tbl := []
noncomputable def a15 : Nat → Option LoopAnn := fun _ => none
noncomputable def g15 (x0 : (Int × (Int × (Int × (Int × Unit))))) : Option (TysT [(.int .i64)] × PtT [.v (.pair (.int .i64) (.pair (.int .i64) (.pair (.int .i64) (.pair (.int .i64) .unit))))]) :=
  some (((wI ((wI ((wI (x0.1 + x0.2.1)) + x0.2.2.1)) + x0.2.2.2.1)), ()), ())
noncomputable def f15 (x0 : (Int × (Int × (Int × (Int × Unit))))) : Int :=
  (wI ((wI ((wI (x0.1 + x0.2.1)) + x0.2.2.1)) + x0.2.2.2.1))
theorem n15 (x0 : (Int × (Int × (Int × (Int × Unit))))) : g15 x0 = some ((f15 x0, ()), ()) := by
  simp only [g15, f15, pull1]
noncomputable def c15 : Ctr := { ins := [.v (.pair (.int .i64) (.pair (.int .i64) (.pair (.int .i64) (.pair (.int .i64) .unit))))], out := [(.int .i64)], F := fun x => some ((f15 x.1, ()), ()) }
theorem v15 : LoopsOk Try.prog Γ t15 a15 (loopsIn (Try.f15.body.getD .skip) 0) := loopsOk_nil (by kernel_rfl)
theorem r15 (x : InsT c15.ins) : fnK Try.prog Γ t15 a15 Try.f15 c15 x = g15 x.1 := by kernel_rfl
theorem k15 : TblOk Try.prog t15 := tblOk_nil
theorem o15 : Holds Try.prog 15 c15 := fn_holds (code := Try.f15.body.getD .skip) (by kernel_rfl) gamOk k15 Try.func15 (by kernel_rfl) (by kernel_rfl) (by kernel_rfl) (by kernel_rfl) v15 (fun x _ h => (r15 x).trans ((n15 x.1).trans h))
/-! ### 17: loop.example/g00076/impl.WorkSum -/
noncomputable def t17 : Tbl := []
noncomputable def a17 : Nat → Option LoopAnn := fun _ => none
noncomputable def g17 (x0 : (Int × (Int × (Int × (Int × Unit))))) : Option (TysT [(.int .i64)] × PtT [.v (.pair (.int .i64) (.pair (.int .i64) (.pair (.int .i64) (.pair (.int .i64) .unit))))]) :=
  some (((wI ((wI ((wI (x0.1 + x0.2.1)) + x0.2.2.1)) + x0.2.2.2.1)), ()), ())
noncomputable def f17 (x0 : (Int × (Int × (Int × (Int × Unit))))) : Int :=
  (wI ((wI ((wI (x0.1 + x0.2.1)) + x0.2.2.1)) + x0.2.2.2.1))
theorem n17 (x0 : (Int × (Int × (Int × (Int × Unit))))) : g17 x0 = some ((f17 x0, ()), ()) := by
  simp only [g17, f17, pull1]
noncomputable def c17 : Ctr := { ins := [.v (.pair (.int .i64) (.pair (.int .i64) (.pair (.int .i64) (.pair (.int .i64) .unit))))], out := [(.int .i64)], F := fun x => some ((f17 x.1, ()), ()) }
theorem v17 : LoopsOk Try.prog Γ t17 a17 (loopsIn (Try.f17.body.getD .skip) 0) := loopsOk_nil (by kernel_rfl)
theorem r17 (x : InsT c17.ins) : fnK Try.prog Γ t17 a17 Try.f17 c17 x = g17 x.1 := by kernel_rfl
theorem k17 : TblOk Try.prog t17 := tblOk_nil
theorem o17 : Holds Try.prog 17 c17 := fn_holds (code := Try.f17.body.getD .skip) (by kernel_rfl) gamOk k17 Try.func17 (by kernel_rfl) (by kernel_rfl) (by kernel_rfl) (by kernel_rfl) v17 (fun x _ h => (r17 x).trans ((n17 x.1).trans h))
/-! ### 3: loop.example/g00076/laws.FnExactWorkSum -/
noncomputable def t3 : Tbl := [(16, [], c16), (15, [], c15), (17, [], c17)]
noncomputable def a3 : Nat → Option LoopAnn := fun _ => none
noncomputable def g3 (x0 : (Int × (Int × (Int × (Int × Unit))))) : Option (TysT [.bool] × PtT [.v (.pair (.int .i64) (.pair (.int .i64) (.pair (.int .i64) (.pair (.int .i64) .unit))))]) :=
  bif ((f17 (f16 x0)) != (f15 (f16 x0))) then
    some ((false, ()), ())
  else
    some ((true, ()), ())
noncomputable def f3 (x0 : (Int × (Int × (Int × (Int × Unit))))) : Bool :=
  bif ((f17 (f16 x0)) != (f15 (f16 x0))) then
    false
  else
    true
theorem n3 (x0 : (Int × (Int × (Int × (Int × Unit))))) : g3 x0 = some ((f3 x0, ()), ()) := by
  simp only [g3, f3, pull1]
noncomputable def c3 : Ctr := { ins := [.v (.pair (.int .i64) (.pair (.int .i64) (.pair (.int .i64) (.pair (.int .i64) .unit))))], out := [.bool], F := fun x => some ((f3 x.1, ()), ()) }
theorem v3 : LoopsOk Try.prog Γ t3 a3 (loopsIn (Try.f3.body.getD .skip) 0) := loopsOk_nil (by kernel_rfl)
theorem r3 (x : InsT c3.ins) : fnK Try.prog Γ t3 a3 Try.f3 c3 x = g3 x.1 := by kernel_rfl
theorem k3 : TblOk Try.prog t3 := tblOk_cons o16 (tblOk_cons o15 (tblOk_cons o17 (tblOk_nil)))
theorem o3 : Holds Try.prog 3 c3 := fn_holds (code := Try.f3.body.getD .skip) (by kernel_rfl) gamOk k3 Try.func3 (by kernel_rfl) (by kernel_rfl) (by kernel_rfl) (by kernel_rfl) v3 (fun x _ h => (r3 x).trans ((n3 x.1).trans h))
end Go.VE.VFnExactWorkSum
