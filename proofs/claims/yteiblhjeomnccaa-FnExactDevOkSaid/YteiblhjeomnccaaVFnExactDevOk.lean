import Derived.Test.YteiblhjeomnccaaVeZ
import Derived.Test.YteiblhjeomnccaaProg
/- What the functions do that laws.FnExactDevOk reaches, as plain functions, and that they do it. -/
set_option linter.unusedVariables false
set_option linter.unusedSimpArgs false
namespace Go.VE.VFnExactDevOk
open Go.Proofs Go.VE
def Γ : TypeId → Option Ty := fun e => bif Nat.beq e 50 then some (.int .u32) else none
theorem gamOk : GamOk Try.prog Γ := gamOk_of [50] (fun e ty h => by
  simp only [Γ] at h
  cases h50 : Nat.beq e 50 with
  | true => simp [Nat.eq_of_beq_eq_true h50]
  | false =>
  simp only [h50, cond_false] at h
  cases h) (by kernel_rfl)
/-! ### 66: loop.example/g00076/laws.szUint32S -/
noncomputable def t66 : Tbl := []
noncomputable def a66 : Nat → Option LoopAnn := fun _ => none
noncomputable def g66 (x0 : (L Int)) (x1 : Int) : Option ((Int × Unit) × Unit) :=
  bif (decide ((wI (x1 - (x0.len : Int))) < (0 : Int))) then
    some (((-1 : Int), ()), ())
  else
    some (((wI (x1 - (x0.len : Int))), ()), ())
noncomputable def f66 (x0 : (L Int)) (x1 : Int) : Int :=
  bif (decide ((wI (x1 - (x0.len : Int))) < (0 : Int))) then
    (-1 : Int)
  else
    (wI (x1 - (x0.len : Int)))
theorem n66 (x0 : (L Int)) (x1 : Int) : g66 x0 x1 = some ((f66 x0 x1, ()), ()) := by
  simp only [g66, f66, pull1]
noncomputable def c66 : Ctr := { ins := [.v (.sl (.int .u32)), .v (.int .i64)], out := [(.int .i64)], F := fun x => some ((f66 x.1 x.2.1, ()), ()) }
theorem v66 : LoopsOk Try.prog Γ t66 a66 (loopsIn (Try.f66.body.getD .skip) 0) := loopsOk_nil (by kernel_rfl)
theorem r66 (x : InsT c66.ins) : fnK Try.prog Γ t66 a66 Try.f66 c66 x = g66 x.1 x.2.1 := by kernel_rfl
theorem k66 : TblOk Try.prog t66 := tblOk_nil
theorem o66 : Holds Try.prog 66 c66 := fn_holds (code := Try.f66.body.getD .skip) (by kernel_rfl) gamOk k66 Try.func66 (by kernel_rfl) (by kernel_rfl) (by kernel_rfl) (by kernel_rfl) v66 (fun x _ h => (r66 x).trans ((n66 x.1 x.2.1).trans h))
/-! ### 24: loop.example/g00076/laws.szDevState -/
noncomputable def t24 : Tbl := [(66, [], c66)]
noncomputable def a24 : Nat → Option LoopAnn := fun _ => none
noncomputable def g24 (x0 : ((L Int) × ((L Int) × Unit))) (x1 : Int) : Option ((Int × Unit) × Unit) :=
  bif (decide ((f66 x0.1 x1) < (0 : Int))) then
    some (((-1 : Int), ()), ())
  else
    bif (decide ((f66 x0.2.1 (f66 x0.1 x1)) < (0 : Int))) then
      some (((-1 : Int), ()), ())
    else
      some (((f66 x0.2.1 (f66 x0.1 x1)), ()), ())
noncomputable def f24 (x0 : ((L Int) × ((L Int) × Unit))) (x1 : Int) : Int :=
  bif (decide ((f66 x0.1 x1) < (0 : Int))) then
    (-1 : Int)
  else
    bif (decide ((f66 x0.2.1 (f66 x0.1 x1)) < (0 : Int))) then
      (-1 : Int)
    else
      (f66 x0.2.1 (f66 x0.1 x1))
theorem n24 (x0 : ((L Int) × ((L Int) × Unit))) (x1 : Int) : g24 x0 x1 = some ((f24 x0 x1, ()), ()) := by
  simp only [g24, f24, pull1]
noncomputable def c24 : Ctr := { ins := [.v (.pair (.sl (.int .u32)) (.pair (.sl (.int .u32)) .unit)), .v (.int .i64)], out := [(.int .i64)], F := fun x => some ((f24 x.1 x.2.1, ()), ()) }
theorem v24 : LoopsOk Try.prog Γ t24 a24 (loopsIn (Try.f24.body.getD .skip) 0) := loopsOk_nil (by kernel_rfl)
theorem r24 (x : InsT c24.ins) : fnK Try.prog Γ t24 a24 Try.f24 c24 x = g24 x.1 x.2.1 := by kernel_rfl
theorem k24 : TblOk Try.prog t24 := tblOk_cons o66 (tblOk_nil)
theorem o24 : Holds Try.prog 24 c24 := fn_holds (code := Try.f24.body.getD .skip) (by kernel_rfl) gamOk k24 Try.func24 (by kernel_rfl) (by kernel_rfl) (by kernel_rfl) (by kernel_rfl) v24 (fun x _ h => (r24 x).trans ((n24 x.1 x.2.1).trans h))
/-! ### 67: loop.example/g00076/laws.toUint32S -/
noncomputable def t67 : Tbl := []
abbrev h67_L0 : Shape := { slots := [(0, .v (.sl (.int .u32))), (3, .ms 7), (4, .v (.int .i64))], boxes := [(7, .arr (.int .u32))] }
abbrev e67_L0 : List (XT × Shape) := [(.exit 0, { slots := [(3, .ms 7)], boxes := [(7, .arr (.int .u32))] })]
noncomputable def q67_L0 (t0 : (L Int)) (t4 : Int) (r7 : (L Int)) : Option ((((L Int) × (Unit × (Int × Unit))) × ((L Int) × Unit)) ⊕ (((Unit × Unit) × ((L Int) × Unit)) ⊕ Empty)) :=
  bif (decide (t4 < (t0.len : Int))) then
    bif (decide (0 ≤ t4) && decide (t4 < (t0.len : Int))) then
      bif (decide (0 ≤ t4) && decide (t4 < (r7.len : Int))) then
        some (.inl ((t0, ((), ((wI (t4 + (1 : Int))), ()))), ((L.set r7 t4.toNat (L.get t0 t4.toNat)), ())))
      else
        none
    else
      none
  else
    some (.inr (.inl (((), ()), (r7, ()))))
noncomputable def s67_L0 (x : (((L Int) × (Unit × (Int × Unit))) × ((L Int) × Unit))) : Option ((((L Int) × (Unit × (Int × Unit))) × ((L Int) × Unit)) ⊕ (((Unit × Unit) × ((L Int) × Unit)) ⊕ Empty)) := q67_L0 x.1.1 x.1.2.2.1 x.2.1
noncomputable def a67 : Nat → Option LoopAnn := fun c => bif Nat.beq c 0 then some (.fix h67_L0 e67_L0 s67_L0) else none
noncomputable def g67 (x0 : (L Int)) : Option (((L Int) × Unit) × Unit) :=
  bif (decide ((x0.len : Int) = (x0.len : Int)) && (decide (0 ≤ (x0.len : Int)) && (decide ((x0.len : Int) ≤ 2 ^ 40) && decide (4 * (x0.len : Int) ≤ 2 ^ 48)))) then
    (fixO s67_L0 ((x0, ((), ((0 : Int), ()))), ((L.rep (x0.len : Int).toNat (Ty.zero (.int .u32))), ()))).bind fun d2 => match d2 with
    | .inl y1 =>
      some ((y1.2.1, ()), ())
    | .inr e => nomatch e
  else
    none
noncomputable def c67 : Ctr := { ins := [.v (.sl (.int .u32))], out := [(.sl (.int .u32))], F := fun x => g67 x.1 }
noncomputable def l67 : List (Nat × Code) := loopsIn (Try.f67.body.getD .skip) 0
theorem w67_L0 (x : h67_L0.T) : runK Try.prog Γ t67 a67 (l67.getD 0 (0, .skip)).2 0 (pkSh h67_L0 x) (loopCls (sh := h67_L0) (es := e67_L0)) = (s67_L0 x : Option _) := by kernel_rfl
theorem v67 : LoopsOk Try.prog Γ t67 a67 (loopsIn (Try.f67.body.getD .skip) 0) := by
  have e : loopsIn (Try.f67.body.getD .skip) 0 = [(0, (l67.getD 0 (0, .skip)).2)] := by kernel_rfl
  rw [e]
  exact ⟨fun x d h => (w67_L0 x).trans h, trivial⟩
theorem r67 (x : InsT c67.ins) : fnK Try.prog Γ t67 a67 Try.f67 c67 x = g67 x.1 := by kernel_rfl
theorem k67 : TblOk Try.prog t67 := tblOk_nil
theorem o67 : Holds Try.prog 67 c67 := fn_holds (code := Try.f67.body.getD .skip) (by kernel_rfl) gamOk k67 Try.func67 (by kernel_rfl) (by kernel_rfl) (by kernel_rfl) (by kernel_rfl) v67 (fun x _ h => (r67 x).trans h)
/-! ### 26: loop.example/g00076/laws.toDevState -/
noncomputable def t26 : Tbl := [(67, [], c67)]
noncomputable def a26 : Nat → Option LoopAnn := fun _ => none
noncomputable def g26 (x0 : ((L Int) × ((L Int) × Unit))) : Option ((((L Int) × ((L Int) × Unit)) × Unit) × Unit) :=
  (g67 x0.1).bind fun y1 =>
    (g67 x0.2.1).bind fun y2 =>
      some (((y1.1.1, y2.1), ()), ())
noncomputable def c26 : Ctr := { ins := [.v (.pair (.sl (.int .u32)) (.pair (.sl (.int .u32)) .unit))], out := [(.pair (.sl (.int .u32)) (.pair (.sl (.int .u32)) .unit))], F := fun x => g26 x.1 }
theorem v26 : LoopsOk Try.prog Γ t26 a26 (loopsIn (Try.f26.body.getD .skip) 0) := loopsOk_nil (by kernel_rfl)
theorem r26 (x : InsT c26.ins) : fnK Try.prog Γ t26 a26 Try.f26 c26 x = g26 x.1 := by kernel_rfl
theorem k26 : TblOk Try.prog t26 := tblOk_cons o67 (tblOk_nil)
theorem o26 : Holds Try.prog 26 c26 := fn_holds (code := Try.f26.body.getD .skip) (by kernel_rfl) gamOk k26 Try.func26 (by kernel_rfl) (by kernel_rfl) (by kernel_rfl) (by kernel_rfl) v26 (fun x _ h => (r26 x).trans h)
/-! ### 25: loop.example/g00076/spec.DevOk -/
noncomputable def t25 : Tbl := []
noncomputable def a25 : Nat → Option LoopAnn := fun _ => none
noncomputable def g25 (x0 : ((L Int) × ((L Int) × Unit))) : Option ((Bool × Unit) × Unit) :=
  bif (decide ((x0.1.len : Int) ≤ (8 : Int))) then
    some (((decide ((x0.2.1.len : Int) ≤ (8 : Int))), ()), ())
  else
    some ((false, ()), ())
noncomputable def f25 (x0 : ((L Int) × ((L Int) × Unit))) : Bool :=
  bif (decide ((x0.1.len : Int) ≤ (8 : Int))) then
    (decide ((x0.2.1.len : Int) ≤ (8 : Int)))
  else
    false
theorem n25 (x0 : ((L Int) × ((L Int) × Unit))) : g25 x0 = some ((f25 x0, ()), ()) := by
  simp only [g25, f25, pull1]
noncomputable def c25 : Ctr := { ins := [.v (.pair (.sl (.int .u32)) (.pair (.sl (.int .u32)) .unit))], out := [.bool], F := fun x => some ((f25 x.1, ()), ()) }
theorem v25 : LoopsOk Try.prog Γ t25 a25 (loopsIn (Try.f25.body.getD .skip) 0) := loopsOk_nil (by kernel_rfl)
theorem r25 (x : InsT c25.ins) : fnK Try.prog Γ t25 a25 Try.f25 c25 x = g25 x.1 := by kernel_rfl
theorem k25 : TblOk Try.prog t25 := tblOk_nil
theorem o25 : Holds Try.prog 25 c25 := fn_holds (code := Try.f25.body.getD .skip) (by kernel_rfl) gamOk k25 Try.func25 (by kernel_rfl) (by kernel_rfl) (by kernel_rfl) (by kernel_rfl) v25 (fun x _ h => (r25 x).trans ((n25 x.1).trans h))
/-! ### 68: loop.example/g00076/impl.isDev -/
noncomputable def t68 : Tbl := []
noncomputable def a68 : Nat → Option LoopAnn := fun _ => none
noncomputable def g68 (x0 : ((L Int) × ((L Int) × Unit))) : Option ((Bool × Unit) × Unit) :=
  bif (decide ((x0.1.len : Int) ≤ (8 : Int))) then
    some (((decide ((x0.2.1.len : Int) ≤ (8 : Int))), ()), ())
  else
    some ((false, ()), ())
noncomputable def f68 (x0 : ((L Int) × ((L Int) × Unit))) : Bool :=
  bif (decide ((x0.1.len : Int) ≤ (8 : Int))) then
    (decide ((x0.2.1.len : Int) ≤ (8 : Int)))
  else
    false
theorem n68 (x0 : ((L Int) × ((L Int) × Unit))) : g68 x0 = some ((f68 x0, ()), ()) := by
  simp only [g68, f68, pull1]
noncomputable def c68 : Ctr := { ins := [.v (.pair (.sl (.int .u32)) (.pair (.sl (.int .u32)) .unit))], out := [.bool], F := fun x => some ((f68 x.1, ()), ()) }
theorem v68 : LoopsOk Try.prog Γ t68 a68 (loopsIn (Try.f68.body.getD .skip) 0) := loopsOk_nil (by kernel_rfl)
theorem r68 (x : InsT c68.ins) : fnK Try.prog Γ t68 a68 Try.f68 c68 x = g68 x.1 := by kernel_rfl
theorem k68 : TblOk Try.prog t68 := tblOk_nil
theorem o68 : Holds Try.prog 68 c68 := fn_holds (code := Try.f68.body.getD .skip) (by kernel_rfl) gamOk k68 Try.func68 (by kernel_rfl) (by kernel_rfl) (by kernel_rfl) (by kernel_rfl) v68 (fun x _ h => (r68 x).trans ((n68 x.1).trans h))
/-! ### 27: loop.example/g00076/impl.DevOk -/
noncomputable def t27 : Tbl := [(68, [], c68)]
noncomputable def a27 : Nat → Option LoopAnn := fun _ => none
noncomputable def g27 (x0 : ((L Int) × ((L Int) × Unit))) : Option ((Bool × Unit) × Unit) :=
  some (((f68 x0), ()), ())
noncomputable def f27 (x0 : ((L Int) × ((L Int) × Unit))) : Bool :=
  (f68 x0)
theorem n27 (x0 : ((L Int) × ((L Int) × Unit))) : g27 x0 = some ((f27 x0, ()), ()) := by
  simp only [g27, f27, pull1]
noncomputable def c27 : Ctr := { ins := [.v (.pair (.sl (.int .u32)) (.pair (.sl (.int .u32)) .unit))], out := [.bool], F := fun x => some ((f27 x.1, ()), ()) }
theorem v27 : LoopsOk Try.prog Γ t27 a27 (loopsIn (Try.f27.body.getD .skip) 0) := loopsOk_nil (by kernel_rfl)
theorem r27 (x : InsT c27.ins) : fnK Try.prog Γ t27 a27 Try.f27 c27 x = g27 x.1 := by kernel_rfl
theorem k27 : TblOk Try.prog t27 := tblOk_cons o68 (tblOk_nil)
theorem o27 : Holds Try.prog 27 c27 := fn_holds (code := Try.f27.body.getD .skip) (by kernel_rfl) gamOk k27 Try.func27 (by kernel_rfl) (by kernel_rfl) (by kernel_rfl) (by kernel_rfl) v27 (fun x _ h => (r27 x).trans ((n27 x.1).trans h))
/-! ### 69: loop.example/g00076/laws.eqUint32S -/
noncomputable def t69 : Tbl := []
abbrev h69_L0 : Shape := { slots := [(0, .v (.sl (.int .u32))), (1, .v (.sl (.int .u32))), (5, .v (.int .i64))], boxes := [] }
abbrev e69_L0 : List (XT × Shape) := [(.ret, { slots := [(4, .v .bool)], boxes := [] }), (.exit 0, { slots := [], boxes := [] })]
noncomputable def q69_L0 (t0 : (L Int)) (t1 : (L Int)) (t5 : Int) : Option ((((L Int) × ((L Int) × (Int × Unit))) × Unit) ⊕ (((Bool × Unit) × Unit) ⊕ ((Unit × Unit) ⊕ Empty))) :=
  bif (decide (t5 < (t0.len : Int))) then
    bif (decide (0 ≤ t5) && decide (t5 < (t0.len : Int))) then
      bif (decide (0 ≤ t5) && decide (t5 < (t1.len : Int))) then
        bif ((L.get t0 t5.toNat) != (L.get t1 t5.toNat)) then
          some (.inr (.inl ((false, ()), ())))
        else
          some (.inl ((t0, (t1, ((wI (t5 + (1 : Int))), ()))), ()))
      else
        none
    else
      none
  else
    some (.inr (.inr (.inl ((), ()))))
noncomputable def s69_L0 (x : (((L Int) × ((L Int) × (Int × Unit))) × Unit)) : Option ((((L Int) × ((L Int) × (Int × Unit))) × Unit) ⊕ (((Bool × Unit) × Unit) ⊕ ((Unit × Unit) ⊕ Empty))) := q69_L0 x.1.1 x.1.2.1 x.1.2.2.1
noncomputable def a69 : Nat → Option LoopAnn := fun c => bif Nat.beq c 0 then some (.fix h69_L0 e69_L0 s69_L0) else none
noncomputable def g69 (x0 : (L Int)) (x1 : (L Int)) : Option ((Bool × Unit) × Unit) :=
  bif ((x0.len : Int) != (x1.len : Int)) then
    some ((false, ()), ())
  else
    (fixO s69_L0 ((x0, (x1, ((0 : Int), ()))), ())).bind fun d2 => match d2 with
    | .inl y1 =>
      some ((y1.1.1, ()), ())
    | .inr (.inl y1) =>
      some ((true, ()), ())
    | .inr (.inr e) => nomatch e
noncomputable def c69 : Ctr := { ins := [.v (.sl (.int .u32)), .v (.sl (.int .u32))], out := [.bool], F := fun x => g69 x.1 x.2.1 }
noncomputable def l69 : List (Nat × Code) := loopsIn (Try.f69.body.getD .skip) 0
theorem w69_L0 (x : h69_L0.T) : runK Try.prog Γ t69 a69 (l69.getD 0 (0, .skip)).2 0 (pkSh h69_L0 x) (loopCls (sh := h69_L0) (es := e69_L0)) = (s69_L0 x : Option _) := by kernel_rfl
theorem v69 : LoopsOk Try.prog Γ t69 a69 (loopsIn (Try.f69.body.getD .skip) 0) := by
  have e : loopsIn (Try.f69.body.getD .skip) 0 = [(0, (l69.getD 0 (0, .skip)).2)] := by kernel_rfl
  rw [e]
  exact ⟨fun x d h => (w69_L0 x).trans h, trivial⟩
theorem r69 (x : InsT c69.ins) : fnK Try.prog Γ t69 a69 Try.f69 c69 x = g69 x.1 x.2.1 := by kernel_rfl
theorem k69 : TblOk Try.prog t69 := tblOk_nil
theorem o69 : Holds Try.prog 69 c69 := fn_holds (code := Try.f69.body.getD .skip) (by kernel_rfl) gamOk k69 Try.func69 (by kernel_rfl) (by kernel_rfl) (by kernel_rfl) (by kernel_rfl) v69 (fun x _ h => (r69 x).trans h)
/-! ### 28: loop.example/g00076/laws.eqDevState -/
noncomputable def t28 : Tbl := [(69, [], c69)]
noncomputable def a28 : Nat → Option LoopAnn := fun _ => none
noncomputable def g28 (x0 : ((L Int) × ((L Int) × Unit))) (x1 : ((L Int) × ((L Int) × Unit))) : Option ((Bool × Unit) × Unit) :=
  (g69 x0.1 x1.1).bind fun y1 =>
    bif (!y1.1.1) then
      some ((false, ()), ())
    else
      (g69 x0.2.1 x1.2.1).bind fun y2 =>
        bif (!y2.1.1) then
          some ((false, ()), ())
        else
          some ((true, ()), ())
noncomputable def c28 : Ctr := { ins := [.v (.pair (.sl (.int .u32)) (.pair (.sl (.int .u32)) .unit)), .v (.pair (.sl (.int .u32)) (.pair (.sl (.int .u32)) .unit))], out := [.bool], F := fun x => g28 x.1 x.2.1 }
theorem v28 : LoopsOk Try.prog Γ t28 a28 (loopsIn (Try.f28.body.getD .skip) 0) := loopsOk_nil (by kernel_rfl)
theorem r28 (x : InsT c28.ins) : fnK Try.prog Γ t28 a28 Try.f28 c28 x = g28 x.1 x.2.1 := by kernel_rfl
theorem k28 : TblOk Try.prog t28 := tblOk_cons o69 (tblOk_nil)
theorem o28 : Holds Try.prog 28 c28 := fn_holds (code := Try.f28.body.getD .skip) (by kernel_rfl) gamOk k28 Try.func28 (by kernel_rfl) (by kernel_rfl) (by kernel_rfl) (by kernel_rfl) v28 (fun x _ h => (r28 x).trans h)
/-! ### 7: loop.example/g00076/laws.FnExactDevOk -/
noncomputable def t7 : Tbl := [(24, [], c24), (26, [], c26), (25, [], c25), (27, [], c27), (28, [], c28)]
noncomputable def a7 : Nat → Option LoopAnn := fun _ => none
noncomputable def g7 (x0 : ((L Int) × ((L Int) × Unit))) : Option ((Bool × Unit) × Unit) :=
  bif (decide ((f24 x0 (1048576 : Int)) < (0 : Int))) then
    some ((true, ()), ())
  else
    (g26 x0).bind fun y1 =>
      (g26 x0).bind fun y2 =>
        bif (!((f27 y2.1.1) == (f25 y1.1.1))) then
          some ((false, ()), ())
        else
          (g26 x0).bind fun y3 =>
            (g28 y2.1.1 y3.1.1).bind fun y4 =>
              bif (!y4.1.1) then
                some ((false, ()), ())
              else
                some ((true, ()), ())
noncomputable def c7 : Ctr := { ins := [.v (.pair (.sl (.int .u32)) (.pair (.sl (.int .u32)) .unit))], out := [.bool], F := fun x => g7 x.1 }
theorem v7 : LoopsOk Try.prog Γ t7 a7 (loopsIn (Try.f7.body.getD .skip) 0) := loopsOk_nil (by kernel_rfl)
theorem r7 (x : InsT c7.ins) : fnK Try.prog Γ t7 a7 Try.f7 c7 x = g7 x.1 := by kernel_rfl
theorem k7 : TblOk Try.prog t7 := tblOk_cons o24 (tblOk_cons o26 (tblOk_cons o25 (tblOk_cons o27 (tblOk_cons o28 (tblOk_nil)))))
theorem o7 : Holds Try.prog 7 c7 := fn_holds (code := Try.f7.body.getD .skip) (by kernel_rfl) gamOk k7 Try.func7 (by kernel_rfl) (by kernel_rfl) (by kernel_rfl) (by kernel_rfl) v7 (fun x _ h => (r7 x).trans h)
end Go.VE.VFnExactDevOk
