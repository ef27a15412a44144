import Derived.Test.YteiblhjeomnccaaVeZ
import Derived.Test.YteiblhjeomnccaaProg
/- What the functions do that laws.FnExactRetired reaches, as plain functions, and that they do it. -/
set_option linter.unusedVariables false
set_option linter.unusedSimpArgs false
namespace Go.VE.VFnExactRetired
open Go.Proofs Go.VE
def Γ : TypeId → Option Ty := fun e => bif Nat.beq e 89 then some (.pair (.int .i64) (.pair (.int .i64) (.pair (.int .u32) (.pair (.int .i64) (.pair (.int .i64) (.pair (.int .i64) (.pair (.int .u32) .unit))))))) else bif Nat.beq e 91 then some (.pair (.int .i64) (.pair (.int .i64) (.pair (.int .u32) (.pair (.int .i64) (.pair (.int .i64) (.pair (.int .i64) (.pair (.int .u32) .unit))))))) else none
theorem gamOk : GamOk Try.prog Γ := gamOk_of [89, 91] (fun e ty h => by
  simp only [Γ] at h
  cases h89 : Nat.beq e 89 with
  | true => simp [Nat.eq_of_beq_eq_true h89]
  | false =>
  simp only [h89, cond_false] at h
  cases h91 : Nat.beq e 91 with
  | true => simp [Nat.eq_of_beq_eq_true h91]
  | false =>
  simp only [h91, cond_false] at h
  cases h) (by kernel_rfl)
/-! ### 29: loop.example/g00076/laws.szEventS -/
noncomputable def t29 : Tbl := []
noncomputable def a29 : Nat → Option LoopAnn := fun _ => none
noncomputable def g29 (x0 : (L (Int × (Int × (Int × (Int × (Int × (Int × (Int × Unit))))))))) (x1 : Int) : Option ((Int × Unit) × Unit) :=
  bif (decide ((wI (x1 - (x0.len : Int))) < (0 : Int))) then
    some (((-1 : Int), ()), ())
  else
    some (((wI (x1 - (x0.len : Int))), ()), ())
noncomputable def f29 (x0 : (L (Int × (Int × (Int × (Int × (Int × (Int × (Int × Unit))))))))) (x1 : Int) : Int :=
  bif (decide ((wI (x1 - (x0.len : Int))) < (0 : Int))) then
    (-1 : Int)
  else
    (wI (x1 - (x0.len : Int)))
theorem n29 (x0 : (L (Int × (Int × (Int × (Int × (Int × (Int × (Int × Unit))))))))) (x1 : Int) : g29 x0 x1 = some ((f29 x0 x1, ()), ()) := by
  simp only [g29, f29, pull1]
noncomputable def c29 : Ctr := { ins := [.v (.sl (.pair (.int .i64) (.pair (.int .i64) (.pair (.int .u32) (.pair (.int .i64) (.pair (.int .i64) (.pair (.int .i64) (.pair (.int .u32) .unit)))))))), .v (.int .i64)], out := [(.int .i64)], F := fun x => some ((f29 x.1 x.2.1, ()), ()) }
theorem v29 : LoopsOk Try.prog Γ t29 a29 (loopsIn (Try.f29.body.getD .skip) 0) := loopsOk_nil (by kernel_rfl)
theorem r29 (x : InsT c29.ins) : fnK Try.prog Γ t29 a29 Try.f29 c29 x = g29 x.1 x.2.1 := by kernel_rfl
theorem k29 : TblOk Try.prog t29 := tblOk_nil
theorem o29 : Holds Try.prog 29 c29 := fn_holds (code := Try.f29.body.getD .skip) (by kernel_rfl) gamOk k29 Try.func29 (by kernel_rfl) (by kernel_rfl) (by kernel_rfl) (by kernel_rfl) v29 (fun x _ h => (r29 x).trans ((n29 x.1 x.2.1).trans h))
/-! ### 70: loop.example/g00076/laws.toEvent -/
noncomputable def t70 : Tbl := []
noncomputable def a70 : Nat → Option LoopAnn := fun _ => none
noncomputable def g70 (x0 : (Int × (Int × (Int × (Int × (Int × (Int × (Int × Unit)))))))) : Option (((Int × (Int × (Int × (Int × (Int × (Int × (Int × Unit))))))) × Unit) × Unit) :=
  some ((x0, ()), ())
noncomputable def f70 (x0 : (Int × (Int × (Int × (Int × (Int × (Int × (Int × Unit)))))))) : (Int × (Int × (Int × (Int × (Int × (Int × (Int × Unit))))))) :=
  x0
theorem n70 (x0 : (Int × (Int × (Int × (Int × (Int × (Int × (Int × Unit)))))))) : g70 x0 = some ((f70 x0, ()), ()) := by
  simp only [g70, f70, pull1]
noncomputable def c70 : Ctr := { ins := [.v (.pair (.int .i64) (.pair (.int .i64) (.pair (.int .u32) (.pair (.int .i64) (.pair (.int .i64) (.pair (.int .i64) (.pair (.int .u32) .unit)))))))], out := [(.pair (.int .i64) (.pair (.int .i64) (.pair (.int .u32) (.pair (.int .i64) (.pair (.int .i64) (.pair (.int .i64) (.pair (.int .u32) .unit)))))))], F := fun x => some ((f70 x.1, ()), ()) }
theorem v70 : LoopsOk Try.prog Γ t70 a70 (loopsIn (Try.f70.body.getD .skip) 0) := loopsOk_nil (by kernel_rfl)
theorem r70 (x : InsT c70.ins) : fnK Try.prog Γ t70 a70 Try.f70 c70 x = g70 x.1 := by kernel_rfl
theorem k70 : TblOk Try.prog t70 := tblOk_nil
theorem o70 : Holds Try.prog 70 c70 := fn_holds (code := Try.f70.body.getD .skip) (by kernel_rfl) gamOk k70 Try.func70 (by kernel_rfl) (by kernel_rfl) (by kernel_rfl) (by kernel_rfl) v70 (fun x _ h => (r70 x).trans ((n70 x.1).trans h))
/-! ### 31: loop.example/g00076/laws.toEventS -/
noncomputable def t31 : Tbl := [(70, [], c70)]
abbrev h31_L0 : Shape := { slots := [(0, .v (.sl (.pair (.int .i64) (.pair (.int .i64) (.pair (.int .u32) (.pair (.int .i64) (.pair (.int .i64) (.pair (.int .i64) (.pair (.int .u32) .unit))))))))), (3, .ms 7), (4, .v (.int .i64))], boxes := [(7, .arr (.pair (.int .i64) (.pair (.int .i64) (.pair (.int .u32) (.pair (.int .i64) (.pair (.int .i64) (.pair (.int .i64) (.pair (.int .u32) .unit))))))))] }
abbrev e31_L0 : List (XT × Shape) := [(.exit 0, { slots := [(3, .ms 7)], boxes := [(7, .arr (.pair (.int .i64) (.pair (.int .i64) (.pair (.int .u32) (.pair (.int .i64) (.pair (.int .i64) (.pair (.int .i64) (.pair (.int .u32) .unit))))))))] })]
noncomputable def q31_L0 (t0 : (L (Int × (Int × (Int × (Int × (Int × (Int × (Int × Unit))))))))) (t4 : Int) (r7 : (L (Int × (Int × (Int × (Int × (Int × (Int × (Int × Unit))))))))) : Option ((((L (Int × (Int × (Int × (Int × (Int × (Int × (Int × Unit)))))))) × (Unit × (Int × Unit))) × ((L (Int × (Int × (Int × (Int × (Int × (Int × (Int × Unit)))))))) × Unit)) ⊕ (((Unit × Unit) × ((L (Int × (Int × (Int × (Int × (Int × (Int × (Int × Unit)))))))) × Unit)) ⊕ Empty)) :=
  bif (decide (t4 < (t0.len : Int))) then
    bif (decide (0 ≤ t4) && decide (t4 < (t0.len : Int))) then
      bif (decide (0 ≤ t4) && decide (t4 < (r7.len : Int))) then
        some (.inl ((t0, ((), ((wI (t4 + (1 : Int))), ()))), ((L.set r7 t4.toNat (f70 (L.get t0 t4.toNat))), ())))
      else
        none
    else
      none
  else
    some (.inr (.inl (((), ()), (r7, ()))))
noncomputable def s31_L0 (x : (((L (Int × (Int × (Int × (Int × (Int × (Int × (Int × Unit)))))))) × (Unit × (Int × Unit))) × ((L (Int × (Int × (Int × (Int × (Int × (Int × (Int × Unit)))))))) × Unit))) : Option ((((L (Int × (Int × (Int × (Int × (Int × (Int × (Int × Unit)))))))) × (Unit × (Int × Unit))) × ((L (Int × (Int × (Int × (Int × (Int × (Int × (Int × Unit)))))))) × Unit)) ⊕ (((Unit × Unit) × ((L (Int × (Int × (Int × (Int × (Int × (Int × (Int × Unit)))))))) × Unit)) ⊕ Empty)) := q31_L0 x.1.1 x.1.2.2.1 x.2.1
noncomputable def a31 : Nat → Option LoopAnn := fun c => bif Nat.beq c 0 then some (.fix h31_L0 e31_L0 s31_L0) else none
noncomputable def g31 (x0 : (L (Int × (Int × (Int × (Int × (Int × (Int × (Int × Unit))))))))) : Option (((L (Int × (Int × (Int × (Int × (Int × (Int × (Int × Unit)))))))) × Unit) × Unit) :=
  bif (decide ((x0.len : Int) = (x0.len : Int)) && (decide (0 ≤ (x0.len : Int)) && (decide ((x0.len : Int) ≤ 2 ^ 40) && decide (56 * (x0.len : Int) ≤ 2 ^ 48)))) then
    (fixO s31_L0 ((x0, ((), ((0 : Int), ()))), ((L.rep (x0.len : Int).toNat (Ty.zero (.pair (.int .i64) (.pair (.int .i64) (.pair (.int .u32) (.pair (.int .i64) (.pair (.int .i64) (.pair (.int .i64) (.pair (.int .u32) .unit))))))))), ()))).bind fun d2 => match d2 with
    | .inl y1 =>
      some ((y1.2.1, ()), ())
    | .inr e => nomatch e
  else
    none
noncomputable def c31 : Ctr := { ins := [.v (.sl (.pair (.int .i64) (.pair (.int .i64) (.pair (.int .u32) (.pair (.int .i64) (.pair (.int .i64) (.pair (.int .i64) (.pair (.int .u32) .unit))))))))], out := [(.sl (.pair (.int .i64) (.pair (.int .i64) (.pair (.int .u32) (.pair (.int .i64) (.pair (.int .i64) (.pair (.int .i64) (.pair (.int .u32) .unit))))))))], F := fun x => g31 x.1 }
noncomputable def l31 : List (Nat × Code) := loopsIn (Try.f31.body.getD .skip) 0
theorem w31_L0 (x : h31_L0.T) : runK Try.prog Γ t31 a31 (l31.getD 0 (0, .skip)).2 0 (pkSh h31_L0 x) (loopCls (sh := h31_L0) (es := e31_L0)) = (s31_L0 x : Option _) := by kernel_rfl
theorem v31 : LoopsOk Try.prog Γ t31 a31 (loopsIn (Try.f31.body.getD .skip) 0) := by
  have e : loopsIn (Try.f31.body.getD .skip) 0 = [(0, (l31.getD 0 (0, .skip)).2)] := by kernel_rfl
  rw [e]
  exact ⟨fun x d h => (w31_L0 x).trans h, trivial⟩
theorem r31 (x : InsT c31.ins) : fnK Try.prog Γ t31 a31 Try.f31 c31 x = g31 x.1 := by kernel_rfl
theorem k31 : TblOk Try.prog t31 := tblOk_cons o70 (tblOk_nil)
theorem o31 : Holds Try.prog 31 c31 := fn_holds (code := Try.f31.body.getD .skip) (by kernel_rfl) gamOk k31 Try.func31 (by kernel_rfl) (by kernel_rfl) (by kernel_rfl) (by kernel_rfl) v31 (fun x _ h => (r31 x).trans h)
/-! ### 62: loop.example/g00076/spec.l01In -/
noncomputable def t62 : Tbl := []
noncomputable def a62 : Nat → Option LoopAnn := fun _ => none
noncomputable def g62 (x0 : Int) (x1 : Int) (x2 : Int) : Option ((Bool × Unit) × Unit) :=
  bif (decide (x0 ≥ x1)) then
    some (((decide (x0 ≤ x2)), ()), ())
  else
    some ((false, ()), ())
noncomputable def f62 (x0 : Int) (x1 : Int) (x2 : Int) : Bool :=
  bif (decide (x0 ≥ x1)) then
    (decide (x0 ≤ x2))
  else
    false
theorem n62 (x0 : Int) (x1 : Int) (x2 : Int) : g62 x0 x1 x2 = some ((f62 x0 x1 x2, ()), ()) := by
  simp only [g62, f62, pull1]
noncomputable def c62 : Ctr := { ins := [.v (.int .i64), .v (.int .i64), .v (.int .i64)], out := [.bool], F := fun x => some ((f62 x.1 x.2.1 x.2.2.1, ()), ()) }
theorem v62 : LoopsOk Try.prog Γ t62 a62 (loopsIn (Try.f62.body.getD .skip) 0) := loopsOk_nil (by kernel_rfl)
theorem r62 (x : InsT c62.ins) : fnK Try.prog Γ t62 a62 Try.f62 c62 x = g62 x.1 x.2.1 x.2.2.1 := by kernel_rfl
theorem k62 : TblOk Try.prog t62 := tblOk_nil
theorem o62 : Holds Try.prog 62 c62 := fn_holds (code := Try.f62.body.getD .skip) (by kernel_rfl) gamOk k62 Try.func62 (by kernel_rfl) (by kernel_rfl) (by kernel_rfl) (by kernel_rfl) v62 (fun x _ h => (r62 x).trans ((n62 x.1 x.2.1 x.2.2.1).trans h))
/-! ### 73: loop.example/g00076/spec.l18Fit -/
noncomputable def t73 : Tbl := [(62, [], c62)]
noncomputable def a73 : Nat → Option LoopAnn := fun _ => none
noncomputable def g73 (x0 : (Int × (Int × (Int × (Int × (Int × (Int × (Int × Unit)))))))) : Option ((Bool × Unit) × Unit) :=
  bif (f62 x0.1 (0 : Int) (50000 : Int)) then
    some (((f62 x0.2.1 (0 : Int) (50000 : Int)), ()), ())
  else
    some ((false, ()), ())
noncomputable def f73 (x0 : (Int × (Int × (Int × (Int × (Int × (Int × (Int × Unit)))))))) : Bool :=
  bif (f62 x0.1 (0 : Int) (50000 : Int)) then
    (f62 x0.2.1 (0 : Int) (50000 : Int))
  else
    false
theorem n73 (x0 : (Int × (Int × (Int × (Int × (Int × (Int × (Int × Unit)))))))) : g73 x0 = some ((f73 x0, ()), ()) := by
  simp only [g73, f73, pull1]
noncomputable def c73 : Ctr := { ins := [.v (.pair (.int .i64) (.pair (.int .i64) (.pair (.int .u32) (.pair (.int .i64) (.pair (.int .i64) (.pair (.int .i64) (.pair (.int .u32) .unit)))))))], out := [.bool], F := fun x => some ((f73 x.1, ()), ()) }
theorem v73 : LoopsOk Try.prog Γ t73 a73 (loopsIn (Try.f73.body.getD .skip) 0) := loopsOk_nil (by kernel_rfl)
theorem r73 (x : InsT c73.ins) : fnK Try.prog Γ t73 a73 Try.f73 c73 x = g73 x.1 := by kernel_rfl
theorem k73 : TblOk Try.prog t73 := tblOk_cons o62 (tblOk_nil)
theorem o73 : Holds Try.prog 73 c73 := fn_holds (code := Try.f73.body.getD .skip) (by kernel_rfl) gamOk k73 Try.func73 (by kernel_rfl) (by kernel_rfl) (by kernel_rfl) (by kernel_rfl) v73 (fun x _ h => (r73 x).trans ((n73 x.1).trans h))
/-! ### 34: loop.example/g00076/spec.Retired -/
noncomputable def t34 : Tbl := [(73, [], c73)]
abbrev h34_L0 : Shape := { slots := [(0, .v (.sl (.pair (.int .i64) (.pair (.int .i64) (.pair (.int .u32) (.pair (.int .i64) (.pair (.int .i64) (.pair (.int .i64) (.pair (.int .u32) .unit))))))))), (1, .v (.int .i64)), (5, .v (.int .i64)), (6, .v (.int .i64))], boxes := [] }
abbrev e34_L0 : List (XT × Shape) := [(.exit 0, { slots := [(5, .v (.int .i64))], boxes := [] })]
noncomputable def q34_L0 (t0 : (L (Int × (Int × (Int × (Int × (Int × (Int × (Int × Unit))))))))) (t1 : Int) (t5 : Int) (t6 : Int) : Option ((((L (Int × (Int × (Int × (Int × (Int × (Int × (Int × Unit)))))))) × (Int × (Int × (Int × Unit)))) × Unit) ⊕ (((Int × Unit) × Unit) ⊕ Empty)) :=
  bif (decide (t6 < (t0.len : Int))) then
    bif (decide (0 ≤ t6) && decide (t6 < (t0.len : Int))) then
      bif (f73 (L.get t0 t6.toNat)) then
        bif (decide (0 ≤ t6) && decide (t6 < (t0.len : Int))) then
          bif (decide (0 ≤ t6) && decide (t6 < (t0.len : Int))) then
            bif (decide ((wI ((L.get t0 t6.toNat).1 + (L.get t0 t6.toNat).2.1)) ≤ t1)) then
              some (.inl ((t0, (t1, ((wI (t5 + (1 : Int))), ((wI (t6 + (1 : Int))), ())))), ()))
            else
              some (.inl ((t0, (t1, (t5, ((wI (t6 + (1 : Int))), ())))), ()))
          else
            none
        else
          none
      else
        some (.inl ((t0, (t1, (t5, ((wI (t6 + (1 : Int))), ())))), ()))
    else
      none
  else
    some (.inr (.inl ((t5, ()), ())))
noncomputable def s34_L0 (x : (((L (Int × (Int × (Int × (Int × (Int × (Int × (Int × Unit)))))))) × (Int × (Int × (Int × Unit)))) × Unit)) : Option ((((L (Int × (Int × (Int × (Int × (Int × (Int × (Int × Unit)))))))) × (Int × (Int × (Int × Unit)))) × Unit) ⊕ (((Int × Unit) × Unit) ⊕ Empty)) := q34_L0 x.1.1 x.1.2.1 x.1.2.2.1 x.1.2.2.2.1
noncomputable def a34 : Nat → Option LoopAnn := fun c => bif Nat.beq c 0 then some (.fix h34_L0 e34_L0 s34_L0) else none
noncomputable def g34 (x0 : (L (Int × (Int × (Int × (Int × (Int × (Int × (Int × Unit))))))))) (x1 : Int) : Option ((Int × Unit) × Unit) :=
  bif (decide ((x0.len : Int) > (50000 : Int))) then
    some (((0 : Int), ()), ())
  else
    (fixO s34_L0 ((x0, (x1, ((0 : Int), ((0 : Int), ())))), ())).bind fun d2 => match d2 with
    | .inl y1 =>
      some ((y1.1.1, ()), ())
    | .inr e => nomatch e
noncomputable def c34 : Ctr := { ins := [.v (.sl (.pair (.int .i64) (.pair (.int .i64) (.pair (.int .u32) (.pair (.int .i64) (.pair (.int .i64) (.pair (.int .i64) (.pair (.int .u32) .unit)))))))), .v (.int .i64)], out := [(.int .i64)], F := fun x => g34 x.1 x.2.1 }
noncomputable def l34 : List (Nat × Code) := loopsIn (Try.f34.body.getD .skip) 0
theorem w34_L0 (x : h34_L0.T) : runK Try.prog Γ t34 a34 (l34.getD 0 (0, .skip)).2 0 (pkSh h34_L0 x) (loopCls (sh := h34_L0) (es := e34_L0)) = (s34_L0 x : Option _) := by kernel_rfl
theorem v34 : LoopsOk Try.prog Γ t34 a34 (loopsIn (Try.f34.body.getD .skip) 0) := by
  have e : loopsIn (Try.f34.body.getD .skip) 0 = [(0, (l34.getD 0 (0, .skip)).2)] := by kernel_rfl
  rw [e]
  exact ⟨fun x d h => (w34_L0 x).trans h, trivial⟩
theorem r34 (x : InsT c34.ins) : fnK Try.prog Γ t34 a34 Try.f34 c34 x = g34 x.1 x.2.1 := by kernel_rfl
theorem k34 : TblOk Try.prog t34 := tblOk_cons o73 (tblOk_nil)
theorem o34 : Holds Try.prog 34 c34 := fn_holds (code := Try.f34.body.getD .skip) (by kernel_rfl) gamOk k34 Try.func34 (by kernel_rfl) (by kernel_rfl) (by kernel_rfl) (by kernel_rfl) v34 (fun x _ h => (r34 x).trans h)
/-! ### 63: loop.example/g00076/impl.within -/
noncomputable def t63 : Tbl := []
noncomputable def a63 : Nat → Option LoopAnn := fun _ => none
noncomputable def g63 (x0 : Int) (x1 : Int) (x2 : Int) : Option ((Bool × Unit) × Unit) :=
  bif (decide (x0 ≥ x1)) then
    some (((decide (x0 ≤ x2)), ()), ())
  else
    some ((false, ()), ())
noncomputable def f63 (x0 : Int) (x1 : Int) (x2 : Int) : Bool :=
  bif (decide (x0 ≥ x1)) then
    (decide (x0 ≤ x2))
  else
    false
theorem n63 (x0 : Int) (x1 : Int) (x2 : Int) : g63 x0 x1 x2 = some ((f63 x0 x1 x2, ()), ()) := by
  simp only [g63, f63, pull1]
noncomputable def c63 : Ctr := { ins := [.v (.int .i64), .v (.int .i64), .v (.int .i64)], out := [.bool], F := fun x => some ((f63 x.1 x.2.1 x.2.2.1, ()), ()) }
theorem v63 : LoopsOk Try.prog Γ t63 a63 (loopsIn (Try.f63.body.getD .skip) 0) := loopsOk_nil (by kernel_rfl)
theorem r63 (x : InsT c63.ins) : fnK Try.prog Γ t63 a63 Try.f63 c63 x = g63 x.1 x.2.1 x.2.2.1 := by kernel_rfl
theorem k63 : TblOk Try.prog t63 := tblOk_nil
theorem o63 : Holds Try.prog 63 c63 := fn_holds (code := Try.f63.body.getD .skip) (by kernel_rfl) gamOk k63 Try.func63 (by kernel_rfl) (by kernel_rfl) (by kernel_rfl) (by kernel_rfl) v63 (fun x _ h => (r63 x).trans ((n63 x.1 x.2.1 x.2.2.1).trans h))
/-! ### 71: loop.example/g00076/impl.isCycle -/
noncomputable def t71 : Tbl := [(63, [], c63)]
noncomputable def a71 : Nat → Option LoopAnn := fun _ => none
noncomputable def g71 (x0 : Int) : Option ((Bool × Unit) × Unit) :=
  some (((f63 x0 (0 : Int) (50000 : Int)), ()), ())
noncomputable def f71 (x0 : Int) : Bool :=
  (f63 x0 (0 : Int) (50000 : Int))
theorem n71 (x0 : Int) : g71 x0 = some ((f71 x0, ()), ()) := by
  simp only [g71, f71, pull1]
noncomputable def c71 : Ctr := { ins := [.v (.int .i64)], out := [.bool], F := fun x => some ((f71 x.1, ()), ()) }
theorem v71 : LoopsOk Try.prog Γ t71 a71 (loopsIn (Try.f71.body.getD .skip) 0) := loopsOk_nil (by kernel_rfl)
theorem r71 (x : InsT c71.ins) : fnK Try.prog Γ t71 a71 Try.f71 c71 x = g71 x.1 := by kernel_rfl
theorem k71 : TblOk Try.prog t71 := tblOk_cons o63 (tblOk_nil)
theorem o71 : Holds Try.prog 71 c71 := fn_holds (code := Try.f71.body.getD .skip) (by kernel_rfl) gamOk k71 Try.func71 (by kernel_rfl) (by kernel_rfl) (by kernel_rfl) (by kernel_rfl) v71 (fun x _ h => (r71 x).trans ((n71 x.1).trans h))
/-! ### 35: loop.example/g00076/impl.Retired -/
noncomputable def t35 : Tbl := [(71, [], c71)]
abbrev h35_L0 : Shape := { slots := [(1, .v (.int .i64)), (5, .v (.int .i64)), (11, .v (.sl (.pair (.int .i64) (.pair (.int .i64) (.pair (.int .u32) (.pair (.int .i64) (.pair (.int .i64) (.pair (.int .i64) (.pair (.int .u32) .unit))))))))), (12, .v (.int .i64)), (13, .v (.int .i64))], boxes := [] }
abbrev e35_L0 : List (XT × Shape) := [(.exit 0, { slots := [(5, .v (.int .i64))], boxes := [] })]
noncomputable def q35_L0 (t1 : Int) (t5 : Int) (t11 : (L (Int × (Int × (Int × (Int × (Int × (Int × (Int × Unit))))))))) (t12 : Int) (t13 : Int) : Option (((Int × (Int × ((L (Int × (Int × (Int × (Int × (Int × (Int × (Int × Unit)))))))) × (Int × (Int × Unit))))) × Unit) ⊕ (((Int × Unit) × Unit) ⊕ Empty)) :=
  bif (decide (t13 < t12)) then
    bif (decide (0 ≤ t13) && decide (t13 < (t11.len : Int))) then
      bif (f71 (L.get t11 t13.toNat).1) then
        bif (f71 (L.get t11 t13.toNat).2.1) then
          bif (decide ((wI ((L.get t11 t13.toNat).1 + (L.get t11 t13.toNat).2.1)) ≤ t1)) then
            some (.inl ((t1, ((wI (t5 + (1 : Int))), (t11, (t12, ((wI (t13 + (1 : Int))), ()))))), ()))
          else
            some (.inl ((t1, (t5, (t11, (t12, ((wI (t13 + (1 : Int))), ()))))), ()))
        else
          some (.inl ((t1, (t5, (t11, (t12, ((wI (t13 + (1 : Int))), ()))))), ()))
      else
        some (.inl ((t1, (t5, (t11, (t12, ((wI (t13 + (1 : Int))), ()))))), ()))
    else
      none
  else
    some (.inr (.inl ((t5, ()), ())))
noncomputable def s35_L0 (x : ((Int × (Int × ((L (Int × (Int × (Int × (Int × (Int × (Int × (Int × Unit)))))))) × (Int × (Int × Unit))))) × Unit)) : Option (((Int × (Int × ((L (Int × (Int × (Int × (Int × (Int × (Int × (Int × Unit)))))))) × (Int × (Int × Unit))))) × Unit) ⊕ (((Int × Unit) × Unit) ⊕ Empty)) := q35_L0 x.1.1 x.1.2.1 x.1.2.2.1 x.1.2.2.2.1 x.1.2.2.2.2.1
noncomputable def a35 : Nat → Option LoopAnn := fun c => bif Nat.beq c 0 then some (.fix h35_L0 e35_L0 s35_L0) else none
noncomputable def g35 (x0 : (L (Int × (Int × (Int × (Int × (Int × (Int × (Int × Unit))))))))) (x1 : Int) : Option ((Int × Unit) × Unit) :=
  bif (decide ((x0.len : Int) > (50000 : Int))) then
    some (((0 : Int), ()), ())
  else
    (fixO s35_L0 ((x1, ((0 : Int), (x0, ((x0.len : Int), ((0 : Int), ()))))), ())).bind fun d2 => match d2 with
    | .inl y1 =>
      some ((y1.1.1, ()), ())
    | .inr e => nomatch e
noncomputable def c35 : Ctr := { ins := [.v (.sl (.pair (.int .i64) (.pair (.int .i64) (.pair (.int .u32) (.pair (.int .i64) (.pair (.int .i64) (.pair (.int .i64) (.pair (.int .u32) .unit)))))))), .v (.int .i64)], out := [(.int .i64)], F := fun x => g35 x.1 x.2.1 }
noncomputable def l35 : List (Nat × Code) := loopsIn (Try.f35.body.getD .skip) 0
theorem w35_L0 (x : h35_L0.T) : runK Try.prog Γ t35 a35 (l35.getD 0 (0, .skip)).2 0 (pkSh h35_L0 x) (loopCls (sh := h35_L0) (es := e35_L0)) = (s35_L0 x : Option _) := by kernel_rfl
theorem v35 : LoopsOk Try.prog Γ t35 a35 (loopsIn (Try.f35.body.getD .skip) 0) := by
  have e : loopsIn (Try.f35.body.getD .skip) 0 = [(0, (l35.getD 0 (0, .skip)).2)] := by kernel_rfl
  rw [e]
  exact ⟨fun x d h => (w35_L0 x).trans h, trivial⟩
theorem r35 (x : InsT c35.ins) : fnK Try.prog Γ t35 a35 Try.f35 c35 x = g35 x.1 x.2.1 := by kernel_rfl
theorem k35 : TblOk Try.prog t35 := tblOk_cons o71 (tblOk_nil)
theorem o35 : Holds Try.prog 35 c35 := fn_holds (code := Try.f35.body.getD .skip) (by kernel_rfl) gamOk k35 Try.func35 (by kernel_rfl) (by kernel_rfl) (by kernel_rfl) (by kernel_rfl) v35 (fun x _ h => (r35 x).trans h)
/-! ### 72: loop.example/g00076/laws.eqEvent -/
noncomputable def t72 : Tbl := []
noncomputable def a72 : Nat → Option LoopAnn := fun _ => none
noncomputable def g72 (x0 : (Int × (Int × (Int × (Int × (Int × (Int × (Int × Unit)))))))) (x1 : (Int × (Int × (Int × (Int × (Int × (Int × (Int × Unit)))))))) : Option ((Bool × Unit) × Unit) :=
  bif (x0.1 != x1.1) then
    some ((false, ()), ())
  else
    bif (x0.2.1 != x1.2.1) then
      some ((false, ()), ())
    else
      bif (x0.2.2.1 != x1.2.2.1) then
        some ((false, ()), ())
      else
        bif (x0.2.2.2.1 != x1.2.2.2.1) then
          some ((false, ()), ())
        else
          bif (x0.2.2.2.2.1 != x1.2.2.2.2.1) then
            some ((false, ()), ())
          else
            bif (x0.2.2.2.2.2.1 != x1.2.2.2.2.2.1) then
              some ((false, ()), ())
            else
              bif (x0.2.2.2.2.2.2.1 != x1.2.2.2.2.2.2.1) then
                some ((false, ()), ())
              else
                some ((true, ()), ())
noncomputable def f72 (x0 : (Int × (Int × (Int × (Int × (Int × (Int × (Int × Unit)))))))) (x1 : (Int × (Int × (Int × (Int × (Int × (Int × (Int × Unit)))))))) : Bool :=
  bif (x0.1 != x1.1) then
    false
  else
    bif (x0.2.1 != x1.2.1) then
      false
    else
      bif (x0.2.2.1 != x1.2.2.1) then
        false
      else
        bif (x0.2.2.2.1 != x1.2.2.2.1) then
          false
        else
          bif (x0.2.2.2.2.1 != x1.2.2.2.2.1) then
            false
          else
            bif (x0.2.2.2.2.2.1 != x1.2.2.2.2.2.1) then
              false
            else
              bif (x0.2.2.2.2.2.2.1 != x1.2.2.2.2.2.2.1) then
                false
              else
                true
theorem n72 (x0 : (Int × (Int × (Int × (Int × (Int × (Int × (Int × Unit)))))))) (x1 : (Int × (Int × (Int × (Int × (Int × (Int × (Int × Unit)))))))) : g72 x0 x1 = some ((f72 x0 x1, ()), ()) := by
  simp only [g72, f72, pull1]
noncomputable def c72 : Ctr := { ins := [.v (.pair (.int .i64) (.pair (.int .i64) (.pair (.int .u32) (.pair (.int .i64) (.pair (.int .i64) (.pair (.int .i64) (.pair (.int .u32) .unit))))))), .v (.pair (.int .i64) (.pair (.int .i64) (.pair (.int .u32) (.pair (.int .i64) (.pair (.int .i64) (.pair (.int .i64) (.pair (.int .u32) .unit)))))))], out := [.bool], F := fun x => some ((f72 x.1 x.2.1, ()), ()) }
theorem v72 : LoopsOk Try.prog Γ t72 a72 (loopsIn (Try.f72.body.getD .skip) 0) := loopsOk_nil (by kernel_rfl)
theorem r72 (x : InsT c72.ins) : fnK Try.prog Γ t72 a72 Try.f72 c72 x = g72 x.1 x.2.1 := by kernel_rfl
theorem k72 : TblOk Try.prog t72 := tblOk_nil
theorem o72 : Holds Try.prog 72 c72 := fn_holds (code := Try.f72.body.getD .skip) (by kernel_rfl) gamOk k72 Try.func72 (by kernel_rfl) (by kernel_rfl) (by kernel_rfl) (by kernel_rfl) v72 (fun x _ h => (r72 x).trans ((n72 x.1 x.2.1).trans h))
/-! ### 33: loop.example/g00076/laws.eqEventS -/
noncomputable def t33 : Tbl := [(72, [], c72)]
abbrev h33_L0 : Shape := { slots := [(0, .v (.sl (.pair (.int .i64) (.pair (.int .i64) (.pair (.int .u32) (.pair (.int .i64) (.pair (.int .i64) (.pair (.int .i64) (.pair (.int .u32) .unit))))))))), (1, .v (.sl (.pair (.int .i64) (.pair (.int .i64) (.pair (.int .u32) (.pair (.int .i64) (.pair (.int .i64) (.pair (.int .i64) (.pair (.int .u32) .unit))))))))), (5, .v (.int .i64))], boxes := [] }
abbrev e33_L0 : List (XT × Shape) := [(.ret, { slots := [(4, .v .bool)], boxes := [] }), (.exit 0, { slots := [], boxes := [] })]
noncomputable def q33_L0 (t0 : (L (Int × (Int × (Int × (Int × (Int × (Int × (Int × Unit))))))))) (t1 : (L (Int × (Int × (Int × (Int × (Int × (Int × (Int × Unit))))))))) (t5 : Int) : Option ((((L (Int × (Int × (Int × (Int × (Int × (Int × (Int × Unit)))))))) × ((L (Int × (Int × (Int × (Int × (Int × (Int × (Int × Unit)))))))) × (Int × Unit))) × Unit) ⊕ (((Bool × Unit) × Unit) ⊕ ((Unit × Unit) ⊕ Empty))) :=
  bif (decide (t5 < (t0.len : Int))) then
    bif (decide (0 ≤ t5) && decide (t5 < (t0.len : Int))) then
      bif (decide (0 ≤ t5) && decide (t5 < (t1.len : Int))) then
        bif (!(f72 (L.get t0 t5.toNat) (L.get t1 t5.toNat))) then
          some (.inr (.inl ((false, ()), ())))
        else
          some (.inl ((t0, (t1, ((wI (t5 + (1 : Int))), ()))), ()))
      else
        none
    else
      none
  else
    some (.inr (.inr (.inl ((), ()))))
noncomputable def s33_L0 (x : (((L (Int × (Int × (Int × (Int × (Int × (Int × (Int × Unit)))))))) × ((L (Int × (Int × (Int × (Int × (Int × (Int × (Int × Unit)))))))) × (Int × Unit))) × Unit)) : Option ((((L (Int × (Int × (Int × (Int × (Int × (Int × (Int × Unit)))))))) × ((L (Int × (Int × (Int × (Int × (Int × (Int × (Int × Unit)))))))) × (Int × Unit))) × Unit) ⊕ (((Bool × Unit) × Unit) ⊕ ((Unit × Unit) ⊕ Empty))) := q33_L0 x.1.1 x.1.2.1 x.1.2.2.1
noncomputable def a33 : Nat → Option LoopAnn := fun c => bif Nat.beq c 0 then some (.fix h33_L0 e33_L0 s33_L0) else none
noncomputable def g33 (x0 : (L (Int × (Int × (Int × (Int × (Int × (Int × (Int × Unit))))))))) (x1 : (L (Int × (Int × (Int × (Int × (Int × (Int × (Int × Unit))))))))) : Option ((Bool × Unit) × Unit) :=
  bif ((x0.len : Int) != (x1.len : Int)) then
    some ((false, ()), ())
  else
    (fixO s33_L0 ((x0, (x1, ((0 : Int), ()))), ())).bind fun d2 => match d2 with
    | .inl y1 =>
      some ((y1.1.1, ()), ())
    | .inr (.inl y1) =>
      some ((true, ()), ())
    | .inr (.inr e) => nomatch e
noncomputable def c33 : Ctr := { ins := [.v (.sl (.pair (.int .i64) (.pair (.int .i64) (.pair (.int .u32) (.pair (.int .i64) (.pair (.int .i64) (.pair (.int .i64) (.pair (.int .u32) .unit)))))))), .v (.sl (.pair (.int .i64) (.pair (.int .i64) (.pair (.int .u32) (.pair (.int .i64) (.pair (.int .i64) (.pair (.int .i64) (.pair (.int .u32) .unit))))))))], out := [.bool], F := fun x => g33 x.1 x.2.1 }
noncomputable def l33 : List (Nat × Code) := loopsIn (Try.f33.body.getD .skip) 0
theorem w33_L0 (x : h33_L0.T) : runK Try.prog Γ t33 a33 (l33.getD 0 (0, .skip)).2 0 (pkSh h33_L0 x) (loopCls (sh := h33_L0) (es := e33_L0)) = (s33_L0 x : Option _) := by kernel_rfl
theorem v33 : LoopsOk Try.prog Γ t33 a33 (loopsIn (Try.f33.body.getD .skip) 0) := by
  have e : loopsIn (Try.f33.body.getD .skip) 0 = [(0, (l33.getD 0 (0, .skip)).2)] := by kernel_rfl
  rw [e]
  exact ⟨fun x d h => (w33_L0 x).trans h, trivial⟩
theorem r33 (x : InsT c33.ins) : fnK Try.prog Γ t33 a33 Try.f33 c33 x = g33 x.1 x.2.1 := by kernel_rfl
theorem k33 : TblOk Try.prog t33 := tblOk_cons o72 (tblOk_nil)
theorem o33 : Holds Try.prog 33 c33 := fn_holds (code := Try.f33.body.getD .skip) (by kernel_rfl) gamOk k33 Try.func33 (by kernel_rfl) (by kernel_rfl) (by kernel_rfl) (by kernel_rfl) v33 (fun x _ h => (r33 x).trans h)
/-! ### 9: loop.example/g00076/laws.FnExactRetired -/
noncomputable def t9 : Tbl := [(29, [], c29), (31, [], c31), (34, [], c34), (35, [], c35), (33, [], c33)]
noncomputable def a9 : Nat → Option LoopAnn := fun _ => none
noncomputable def g9 (x0 : (L (Int × (Int × (Int × (Int × (Int × (Int × (Int × Unit))))))))) (x1 : Int) : Option ((Bool × Unit) × Unit) :=
  bif (decide ((f29 x0 (1048576 : Int)) < (0 : Int))) then
    some ((true, ()), ())
  else
    (g31 x0).bind fun y1 =>
      (g34 y1.1.1 x1).bind fun y2 =>
        (g31 x0).bind fun y3 =>
          (g35 y3.1.1 x1).bind fun y4 =>
            bif (y4.1.1 != y2.1.1) then
              some ((false, ()), ())
            else
              (g31 x0).bind fun y5 =>
                (g33 y3.1.1 y5.1.1).bind fun y6 =>
                  bif (!y6.1.1) then
                    some ((false, ()), ())
                  else
                    some ((true, ()), ())
noncomputable def c9 : Ctr := { ins := [.v (.sl (.pair (.int .i64) (.pair (.int .i64) (.pair (.int .u32) (.pair (.int .i64) (.pair (.int .i64) (.pair (.int .i64) (.pair (.int .u32) .unit)))))))), .v (.int .i64)], out := [.bool], F := fun x => g9 x.1 x.2.1 }
theorem v9 : LoopsOk Try.prog Γ t9 a9 (loopsIn (Try.f9.body.getD .skip) 0) := loopsOk_nil (by kernel_rfl)
theorem r9 (x : InsT c9.ins) : fnK Try.prog Γ t9 a9 Try.f9 c9 x = g9 x.1 x.2.1 := by kernel_rfl
theorem k9 : TblOk Try.prog t9 := tblOk_cons o29 (tblOk_cons o31 (tblOk_cons o34 (tblOk_cons o35 (tblOk_cons o33 (tblOk_nil)))))
theorem o9 : Holds Try.prog 9 c9 := fn_holds (code := Try.f9.body.getD .skip) (by kernel_rfl) gamOk k9 Try.func9 (by kernel_rfl) (by kernel_rfl) (by kernel_rfl) (by kernel_rfl) v9 (fun x _ h => (r9 x).trans h)
end Go.VE.VFnExactRetired
