import Derived.Test.YtilfadmopnamgaaGreatDoorVFnExactPrintConfP0
/- More of what the functions do that laws.FnExactPrintConf reaches, and that they do it. -/
set_option linter.unusedVariables false
set_option linter.unusedSimpArgs false
namespace Go.VE.VFnExactPrintConf
open Go.Proofs Go.VE
/-! ### 30: loop.example/g00076/laws.eqSlotS -/
noncomputable def t30 : Tbl := [(59, [], c59)]
abbrev h30_L0 : Shape := { slots := [(0, .v Ty57), (1, .v Ty57), (5, .v (.int .i64))], boxes := [] }
abbrev e30_L0 : List (XT × Shape) := [(.ret, { slots := [(4, .v .bool)], boxes := [] }), (.exit 0, { slots := [], boxes := [] })]
noncomputable def q30_L0 (t0 : Ta9) (t1 : Ta9) (t5 : Int) : Option (Ta80 ⊕ (((Bool × Unit) × Unit) ⊕ ((Unit × Unit) ⊕ Empty))) :=
  bif (decide (t5 < (t0.len : Int))) then
    bif (decide (0 ≤ t5) && decide (t5 < (t0.len : Int))) then
      bif (decide (0 ≤ t5) && decide (t5 < (t1.len : Int))) then
        bif (!(f59 (L.get t0 t5.toNat) (L.get t1 t5.toNat))) then
          some (.inr (.inl ((false, ()), ())))
        else
          some (.inl ((t0, (t1, ((wI (t5 + (1 : Int))), ()))), ()))
      else
        none
    else
      none
  else
    some (.inr (.inr (.inl ((), ()))))
noncomputable def s30_L0 (x : Ta80) : Option (Ta80 ⊕ (((Bool × Unit) × Unit) ⊕ ((Unit × Unit) ⊕ Empty))) := q30_L0 x.1.1 x.1.2.1 x.1.2.2.1
noncomputable def a30 : Nat → Option LoopAnn := fun c => bif Nat.beq c 0 then some (.fix h30_L0 e30_L0 s30_L0) else none
noncomputable def g30 (x0 : Ta9) (x1 : Ta9) : Option ((Bool × Unit) × Unit) :=
  bif ((x0.len : Int) != (x1.len : Int)) then
    some ((false, ()), ())
  else
    (fixO s30_L0 ((x0, (x1, ((0 : Int), ()))), ())).bind fun d2 => match d2 with
    | .inl y1 =>
      some ((y1.1.1, ()), ())
    | .inr (.inl y1) =>
      some ((true, ()), ())
    | .inr (.inr e) => nomatch e
noncomputable def c30 : Ctr := { ins := [.v Ty57, .v Ty57], out := [.bool], F := fun x => g30 x.1 x.2.1 }
noncomputable def l30 : List (Nat × Code) := loopsIn (Tryz.f30.body.getD .skip) 0
theorem w30_L0 (x : h30_L0.T) : runK Tryz.prog Γ t30 (inlN Tryz.prog Γ t30 3) a30 (l30.getD 0 (0, .skip)).2 0 (pkSh h30_L0 x) (loopCls (sh := h30_L0) (es := e30_L0)) = (s30_L0 x : Option _) := by kernel_rfl
theorem v30 : LoopsOk Tryz.prog Γ t30 a30 (loopsIn (Tryz.f30.body.getD .skip) 0) := by
  have e : loopsIn (Tryz.f30.body.getD .skip) 0 = [(0, (l30.getD 0 (0, .skip)).2)] := by kernel_rfl
  rw [e]
  exact ⟨fun x d h => (w30_L0 x).trans h, trivial⟩
theorem r30 (x : InsT c30.ins) : fnK Tryz.prog Γ t30 a30 Tryz.f30 c30 x = g30 x.1 x.2.1 := by kernel_rfl
theorem k30 : TblOk Tryz.prog t30 := tblOk_cons o59 (tblOk_nil)
theorem o30 : Holds Tryz.prog 30 c30 := fn_holds (code := Tryz.f30.body.getD .skip) (by kernel_rfl) gamOk k30 Tryz.func30 (by kernel_rfl) (by kernel_rfl) (by kernel_rfl) (by kernel_rfl) v30 (fun x _ h => (r30 x).trans h)
/-! ### 8: loop.example/g00076/laws.eqTables -/
noncomputable def t8 : Tbl := [(25, [], c25), (26, [], c26), (27, [], c27), (28, [], c28), (29, [], c29), (30, [], c30)]
noncomputable def a8 : Nat → Option LoopAnn := fun _ => none
noncomputable def g8 (x0 : Ta131) (x1 : Ta131) : Option ((Bool × Unit) × Unit) :=
  bif (x0.1 != x1.1) then
    some ((false, ()), ())
  else
    bif (!(f25 x0.2.1 x1.2.1)) then
      some ((false, ()), ())
    else
      bif (x0.2.2.1 != x1.2.2.1) then
        some ((false, ()), ())
      else
        bif (!(f26 x0.2.2.2.1 x1.2.2.2.1)) then
          some ((false, ()), ())
        else
          bif (x0.2.2.2.2.1 != x1.2.2.2.2.1) then
            some ((false, ()), ())
          else
            bif (x0.2.2.2.2.2.1 != x1.2.2.2.2.2.1) then
              some ((false, ()), ())
            else
              bif (x0.2.2.2.2.2.2.1 != x1.2.2.2.2.2.2.1) then
                some ((false, ()), ())
              else
                (g27 x0.2.2.2.2.2.2.2.1 x1.2.2.2.2.2.2.2.1).bind fun y1 =>
                  bif (!y1.1.1) then
                    some ((false, ()), ())
                  else
                    (g28 x0.2.2.2.2.2.2.2.2.1 x1.2.2.2.2.2.2.2.2.1).bind fun y2 =>
                      bif (!y2.1.1) then
                        some ((false, ()), ())
                      else
                        (g29 x0.2.2.2.2.2.2.2.2.2.1 x1.2.2.2.2.2.2.2.2.2.1).bind fun y3 =>
                          bif (!y3.1.1) then
                            some ((false, ()), ())
                          else
                            (g30 x0.2.2.2.2.2.2.2.2.2.2.1 x1.2.2.2.2.2.2.2.2.2.2.1).bind fun y4 =>
                              bif (!y4.1.1) then
                                some ((false, ()), ())
                              else
                                some ((true, ()), ())
noncomputable def c8 : Ctr := { ins := [.v Ty155, .v Ty155], out := [.bool], F := fun x => g8 x.1 x.2.1 }
theorem v8 : LoopsOk Tryz.prog Γ t8 a8 (loopsIn (Tryz.f8.body.getD .skip) 0) := loopsOk_nil (by kernel_rfl)
theorem r8 (x : InsT c8.ins) : fnK Tryz.prog Γ t8 a8 Tryz.f8 c8 x = g8 x.1 x.2.1 := by kernel_rfl
theorem k8 : TblOk Tryz.prog t8 := tblOk_cons o25 (tblOk_cons o26 (tblOk_cons o27 (tblOk_cons o28 (tblOk_cons o29 (tblOk_cons o30 (tblOk_nil))))))
theorem o8 : Holds Tryz.prog 8 c8 := fn_holds (code := Tryz.f8.body.getD .skip) (by kernel_rfl) gamOk k8 Tryz.func8 (by kernel_rfl) (by kernel_rfl) (by kernel_rfl) (by kernel_rfl) v8 (fun x _ h => (r8 x).trans h)
/-! ### 3: loop.example/g00076/laws.FnExactPrintConf -/
noncomputable def t3 : Tbl := [(4, [], c4), (6, [], c6), (5, [], c5), (7, [], c7), (8, [], c8)]
noncomputable def a3 : Nat → Option LoopAnn := fun _ => none
noncomputable def g3 (x0 : Ta131) : Option ((Bool × Unit) × Unit) :=
  (g4 x0 (1048576 : Int)).bind fun y1 =>
    bif (decide (y1.1.1 < (0 : Int))) then
      some ((true, ()), ())
    else
      (g6 x0).bind fun y2 =>
        (g5 y2.1.1).bind fun y3 =>
          (g6 x0).bind fun y4 =>
            (g7 y4.1.1).bind fun y5 =>
              bif (!strEq y5.1.1 y3.1.1) then
                some ((false, ()), ())
              else
                bif (!(y5.1.2.1 == y3.1.2.1)) then
                  some ((false, ()), ())
                else
                  (g6 x0).bind fun y6 =>
                    (g8 y4.1.1 y6.1.1).bind fun y7 =>
                      bif (!y7.1.1) then
                        some ((false, ()), ())
                      else
                        some ((true, ()), ())
noncomputable def c3 : Ctr := { ins := [.v Ty155], out := [.bool], F := fun x => g3 x.1 }
theorem v3 : LoopsOk Tryz.prog Γ t3 a3 (loopsIn (Tryz.f3.body.getD .skip) 0) := loopsOk_nil (by kernel_rfl)
theorem r3 (x : InsT c3.ins) : fnK Tryz.prog Γ t3 a3 Tryz.f3 c3 x = g3 x.1 := by kernel_rfl
theorem k3 : TblOk Tryz.prog t3 := tblOk_cons o4 (tblOk_cons o6 (tblOk_cons o5 (tblOk_cons o7 (tblOk_cons o8 (tblOk_nil)))))
theorem o3 : Holds Tryz.prog 3 c3 := fn_holds (code := Tryz.f3.body.getD .skip) (by kernel_rfl) gamOk k3 Tryz.func3 (by kernel_rfl) (by kernel_rfl) (by kernel_rfl) (by kernel_rfl) v3 (fun x _ h => (r3 x).trans h)
end Go.VE.VFnExactPrintConf
