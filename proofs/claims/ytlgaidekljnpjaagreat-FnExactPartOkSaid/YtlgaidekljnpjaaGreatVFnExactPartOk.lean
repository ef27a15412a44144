import Derived.Test.YtlgaidekljnpjaaGreatVFnExactPartOkP0
/- More of what the functions do that laws.FnExactPartOk reaches, and that they do it. -/
set_option linter.unusedVariables false
set_option linter.unusedSimpArgs false
namespace Go.VE.VFnExactPartOk
open Go.Proofs Go.VE
/-! ### 200: slices.IndexFunc[[]loop.example/g00076/impl.ChanRow,loop.example/g00076/impl.ChanRow] -/
noncomputable def t200_139 : Tbl := [(139, [], c139)]
abbrev h200_139_L0 : Shape := { slots := [(0, .v Ty175), (1, .clo 139 [(.int .i64)]), (7, .v (.int .i64)), (8, .v (.int .i64))], boxes := [] }
abbrev e200_139_L0 : List (XT × Shape) := [(.ret, { slots := [(4, .v (.int .i64))], boxes := [] }), (.exit 0, { slots := [], boxes := [] })]
noncomputable def q200_139_L0 (t0 : Ta50) (t1 : (Int × Unit)) (t7 : Int) (t8 : Int) : Option (Ta176 ⊕ (((Int × Unit) × Unit) ⊕ ((Unit × Unit) ⊕ Empty))) :=
  bif (decide (t8 < t7)) then
    bif (decide (0 ≤ t8) && decide (t8 < (t0.len : Int))) then
      bif (f139 (L.get t0 t8.toNat) t1.1) then
        some (.inr (.inl ((t8, ()), ())))
      else
        some (.inl ((t0, (t1, (t7, ((wI (t8 + (1 : Int))), ())))), ()))
    else
      none
  else
    some (.inr (.inr (.inl ((), ()))))
noncomputable def s200_139_L0 (x : Ta176) : Option (Ta176 ⊕ (((Int × Unit) × Unit) ⊕ ((Unit × Unit) ⊕ Empty))) := q200_139_L0 x.1.1 x.1.2.1 x.1.2.2.1 x.1.2.2.2.1
noncomputable def a200_139 : Nat → Option LoopAnn := fun c => bif Nat.beq c 0 then some (.fix h200_139_L0 e200_139_L0 s200_139_L0) else none
noncomputable def g200_139 (x0 : Ta50) (x1 : (Int × Unit)) : Option ((Int × Unit) × Unit) :=
  (fixO s200_139_L0 ((x0, (x1, ((x0.len : Int), ((0 : Int), ())))), ())).bind fun d2 => match d2 with
  | .inl y1 =>
    some ((y1.1.1, ()), ())
  | .inr (.inl y1) =>
    some (((-1 : Int), ()), ())
  | .inr (.inr e) => nomatch e
noncomputable def c200_139 : Ctr := { ins := [.v Ty175, .clo 139 [(.int .i64)]], out := [(.int .i64)], F := fun x => g200_139 x.1 x.2.1 }
noncomputable def l200_139 : List (Nat × Code) := loopsIn (Tryz.f200.body.getD .skip) 0
theorem w200_139_L0 (x : h200_139_L0.T) : runK Tryz.prog Γ t200_139 a200_139 (l200_139.getD 0 (0, .skip)).2 0 (pkSh h200_139_L0 x) (loopCls (sh := h200_139_L0) (es := e200_139_L0)) = (s200_139_L0 x : Option _) := by kernel_rfl
theorem v200_139 : LoopsOk Tryz.prog Γ t200_139 a200_139 (loopsIn (Tryz.f200.body.getD .skip) 0) := by
  have e : loopsIn (Tryz.f200.body.getD .skip) 0 = [(0, (l200_139.getD 0 (0, .skip)).2)] := by kernel_rfl
  rw [e]
  exact ⟨fun x d h => (w200_139_L0 x).trans h, trivial⟩
theorem r200_139 (x : InsT c200_139.ins) : fnK Tryz.prog Γ t200_139 a200_139 Tryz.f200 c200_139 x = g200_139 x.1 x.2.1 := by kernel_rfl
theorem k200_139 : TblOk Tryz.prog t200_139 := tblOk_cons o139 (tblOk_nil)
theorem o200_139 : Holds Tryz.prog 200 c200_139 := fn_holds (code := Tryz.f200.body.getD .skip) (by kernel_rfl) gamOk k200_139 Tryz.func200 (by kernel_rfl) (by kernel_rfl) (by kernel_rfl) (by kernel_rfl) v200_139 (fun x _ h => (r200_139 x).trans h)
/-! ### 138: slices.ContainsFunc[[]loop.example/g00076/impl.ChanRow,loop.example/g00076/impl.ChanRow] -/
noncomputable def t138_139 : Tbl := [(200, [139], c200_139)]
noncomputable def a138_139 : Nat → Option LoopAnn := fun _ => none
noncomputable def g138_139 (x0 : Ta50) (x1 : (Int × Unit)) : Option ((Bool × Unit) × Unit) :=
  (g200_139 x0 x1).bind fun y1 =>
    some (((decide (y1.1.1 ≥ (0 : Int))), ()), ())
noncomputable def c138_139 : Ctr := { ins := [.v Ty175, .clo 139 [(.int .i64)]], out := [.bool], F := fun x => g138_139 x.1 x.2.1 }
theorem v138_139 : LoopsOk Tryz.prog Γ t138_139 a138_139 (loopsIn (Tryz.f138.body.getD .skip) 0) := loopsOk_nil (by kernel_rfl)
theorem r138_139 (x : InsT c138_139.ins) : fnK Tryz.prog Γ t138_139 a138_139 Tryz.f138 c138_139 x = g138_139 x.1 x.2.1 := by kernel_rfl
theorem k138_139 : TblOk Tryz.prog t138_139 := tblOk_cons o200_139 (tblOk_nil)
theorem o138_139 : Holds Tryz.prog 138 c138_139 := fn_holds (code := Tryz.f138.body.getD .skip) (by kernel_rfl) gamOk k138_139 Tryz.func138 (by kernel_rfl) (by kernel_rfl) (by kernel_rfl) (by kernel_rfl) v138_139 (fun x _ h => (r138_139 x).trans h)
/-! ### 167: loop.example/g00076/impl.depthOf -/
noncomputable def t167 : Tbl := []
noncomputable def a167 : Nat → Option LoopAnn := fun _ => none
noncomputable def g167 (x0 : Ta33) : Option ((Int × Unit) × Unit) :=
  some (((if x0.2.2.2.1 > (1 : Int) then x0.2.2.2.1 else (1 : Int)), ()), ())
noncomputable def f167 (x0 : Ta33) : Int :=
  (if x0.2.2.2.1 > (1 : Int) then x0.2.2.2.1 else (1 : Int))
theorem n167 (x0 : Ta33) : g167 x0 = some ((f167 x0, ()), ()) := by
  simp only [g167, f167, pull1]
noncomputable def c167 : Ctr := { ins := [.v Ty167], out := [(.int .i64)], F := fun x => some ((f167 x.1, ()), ()) }
theorem v167 : LoopsOk Tryz.prog Γ t167 a167 (loopsIn (Tryz.f167.body.getD .skip) 0) := loopsOk_nil (by kernel_rfl)
theorem r167 (x : InsT c167.ins) : fnK Tryz.prog Γ t167 a167 Tryz.f167 c167 x = g167 x.1 := by kernel_rfl
theorem k167 : TblOk Tryz.prog t167 := tblOk_nil
theorem o167 : Holds Tryz.prog 167 c167 := fn_holds (code := Tryz.f167.body.getD .skip) (by kernel_rfl) gamOk k167 Tryz.func167 (by kernel_rfl) (by kernel_rfl) (by kernel_rfl) (by kernel_rfl) v167 (fun x _ h => (r167 x).trans ((n167 x.1).trans h))
/-! ### 141: loop.example/g00076/impl.worstPad -/
noncomputable def t141 : Tbl := [(167, [], c167)]
abbrev h141_L0 : Shape := { slots := [(3, .bx 3 0), (7, .v (.int .i64)), (22, .v Ty175), (23, .v (.int .i64)), (24, .v (.int .i64))], boxes := [(3, .typ Ty223)] }
abbrev e141_L0 : List (XT × Shape) := [(.exit 0, { slots := [(7, .v (.int .i64))], boxes := [] })]
noncomputable def q141_L0 (t7 : Int) (t22 : Ta50) (t23 : Int) (t24 : Int) (b3 : Ta110) : Option (Ta232 ⊕ (((Int × Unit) × Unit) ⊕ Empty)) :=
  bif (decide (t24 < t23)) then
    bif (decide (0 ≤ t24) && decide (t24 < (t22.len : Int))) then
      some (.inl (((), ((wI (t7 + (wI (b3.1 * (f167 (L.get t22 t24.toNat)))))), (t22, (t23, ((wI (t24 + (1 : Int))), ()))))), (b3, ())))
    else
      none
  else
    some (.inr (.inl ((t7, ()), ())))
noncomputable def s141_L0 (x : Ta232) : Option (Ta232 ⊕ (((Int × Unit) × Unit) ⊕ Empty)) := q141_L0 x.1.2.1 x.1.2.2.1 x.1.2.2.2.1 x.1.2.2.2.2.1 x.2.1
noncomputable def a141 : Nat → Option LoopAnn := fun c => bif Nat.beq c 0 then some (.fix h141_L0 e141_L0 s141_L0) else none
noncomputable def g141 (x0 : Ta110) (x1 : Ta8) (x2 : Ta50) : Option ((Int × Unit) × Unit) :=
  (fixO s141_L0 (((), ((wI ((wI ((16 : Int) * x0.1)) + (wI ((wI (x1.1 * x1.2.1)) * x0.2.2.2.2.2.2.1)))), (x2, ((x2.len : Int), ((0 : Int), ()))))), (x0, ()))).bind fun d2 => match d2 with
  | .inl y1 =>
    some ((y1.1.1, ()), ())
  | .inr e => nomatch e
noncomputable def c141 : Ctr := { ins := [.v Ty223, .v Ty119, .v Ty175], out := [(.int .i64)], F := fun x => g141 x.1 x.2.1 x.2.2.1 }
noncomputable def l141 : List (Nat × Code) := loopsIn (Tryz.f141.body.getD .skip) 0
theorem w141_L0 (x : h141_L0.T) : runK Tryz.prog Γ t141 a141 (l141.getD 0 (0, .skip)).2 0 (pkSh h141_L0 x) (loopCls (sh := h141_L0) (es := e141_L0)) = (s141_L0 x : Option _) := by kernel_rfl
theorem v141 : LoopsOk Tryz.prog Γ t141 a141 (loopsIn (Tryz.f141.body.getD .skip) 0) := by
  have e : loopsIn (Tryz.f141.body.getD .skip) 0 = [(0, (l141.getD 0 (0, .skip)).2)] := by kernel_rfl
  rw [e]
  exact ⟨fun x d h => (w141_L0 x).trans h, trivial⟩
theorem r141 (x : InsT c141.ins) : fnK Tryz.prog Γ t141 a141 Tryz.f141 c141 x = g141 x.1 x.2.1 x.2.2.1 := by kernel_rfl
theorem k141 : TblOk Tryz.prog t141 := tblOk_cons o167 (tblOk_nil)
theorem o141 : Holds Tryz.prog 141 c141 := fn_holds (code := Tryz.f141.body.getD .skip) (by kernel_rfl) gamOk k141 Tryz.func141 (by kernel_rfl) (by kernel_rfl) (by kernel_rfl) (by kernel_rfl) v141 (fun x _ h => (r141 x).trans h)
/-! ### 201: loop.example/g00076/impl.isSlotAt -/
noncomputable def t201 : Tbl := []
noncomputable def a201 : Nat → Option LoopAnn := fun _ => none
noncomputable def g201 (x0 : Ta262) (x1 : Ta8) (x2 : Int) : Option ((Bool × Unit) × Unit) :=
  bif (decide (x1.2.2.1 > (wI (x0.2.2.2.2.1 + x0.2.2.2.2.2.1)))) then
    bif (decide (x1.2.2.1 ≤ x0.2.2.2.2.2.2.1)) then
      bif (decide (x1.2.1 ≥ x2)) then
        some (((decide (x1.2.1 ≤ (wI (x0.2.2.2.2.2.2.1 - x1.2.2.1)))), ()), ())
      else
        some ((false, ()), ())
    else
      some ((false, ()), ())
  else
    some ((false, ()), ())
noncomputable def f201 (x0 : Ta262) (x1 : Ta8) (x2 : Int) : Bool :=
  bif (decide (x1.2.2.1 > (wI (x0.2.2.2.2.1 + x0.2.2.2.2.2.1)))) then
    bif (decide (x1.2.2.1 ≤ x0.2.2.2.2.2.2.1)) then
      bif (decide (x1.2.1 ≥ x2)) then
        (decide (x1.2.1 ≤ (wI (x0.2.2.2.2.2.2.1 - x1.2.2.1))))
      else
        false
    else
      false
  else
    false
theorem n201 (x0 : Ta262) (x1 : Ta8) (x2 : Int) : g201 x0 x1 x2 = some ((f201 x0 x1 x2, ()), ()) := by
  simp only [g201, f201, pull1]
noncomputable def c201 : Ctr := { ins := [.v Ty286, .v Ty119, .v (.int .i64)], out := [.bool], F := fun x => some ((f201 x.1 x.2.1 x.2.2.1, ()), ()) }
theorem v201 : LoopsOk Tryz.prog Γ t201 a201 (loopsIn (Tryz.f201.body.getD .skip) 0) := loopsOk_nil (by kernel_rfl)
theorem r201 (x : InsT c201.ins) : fnK Tryz.prog Γ t201 a201 Tryz.f201 c201 x = g201 x.1 x.2.1 x.2.2.1 := by kernel_rfl
theorem k201 : TblOk Tryz.prog t201 := tblOk_nil
theorem o201 : Holds Tryz.prog 201 c201 := fn_holds (code := Tryz.f201.body.getD .skip) (by kernel_rfl) gamOk k201 Tryz.func201 (by kernel_rfl) (by kernel_rfl) (by kernel_rfl) (by kernel_rfl) v201 (fun x _ h => (r201 x).trans ((n201 x.1 x.2.1 x.2.2.1).trans h))
/-! ### 142: loop.example/g00076/impl.areSlots -/
noncomputable def t142 : Tbl := [(86, [], c86), (201, [], c201)]
abbrev h142_L0 : Shape := { slots := [(1, .bx 1 0), (3, .v (.int .i64)), (7, .v Ty136), (8, .v (.int .i64)), (9, .v (.int .i64))], boxes := [(1, .typ Ty286)] }
abbrev e142_L0 : List (XT × Shape) := [(.ret, { slots := [(2, .v .bool)], boxes := [] }), (.exit 0, { slots := [(1, .bx 1 0)], boxes := [(1, .typ Ty286)] })]
noncomputable def q142_L0 (t3 : Int) (t7 : Ta24) (t8 : Int) (t9 : Int) (b1 : Ta262) : Option (Ta273 ⊕ (((Bool × Unit) × Unit) ⊕ (Ta265 ⊕ Empty))) :=
  bif (decide (t9 < t8)) then
    bif (decide (0 ≤ t9) && decide (t9 < (t7.len : Int))) then
      bif (!(f86 (L.get t7 t9.toNat).1 (0 : Int) (wI ((b1.2.2.2.2.2.2.2.1.len : Int) - (1 : Int))))) then
        some (.inr (.inl ((false, ()), ())))
      else
        bif (!(f201 b1 (L.get t7 t9.toNat) t3)) then
          some (.inr (.inl ((false, ()), ())))
        else
          some (.inl (((), ((wI ((L.get t7 t9.toNat).2.1 + (L.get t7 t9.toNat).2.2.1)), (t7, (t8, ((wI (t9 + (1 : Int))), ()))))), (b1, ())))
    else
      none
  else
    some (.inr (.inr (.inl (((), ()), (b1, ())))))
noncomputable def s142_L0 (x : Ta273) : Option (Ta273 ⊕ (((Bool × Unit) × Unit) ⊕ (Ta265 ⊕ Empty))) := q142_L0 x.1.2.1 x.1.2.2.1 x.1.2.2.2.1 x.1.2.2.2.2.1 x.2.1
noncomputable def a142 : Nat → Option LoopAnn := fun c => bif Nat.beq c 0 then some (.fix h142_L0 e142_L0 s142_L0) else none
noncomputable def g142 (x0 : Ta262) : Option ((Bool × Unit) × Unit) :=
  (fixO s142_L0 (((), ((0 : Int), (x0.2.2.2.2.2.2.2.2.2.2.1, ((x0.2.2.2.2.2.2.2.2.2.2.1.len : Int), ((0 : Int), ()))))), (x0, ()))).bind fun d2 => match d2 with
  | .inl y1 =>
    some ((y1.1.1, ()), ())
  | .inr (.inl y1) =>
    some (((f86 (y1.2.1.2.2.2.2.2.2.2.2.2.2.1.len : Int) (1 : Int) (16 : Int)), ()), ())
  | .inr (.inr e) => nomatch e
noncomputable def c142 : Ctr := { ins := [.v Ty286], out := [.bool], F := fun x => g142 x.1 }
noncomputable def l142 : List (Nat × Code) := loopsIn (Tryz.f142.body.getD .skip) 0
theorem w142_L0 (x : h142_L0.T) : runK Tryz.prog Γ t142 a142 (l142.getD 0 (0, .skip)).2 0 (pkSh h142_L0 x) (loopCls (sh := h142_L0) (es := e142_L0)) = (s142_L0 x : Option _) := by kernel_rfl
theorem v142 : LoopsOk Tryz.prog Γ t142 a142 (loopsIn (Tryz.f142.body.getD .skip) 0) := by
  have e : loopsIn (Tryz.f142.body.getD .skip) 0 = [(0, (l142.getD 0 (0, .skip)).2)] := by kernel_rfl
  rw [e]
  exact ⟨fun x d h => (w142_L0 x).trans h, trivial⟩
theorem r142 (x : InsT c142.ins) : fnK Tryz.prog Γ t142 a142 Tryz.f142 c142 x = g142 x.1 := by kernel_rfl
theorem k142 : TblOk Tryz.prog t142 := tblOk_cons o86 (tblOk_cons o201 (tblOk_nil))
theorem o142 : Holds Tryz.prog 142 c142 := fn_holds (code := Tryz.f142.body.getD .skip) (by kernel_rfl) gamOk k142 Tryz.func142 (by kernel_rfl) (by kernel_rfl) (by kernel_rfl) (by kernel_rfl) v142 (fun x _ h => (r142 x).trans h)
/-! ### 64: loop.example/g00076/impl.isSound -/
noncomputable def t64 : Tbl := [(131, [], c131), (132, [], c132), (86, [], c86), (133, [], c133), (134, [], c134), (87, [], c87), (135, [], c135), (136, [137], c136_137), (138, [139], c138_139), (141, [], c141), (142, [], c142)]
noncomputable def a64 : Nat → Option LoopAnn := fun _ => none
noncomputable def g64 (x0 : Ta262) : Option ((Bool × Unit) × Unit) :=
  bif (!(f131 x0.1)) then
    some ((false, ()), ())
  else
    bif (!(f132 x0.2.1)) then
      some ((false, ()), ())
    else
      bif (!(f86 x0.2.2.1 (1 : Int) (8 : Int))) then
        some ((false, ()), ())
      else
        bif (!(f133 x0.2.2.2.1)) then
          some ((false, ()), ())
        else
          bif (!(f134 x0.2.2.2.2.1)) then
            some ((false, ()), ())
          else
            bif (!(f134 x0.2.2.2.2.2.1)) then
              some ((false, ()), ())
            else
              bif (!(f134 x0.2.2.2.2.2.2.1)) then
                some ((false, ()), ())
              else
                (g87 x0.2.2.2.1).bind fun y1 =>
                  bif (decide (x0.2.2.2.2.2.1 < y1.1.1)) then
                    some ((false, ()), ())
                  else
                    bif (!(f86 (x0.2.2.2.2.2.2.2.1.len : Int) (1 : Int) (6 : Int))) then
                      some ((false, ()), ())
                    else
                      (g135 x0).bind fun y2 =>
                        bif (!y2.1.1) then
                          some ((false, ()), ())
                        else
                          bif (decide ((x0.2.2.2.2.2.2.2.2.1.len : Int) > (8 : Int))) then
                            some ((false, ()), ())
                          else
                            (g136_137 x0.2.2.2.2.2.2.2.2.1 ((x0.2.2.2.2.2.2.2.1.len : Int), ())).bind fun y3 =>
                              bif y3.1.1 then
                                some ((false, ()), ())
                              else
                                bif (decide ((x0.2.2.2.2.2.2.2.2.2.1.len : Int) > (8 : Int))) then
                                  some ((false, ()), ())
                                else
                                  (g138_139 x0.2.2.2.2.2.2.2.2.2.1 ((x0.2.2.2.2.2.2.2.1.len : Int), ())).bind fun y4 =>
                                    bif y4.1.1 then
                                      some ((false, ()), ())
                                    else
                                      (g141 x0.2.2.2.1 x0.2.1 x0.2.2.2.2.2.2.2.2.2.1).bind fun y5 =>
                                        bif (decide (x0.2.2.2.2.1 < y5.1.1)) then
                                          some ((false, ()), ())
                                        else
                                          (g142 x0).bind fun y6 =>
                                            some ((y6.1.1, ()), ())
noncomputable def c64 : Ctr := { ins := [.v Ty286], out := [.bool], F := fun x => g64 x.1 }
theorem v64 : LoopsOk Tryz.prog Γ t64 a64 (loopsIn (Tryz.f64.body.getD .skip) 0) := loopsOk_nil (by kernel_rfl)
theorem r64 (x : InsT c64.ins) : fnK Tryz.prog Γ t64 a64 Tryz.f64 c64 x = g64 x.1 := by kernel_rfl
theorem k64 : TblOk Tryz.prog t64 := tblOk_cons o131 (tblOk_cons o132 (tblOk_cons o86 (tblOk_cons o133 (tblOk_cons o134 (tblOk_cons o87 (tblOk_cons o135 (tblOk_cons o136_137 (tblOk_cons o138_139 (tblOk_cons o141 (tblOk_cons o142 (tblOk_nil)))))))))))
theorem o64 : Holds Tryz.prog 64 c64 := fn_holds (code := Tryz.f64.body.getD .skip) (by kernel_rfl) gamOk k64 Tryz.func64 (by kernel_rfl) (by kernel_rfl) (by kernel_rfl) (by kernel_rfl) v64 (fun x _ h => (r64 x).trans h)
/-! ### 82: loop.example/g00076/impl.isImage -/
noncomputable def t82 : Tbl := [(86, [], c86)]
abbrev h82_L0 : Shape := { slots := [(2, .v (.sl (.sl (.int .u8)))), (33, .v Ty136), (34, .v (.int .i64)), (35, .v (.int .i64))], boxes := [] }
abbrev e82_L0 : List (XT × Shape) := [(.ret, { slots := [(6, .v .bool)], boxes := [] }), (.exit 0, { slots := [], boxes := [] })]
noncomputable def q82_L0 (t2 : (L (L Int))) (t33 : Ta24) (t34 : Int) (t35 : Int) : Option (Ta163 ⊕ (((Bool × Unit) × Unit) ⊕ ((Unit × Unit) ⊕ Empty))) :=
  bif (decide (t35 < t34)) then
    bif (decide (0 ≤ t35) && decide (t35 < (t33.len : Int))) then
      bif (decide (0 ≤ t35) && decide (t35 < (t2.len : Int))) then
        bif (((L.get t2 t35.toNat).len : Int) != (L.get t33 t35.toNat).2.1) then
          some (.inr (.inl ((false, ()), ())))
        else
          some (.inl ((t2, (t33, (t34, ((wI (t35 + (1 : Int))), ())))), ()))
      else
        none
    else
      none
  else
    some (.inr (.inr (.inl ((), ()))))
noncomputable def s82_L0 (x : Ta163) : Option (Ta163 ⊕ (((Bool × Unit) × Unit) ⊕ ((Unit × Unit) ⊕ Empty))) := q82_L0 x.1.1 x.1.2.1 x.1.2.2.1 x.1.2.2.2.1
noncomputable def a82 : Nat → Option LoopAnn := fun c => bif Nat.beq c 0 then some (.fix h82_L0 e82_L0 s82_L0) else none
noncomputable def g82 (x0 : Ta262) (x1 : Int) (x2 : (L (L Int))) : Option ((Bool × Unit) × Unit) :=
  bif (!(f86 x1 (0 : Int) (wI ((x0.2.2.2.2.2.2.2.1.len : Int) - (1 : Int))))) then
    some ((false, ()), ())
  else
    bif (decide (0 ≤ x1) && decide (x1 < (x0.2.2.2.2.2.2.2.1.len : Int))) then
      bif ((x2.len : Int) != ((L.get x0.2.2.2.2.2.2.2.1 x1.toNat).2.2.2.1.len : Int)) then
        some ((false, ()), ())
      else
        bif (decide (0 ≤ x1) && decide (x1 < (x0.2.2.2.2.2.2.2.1.len : Int))) then
          (fixO s82_L0 ((x2, ((L.get x0.2.2.2.2.2.2.2.1 x1.toNat).2.2.2.1, (((L.get x0.2.2.2.2.2.2.2.1 x1.toNat).2.2.2.1.len : Int), ((0 : Int), ())))), ())).bind fun d2 => match d2 with
          | .inl y1 =>
            some ((y1.1.1, ()), ())
          | .inr (.inl y1) =>
            some ((true, ()), ())
          | .inr (.inr e) => nomatch e
        else
          none
    else
      none
noncomputable def c82 : Ctr := { ins := [.v Ty286, .v (.int .i64), .v (.sl (.sl (.int .u8)))], out := [.bool], F := fun x => g82 x.1 x.2.1 x.2.2.1 }
noncomputable def l82 : List (Nat × Code) := loopsIn (Tryz.f82.body.getD .skip) 0
theorem w82_L0 (x : h82_L0.T) : runK Tryz.prog Γ t82 a82 (l82.getD 0 (0, .skip)).2 0 (pkSh h82_L0 x) (loopCls (sh := h82_L0) (es := e82_L0)) = (s82_L0 x : Option _) := by kernel_rfl
theorem v82 : LoopsOk Tryz.prog Γ t82 a82 (loopsIn (Tryz.f82.body.getD .skip) 0) := by
  have e : loopsIn (Tryz.f82.body.getD .skip) 0 = [(0, (l82.getD 0 (0, .skip)).2)] := by kernel_rfl
  rw [e]
  exact ⟨fun x d h => (w82_L0 x).trans h, trivial⟩
theorem r82 (x : InsT c82.ins) : fnK Tryz.prog Γ t82 a82 Tryz.f82 c82 x = g82 x.1 x.2.1 x.2.2.1 := by kernel_rfl
theorem k82 : TblOk Tryz.prog t82 := tblOk_cons o86 (tblOk_nil)
theorem o82 : Holds Tryz.prog 82 c82 := fn_holds (code := Tryz.f82.body.getD .skip) (by kernel_rfl) gamOk k82 Tryz.func82 (by kernel_rfl) (by kernel_rfl) (by kernel_rfl) (by kernel_rfl) v82 (fun x _ h => (r82 x).trans h)
/-! ### 237: loop.example/g00076/impl.areWindows$1 -/
noncomputable def t237 : Tbl := [(197, [], c197)]
noncomputable def a237 : Nat → Option LoopAnn := fun _ => none
noncomputable def g237 (x0 : Ta8) (x1 : Ta8) : Option ((Bool × Unit) × Unit) :=
  some (((!(f197 x0 x1)), ()), ())
noncomputable def f237 (x0 : Ta8) (x1 : Ta8) : Bool :=
  (!(f197 x0 x1))
theorem n237 (x0 : Ta8) (x1 : Ta8) : g237 x0 x1 = some ((f237 x0 x1, ()), ()) := by
  simp only [g237, f237, pull1]
noncomputable def c237 : Ctr := { ins := [.v Ty119, .rf Ty119], out := [.bool], F := fun x => some ((f237 x.1 x.2.1, ()), ()) }
theorem v237 : LoopsOk Tryz.prog Γ t237 a237 (loopsIn (Tryz.f237.body.getD .skip) 0) := loopsOk_nil (by kernel_rfl)
theorem r237 (x : InsT c237.ins) : fnK Tryz.prog Γ t237 a237 Tryz.f237 c237 x = g237 x.1 x.2.1 := by kernel_rfl
theorem k237 : TblOk Tryz.prog t237 := tblOk_cons o197 (tblOk_nil)
theorem o237 : Holds Tryz.prog 237 c237 := fn_holds (code := Tryz.f237.body.getD .skip) (by kernel_rfl) gamOk k237 Tryz.func237 (by kernel_rfl) (by kernel_rfl) (by kernel_rfl) (by kernel_rfl) v237 (fun x _ h => (r237 x).trans ((n237 x.1 x.2.1).trans h))
/-! ### 230: slices.IndexFunc[[]loop.example/g00076/impl.Window,loop.example/g00076/impl.Window] -/
noncomputable def t230_237 : Tbl := [(237, [], c237)]
abbrev h230_237_L0 : Shape := { slots := [(0, .v Ty136), (1, .clo 237 [Ty119]), (7, .v (.int .i64)), (8, .v (.int .i64))], boxes := [] }
abbrev e230_237_L0 : List (XT × Shape) := [(.ret, { slots := [(4, .v (.int .i64))], boxes := [] }), (.exit 0, { slots := [], boxes := [] })]
noncomputable def q230_237_L0 (t0 : Ta24) (t1 : Ta39) (t7 : Int) (t8 : Int) : Option (Ta200 ⊕ (((Int × Unit) × Unit) ⊕ ((Unit × Unit) ⊕ Empty))) :=
  bif (decide (t8 < t7)) then
    bif (decide (0 ≤ t8) && decide (t8 < (t0.len : Int))) then
      bif (f237 (L.get t0 t8.toNat) t1.1) then
        some (.inr (.inl ((t8, ()), ())))
      else
        some (.inl ((t0, (t1, (t7, ((wI (t8 + (1 : Int))), ())))), ()))
    else
      none
  else
    some (.inr (.inr (.inl ((), ()))))
noncomputable def s230_237_L0 (x : Ta200) : Option (Ta200 ⊕ (((Int × Unit) × Unit) ⊕ ((Unit × Unit) ⊕ Empty))) := q230_237_L0 x.1.1 x.1.2.1 x.1.2.2.1 x.1.2.2.2.1
noncomputable def a230_237 : Nat → Option LoopAnn := fun c => bif Nat.beq c 0 then some (.fix h230_237_L0 e230_237_L0 s230_237_L0) else none
noncomputable def g230_237 (x0 : Ta24) (x1 : Ta39) : Option ((Int × Unit) × Unit) :=
  (fixO s230_237_L0 ((x0, (x1, ((x0.len : Int), ((0 : Int), ())))), ())).bind fun d2 => match d2 with
  | .inl y1 =>
    some ((y1.1.1, ()), ())
  | .inr (.inl y1) =>
    some (((-1 : Int), ()), ())
  | .inr (.inr e) => nomatch e
noncomputable def c230_237 : Ctr := { ins := [.v Ty136, .clo 237 [Ty119]], out := [(.int .i64)], F := fun x => g230_237 x.1 x.2.1 }
noncomputable def l230_237 : List (Nat × Code) := loopsIn (Tryz.f230.body.getD .skip) 0
theorem w230_237_L0 (x : h230_237_L0.T) : runK Tryz.prog Γ t230_237 a230_237 (l230_237.getD 0 (0, .skip)).2 0 (pkSh h230_237_L0 x) (loopCls (sh := h230_237_L0) (es := e230_237_L0)) = (s230_237_L0 x : Option _) := by kernel_rfl
theorem v230_237 : LoopsOk Tryz.prog Γ t230_237 a230_237 (loopsIn (Tryz.f230.body.getD .skip) 0) := by
  have e : loopsIn (Tryz.f230.body.getD .skip) 0 = [(0, (l230_237.getD 0 (0, .skip)).2)] := by kernel_rfl
  rw [e]
  exact ⟨fun x d h => (w230_237_L0 x).trans h, trivial⟩
theorem r230_237 (x : InsT c230_237.ins) : fnK Tryz.prog Γ t230_237 a230_237 Tryz.f230 c230_237 x = g230_237 x.1 x.2.1 := by kernel_rfl
theorem k230_237 : TblOk Tryz.prog t230_237 := tblOk_cons o237 (tblOk_nil)
theorem o230_237 : Holds Tryz.prog 230 c230_237 := fn_holds (code := Tryz.f230.body.getD .skip) (by kernel_rfl) gamOk k230_237 Tryz.func230 (by kernel_rfl) (by kernel_rfl) (by kernel_rfl) (by kernel_rfl) v230_237 (fun x _ h => (r230_237 x).trans h)
/-! ### 195: slices.ContainsFunc[[]loop.example/g00076/impl.Window,loop.example/g00076/impl.Window] -/
noncomputable def t195_237 : Tbl := [(230, [237], c230_237)]
noncomputable def a195_237 : Nat → Option LoopAnn := fun _ => none
noncomputable def g195_237 (x0 : Ta24) (x1 : Ta39) : Option ((Bool × Unit) × Unit) :=
  (g230_237 x0 x1).bind fun y1 =>
    some (((decide (y1.1.1 ≥ (0 : Int))), ()), ())
noncomputable def c195_237 : Ctr := { ins := [.v Ty136, .clo 237 [Ty119]], out := [.bool], F := fun x => g195_237 x.1 x.2.1 }
theorem v195_237 : LoopsOk Tryz.prog Γ t195_237 a195_237 (loopsIn (Tryz.f195.body.getD .skip) 0) := loopsOk_nil (by kernel_rfl)
theorem r195_237 (x : InsT c195_237.ins) : fnK Tryz.prog Γ t195_237 a195_237 Tryz.f195 c195_237 x = g195_237 x.1 x.2.1 := by kernel_rfl
theorem k195_237 : TblOk Tryz.prog t195_237 := tblOk_cons o230_237 (tblOk_nil)
theorem o195_237 : Holds Tryz.prog 195 c195_237 := fn_holds (code := Tryz.f195.body.getD .skip) (by kernel_rfl) gamOk k195_237 Tryz.func195 (by kernel_rfl) (by kernel_rfl) (by kernel_rfl) (by kernel_rfl) v195_237 (fun x _ h => (r195_237 x).trans h)
/-! ### 221: loop.example/g00076/impl.areWindows -/
noncomputable def t221 : Tbl := [(194, [], c194), (195, [237], c195_237)]
abbrev h221_L0 : Shape := { slots := [(0, .v Ty136), (8, .v Ty136), (9, .v (.int .i64)), (10, .v (.int .i64))], boxes := [] }
abbrev e221_L0 : List (XT × Shape) := [(.ret, { slots := [(2, .v .bool)], boxes := [] }), (.exit 0, { slots := [], boxes := [] })]
noncomputable def q221_L0 (t0 : Ta24) (t8 : Ta24) (t9 : Int) (t10 : Int) : Option (Ta194 ⊕ (((Bool × Unit) × Unit) ⊕ ((Unit × Unit) ⊕ Empty))) :=
  bif (decide (t10 < t9)) then
    bif (decide (0 ≤ t10) && decide (t10 < (t8.len : Int))) then
      bif (!(f194 (L.get t8 t10.toNat))) then
        some (.inr (.inl ((false, ()), ())))
      else
        bif (decide (0 ≤ (0 : Int)) && (decide ((0 : Int) ≤ t10) && decide (t10 ≤ (t0.len : Int)))) then
          (g195_237 (L.cut t0 (0 : Int).toNat t10.toNat) ((L.get t8 t10.toNat), ())).bind fun y1 =>
            bif y1.1.1 then
              some (.inr (.inl ((false, ()), ())))
            else
              some (.inl ((t0, (t8, (t9, ((wI (t10 + (1 : Int))), ())))), ()))
        else
          none
    else
      none
  else
    some (.inr (.inr (.inl ((), ()))))
noncomputable def s221_L0 (x : Ta194) : Option (Ta194 ⊕ (((Bool × Unit) × Unit) ⊕ ((Unit × Unit) ⊕ Empty))) := q221_L0 x.1.1 x.1.2.1 x.1.2.2.1 x.1.2.2.2.1
noncomputable def a221 : Nat → Option LoopAnn := fun c => bif Nat.beq c 0 then some (.fix h221_L0 e221_L0 s221_L0) else none
noncomputable def g221 (x0 : Ta24) : Option ((Bool × Unit) × Unit) :=
  bif (decide ((x0.len : Int) > (4 : Int))) then
    some ((false, ()), ())
  else
    (fixO s221_L0 ((x0, (x0, ((x0.len : Int), ((0 : Int), ())))), ())).bind fun d3 => match d3 with
    | .inl y2 =>
      some ((y2.1.1, ()), ())
    | .inr (.inl y2) =>
      some ((true, ()), ())
    | .inr (.inr e) => nomatch e
noncomputable def c221 : Ctr := { ins := [.v Ty136], out := [.bool], F := fun x => g221 x.1 }
noncomputable def l221 : List (Nat × Code) := loopsIn (Tryz.f221.body.getD .skip) 0
theorem w221_L0 (x : h221_L0.T) : runK Tryz.prog Γ t221 a221 (l221.getD 0 (0, .skip)).2 0 (pkSh h221_L0 x) (loopCls (sh := h221_L0) (es := e221_L0)) = (s221_L0 x : Option _) := by kernel_rfl
theorem v221 : LoopsOk Tryz.prog Γ t221 a221 (loopsIn (Tryz.f221.body.getD .skip) 0) := by
  have e : loopsIn (Tryz.f221.body.getD .skip) 0 = [(0, (l221.getD 0 (0, .skip)).2)] := by kernel_rfl
  rw [e]
  exact ⟨fun x d h => (w221_L0 x).trans h, trivial⟩
theorem r221 (x : InsT c221.ins) : fnK Tryz.prog Γ t221 a221 Tryz.f221 c221 x = g221 x.1 := by kernel_rfl
theorem k221 : TblOk Tryz.prog t221 := tblOk_cons o194 (tblOk_cons o195_237 (tblOk_nil))
theorem o221 : Holds Tryz.prog 221 c221 := fn_holds (code := Tryz.f221.body.getD .skip) (by kernel_rfl) gamOk k221 Tryz.func221 (by kernel_rfl) (by kernel_rfl) (by kernel_rfl) (by kernel_rfl) v221 (fun x _ h => (r221 x).trans h)
/-! ### 180: loop.example/g00076/impl.isGuest -/
noncomputable def t180 : Tbl := [(221, [], c221)]
abbrev h180_L0 : Shape := { slots := [(3, .bx 3 0), (31, .v Ty136), (32, .v (.int .i64)), (33, .v (.int .i64))], boxes := [(3, .typ Ty160)] }
abbrev e180_L0 : List (XT × Shape) := [(.ret, { slots := [(4, .v .bool)], boxes := [] }), (.exit 0, { slots := [], boxes := [] })]
noncomputable def q180_L0 (t31 : Ta24) (t32 : Int) (t33 : Int) (b3 : Ta51) : Option (Ta209 ⊕ (((Bool × Unit) × Unit) ⊕ ((Unit × Unit) ⊕ Empty))) :=
  bif (decide (t33 < t32)) then
    bif (decide (0 ≤ t33) && decide (t33 < (t31.len : Int))) then
      bif (decide (0 ≤ t33) && decide (t33 < (b3.2.2.1.len : Int))) then
        bif (((L.get b3.2.2.1 t33.toNat).len : Int) != (L.get t31 t33.toNat).2.1) then
          some (.inr (.inl ((false, ()), ())))
        else
          some (.inl (((), (t31, (t32, ((wI (t33 + (1 : Int))), ())))), (b3, ())))
      else
        none
    else
      none
  else
    some (.inr (.inr (.inl ((), ()))))
noncomputable def s180_L0 (x : Ta209) : Option (Ta209 ⊕ (((Bool × Unit) × Unit) ⊕ ((Unit × Unit) ⊕ Empty))) := q180_L0 x.1.2.1 x.1.2.2.1 x.1.2.2.2.1 x.2.1
noncomputable def a180 : Nat → Option LoopAnn := fun c => bif Nat.beq c 0 then some (.fix h180_L0 e180_L0 s180_L0) else none
noncomputable def g180 (x0 : Ta24) (x1 : Ta51) : Option ((Bool × Unit) × Unit) :=
  (g221 x0).bind fun y1 =>
    bif (!y1.1.1) then
      some ((false, ()), ())
    else
      bif ((x1.1.len : Int) != (16 : Int)) then
        some ((false, ()), ())
      else
        bif (decide ((0 : Int) < (x1.1.len : Int))) then
          bif ((L.get x1.1 (0 : Int).toNat) != (0 : Int)) then
            some ((false, ()), ())
          else
            bif ((x1.2.2.1.len : Int) != (x0.len : Int)) then
              some ((false, ()), ())
            else
              (fixO s180_L0 (((), (x0, ((x0.len : Int), ((0 : Int), ())))), (x1, ()))).bind fun d3 => match d3 with
              | .inl y2 =>
                some ((y2.1.1, ()), ())
              | .inr (.inl y2) =>
                some ((true, ()), ())
              | .inr (.inr e) => nomatch e
        else
          none
noncomputable def c180 : Ctr := { ins := [.v Ty136, .v Ty160], out := [.bool], F := fun x => g180 x.1 x.2.1 }
noncomputable def l180 : List (Nat × Code) := loopsIn (Tryz.f180.body.getD .skip) 0
theorem w180_L0 (x : h180_L0.T) : runK Tryz.prog Γ t180 a180 (l180.getD 0 (0, .skip)).2 0 (pkSh h180_L0 x) (loopCls (sh := h180_L0) (es := e180_L0)) = (s180_L0 x : Option _) := by kernel_rfl
theorem v180 : LoopsOk Tryz.prog Γ t180 a180 (loopsIn (Tryz.f180.body.getD .skip) 0) := by
  have e : loopsIn (Tryz.f180.body.getD .skip) 0 = [(0, (l180.getD 0 (0, .skip)).2)] := by kernel_rfl
  rw [e]
  exact ⟨fun x d h => (w180_L0 x).trans h, trivial⟩
theorem r180 (x : InsT c180.ins) : fnK Tryz.prog Γ t180 a180 Tryz.f180 c180 x = g180 x.1 x.2.1 := by kernel_rfl
theorem k180 : TblOk Tryz.prog t180 := tblOk_cons o221 (tblOk_nil)
theorem o180 : Holds Tryz.prog 180 c180 := fn_holds (code := Tryz.f180.body.getD .skip) (by kernel_rfl) gamOk k180 Tryz.func180 (by kernel_rfl) (by kernel_rfl) (by kernel_rfl) (by kernel_rfl) v180 (fun x _ h => (r180 x).trans h)
/-! ### 181: loop.example/g00076/impl.isHealth -/
noncomputable def t181 : Tbl := [(86, [], c86)]
noncomputable def a181 : Nat → Option LoopAnn := fun _ => none
noncomputable def g181 (x0 : Ta38) : Option ((Bool × Unit) × Unit) :=
  bif (f86 x0.1 (0 : Int) (1000000000 : Int)) then
    bif (f86 x0.2.1 (0 : Int) (1000000000 : Int)) then
      some (((f86 x0.2.2.1 (0 : Int) (9 : Int)), ()), ())
    else
      some ((false, ()), ())
  else
    some ((false, ()), ())
noncomputable def f181 (x0 : Ta38) : Bool :=
  bif (f86 x0.1 (0 : Int) (1000000000 : Int)) then
    bif (f86 x0.2.1 (0 : Int) (1000000000 : Int)) then
      (f86 x0.2.2.1 (0 : Int) (9 : Int))
    else
      false
  else
    false
theorem n181 (x0 : Ta38) : g181 x0 = some ((f181 x0, ()), ()) := by
  simp only [g181, f181, pull1]
noncomputable def c181 : Ctr := { ins := [.v Ty154], out := [.bool], F := fun x => some ((f181 x.1, ()), ()) }
theorem v181 : LoopsOk Tryz.prog Γ t181 a181 (loopsIn (Tryz.f181.body.getD .skip) 0) := loopsOk_nil (by kernel_rfl)
theorem r181 (x : InsT c181.ins) : fnK Tryz.prog Γ t181 a181 Tryz.f181 c181 x = g181 x.1 := by kernel_rfl
theorem k181 : TblOk Tryz.prog t181 := tblOk_cons o86 (tblOk_nil)
theorem o181 : Holds Tryz.prog 181 c181 := fn_holds (code := Tryz.f181.body.getD .skip) (by kernel_rfl) gamOk k181 Tryz.func181 (by kernel_rfl) (by kernel_rfl) (by kernel_rfl) (by kernel_rfl) v181 (fun x _ h => (r181 x).trans ((n181 x.1).trans h))
/-! ### 165: loop.example/g00076/impl.isAddr -/
noncomputable def t165 : Tbl := [(86, [], c86)]
noncomputable def a165 : Nat → Option LoopAnn := fun _ => none
noncomputable def g165 (x0 : Int) : Option ((Bool × Unit) × Unit) :=
  some (((f86 x0 (0 : Int) (65535 : Int)), ()), ())
noncomputable def f165 (x0 : Int) : Bool :=
  (f86 x0 (0 : Int) (65535 : Int))
theorem n165 (x0 : Int) : g165 x0 = some ((f165 x0, ()), ()) := by
  simp only [g165, f165, pull1]
noncomputable def c165 : Ctr := { ins := [.v (.int .i64)], out := [.bool], F := fun x => some ((f165 x.1, ()), ()) }
theorem v165 : LoopsOk Tryz.prog Γ t165 a165 (loopsIn (Tryz.f165.body.getD .skip) 0) := loopsOk_nil (by kernel_rfl)
theorem r165 (x : InsT c165.ins) : fnK Tryz.prog Γ t165 a165 Tryz.f165 c165 x = g165 x.1 := by kernel_rfl
theorem k165 : TblOk Tryz.prog t165 := tblOk_cons o86 (tblOk_nil)
theorem o165 : Holds Tryz.prog 165 c165 := fn_holds (code := Tryz.f165.body.getD .skip) (by kernel_rfl) gamOk k165 Tryz.func165 (by kernel_rfl) (by kernel_rfl) (by kernel_rfl) (by kernel_rfl) v165 (fun x _ h => (r165 x).trans ((n165 x.1).trans h))
/-! ### 217: loop.example/g00076/impl.wayIndex$1 -/
noncomputable def t217 : Tbl := []
noncomputable def a217 : Nat → Option LoopAnn := fun _ => none
noncomputable def g217 (x0 : (Int × (Bool × Unit))) (x1 : Int) : Option ((Bool × Unit) × Unit) :=
  some (((x0.1 == x1), ()), ())
noncomputable def f217 (x0 : (Int × (Bool × Unit))) (x1 : Int) : Bool :=
  (x0.1 == x1)
theorem n217 (x0 : (Int × (Bool × Unit))) (x1 : Int) : g217 x0 x1 = some ((f217 x0 x1, ()), ()) := by
  simp only [g217, f217, pull1]
noncomputable def c217 : Ctr := { ins := [.v Ty48, .rf (.int .i64)], out := [.bool], F := fun x => some ((f217 x.1 x.2.1, ()), ()) }
theorem v217 : LoopsOk Tryz.prog Γ t217 a217 (loopsIn (Tryz.f217.body.getD .skip) 0) := loopsOk_nil (by kernel_rfl)
theorem r217 (x : InsT c217.ins) : fnK Tryz.prog Γ t217 a217 Tryz.f217 c217 x = g217 x.1 x.2.1 := by kernel_rfl
theorem k217 : TblOk Tryz.prog t217 := tblOk_nil
theorem o217 : Holds Tryz.prog 217 c217 := fn_holds (code := Tryz.f217.body.getD .skip) (by kernel_rfl) gamOk k217 Tryz.func217 (by kernel_rfl) (by kernel_rfl) (by kernel_rfl) (by kernel_rfl) v217 (fun x _ h => (r217 x).trans ((n217 x.1 x.2.1).trans h))
/-! ### 216: slices.IndexFunc[[]loop.example/g00076/impl.Way,loop.example/g00076/impl.Way] -/
noncomputable def t216_217 : Tbl := [(217, [], c217)]
abbrev h216_217_L0 : Shape := { slots := [(0, .v Ty62), (1, .clo 217 [(.int .i64)]), (7, .v (.int .i64)), (8, .v (.int .i64))], boxes := [] }
abbrev e216_217_L0 : List (XT × Shape) := [(.ret, { slots := [(4, .v (.int .i64))], boxes := [] }), (.exit 0, { slots := [], boxes := [] })]
noncomputable def q216_217_L0 (t0 : Ta3) (t1 : (Int × Unit)) (t7 : Int) (t8 : Int) : Option (Ta151 ⊕ (((Int × Unit) × Unit) ⊕ ((Unit × Unit) ⊕ Empty))) :=
  bif (decide (t8 < t7)) then
    bif (decide (0 ≤ t8) && decide (t8 < (t0.len : Int))) then
      bif (f217 (L.get t0 t8.toNat) t1.1) then
        some (.inr (.inl ((t8, ()), ())))
      else
        some (.inl ((t0, (t1, (t7, ((wI (t8 + (1 : Int))), ())))), ()))
    else
      none
  else
    some (.inr (.inr (.inl ((), ()))))
noncomputable def s216_217_L0 (x : Ta151) : Option (Ta151 ⊕ (((Int × Unit) × Unit) ⊕ ((Unit × Unit) ⊕ Empty))) := q216_217_L0 x.1.1 x.1.2.1 x.1.2.2.1 x.1.2.2.2.1
noncomputable def a216_217 : Nat → Option LoopAnn := fun c => bif Nat.beq c 0 then some (.fix h216_217_L0 e216_217_L0 s216_217_L0) else none
noncomputable def g216_217 (x0 : Ta3) (x1 : (Int × Unit)) : Option ((Int × Unit) × Unit) :=
  (fixO s216_217_L0 ((x0, (x1, ((x0.len : Int), ((0 : Int), ())))), ())).bind fun d2 => match d2 with
  | .inl y1 =>
    some ((y1.1.1, ()), ())
  | .inr (.inl y1) =>
    some (((-1 : Int), ()), ())
  | .inr (.inr e) => nomatch e
noncomputable def c216_217 : Ctr := { ins := [.v Ty62, .clo 217 [(.int .i64)]], out := [(.int .i64)], F := fun x => g216_217 x.1 x.2.1 }
noncomputable def l216_217 : List (Nat × Code) := loopsIn (Tryz.f216.body.getD .skip) 0
theorem w216_217_L0 (x : h216_217_L0.T) : runK Tryz.prog Γ t216_217 a216_217 (l216_217.getD 0 (0, .skip)).2 0 (pkSh h216_217_L0 x) (loopCls (sh := h216_217_L0) (es := e216_217_L0)) = (s216_217_L0 x : Option _) := by kernel_rfl
theorem v216_217 : LoopsOk Tryz.prog Γ t216_217 a216_217 (loopsIn (Tryz.f216.body.getD .skip) 0) := by
  have e : loopsIn (Tryz.f216.body.getD .skip) 0 = [(0, (l216_217.getD 0 (0, .skip)).2)] := by kernel_rfl
  rw [e]
  exact ⟨fun x d h => (w216_217_L0 x).trans h, trivial⟩
theorem r216_217 (x : InsT c216_217.ins) : fnK Tryz.prog Γ t216_217 a216_217 Tryz.f216 c216_217 x = g216_217 x.1 x.2.1 := by kernel_rfl
theorem k216_217 : TblOk Tryz.prog t216_217 := tblOk_cons o217 (tblOk_nil)
theorem o216_217 : Holds Tryz.prog 216 c216_217 := fn_holds (code := Tryz.f216.body.getD .skip) (by kernel_rfl) gamOk k216_217 Tryz.func216 (by kernel_rfl) (by kernel_rfl) (by kernel_rfl) (by kernel_rfl) v216_217 (fun x _ h => (r216_217 x).trans h)
/-! ### 166: loop.example/g00076/impl.wayIndex -/
noncomputable def t166 : Tbl := [(216, [217], c216_217)]
noncomputable def a166 : Nat → Option LoopAnn := fun _ => none
noncomputable def g166 (x0 : Ta3) (x1 : Int) : Option ((Int × Unit) × Unit) :=
  (g216_217 x0 (x1, ())).bind fun y1 =>
    some ((y1.1.1, ()), ())
noncomputable def c166 : Ctr := { ins := [.v Ty62, .v (.int .i64)], out := [(.int .i64)], F := fun x => g166 x.1 x.2.1 }
theorem v166 : LoopsOk Tryz.prog Γ t166 a166 (loopsIn (Tryz.f166.body.getD .skip) 0) := loopsOk_nil (by kernel_rfl)
theorem r166 (x : InsT c166.ins) : fnK Tryz.prog Γ t166 a166 Tryz.f166 c166 x = g166 x.1 x.2.1 := by kernel_rfl
theorem k166 : TblOk Tryz.prog t166 := tblOk_cons o216_217 (tblOk_nil)
theorem o166 : Holds Tryz.prog 166 c166 := fn_holds (code := Tryz.f166.body.getD .skip) (by kernel_rfl) gamOk k166 Tryz.func166 (by kernel_rfl) (by kernel_rfl) (by kernel_rfl) (by kernel_rfl) v166 (fun x _ h => (r166 x).trans h)
/-! ### 99: loop.example/g00076/impl.isCache -/
noncomputable def t99 : Tbl := [(132, [], c132), (165, [], c165), (166, [], c166)]
abbrev h99_L2 : Shape := { slots := [(1, .bx 1 0), (4, .v Ty62), (21, .v Ty82), (22, .v (.int .i64)), (23, .v (.int .i64)), (33, .v Ty62), (34, .v (.int .i64)), (35, .v (.int .i64))], boxes := [(1, .typ Ty218)] }
abbrev e99_L2 : List (XT × Shape) := [(.ret, { slots := [(2, .v .bool)], boxes := [] }), (.exit 2, { slots := [(1, .bx 1 0), (21, .v Ty82), (22, .v (.int .i64)), (23, .v (.int .i64))], boxes := [(1, .typ Ty218)] })]
noncomputable def q99_L2 (t4 : Ta3) (t21 : Ta13) (t22 : Int) (t23 : Int) (t33 : Ta3) (t34 : Int) (t35 : Int) (b1 : Ta137) : Option (Ta252 ⊕ (((Bool × Unit) × Unit) ⊕ (Ta227 ⊕ Empty))) :=
  bif (decide (t35 < t34)) then
    bif (decide (0 ≤ t35) && decide (t35 < (t33.len : Int))) then
      bif (!(f165 (L.get t33 t35.toNat).1)) then
        some (.inr (.inl ((false, ()), ())))
      else
        (g166 t4 (L.get t33 t35.toNat).1).bind fun y1 =>
          bif (decide (y1.1.1 < t35)) then
            some (.inr (.inl ((false, ()), ())))
          else
            some (.inl (((), (t4, (t21, (t22, (t23, (t33, (t34, ((wI (t35 + (1 : Int))), ())))))))), (b1, ())))
    else
      none
  else
    some (.inr (.inr (.inl (((), (t21, (t22, (t23, ())))), (b1, ())))))
noncomputable def s99_L2 (x : Ta252) : Option (Ta252 ⊕ (((Bool × Unit) × Unit) ⊕ (Ta227 ⊕ Empty))) := q99_L2 x.1.2.1 x.1.2.2.1 x.1.2.2.2.1 x.1.2.2.2.2.1 x.1.2.2.2.2.2.1 x.1.2.2.2.2.2.2.1 x.1.2.2.2.2.2.2.2.1 x.2.1
abbrev h99_L0 : Shape := { slots := [(1, .bx 1 0), (21, .v Ty82), (22, .v (.int .i64)), (23, .v (.int .i64))], boxes := [(1, .typ Ty218)] }
abbrev e99_L0 : List (XT × Shape) := [(.ret, { slots := [(2, .v .bool)], boxes := [] }), (.exit 0, { slots := [], boxes := [] })]
noncomputable def q99_L0 (t21 : Ta13) (t22 : Int) (t23 : Int) (b1 : Ta137) : Option (Ta227 ⊕ (((Bool × Unit) × Unit) ⊕ ((Unit × Unit) ⊕ Empty))) :=
  bif (decide (t23 < t22)) then
    bif (decide (0 ≤ t23) && decide (t23 < (t21.len : Int))) then
      bif (decide (((L.get t21 t23.toNat).len : Int) > b1.1.2.1)) then
        some (.inr (.inl ((false, ()), ())))
      else
        (fixO s99_L2 (((), ((L.get t21 t23.toNat), (t21, (t22, (t23, ((L.get t21 t23.toNat), (((L.get t21 t23.toNat).len : Int), ((0 : Int), ())))))))), (b1, ()))).bind fun d3 => match d3 with
        | .inl y2 =>
          some (.inr (.inl y2))
        | .inr (.inl y2) =>
          some (.inl (((), (y2.1.2.1, (y2.1.2.2.1, ((wI (y2.1.2.2.2.1 + (1 : Int))), ())))), y2.2))
        | .inr (.inr e) => nomatch e
    else
      none
  else
    some (.inr (.inr (.inl ((), ()))))
noncomputable def s99_L0 (x : Ta227) : Option (Ta227 ⊕ (((Bool × Unit) × Unit) ⊕ ((Unit × Unit) ⊕ Empty))) := q99_L0 x.1.2.1 x.1.2.2.1 x.1.2.2.2.1 x.2.1
noncomputable def a99 : Nat → Option LoopAnn := fun c => bif Nat.beq c 2 then some (.fix h99_L2 e99_L2 s99_L2) else bif Nat.beq c 0 then some (.fix h99_L0 e99_L0 s99_L0) else none
noncomputable def g99 (x0 : Ta137) : Option ((Bool × Unit) × Unit) :=
  bif (!(f132 x0.1)) then
    some ((false, ()), ())
  else
    bif ((x0.2.1.len : Int) != x0.1.1) then
      some ((false, ()), ())
    else
      (fixO s99_L0 (((), (x0.2.1, ((x0.2.1.len : Int), ((0 : Int), ())))), (x0, ()))).bind fun d5 => match d5 with
      | .inl y4 =>
        some ((y4.1.1, ()), ())
      | .inr (.inl y4) =>
        some ((true, ()), ())
      | .inr (.inr e) => nomatch e
noncomputable def c99 : Ctr := { ins := [.v Ty218], out := [.bool], F := fun x => g99 x.1 }
noncomputable def l99 : List (Nat × Code) := loopsIn (Tryz.f99.body.getD .skip) 0
theorem w99_L2 (x : h99_L2.T) : runK Tryz.prog Γ t99 a99 (l99.getD 1 (0, .skip)).2 2 (pkSh h99_L2 x) (loopCls (sh := h99_L2) (es := e99_L2)) = (s99_L2 x : Option _) := by kernel_rfl
theorem w99_L0 (x : h99_L0.T) : runK Tryz.prog Γ t99 a99 (l99.getD 0 (0, .skip)).2 0 (pkSh h99_L0 x) (loopCls (sh := h99_L0) (es := e99_L0)) = (s99_L0 x : Option _) := by kernel_rfl
theorem v99 : LoopsOk Tryz.prog Γ t99 a99 (loopsIn (Tryz.f99.body.getD .skip) 0) := by
  have e : loopsIn (Tryz.f99.body.getD .skip) 0 = [(0, (l99.getD 0 (0, .skip)).2), (2, (l99.getD 1 (0, .skip)).2)] := by kernel_rfl
  rw [e]
  exact ⟨fun x d h => (w99_L0 x).trans h, fun x d h => (w99_L2 x).trans h, trivial⟩
theorem r99 (x : InsT c99.ins) : fnK Tryz.prog Γ t99 a99 Tryz.f99 c99 x = g99 x.1 := by kernel_rfl
theorem k99 : TblOk Tryz.prog t99 := tblOk_cons o132 (tblOk_cons o165 (tblOk_cons o166 (tblOk_nil)))
theorem o99 : Holds Tryz.prog 99 c99 := fn_holds (code := Tryz.f99.body.getD .skip) (by kernel_rfl) gamOk k99 Tryz.func99 (by kernel_rfl) (by kernel_rfl) (by kernel_rfl) (by kernel_rfl) v99 (fun x _ h => (r99 x).trans h)
/-! ### 238: slices.Index[[]int,int] -/
noncomputable def t238 : Tbl := []
abbrev h238_L0 : Shape := { slots := [(0, .v (.sl (.int .i64))), (1, .v (.int .i64)), (7, .v (.int .i64)), (8, .v (.int .i64))], boxes := [] }
abbrev e238_L0 : List (XT × Shape) := [(.ret, { slots := [(4, .v (.int .i64))], boxes := [] }), (.exit 0, { slots := [], boxes := [] })]
noncomputable def q238_L0 (t0 : (L Int)) (t1 : Int) (t7 : Int) (t8 : Int) : Option (Ta76 ⊕ (((Int × Unit) × Unit) ⊕ ((Unit × Unit) ⊕ Empty))) :=
  bif (decide (t8 < t7)) then
    bif (decide (0 ≤ t8) && decide (t8 < (t0.len : Int))) then
      bif (t1 == (L.get t0 t8.toNat)) then
        some (.inr (.inl ((t8, ()), ())))
      else
        some (.inl ((t0, (t1, (t7, ((wI (t8 + (1 : Int))), ())))), ()))
    else
      none
  else
    some (.inr (.inr (.inl ((), ()))))
noncomputable def s238_L0 (x : Ta76) : Option (Ta76 ⊕ (((Int × Unit) × Unit) ⊕ ((Unit × Unit) ⊕ Empty))) := q238_L0 x.1.1 x.1.2.1 x.1.2.2.1 x.1.2.2.2.1
noncomputable def a238 : Nat → Option LoopAnn := fun c => bif Nat.beq c 0 then some (.fix h238_L0 e238_L0 s238_L0) else none
noncomputable def g238 (x0 : (L Int)) (x1 : Int) : Option ((Int × Unit) × Unit) :=
  (fixO s238_L0 ((x0, (x1, ((x0.len : Int), ((0 : Int), ())))), ())).bind fun d2 => match d2 with
  | .inl y1 =>
    some ((y1.1.1, ()), ())
  | .inr (.inl y1) =>
    some (((-1 : Int), ()), ())
  | .inr (.inr e) => nomatch e
noncomputable def c238 : Ctr := { ins := [.v (.sl (.int .i64)), .v (.int .i64)], out := [(.int .i64)], F := fun x => g238 x.1 x.2.1 }
noncomputable def l238 : List (Nat × Code) := loopsIn (Tryz.f238.body.getD .skip) 0
theorem w238_L0 (x : h238_L0.T) : runK Tryz.prog Γ t238 a238 (l238.getD 0 (0, .skip)).2 0 (pkSh h238_L0 x) (loopCls (sh := h238_L0) (es := e238_L0)) = (s238_L0 x : Option _) := by kernel_rfl
theorem v238 : LoopsOk Tryz.prog Γ t238 a238 (loopsIn (Tryz.f238.body.getD .skip) 0) := by
  have e : loopsIn (Tryz.f238.body.getD .skip) 0 = [(0, (l238.getD 0 (0, .skip)).2)] := by kernel_rfl
  rw [e]
  exact ⟨fun x d h => (w238_L0 x).trans h, trivial⟩
theorem r238 (x : InsT c238.ins) : fnK Tryz.prog Γ t238 a238 Tryz.f238 c238 x = g238 x.1 x.2.1 := by kernel_rfl
theorem k238 : TblOk Tryz.prog t238 := tblOk_nil
theorem o238 : Holds Tryz.prog 238 c238 := fn_holds (code := Tryz.f238.body.getD .skip) (by kernel_rfl) gamOk k238 Tryz.func238 (by kernel_rfl) (by kernel_rfl) (by kernel_rfl) (by kernel_rfl) v238 (fun x _ h => (r238 x).trans h)
/-! ### 222: slices.Contains[[]int,int] -/
noncomputable def t222 : Tbl := [(238, [], c238)]
noncomputable def a222 : Nat → Option LoopAnn := fun _ => none
noncomputable def g222 (x0 : (L Int)) (x1 : Int) : Option ((Bool × Unit) × Unit) :=
  (g238 x0 x1).bind fun y1 =>
    some (((decide (y1.1.1 ≥ (0 : Int))), ()), ())
noncomputable def c222 : Ctr := { ins := [.v (.sl (.int .i64)), .v (.int .i64)], out := [.bool], F := fun x => g222 x.1 x.2.1 }
theorem v222 : LoopsOk Tryz.prog Γ t222 a222 (loopsIn (Tryz.f222.body.getD .skip) 0) := loopsOk_nil (by kernel_rfl)
theorem r222 (x : InsT c222.ins) : fnK Tryz.prog Γ t222 a222 Tryz.f222 c222 x = g222 x.1 x.2.1 := by kernel_rfl
theorem k222 : TblOk Tryz.prog t222 := tblOk_cons o238 (tblOk_nil)
theorem o222 : Holds Tryz.prog 222 c222 := fn_holds (code := Tryz.f222.body.getD .skip) (by kernel_rfl) gamOk k222 Tryz.func222 (by kernel_rfl) (by kernel_rfl) (by kernel_rfl) (by kernel_rfl) v222 (fun x _ h => (r222 x).trans h)
/-! ### 182: loop.example/g00076/impl.isTlb -/
noncomputable def t182 : Tbl := [(86, [], c86), (222, [], c222)]
abbrev h182_L0 : Shape := { slots := [(1, .bx 1 0), (18, .v (.sl (.int .i64))), (19, .v (.int .i64)), (20, .v (.int .i64))], boxes := [(1, .typ Ty83)] }
abbrev e182_L0 : List (XT × Shape) := [(.ret, { slots := [(2, .v .bool)], boxes := [] }), (.exit 0, { slots := [], boxes := [] })]
noncomputable def q182_L0 (t18 : (L Int)) (t19 : Int) (t20 : Int) (b1 : Ta0) : Option (Ta155 ⊕ (((Bool × Unit) × Unit) ⊕ ((Unit × Unit) ⊕ Empty))) :=
  bif (decide (t20 < t19)) then
    bif (decide (0 ≤ t20) && decide (t20 < (t18.len : Int))) then
      bif (!(f86 (L.get t18 t20.toNat) (0 : Int) (1023 : Int))) then
        some (.inr (.inl ((false, ()), ())))
      else
        bif (decide (0 ≤ (0 : Int)) && (decide ((0 : Int) ≤ t20) && decide (t20 ≤ (b1.2.1.len : Int)))) then
          (g222 (L.cut b1.2.1 (0 : Int).toNat t20.toNat) (L.get t18 t20.toNat)).bind fun y1 =>
            bif y1.1.1 then
              some (.inr (.inl ((false, ()), ())))
            else
              some (.inl (((), (t18, (t19, ((wI (t20 + (1 : Int))), ())))), (b1, ())))
        else
          none
    else
      none
  else
    some (.inr (.inr (.inl ((), ()))))
noncomputable def s182_L0 (x : Ta155) : Option (Ta155 ⊕ (((Bool × Unit) × Unit) ⊕ ((Unit × Unit) ⊕ Empty))) := q182_L0 x.1.2.1 x.1.2.2.1 x.1.2.2.2.1 x.2.1
noncomputable def a182 : Nat → Option LoopAnn := fun c => bif Nat.beq c 0 then some (.fix h182_L0 e182_L0 s182_L0) else none
noncomputable def g182 (x0 : Ta0) : Option ((Bool × Unit) × Unit) :=
  bif (!(f86 x0.1 (1 : Int) (8 : Int))) then
    some ((false, ()), ())
  else
    bif (decide ((x0.2.1.len : Int) > x0.1)) then
      some ((false, ()), ())
    else
      (fixO s182_L0 (((), (x0.2.1, ((x0.2.1.len : Int), ((0 : Int), ())))), (x0, ()))).bind fun d3 => match d3 with
      | .inl y2 =>
        some ((y2.1.1, ()), ())
      | .inr (.inl y2) =>
        some ((true, ()), ())
      | .inr (.inr e) => nomatch e
noncomputable def c182 : Ctr := { ins := [.v Ty83], out := [.bool], F := fun x => g182 x.1 }
noncomputable def l182 : List (Nat × Code) := loopsIn (Tryz.f182.body.getD .skip) 0
theorem w182_L0 (x : h182_L0.T) : runK Tryz.prog Γ t182 a182 (l182.getD 0 (0, .skip)).2 0 (pkSh h182_L0 x) (loopCls (sh := h182_L0) (es := e182_L0)) = (s182_L0 x : Option _) := by kernel_rfl
theorem v182 : LoopsOk Tryz.prog Γ t182 a182 (loopsIn (Tryz.f182.body.getD .skip) 0) := by
  have e : loopsIn (Tryz.f182.body.getD .skip) 0 = [(0, (l182.getD 0 (0, .skip)).2)] := by kernel_rfl
  rw [e]
  exact ⟨fun x d h => (w182_L0 x).trans h, trivial⟩
theorem r182 (x : InsT c182.ins) : fnK Tryz.prog Γ t182 a182 Tryz.f182 c182 x = g182 x.1 := by kernel_rfl
theorem k182 : TblOk Tryz.prog t182 := tblOk_cons o86 (tblOk_cons o222 (tblOk_nil))
theorem o182 : Holds Tryz.prog 182 c182 := fn_holds (code := Tryz.f182.body.getD .skip) (by kernel_rfl) gamOk k182 Tryz.func182 (by kernel_rfl) (by kernel_rfl) (by kernel_rfl) (by kernel_rfl) v182 (fun x _ h => (r182 x).trans h)
/-! ### 213: loop.example/g00076/impl.hasOut -/
noncomputable def t213 : Tbl := [(86, [], c86)]
noncomputable def a213 : Nat → Option LoopAnn := fun _ => none
noncomputable def g213 (x0 : Ta262) (x1 : Int) (x2 : Int) : Option ((Bool × Unit) × Unit) :=
  bif (f86 x2 (0 : Int) (wI ((x0.2.2.2.2.2.2.2.2.2.1.len : Int) - (1 : Int)))) then
    bif (decide (0 ≤ x2) && decide (x2 < (x0.2.2.2.2.2.2.2.2.2.1.len : Int))) then
      some ((((L.get x0.2.2.2.2.2.2.2.2.2.1 x2.toNat).2.1 == x1), ()), ())
    else
      none
  else
    some ((false, ()), ())
noncomputable def c213 : Ctr := { ins := [.v Ty286, .v (.int .i64), .v (.int .i64)], out := [.bool], F := fun x => g213 x.1 x.2.1 x.2.2.1 }
theorem v213 : LoopsOk Tryz.prog Γ t213 a213 (loopsIn (Tryz.f213.body.getD .skip) 0) := loopsOk_nil (by kernel_rfl)
theorem r213 (x : InsT c213.ins) : fnK Tryz.prog Γ t213 a213 Tryz.f213 c213 x = g213 x.1 x.2.1 x.2.2.1 := by kernel_rfl
theorem k213 : TblOk Tryz.prog t213 := tblOk_cons o86 (tblOk_nil)
theorem o213 : Holds Tryz.prog 213 c213 := fn_holds (code := Tryz.f213.body.getD .skip) (by kernel_rfl) gamOk k213 Tryz.func213 (by kernel_rfl) (by kernel_rfl) (by kernel_rfl) (by kernel_rfl) v213 (fun x _ h => (r213 x).trans h)
/-! ### 223: loop.example/g00076/impl.isOut -/
noncomputable def t223 : Tbl := [(140, [], c140), (167, [], c167), (86, [], c86)]
noncomputable def a223 : Nat → Option LoopAnn := fun _ => none
noncomputable def g223 (x0 : Ta33) (x1 : Ta0) : Option ((Bool × Unit) × Unit) :=
  bif (!(f140 x0)) then
    some ((false, ()), ())
  else
    bif (decide ((x1.2.1.len : Int) > (f167 x0))) then
      some ((false, ()), ())
    else
      bif (f86 x1.1 (0 : Int) x0.2.2.2.1) then
        bif (x0.1 == (0 : Int)) then
          some ((true, ()), ())
        else
          some (((decide (x1.1 ≤ (wI (x0.2.2.2.1 - (x1.2.1.len : Int))))), ()), ())
      else
        some ((false, ()), ())
noncomputable def f223 (x0 : Ta33) (x1 : Ta0) : Bool :=
  bif (!(f140 x0)) then
    false
  else
    bif (decide ((x1.2.1.len : Int) > (f167 x0))) then
      false
    else
      bif (f86 x1.1 (0 : Int) x0.2.2.2.1) then
        bif (x0.1 == (0 : Int)) then
          true
        else
          (decide (x1.1 ≤ (wI (x0.2.2.2.1 - (x1.2.1.len : Int)))))
      else
        false
theorem n223 (x0 : Ta33) (x1 : Ta0) : g223 x0 x1 = some ((f223 x0 x1, ()), ()) := by
  simp only [g223, f223, pull1]
noncomputable def c223 : Ctr := { ins := [.v Ty167, .v Ty81], out := [.bool], F := fun x => some ((f223 x.1 x.2.1, ()), ()) }
theorem v223 : LoopsOk Tryz.prog Γ t223 a223 (loopsIn (Tryz.f223.body.getD .skip) 0) := loopsOk_nil (by kernel_rfl)
theorem r223 (x : InsT c223.ins) : fnK Tryz.prog Γ t223 a223 Tryz.f223 c223 x = g223 x.1 x.2.1 := by kernel_rfl
theorem k223 : TblOk Tryz.prog t223 := tblOk_cons o140 (tblOk_cons o167 (tblOk_cons o86 (tblOk_nil)))
theorem o223 : Holds Tryz.prog 223 c223 := fn_holds (code := Tryz.f223.body.getD .skip) (by kernel_rfl) gamOk k223 Tryz.func223 (by kernel_rfl) (by kernel_rfl) (by kernel_rfl) (by kernel_rfl) v223 (fun x _ h => (r223 x).trans ((n223 x.1 x.2.1).trans h))
/-! ### 212: loop.example/g00076/impl.hasIn -/
noncomputable def t212 : Tbl := [(86, [], c86)]
noncomputable def a212 : Nat → Option LoopAnn := fun _ => none
noncomputable def g212 (x0 : Ta262) (x1 : Int) (x2 : Int) : Option ((Bool × Unit) × Unit) :=
  bif (f86 x2 (0 : Int) (wI ((x0.2.2.2.2.2.2.2.2.2.1.len : Int) - (1 : Int)))) then
    bif (decide (0 ≤ x2) && decide (x2 < (x0.2.2.2.2.2.2.2.2.2.1.len : Int))) then
      some ((((L.get x0.2.2.2.2.2.2.2.2.2.1 x2.toNat).2.2.1 == x1), ()), ())
    else
      none
  else
    some ((false, ()), ())
noncomputable def c212 : Ctr := { ins := [.v Ty286, .v (.int .i64), .v (.int .i64)], out := [.bool], F := fun x => g212 x.1 x.2.1 x.2.2.1 }
theorem v212 : LoopsOk Tryz.prog Γ t212 a212 (loopsIn (Tryz.f212.body.getD .skip) 0) := loopsOk_nil (by kernel_rfl)
theorem r212 (x : InsT c212.ins) : fnK Tryz.prog Γ t212 a212 Tryz.f212 c212 x = g212 x.1 x.2.1 x.2.2.1 := by kernel_rfl
theorem k212 : TblOk Tryz.prog t212 := tblOk_cons o86 (tblOk_nil)
theorem o212 : Holds Tryz.prog 212 c212 := fn_holds (code := Tryz.f212.body.getD .skip) (by kernel_rfl) gamOk k212 Tryz.func212 (by kernel_rfl) (by kernel_rfl) (by kernel_rfl) (by kernel_rfl) v212 (fun x _ h => (r212 x).trans h)
/-! ### 224: loop.example/g00076/impl.isIn -/
noncomputable def t224 : Tbl := [(140, [], c140), (167, [], c167)]
noncomputable def a224 : Nat → Option LoopAnn := fun _ => none
noncomputable def g224 (x0 : Ta33) (x1 : ((L Int) × Unit)) : Option ((Bool × Unit) × Unit) :=
  bif (f140 x0) then
    some (((decide ((x1.1.len : Int) ≤ (f167 x0))), ()), ())
  else
    some ((false, ()), ())
noncomputable def f224 (x0 : Ta33) (x1 : ((L Int) × Unit)) : Bool :=
  bif (f140 x0) then
    (decide ((x1.1.len : Int) ≤ (f167 x0)))
  else
    false
theorem n224 (x0 : Ta33) (x1 : ((L Int) × Unit)) : g224 x0 x1 = some ((f224 x0 x1, ()), ()) := by
  simp only [g224, f224, pull1]
noncomputable def c224 : Ctr := { ins := [.v Ty167, .v Ty21], out := [.bool], F := fun x => some ((f224 x.1 x.2.1, ()), ()) }
theorem v224 : LoopsOk Tryz.prog Γ t224 a224 (loopsIn (Tryz.f224.body.getD .skip) 0) := loopsOk_nil (by kernel_rfl)
theorem r224 (x : InsT c224.ins) : fnK Tryz.prog Γ t224 a224 Tryz.f224 c224 x = g224 x.1 x.2.1 := by kernel_rfl
theorem k224 : TblOk Tryz.prog t224 := tblOk_cons o140 (tblOk_cons o167 (tblOk_nil))
theorem o224 : Holds Tryz.prog 224 c224 := fn_holds (code := Tryz.f224.body.getD .skip) (by kernel_rfl) gamOk k224 Tryz.func224 (by kernel_rfl) (by kernel_rfl) (by kernel_rfl) (by kernel_rfl) v224 (fun x _ h => (r224 x).trans ((n224 x.1 x.2.1).trans h))
/-! ### 214: loop.example/g00076/impl.hasDev -/
noncomputable def t214 : Tbl := [(86, [], c86)]
noncomputable def a214 : Nat → Option LoopAnn := fun _ => none
noncomputable def g214 (x0 : Ta262) (x1 : Int) (x2 : Int) : Option ((Bool × Unit) × Unit) :=
  bif (f86 x2 (0 : Int) (wI ((x0.2.2.2.2.2.2.2.2.1.len : Int) - (1 : Int)))) then
    bif (decide (0 ≤ x2) && decide (x2 < (x0.2.2.2.2.2.2.2.2.1.len : Int))) then
      some ((((L.get x0.2.2.2.2.2.2.2.2.1 x2.toNat) == x1), ()), ())
    else
      none
  else
    some ((false, ()), ())
noncomputable def c214 : Ctr := { ins := [.v Ty286, .v (.int .i64), .v (.int .i64)], out := [.bool], F := fun x => g214 x.1 x.2.1 x.2.2.1 }
theorem v214 : LoopsOk Tryz.prog Γ t214 a214 (loopsIn (Tryz.f214.body.getD .skip) 0) := loopsOk_nil (by kernel_rfl)
theorem r214 (x : InsT c214.ins) : fnK Tryz.prog Γ t214 a214 Tryz.f214 c214 x = g214 x.1 x.2.1 x.2.2.1 := by kernel_rfl
theorem k214 : TblOk Tryz.prog t214 := tblOk_cons o86 (tblOk_nil)
theorem o214 : Holds Tryz.prog 214 c214 := fn_holds (code := Tryz.f214.body.getD .skip) (by kernel_rfl) gamOk k214 Tryz.func214 (by kernel_rfl) (by kernel_rfl) (by kernel_rfl) (by kernel_rfl) v214 (fun x _ h => (r214 x).trans h)
/-! ### 225: loop.example/g00076/impl.isDev -/
noncomputable def t225 : Tbl := []
noncomputable def a225 : Nat → Option LoopAnn := fun _ => none
noncomputable def g225 (x0 : Ta11) : Option ((Bool × Unit) × Unit) :=
  bif (decide ((x0.1.len : Int) ≤ (8 : Int))) then
    some (((decide ((x0.2.1.len : Int) ≤ (8 : Int))), ()), ())
  else
    some ((false, ()), ())
noncomputable def f225 (x0 : Ta11) : Bool :=
  bif (decide ((x0.1.len : Int) ≤ (8 : Int))) then
    (decide ((x0.2.1.len : Int) ≤ (8 : Int)))
  else
    false
theorem n225 (x0 : Ta11) : g225 x0 = some ((f225 x0, ()), ()) := by
  simp only [g225, f225, pull1]
noncomputable def c225 : Ctr := { ins := [.v Ty96], out := [.bool], F := fun x => some ((f225 x.1, ()), ()) }
theorem v225 : LoopsOk Tryz.prog Γ t225 a225 (loopsIn (Tryz.f225.body.getD .skip) 0) := loopsOk_nil (by kernel_rfl)
theorem r225 (x : InsT c225.ins) : fnK Tryz.prog Γ t225 a225 Tryz.f225 c225 x = g225 x.1 := by kernel_rfl
theorem k225 : TblOk Tryz.prog t225 := tblOk_nil
theorem o225 : Holds Tryz.prog 225 c225 := fn_holds (code := Tryz.f225.body.getD .skip) (by kernel_rfl) gamOk k225 Tryz.func225 (by kernel_rfl) (by kernel_rfl) (by kernel_rfl) (by kernel_rfl) v225 (fun x _ h => (r225 x).trans ((n225 x.1).trans h))
/-! ### 183: loop.example/g00076/impl.areEnds -/
noncomputable def t183 : Tbl := [(213, [], c213), (223, [], c223), (212, [], c212), (224, [], c224), (214, [], c214), (225, [], c225)]
abbrev h183_L0 : Shape := { slots := [(1, .v (.int .i64)), (3, .bx 3 0), (5, .bx 5 0), (39, .v Ty175), (40, .v (.int .i64)), (41, .v (.int .i64))], boxes := [(3, .typ Ty286), (5, .typ Ty290)] }
abbrev e183_L0 : List (XT × Shape) := [(.ret, { slots := [(6, .v .bool)], boxes := [] }), (.exit 0, { slots := [(1, .v (.int .i64)), (3, .bx 3 0), (5, .bx 5 0)], boxes := [(3, .typ Ty286), (5, .typ Ty290)] })]
noncomputable def q183_L0 (t1 : Int) (t39 : Ta50) (t40 : Int) (t41 : Int) (b3 : Ta262) (b5 : Ta270) : Option (Ta291 ⊕ (((Bool × Unit) × Unit) ⊕ (Ta288 ⊕ Empty))) :=
  bif (decide (t41 < t40)) then
    bif (decide (0 ≤ t41) && decide (t41 < (t39.len : Int))) then
      bif (decide (0 ≤ t41) && decide (t41 < (b5.2.2.2.2.2.2.2.2.1.len : Int))) then
        bif (decide (0 ≤ t41) && decide (t41 < (b5.2.2.2.2.2.2.2.2.2.1.len : Int))) then
          (g213 b3 t1 t41).bind fun y1 =>
            bif y1.1.1 then
              bif (!(f223 (L.get t39 t41.toNat) (L.get b5.2.2.2.2.2.2.2.2.1 t41.toNat))) then
                some (.inr (.inl ((false, ()), ())))
              else
                (g213 b3 t1 t41).bind fun y2 =>
                  bif (!y2.1.1) then
                    bif ((L.get b5.2.2.2.2.2.2.2.2.1 t41.toNat).1 != (0 : Int)) then
                      some (.inr (.inl ((false, ()), ())))
                    else
                      bif (decide (((L.get b5.2.2.2.2.2.2.2.2.1 t41.toNat).2.1.len : Int) > (0 : Int))) then
                        some (.inr (.inl ((false, ()), ())))
                      else
                        (g212 b3 t1 t41).bind fun y3 =>
                          bif y3.1.1 then
                            bif (!(f224 (L.get t39 t41.toNat) (L.get b5.2.2.2.2.2.2.2.2.2.1 t41.toNat))) then
                              some (.inr (.inl ((false, ()), ())))
                            else
                              (g212 b3 t1 t41).bind fun y4 =>
                                bif (!y4.1.1) then
                                  bif (decide (((L.get b5.2.2.2.2.2.2.2.2.2.1 t41.toNat).1.len : Int) > (0 : Int))) then
                                    some (.inr (.inl ((false, ()), ())))
                                  else
                                    some (.inl ((t1, ((), ((), (t39, (t40, ((wI (t41 + (1 : Int))), ())))))), (b3, (b5, ()))))
                                else
                                  some (.inl ((t1, ((), ((), (t39, (t40, ((wI (t41 + (1 : Int))), ())))))), (b3, (b5, ()))))
                          else
                            (g212 b3 t1 t41).bind fun y5 =>
                              bif (!y5.1.1) then
                                bif (decide (((L.get b5.2.2.2.2.2.2.2.2.2.1 t41.toNat).1.len : Int) > (0 : Int))) then
                                  some (.inr (.inl ((false, ()), ())))
                                else
                                  some (.inl ((t1, ((), ((), (t39, (t40, ((wI (t41 + (1 : Int))), ())))))), (b3, (b5, ()))))
                              else
                                some (.inl ((t1, ((), ((), (t39, (t40, ((wI (t41 + (1 : Int))), ())))))), (b3, (b5, ()))))
                  else
                    (g212 b3 t1 t41).bind fun y6 =>
                      bif y6.1.1 then
                        bif (!(f224 (L.get t39 t41.toNat) (L.get b5.2.2.2.2.2.2.2.2.2.1 t41.toNat))) then
                          some (.inr (.inl ((false, ()), ())))
                        else
                          (g212 b3 t1 t41).bind fun y7 =>
                            bif (!y7.1.1) then
                              bif (decide (((L.get b5.2.2.2.2.2.2.2.2.2.1 t41.toNat).1.len : Int) > (0 : Int))) then
                                some (.inr (.inl ((false, ()), ())))
                              else
                                some (.inl ((t1, ((), ((), (t39, (t40, ((wI (t41 + (1 : Int))), ())))))), (b3, (b5, ()))))
                            else
                              some (.inl ((t1, ((), ((), (t39, (t40, ((wI (t41 + (1 : Int))), ())))))), (b3, (b5, ()))))
                      else
                        (g212 b3 t1 t41).bind fun y8 =>
                          bif (!y8.1.1) then
                            bif (decide (((L.get b5.2.2.2.2.2.2.2.2.2.1 t41.toNat).1.len : Int) > (0 : Int))) then
                              some (.inr (.inl ((false, ()), ())))
                            else
                              some (.inl ((t1, ((), ((), (t39, (t40, ((wI (t41 + (1 : Int))), ())))))), (b3, (b5, ()))))
                          else
                            some (.inl ((t1, ((), ((), (t39, (t40, ((wI (t41 + (1 : Int))), ())))))), (b3, (b5, ()))))
            else
              (g213 b3 t1 t41).bind fun y9 =>
                bif (!y9.1.1) then
                  bif ((L.get b5.2.2.2.2.2.2.2.2.1 t41.toNat).1 != (0 : Int)) then
                    some (.inr (.inl ((false, ()), ())))
                  else
                    bif (decide (((L.get b5.2.2.2.2.2.2.2.2.1 t41.toNat).2.1.len : Int) > (0 : Int))) then
                      some (.inr (.inl ((false, ()), ())))
                    else
                      (g212 b3 t1 t41).bind fun y10 =>
                        bif y10.1.1 then
                          bif (!(f224 (L.get t39 t41.toNat) (L.get b5.2.2.2.2.2.2.2.2.2.1 t41.toNat))) then
                            some (.inr (.inl ((false, ()), ())))
                          else
                            (g212 b3 t1 t41).bind fun y11 =>
                              bif (!y11.1.1) then
                                bif (decide (((L.get b5.2.2.2.2.2.2.2.2.2.1 t41.toNat).1.len : Int) > (0 : Int))) then
                                  some (.inr (.inl ((false, ()), ())))
                                else
                                  some (.inl ((t1, ((), ((), (t39, (t40, ((wI (t41 + (1 : Int))), ())))))), (b3, (b5, ()))))
                              else
                                some (.inl ((t1, ((), ((), (t39, (t40, ((wI (t41 + (1 : Int))), ())))))), (b3, (b5, ()))))
                        else
                          (g212 b3 t1 t41).bind fun y12 =>
                            bif (!y12.1.1) then
                              bif (decide (((L.get b5.2.2.2.2.2.2.2.2.2.1 t41.toNat).1.len : Int) > (0 : Int))) then
                                some (.inr (.inl ((false, ()), ())))
                              else
                                some (.inl ((t1, ((), ((), (t39, (t40, ((wI (t41 + (1 : Int))), ())))))), (b3, (b5, ()))))
                            else
                              some (.inl ((t1, ((), ((), (t39, (t40, ((wI (t41 + (1 : Int))), ())))))), (b3, (b5, ()))))
                else
                  (g212 b3 t1 t41).bind fun y13 =>
                    bif y13.1.1 then
                      bif (!(f224 (L.get t39 t41.toNat) (L.get b5.2.2.2.2.2.2.2.2.2.1 t41.toNat))) then
                        some (.inr (.inl ((false, ()), ())))
                      else
                        (g212 b3 t1 t41).bind fun y14 =>
                          bif (!y14.1.1) then
                            bif (decide (((L.get b5.2.2.2.2.2.2.2.2.2.1 t41.toNat).1.len : Int) > (0 : Int))) then
                              some (.inr (.inl ((false, ()), ())))
                            else
                              some (.inl ((t1, ((), ((), (t39, (t40, ((wI (t41 + (1 : Int))), ())))))), (b3, (b5, ()))))
                          else
                            some (.inl ((t1, ((), ((), (t39, (t40, ((wI (t41 + (1 : Int))), ())))))), (b3, (b5, ()))))
                    else
                      (g212 b3 t1 t41).bind fun y15 =>
                        bif (!y15.1.1) then
                          bif (decide (((L.get b5.2.2.2.2.2.2.2.2.2.1 t41.toNat).1.len : Int) > (0 : Int))) then
                            some (.inr (.inl ((false, ()), ())))
                          else
                            some (.inl ((t1, ((), ((), (t39, (t40, ((wI (t41 + (1 : Int))), ())))))), (b3, (b5, ()))))
                        else
                          some (.inl ((t1, ((), ((), (t39, (t40, ((wI (t41 + (1 : Int))), ())))))), (b3, (b5, ()))))
        else
          none
      else
        none
    else
      none
  else
    some (.inr (.inr (.inl ((t1, ((), ((), ()))), (b3, (b5, ()))))))
noncomputable def s183_L0 (x : Ta291) : Option (Ta291 ⊕ (((Bool × Unit) × Unit) ⊕ (Ta288 ⊕ Empty))) := q183_L0 x.1.1 x.1.2.2.2.1 x.1.2.2.2.2.1 x.1.2.2.2.2.2.1 x.2.1 x.2.2.1
abbrev h183_L2 : Shape := { slots := [(1, .v (.int .i64)), (3, .bx 3 0), (109, .v Ty117), (110, .v (.int .i64)), (111, .v (.int .i64))], boxes := [(3, .typ Ty286)] }
abbrev e183_L2 : List (XT × Shape) := [(.ret, { slots := [(6, .v .bool)], boxes := [] }), (.exit 2, { slots := [], boxes := [] })]
noncomputable def q183_L2 (t1 : Int) (t109 : Ta25) (t110 : Int) (t111 : Int) (b3 : Ta262) : Option (Ta274 ⊕ (((Bool × Unit) × Unit) ⊕ ((Unit × Unit) ⊕ Empty))) :=
  bif (decide (t111 < t110)) then
    bif (decide (0 ≤ t111) && decide (t111 < (t109.len : Int))) then
      (g214 b3 t1 t111).bind fun y17 =>
        bif y17.1.1 then
          bif (!(f225 (L.get t109 t111.toNat))) then
            some (.inr (.inl ((false, ()), ())))
          else
            (g214 b3 t1 t111).bind fun y18 =>
              bif (!y18.1.1) then
                bif (decide ((wI (((L.get t109 t111.toNat).1.len : Int) + ((L.get t109 t111.toNat).2.1.len : Int))) > (0 : Int))) then
                  some (.inr (.inl ((false, ()), ())))
                else
                  some (.inl ((t1, ((), (t109, (t110, ((wI (t111 + (1 : Int))), ()))))), (b3, ())))
              else
                some (.inl ((t1, ((), (t109, (t110, ((wI (t111 + (1 : Int))), ()))))), (b3, ())))
        else
          (g214 b3 t1 t111).bind fun y19 =>
            bif (!y19.1.1) then
              bif (decide ((wI (((L.get t109 t111.toNat).1.len : Int) + ((L.get t109 t111.toNat).2.1.len : Int))) > (0 : Int))) then
                some (.inr (.inl ((false, ()), ())))
              else
                some (.inl ((t1, ((), (t109, (t110, ((wI (t111 + (1 : Int))), ()))))), (b3, ())))
            else
              some (.inl ((t1, ((), (t109, (t110, ((wI (t111 + (1 : Int))), ()))))), (b3, ())))
    else
      none
  else
    some (.inr (.inr (.inl ((), ()))))
noncomputable def s183_L2 (x : Ta274) : Option (Ta274 ⊕ (((Bool × Unit) × Unit) ⊕ ((Unit × Unit) ⊕ Empty))) := q183_L2 x.1.1 x.1.2.2.1 x.1.2.2.2.1 x.1.2.2.2.2.1 x.2.1
noncomputable def a183 : Nat → Option LoopAnn := fun c => bif Nat.beq c 0 then some (.fix h183_L0 e183_L0 s183_L0) else bif Nat.beq c 2 then some (.fix h183_L2 e183_L2 s183_L2) else none
noncomputable def g183 (x0 : Ta262) (x1 : Int) (x2 : Ta270) : Option ((Bool × Unit) × Unit) :=
  bif ((x2.2.2.2.2.2.2.2.2.1.len : Int) != (x0.2.2.2.2.2.2.2.2.2.1.len : Int)) then
    some ((false, ()), ())
  else
    bif ((x2.2.2.2.2.2.2.2.2.2.1.len : Int) != (x0.2.2.2.2.2.2.2.2.2.1.len : Int)) then
      some ((false, ()), ())
    else
      bif ((x2.2.2.2.2.2.2.2.2.2.2.1.len : Int) != (x0.2.2.2.2.2.2.2.2.1.len : Int)) then
        some ((false, ()), ())
      else
        (fixO s183_L0 ((x1, ((), ((), (x0.2.2.2.2.2.2.2.2.2.1, ((x0.2.2.2.2.2.2.2.2.2.1.len : Int), ((0 : Int), ())))))), (x0, (x2, ())))).bind fun d22 => match d22 with
        | .inl y16 =>
          some ((y16.1.1, ()), ())
        | .inr (.inl y16) =>
          (fixO s183_L2 ((y16.1.1, ((), (y16.2.2.1.2.2.2.2.2.2.2.2.2.2.1, ((y16.2.2.1.2.2.2.2.2.2.2.2.2.2.1.len : Int), ((0 : Int), ()))))), (y16.2.1, ()))).bind fun d21 => match d21 with
          | .inl y20 =>
            some ((y20.1.1, ()), ())
          | .inr (.inl y20) =>
            some ((true, ()), ())
          | .inr (.inr e) => nomatch e
        | .inr (.inr e) => nomatch e
noncomputable def c183 : Ctr := { ins := [.v Ty286, .v (.int .i64), .v Ty290], out := [.bool], F := fun x => g183 x.1 x.2.1 x.2.2.1 }
noncomputable def l183 : List (Nat × Code) := loopsIn (Tryz.f183.body.getD .skip) 0
theorem w183_L0 (x : h183_L0.T) : runK Tryz.prog Γ t183 a183 (l183.getD 0 (0, .skip)).2 0 (pkSh h183_L0 x) (loopCls (sh := h183_L0) (es := e183_L0)) = (s183_L0 x : Option _) := by kernel_rfl
theorem w183_L2 (x : h183_L2.T) : runK Tryz.prog Γ t183 a183 (l183.getD 1 (0, .skip)).2 2 (pkSh h183_L2 x) (loopCls (sh := h183_L2) (es := e183_L2)) = (s183_L2 x : Option _) := by kernel_rfl
theorem v183 : LoopsOk Tryz.prog Γ t183 a183 (loopsIn (Tryz.f183.body.getD .skip) 0) := by
  have e : loopsIn (Tryz.f183.body.getD .skip) 0 = [(0, (l183.getD 0 (0, .skip)).2), (2, (l183.getD 1 (0, .skip)).2)] := by kernel_rfl
  rw [e]
  exact ⟨fun x d h => (w183_L0 x).trans h, fun x d h => (w183_L2 x).trans h, trivial⟩
theorem r183 (x : InsT c183.ins) : fnK Tryz.prog Γ t183 a183 Tryz.f183 c183 x = g183 x.1 x.2.1 x.2.2.1 := by kernel_rfl
theorem k183 : TblOk Tryz.prog t183 := tblOk_cons o213 (tblOk_cons o223 (tblOk_cons o212 (tblOk_cons o224 (tblOk_cons o214 (tblOk_cons o225 (tblOk_nil))))))
theorem o183 : Holds Tryz.prog 183 c183 := fn_holds (code := Tryz.f183.body.getD .skip) (by kernel_rfl) gamOk k183 Tryz.func183 (by kernel_rfl) (by kernel_rfl) (by kernel_rfl) (by kernel_rfl) v183 (fun x _ h => (r183 x).trans h)
/-! ### 119: loop.example/g00076/impl.isPart -/
noncomputable def t119 : Tbl := [(64, [], c64), (82, [], c82), (180, [], c180), (181, [], c181), (99, [], c99), (182, [], c182), (86, [], c86), (183, [], c183)]
noncomputable def a119 : Nat → Option LoopAnn := fun _ => none
noncomputable def g119 (x0 : Ta262) (x1 : Int) (x2 : Ta270) : Option ((Bool × Unit) × Unit) :=
  (g64 x0).bind fun y1 =>
    bif (!y1.1.1) then
      some ((false, ()), ())
    else
      (g82 x0 x1 x2.2.2.2.2.2.2.2.1).bind fun y2 =>
        bif (!y2.1.1) then
          some ((false, ()), ())
        else
          bif (decide (0 ≤ x1) && decide (x1 < (x0.2.2.2.2.2.2.2.1.len : Int))) then
            (g180 (L.get x0.2.2.2.2.2.2.2.1 x1.toNat).2.2.2.1 x2.1).bind fun y3 =>
              bif (!y3.1.1) then
                some ((false, ()), ())
              else
                bif (!(f181 x2.2.2.1)) then
                  some ((false, ()), ())
                else
                  (g99 x2.2.2.2.1).bind fun y4 =>
                    bif (!y4.1.1) then
                      some ((false, ()), ())
                    else
                      bif (!((x2.2.2.2.1.1.1 == x0.2.1.1) && ((x2.2.2.2.1.1.2.1 == x0.2.1.2.1) && ((x2.2.2.2.1.1.2.2.1 == x0.2.1.2.2.1) && true)))) then
                        some ((false, ()), ())
                      else
                        (g182 x2.2.2.2.2.1).bind fun y5 =>
                          bif (!y5.1.1) then
                            some ((false, ()), ())
                          else
                            bif (x2.2.2.2.2.1.1 != x0.2.2.1) then
                              some ((false, ()), ())
                            else
                              bif (!(f86 x2.2.2.2.2.2.1 (0 : Int) (100000 : Int))) then
                                some ((false, ()), ())
                              else
                                (g183 x0 x1 x2).bind fun y6 =>
                                  some ((y6.1.1, ()), ())
          else
            none
noncomputable def c119 : Ctr := { ins := [.v Ty286, .v (.int .i64), .v Ty290], out := [.bool], F := fun x => g119 x.1 x.2.1 x.2.2.1 }
theorem v119 : LoopsOk Tryz.prog Γ t119 a119 (loopsIn (Tryz.f119.body.getD .skip) 0) := loopsOk_nil (by kernel_rfl)
theorem r119 (x : InsT c119.ins) : fnK Tryz.prog Γ t119 a119 Tryz.f119 c119 x = g119 x.1 x.2.1 x.2.2.1 := by kernel_rfl
theorem k119 : TblOk Tryz.prog t119 := tblOk_cons o64 (tblOk_cons o82 (tblOk_cons o180 (tblOk_cons o181 (tblOk_cons o99 (tblOk_cons o182 (tblOk_cons o86 (tblOk_cons o183 (tblOk_nil))))))))
theorem o119 : Holds Tryz.prog 119 c119 := fn_holds (code := Tryz.f119.body.getD .skip) (by kernel_rfl) gamOk k119 Tryz.func119 (by kernel_rfl) (by kernel_rfl) (by kernel_rfl) (by kernel_rfl) v119 (fun x _ h => (r119 x).trans h)
/-! ### 50: loop.example/g00076/impl.PartOk -/
noncomputable def t50 : Tbl := [(119, [], c119)]
noncomputable def a50 : Nat → Option LoopAnn := fun _ => none
noncomputable def g50 (x0 : Ta262) (x1 : Int) (x2 : Ta270) : Option ((Bool × Unit) × Unit) :=
  (g119 x0 x1 x2).bind fun y1 =>
    some ((y1.1.1, ()), ())
noncomputable def c50 : Ctr := { ins := [.v Ty286, .v (.int .i64), .v Ty290], out := [.bool], F := fun x => g50 x.1 x.2.1 x.2.2.1 }
theorem v50 : LoopsOk Tryz.prog Γ t50 a50 (loopsIn (Tryz.f50.body.getD .skip) 0) := loopsOk_nil (by kernel_rfl)
theorem r50 (x : InsT c50.ins) : fnK Tryz.prog Γ t50 a50 Tryz.f50 c50 x = g50 x.1 x.2.1 x.2.2.1 := by kernel_rfl
theorem k50 : TblOk Tryz.prog t50 := tblOk_cons o119 (tblOk_nil)
theorem o50 : Holds Tryz.prog 50 c50 := fn_holds (code := Tryz.f50.body.getD .skip) (by kernel_rfl) gamOk k50 Tryz.func50 (by kernel_rfl) (by kernel_rfl) (by kernel_rfl) (by kernel_rfl) v50 (fun x _ h => (r50 x).trans h)
/-! ### 67: loop.example/g00076/laws.eqShape -/
noncomputable def t67 : Tbl := []
noncomputable def a67 : Nat → Option LoopAnn := fun _ => none
noncomputable def g67 (x0 : Ta8) (x1 : Ta8) : Option ((Bool × Unit) × Unit) :=
  bif (x0.1 != x1.1) then
    some ((false, ()), ())
  else
    bif (x0.2.1 != x1.2.1) then
      some ((false, ()), ())
    else
      bif (x0.2.2.1 != x1.2.2.1) then
        some ((false, ()), ())
      else
        some ((true, ()), ())
noncomputable def f67 (x0 : Ta8) (x1 : Ta8) : Bool :=
  bif (x0.1 != x1.1) then
    false
  else
    bif (x0.2.1 != x1.2.1) then
      false
    else
      bif (x0.2.2.1 != x1.2.2.1) then
        false
      else
        true
theorem n67 (x0 : Ta8) (x1 : Ta8) : g67 x0 x1 = some ((f67 x0 x1, ()), ()) := by
  simp only [g67, f67, pull1]
noncomputable def c67 : Ctr := { ins := [.v Ty119, .v Ty119], out := [.bool], F := fun x => some ((f67 x.1 x.2.1, ()), ()) }
theorem v67 : LoopsOk Tryz.prog Γ t67 a67 (loopsIn (Tryz.f67.body.getD .skip) 0) := loopsOk_nil (by kernel_rfl)
theorem r67 (x : InsT c67.ins) : fnK Tryz.prog Γ t67 a67 Tryz.f67 c67 x = g67 x.1 x.2.1 := by kernel_rfl
theorem k67 : TblOk Tryz.prog t67 := tblOk_nil
theorem o67 : Holds Tryz.prog 67 c67 := fn_holds (code := Tryz.f67.body.getD .skip) (by kernel_rfl) gamOk k67 Tryz.func67 (by kernel_rfl) (by kernel_rfl) (by kernel_rfl) (by kernel_rfl) v67 (fun x _ h => (r67 x).trans ((n67 x.1 x.2.1).trans h))
/-! ### 68: loop.example/g00076/laws.eqCosts -/
noncomputable def t68 : Tbl := []
noncomputable def a68 : Nat → Option LoopAnn := fun _ => none
noncomputable def g68 (x0 : Ta110) (x1 : Ta110) : Option ((Bool × Unit) × Unit) :=
  bif (x0.1 != x1.1) then
    some ((false, ()), ())
  else
    bif (x0.2.1 != x1.2.1) then
      some ((false, ()), ())
    else
      bif (x0.2.2.1 != x1.2.2.1) then
        some ((false, ()), ())
      else
        bif (x0.2.2.2.1 != x1.2.2.2.1) then
          some ((false, ()), ())
        else
          bif (x0.2.2.2.2.1 != x1.2.2.2.2.1) then
            some ((false, ()), ())
          else
            bif (x0.2.2.2.2.2.1 != x1.2.2.2.2.2.1) then
              some ((false, ()), ())
            else
              bif (x0.2.2.2.2.2.2.1 != x1.2.2.2.2.2.2.1) then
                some ((false, ()), ())
              else
                some ((true, ()), ())
noncomputable def f68 (x0 : Ta110) (x1 : Ta110) : Bool :=
  bif (x0.1 != x1.1) then
    false
  else
    bif (x0.2.1 != x1.2.1) then
      false
    else
      bif (x0.2.2.1 != x1.2.2.1) then
        false
      else
        bif (x0.2.2.2.1 != x1.2.2.2.1) then
          false
        else
          bif (x0.2.2.2.2.1 != x1.2.2.2.2.1) then
            false
          else
            bif (x0.2.2.2.2.2.1 != x1.2.2.2.2.2.1) then
              false
            else
              bif (x0.2.2.2.2.2.2.1 != x1.2.2.2.2.2.2.1) then
                false
              else
                true
theorem n68 (x0 : Ta110) (x1 : Ta110) : g68 x0 x1 = some ((f68 x0 x1, ()), ()) := by
  simp only [g68, f68, pull1]
noncomputable def c68 : Ctr := { ins := [.v Ty223, .v Ty223], out := [.bool], F := fun x => some ((f68 x.1 x.2.1, ()), ()) }
theorem v68 : LoopsOk Tryz.prog Γ t68 a68 (loopsIn (Tryz.f68.body.getD .skip) 0) := loopsOk_nil (by kernel_rfl)
theorem r68 (x : InsT c68.ins) : fnK Tryz.prog Γ t68 a68 Tryz.f68 c68 x = g68 x.1 x.2.1 := by kernel_rfl
theorem k68 : TblOk Tryz.prog t68 := tblOk_nil
theorem o68 : Holds Tryz.prog 68 c68 := fn_holds (code := Tryz.f68.body.getD .skip) (by kernel_rfl) gamOk k68 Tryz.func68 (by kernel_rfl) (by kernel_rfl) (by kernel_rfl) (by kernel_rfl) v68 (fun x _ h => (r68 x).trans ((n68 x.1 x.2.1).trans h))
/-! ### 202: loop.example/g00076/laws.eqPolicy -/
noncomputable def t202 : Tbl := []
noncomputable def a202 : Nat → Option LoopAnn := fun _ => none
noncomputable def g202 (x0 : (Int × (Int × Unit))) (x1 : (Int × (Int × Unit))) : Option ((Bool × Unit) × Unit) :=
  bif (x0.1 != x1.1) then
    some ((false, ()), ())
  else
    bif (x0.2.1 != x1.2.1) then
      some ((false, ()), ())
    else
      some ((true, ()), ())
noncomputable def f202 (x0 : (Int × (Int × Unit))) (x1 : (Int × (Int × Unit))) : Bool :=
  bif (x0.1 != x1.1) then
    false
  else
    bif (x0.2.1 != x1.2.1) then
      false
    else
      true
theorem n202 (x0 : (Int × (Int × Unit))) (x1 : (Int × (Int × Unit))) : g202 x0 x1 = some ((f202 x0 x1, ()), ()) := by
  simp only [g202, f202, pull1]
noncomputable def c202 : Ctr := { ins := [.v Ty61, .v Ty61], out := [.bool], F := fun x => some ((f202 x.1 x.2.1, ()), ()) }
theorem v202 : LoopsOk Tryz.prog Γ t202 a202 (loopsIn (Tryz.f202.body.getD .skip) 0) := loopsOk_nil (by kernel_rfl)
theorem r202 (x : InsT c202.ins) : fnK Tryz.prog Γ t202 a202 Tryz.f202 c202 x = g202 x.1 x.2.1 := by kernel_rfl
theorem k202 : TblOk Tryz.prog t202 := tblOk_nil
theorem o202 : Holds Tryz.prog 202 c202 := fn_holds (code := Tryz.f202.body.getD .skip) (by kernel_rfl) gamOk k202 Tryz.func202 (by kernel_rfl) (by kernel_rfl) (by kernel_rfl) (by kernel_rfl) v202 (fun x _ h => (r202 x).trans ((n202 x.1 x.2.1).trans h))
/-! ### 232: loop.example/g00076/laws.eqWindow -/
noncomputable def t232 : Tbl := []
noncomputable def a232 : Nat → Option LoopAnn := fun _ => none
noncomputable def g232 (x0 : Ta8) (x1 : Ta8) : Option ((Bool × Unit) × Unit) :=
  bif (x0.1 != x1.1) then
    some ((false, ()), ())
  else
    bif (x0.2.1 != x1.2.1) then
      some ((false, ()), ())
    else
      bif (x0.2.2.1 != x1.2.2.1) then
        some ((false, ()), ())
      else
        some ((true, ()), ())
noncomputable def f232 (x0 : Ta8) (x1 : Ta8) : Bool :=
  bif (x0.1 != x1.1) then
    false
  else
    bif (x0.2.1 != x1.2.1) then
      false
    else
      bif (x0.2.2.1 != x1.2.2.1) then
        false
      else
        true
theorem n232 (x0 : Ta8) (x1 : Ta8) : g232 x0 x1 = some ((f232 x0 x1, ()), ()) := by
  simp only [g232, f232, pull1]
noncomputable def c232 : Ctr := { ins := [.v Ty119, .v Ty119], out := [.bool], F := fun x => some ((f232 x.1 x.2.1, ()), ()) }
theorem v232 : LoopsOk Tryz.prog Γ t232 a232 (loopsIn (Tryz.f232.body.getD .skip) 0) := loopsOk_nil (by kernel_rfl)
theorem r232 (x : InsT c232.ins) : fnK Tryz.prog Γ t232 a232 Tryz.f232 c232 x = g232 x.1 x.2.1 := by kernel_rfl
theorem k232 : TblOk Tryz.prog t232 := tblOk_nil
theorem o232 : Holds Tryz.prog 232 c232 := fn_holds (code := Tryz.f232.body.getD .skip) (by kernel_rfl) gamOk k232 Tryz.func232 (by kernel_rfl) (by kernel_rfl) (by kernel_rfl) (by kernel_rfl) v232 (fun x _ h => (r232 x).trans ((n232 x.1 x.2.1).trans h))
/-! ### 203: loop.example/g00076/laws.eqWindowS -/
noncomputable def t203 : Tbl := [(232, [], c232)]
abbrev h203_L0 : Shape := { slots := [(0, .v Ty136), (1, .v Ty136), (5, .v (.int .i64))], boxes := [] }
abbrev e203_L0 : List (XT × Shape) := [(.ret, { slots := [(4, .v .bool)], boxes := [] }), (.exit 0, { slots := [], boxes := [] })]
noncomputable def q203_L0 (t0 : Ta24) (t1 : Ta24) (t5 : Int) : Option (Ta182 ⊕ (((Bool × Unit) × Unit) ⊕ ((Unit × Unit) ⊕ Empty))) :=
  bif (decide (t5 < (t0.len : Int))) then
    bif (decide (0 ≤ t5) && decide (t5 < (t0.len : Int))) then
      bif (decide (0 ≤ t5) && decide (t5 < (t1.len : Int))) then
        bif (!(f232 (L.get t0 t5.toNat) (L.get t1 t5.toNat))) then
          some (.inr (.inl ((false, ()), ())))
        else
          some (.inl ((t0, (t1, ((wI (t5 + (1 : Int))), ()))), ()))
      else
        none
    else
      none
  else
    some (.inr (.inr (.inl ((), ()))))
noncomputable def s203_L0 (x : Ta182) : Option (Ta182 ⊕ (((Bool × Unit) × Unit) ⊕ ((Unit × Unit) ⊕ Empty))) := q203_L0 x.1.1 x.1.2.1 x.1.2.2.1
noncomputable def a203 : Nat → Option LoopAnn := fun c => bif Nat.beq c 0 then some (.fix h203_L0 e203_L0 s203_L0) else none
noncomputable def g203 (x0 : Ta24) (x1 : Ta24) : Option ((Bool × Unit) × Unit) :=
  bif ((x0.len : Int) != (x1.len : Int)) then
    some ((false, ()), ())
  else
    (fixO s203_L0 ((x0, (x1, ((0 : Int), ()))), ())).bind fun d2 => match d2 with
    | .inl y1 =>
      some ((y1.1.1, ()), ())
    | .inr (.inl y1) =>
      some ((true, ()), ())
    | .inr (.inr e) => nomatch e
noncomputable def c203 : Ctr := { ins := [.v Ty136, .v Ty136], out := [.bool], F := fun x => g203 x.1 x.2.1 }
noncomputable def l203 : List (Nat × Code) := loopsIn (Tryz.f203.body.getD .skip) 0
theorem w203_L0 (x : h203_L0.T) : runK Tryz.prog Γ t203 a203 (l203.getD 0 (0, .skip)).2 0 (pkSh h203_L0 x) (loopCls (sh := h203_L0) (es := e203_L0)) = (s203_L0 x : Option _) := by kernel_rfl
theorem v203 : LoopsOk Tryz.prog Γ t203 a203 (loopsIn (Tryz.f203.body.getD .skip) 0) := by
  have e : loopsIn (Tryz.f203.body.getD .skip) 0 = [(0, (l203.getD 0 (0, .skip)).2)] := by kernel_rfl
  rw [e]
  exact ⟨fun x d h => (w203_L0 x).trans h, trivial⟩
theorem r203 (x : InsT c203.ins) : fnK Tryz.prog Γ t203 a203 Tryz.f203 c203 x = g203 x.1 x.2.1 := by kernel_rfl
theorem k203 : TblOk Tryz.prog t203 := tblOk_cons o232 (tblOk_nil)
theorem o203 : Holds Tryz.prog 203 c203 := fn_holds (code := Tryz.f203.body.getD .skip) (by kernel_rfl) gamOk k203 Tryz.func203 (by kernel_rfl) (by kernel_rfl) (by kernel_rfl) (by kernel_rfl) v203 (fun x _ h => (r203 x).trans h)
/-! ### 145: loop.example/g00076/laws.eqPartRow -/
noncomputable def t145 : Tbl := [(202, [], c202), (203, [], c203)]
noncomputable def a145 : Nat → Option LoopAnn := fun _ => none
noncomputable def g145 (x0 : Ta172) (x1 : Ta172) : Option ((Bool × Unit) × Unit) :=
  bif (!strEq x0.1 x1.1) then
    some ((false, ()), ())
  else
    bif (x0.2.1 != x1.2.1) then
      some ((false, ()), ())
    else
      bif (!(f202 x0.2.2.1 x1.2.2.1)) then
        some ((false, ()), ())
      else
        (g203 x0.2.2.2.1 x1.2.2.2.1).bind fun y1 =>
          bif (!y1.1.1) then
            some ((false, ()), ())
          else
            some ((true, ()), ())
noncomputable def c145 : Ctr := { ins := [.v Ty237, .v Ty237], out := [.bool], F := fun x => g145 x.1 x.2.1 }
theorem v145 : LoopsOk Tryz.prog Γ t145 a145 (loopsIn (Tryz.f145.body.getD .skip) 0) := loopsOk_nil (by kernel_rfl)
theorem r145 (x : InsT c145.ins) : fnK Tryz.prog Γ t145 a145 Tryz.f145 c145 x = g145 x.1 x.2.1 := by kernel_rfl
theorem k145 : TblOk Tryz.prog t145 := tblOk_cons o202 (tblOk_cons o203 (tblOk_nil))
theorem o145 : Holds Tryz.prog 145 c145 := fn_holds (code := Tryz.f145.body.getD .skip) (by kernel_rfl) gamOk k145 Tryz.func145 (by kernel_rfl) (by kernel_rfl) (by kernel_rfl) (by kernel_rfl) v145 (fun x _ h => (r145 x).trans h)
/-! ### 69: loop.example/g00076/laws.eqPartRowS -/
noncomputable def t69 : Tbl := [(145, [], c145)]
abbrev h69_L0 : Shape := { slots := [(0, .v Ty238), (1, .v Ty238), (5, .v (.int .i64))], boxes := [] }
abbrev e69_L0 : List (XT × Shape) := [(.ret, { slots := [(4, .v .bool)], boxes := [] }), (.exit 0, { slots := [], boxes := [] })]
noncomputable def q69_L0 (t0 : Ta178) (t1 : Ta178) (t5 : Int) : Option (Ta247 ⊕ (((Bool × Unit) × Unit) ⊕ ((Unit × Unit) ⊕ Empty))) :=
  bif (decide (t5 < (t0.len : Int))) then
    bif (decide (0 ≤ t5) && decide (t5 < (t0.len : Int))) then
      bif (decide (0 ≤ t5) && decide (t5 < (t1.len : Int))) then
        (g145 (L.get t0 t5.toNat) (L.get t1 t5.toNat)).bind fun y1 =>
          bif (!y1.1.1) then
            some (.inr (.inl ((false, ()), ())))
          else
            some (.inl ((t0, (t1, ((wI (t5 + (1 : Int))), ()))), ()))
      else
        none
    else
      none
  else
    some (.inr (.inr (.inl ((), ()))))
noncomputable def s69_L0 (x : Ta247) : Option (Ta247 ⊕ (((Bool × Unit) × Unit) ⊕ ((Unit × Unit) ⊕ Empty))) := q69_L0 x.1.1 x.1.2.1 x.1.2.2.1
noncomputable def a69 : Nat → Option LoopAnn := fun c => bif Nat.beq c 0 then some (.fix h69_L0 e69_L0 s69_L0) else none
noncomputable def g69 (x0 : Ta178) (x1 : Ta178) : Option ((Bool × Unit) × Unit) :=
  bif ((x0.len : Int) != (x1.len : Int)) then
    some ((false, ()), ())
  else
    (fixO s69_L0 ((x0, (x1, ((0 : Int), ()))), ())).bind fun d3 => match d3 with
    | .inl y2 =>
      some ((y2.1.1, ()), ())
    | .inr (.inl y2) =>
      some ((true, ()), ())
    | .inr (.inr e) => nomatch e
noncomputable def c69 : Ctr := { ins := [.v Ty238, .v Ty238], out := [.bool], F := fun x => g69 x.1 x.2.1 }
noncomputable def l69 : List (Nat × Code) := loopsIn (Tryz.f69.body.getD .skip) 0
theorem w69_L0 (x : h69_L0.T) : runK Tryz.prog Γ t69 a69 (l69.getD 0 (0, .skip)).2 0 (pkSh h69_L0 x) (loopCls (sh := h69_L0) (es := e69_L0)) = (s69_L0 x : Option _) := by kernel_rfl
theorem v69 : LoopsOk Tryz.prog Γ t69 a69 (loopsIn (Tryz.f69.body.getD .skip) 0) := by
  have e : loopsIn (Tryz.f69.body.getD .skip) 0 = [(0, (l69.getD 0 (0, .skip)).2)] := by kernel_rfl
  rw [e]
  exact ⟨fun x d h => (w69_L0 x).trans h, trivial⟩
theorem r69 (x : InsT c69.ins) : fnK Tryz.prog Γ t69 a69 Tryz.f69 c69 x = g69 x.1 x.2.1 := by kernel_rfl
theorem k69 : TblOk Tryz.prog t69 := tblOk_cons o145 (tblOk_nil)
theorem o69 : Holds Tryz.prog 69 c69 := fn_holds (code := Tryz.f69.body.getD .skip) (by kernel_rfl) gamOk k69 Tryz.func69 (by kernel_rfl) (by kernel_rfl) (by kernel_rfl) (by kernel_rfl) v69 (fun x _ h => (r69 x).trans h)
/-! ### 70: loop.example/g00076/laws.eqIntS -/
noncomputable def t70 : Tbl := []
abbrev h70_L0 : Shape := { slots := [(0, .v (.sl (.int .i64))), (1, .v (.sl (.int .i64))), (5, .v (.int .i64))], boxes := [] }
abbrev e70_L0 : List (XT × Shape) := [(.ret, { slots := [(4, .v .bool)], boxes := [] }), (.exit 0, { slots := [], boxes := [] })]
noncomputable def q70_L0 (t0 : (L Int)) (t1 : (L Int)) (t5 : Int) : Option (Ta66 ⊕ (((Bool × Unit) × Unit) ⊕ ((Unit × Unit) ⊕ Empty))) :=
  bif (decide (t5 < (t0.len : Int))) then
    bif (decide (0 ≤ t5) && decide (t5 < (t0.len : Int))) then
      bif (decide (0 ≤ t5) && decide (t5 < (t1.len : Int))) then
        bif ((L.get t0 t5.toNat) != (L.get t1 t5.toNat)) then
          some (.inr (.inl ((false, ()), ())))
        else
          some (.inl ((t0, (t1, ((wI (t5 + (1 : Int))), ()))), ()))
      else
        none
    else
      none
  else
    some (.inr (.inr (.inl ((), ()))))
noncomputable def s70_L0 (x : Ta66) : Option (Ta66 ⊕ (((Bool × Unit) × Unit) ⊕ ((Unit × Unit) ⊕ Empty))) := q70_L0 x.1.1 x.1.2.1 x.1.2.2.1
noncomputable def a70 : Nat → Option LoopAnn := fun c => bif Nat.beq c 0 then some (.fix h70_L0 e70_L0 s70_L0) else none
noncomputable def g70 (x0 : (L Int)) (x1 : (L Int)) : Option ((Bool × Unit) × Unit) :=
  bif ((x0.len : Int) != (x1.len : Int)) then
    some ((false, ()), ())
  else
    (fixO s70_L0 ((x0, (x1, ((0 : Int), ()))), ())).bind fun d2 => match d2 with
    | .inl y1 =>
      some ((y1.1.1, ()), ())
    | .inr (.inl y1) =>
      some ((true, ()), ())
    | .inr (.inr e) => nomatch e
noncomputable def c70 : Ctr := { ins := [.v (.sl (.int .i64)), .v (.sl (.int .i64))], out := [.bool], F := fun x => g70 x.1 x.2.1 }
noncomputable def l70 : List (Nat × Code) := loopsIn (Tryz.f70.body.getD .skip) 0
theorem w70_L0 (x : h70_L0.T) : runK Tryz.prog Γ t70 a70 (l70.getD 0 (0, .skip)).2 0 (pkSh h70_L0 x) (loopCls (sh := h70_L0) (es := e70_L0)) = (s70_L0 x : Option _) := by kernel_rfl
theorem v70 : LoopsOk Tryz.prog Γ t70 a70 (loopsIn (Tryz.f70.body.getD .skip) 0) := by
  have e : loopsIn (Tryz.f70.body.getD .skip) 0 = [(0, (l70.getD 0 (0, .skip)).2)] := by kernel_rfl
  rw [e]
  exact ⟨fun x d h => (w70_L0 x).trans h, trivial⟩
theorem r70 (x : InsT c70.ins) : fnK Tryz.prog Γ t70 a70 Tryz.f70 c70 x = g70 x.1 x.2.1 := by kernel_rfl
theorem k70 : TblOk Tryz.prog t70 := tblOk_nil
theorem o70 : Holds Tryz.prog 70 c70 := fn_holds (code := Tryz.f70.body.getD .skip) (by kernel_rfl) gamOk k70 Tryz.func70 (by kernel_rfl) (by kernel_rfl) (by kernel_rfl) (by kernel_rfl) v70 (fun x _ h => (r70 x).trans h)
/-! ### 146: loop.example/g00076/laws.eqChanRow -/
noncomputable def t146 : Tbl := []
noncomputable def a146 : Nat → Option LoopAnn := fun _ => none
noncomputable def g146 (x0 : Ta33) (x1 : Ta33) : Option ((Bool × Unit) × Unit) :=
  bif (x0.1 != x1.1) then
    some ((false, ()), ())
  else
    bif (x0.2.1 != x1.2.1) then
      some ((false, ()), ())
    else
      bif (x0.2.2.1 != x1.2.2.1) then
        some ((false, ()), ())
      else
        bif (x0.2.2.2.1 != x1.2.2.2.1) then
          some ((false, ()), ())
        else
          some ((true, ()), ())
noncomputable def f146 (x0 : Ta33) (x1 : Ta33) : Bool :=
  bif (x0.1 != x1.1) then
    false
  else
    bif (x0.2.1 != x1.2.1) then
      false
    else
      bif (x0.2.2.1 != x1.2.2.1) then
        false
      else
        bif (x0.2.2.2.1 != x1.2.2.2.1) then
          false
        else
          true
theorem n146 (x0 : Ta33) (x1 : Ta33) : g146 x0 x1 = some ((f146 x0 x1, ()), ()) := by
  simp only [g146, f146, pull1]
noncomputable def c146 : Ctr := { ins := [.v Ty167, .v Ty167], out := [.bool], F := fun x => some ((f146 x.1 x.2.1, ()), ()) }
theorem v146 : LoopsOk Tryz.prog Γ t146 a146 (loopsIn (Tryz.f146.body.getD .skip) 0) := loopsOk_nil (by kernel_rfl)
theorem r146 (x : InsT c146.ins) : fnK Tryz.prog Γ t146 a146 Tryz.f146 c146 x = g146 x.1 x.2.1 := by kernel_rfl
theorem k146 : TblOk Tryz.prog t146 := tblOk_nil
theorem o146 : Holds Tryz.prog 146 c146 := fn_holds (code := Tryz.f146.body.getD .skip) (by kernel_rfl) gamOk k146 Tryz.func146 (by kernel_rfl) (by kernel_rfl) (by kernel_rfl) (by kernel_rfl) v146 (fun x _ h => (r146 x).trans ((n146 x.1 x.2.1).trans h))
/-! ### 71: loop.example/g00076/laws.eqChanRowS -/
noncomputable def t71 : Tbl := [(146, [], c146)]
abbrev h71_L0 : Shape := { slots := [(0, .v Ty175), (1, .v Ty175), (5, .v (.int .i64))], boxes := [] }
abbrev e71_L0 : List (XT × Shape) := [(.ret, { slots := [(4, .v .bool)], boxes := [] }), (.exit 0, { slots := [], boxes := [] })]
noncomputable def q71_L0 (t0 : Ta50) (t1 : Ta50) (t5 : Int) : Option (Ta202 ⊕ (((Bool × Unit) × Unit) ⊕ ((Unit × Unit) ⊕ Empty))) :=
  bif (decide (t5 < (t0.len : Int))) then
    bif (decide (0 ≤ t5) && decide (t5 < (t0.len : Int))) then
      bif (decide (0 ≤ t5) && decide (t5 < (t1.len : Int))) then
        bif (!(f146 (L.get t0 t5.toNat) (L.get t1 t5.toNat))) then
          some (.inr (.inl ((false, ()), ())))
        else
          some (.inl ((t0, (t1, ((wI (t5 + (1 : Int))), ()))), ()))
      else
        none
    else
      none
  else
    some (.inr (.inr (.inl ((), ()))))
noncomputable def s71_L0 (x : Ta202) : Option (Ta202 ⊕ (((Bool × Unit) × Unit) ⊕ ((Unit × Unit) ⊕ Empty))) := q71_L0 x.1.1 x.1.2.1 x.1.2.2.1
noncomputable def a71 : Nat → Option LoopAnn := fun c => bif Nat.beq c 0 then some (.fix h71_L0 e71_L0 s71_L0) else none
noncomputable def g71 (x0 : Ta50) (x1 : Ta50) : Option ((Bool × Unit) × Unit) :=
  bif ((x0.len : Int) != (x1.len : Int)) then
    some ((false, ()), ())
  else
    (fixO s71_L0 ((x0, (x1, ((0 : Int), ()))), ())).bind fun d2 => match d2 with
    | .inl y1 =>
      some ((y1.1.1, ()), ())
    | .inr (.inl y1) =>
      some ((true, ()), ())
    | .inr (.inr e) => nomatch e
noncomputable def c71 : Ctr := { ins := [.v Ty175, .v Ty175], out := [.bool], F := fun x => g71 x.1 x.2.1 }
noncomputable def l71 : List (Nat × Code) := loopsIn (Tryz.f71.body.getD .skip) 0
theorem w71_L0 (x : h71_L0.T) : runK Tryz.prog Γ t71 a71 (l71.getD 0 (0, .skip)).2 0 (pkSh h71_L0 x) (loopCls (sh := h71_L0) (es := e71_L0)) = (s71_L0 x : Option _) := by kernel_rfl
theorem v71 : LoopsOk Tryz.prog Γ t71 a71 (loopsIn (Tryz.f71.body.getD .skip) 0) := by
  have e : loopsIn (Tryz.f71.body.getD .skip) 0 = [(0, (l71.getD 0 (0, .skip)).2)] := by kernel_rfl
  rw [e]
  exact ⟨fun x d h => (w71_L0 x).trans h, trivial⟩
theorem r71 (x : InsT c71.ins) : fnK Tryz.prog Γ t71 a71 Tryz.f71 c71 x = g71 x.1 x.2.1 := by kernel_rfl
theorem k71 : TblOk Tryz.prog t71 := tblOk_cons o146 (tblOk_nil)
theorem o71 : Holds Tryz.prog 71 c71 := fn_holds (code := Tryz.f71.body.getD .skip) (by kernel_rfl) gamOk k71 Tryz.func71 (by kernel_rfl) (by kernel_rfl) (by kernel_rfl) (by kernel_rfl) v71 (fun x _ h => (r71 x).trans h)
/-! ### 147: loop.example/g00076/laws.eqSlot -/
noncomputable def t147 : Tbl := []
noncomputable def a147 : Nat → Option LoopAnn := fun _ => none
noncomputable def g147 (x0 : Ta8) (x1 : Ta8) : Option ((Bool × Unit) × Unit) :=
  bif (x0.1 != x1.1) then
    some ((false, ()), ())
  else
    bif (x0.2.1 != x1.2.1) then
      some ((false, ()), ())
    else
      bif (x0.2.2.1 != x1.2.2.1) then
        some ((false, ()), ())
      else
        some ((true, ()), ())
noncomputable def f147 (x0 : Ta8) (x1 : Ta8) : Bool :=
  bif (x0.1 != x1.1) then
    false
  else
    bif (x0.2.1 != x1.2.1) then
      false
    else
      bif (x0.2.2.1 != x1.2.2.1) then
        false
      else
        true
theorem n147 (x0 : Ta8) (x1 : Ta8) : g147 x0 x1 = some ((f147 x0 x1, ()), ()) := by
  simp only [g147, f147, pull1]
noncomputable def c147 : Ctr := { ins := [.v Ty119, .v Ty119], out := [.bool], F := fun x => some ((f147 x.1 x.2.1, ()), ()) }
theorem v147 : LoopsOk Tryz.prog Γ t147 a147 (loopsIn (Tryz.f147.body.getD .skip) 0) := loopsOk_nil (by kernel_rfl)
theorem r147 (x : InsT c147.ins) : fnK Tryz.prog Γ t147 a147 Tryz.f147 c147 x = g147 x.1 x.2.1 := by kernel_rfl
theorem k147 : TblOk Tryz.prog t147 := tblOk_nil
theorem o147 : Holds Tryz.prog 147 c147 := fn_holds (code := Tryz.f147.body.getD .skip) (by kernel_rfl) gamOk k147 Tryz.func147 (by kernel_rfl) (by kernel_rfl) (by kernel_rfl) (by kernel_rfl) v147 (fun x _ h => (r147 x).trans ((n147 x.1 x.2.1).trans h))
/-! ### 72: loop.example/g00076/laws.eqSlotS -/
noncomputable def t72 : Tbl := [(147, [], c147)]
abbrev h72_L0 : Shape := { slots := [(0, .v Ty136), (1, .v Ty136), (5, .v (.int .i64))], boxes := [] }
abbrev e72_L0 : List (XT × Shape) := [(.ret, { slots := [(4, .v .bool)], boxes := [] }), (.exit 0, { slots := [], boxes := [] })]
noncomputable def q72_L0 (t0 : Ta24) (t1 : Ta24) (t5 : Int) : Option (Ta182 ⊕ (((Bool × Unit) × Unit) ⊕ ((Unit × Unit) ⊕ Empty))) :=
  bif (decide (t5 < (t0.len : Int))) then
    bif (decide (0 ≤ t5) && decide (t5 < (t0.len : Int))) then
      bif (decide (0 ≤ t5) && decide (t5 < (t1.len : Int))) then
        bif (!(f147 (L.get t0 t5.toNat) (L.get t1 t5.toNat))) then
          some (.inr (.inl ((false, ()), ())))
        else
          some (.inl ((t0, (t1, ((wI (t5 + (1 : Int))), ()))), ()))
      else
        none
    else
      none
  else
    some (.inr (.inr (.inl ((), ()))))
noncomputable def s72_L0 (x : Ta182) : Option (Ta182 ⊕ (((Bool × Unit) × Unit) ⊕ ((Unit × Unit) ⊕ Empty))) := q72_L0 x.1.1 x.1.2.1 x.1.2.2.1
noncomputable def a72 : Nat → Option LoopAnn := fun c => bif Nat.beq c 0 then some (.fix h72_L0 e72_L0 s72_L0) else none
noncomputable def g72 (x0 : Ta24) (x1 : Ta24) : Option ((Bool × Unit) × Unit) :=
  bif ((x0.len : Int) != (x1.len : Int)) then
    some ((false, ()), ())
  else
    (fixO s72_L0 ((x0, (x1, ((0 : Int), ()))), ())).bind fun d2 => match d2 with
    | .inl y1 =>
      some ((y1.1.1, ()), ())
    | .inr (.inl y1) =>
      some ((true, ()), ())
    | .inr (.inr e) => nomatch e
noncomputable def c72 : Ctr := { ins := [.v Ty136, .v Ty136], out := [.bool], F := fun x => g72 x.1 x.2.1 }
noncomputable def l72 : List (Nat × Code) := loopsIn (Tryz.f72.body.getD .skip) 0
theorem w72_L0 (x : h72_L0.T) : runK Tryz.prog Γ t72 a72 (l72.getD 0 (0, .skip)).2 0 (pkSh h72_L0 x) (loopCls (sh := h72_L0) (es := e72_L0)) = (s72_L0 x : Option _) := by kernel_rfl
theorem v72 : LoopsOk Tryz.prog Γ t72 a72 (loopsIn (Tryz.f72.body.getD .skip) 0) := by
  have e : loopsIn (Tryz.f72.body.getD .skip) 0 = [(0, (l72.getD 0 (0, .skip)).2)] := by kernel_rfl
  rw [e]
  exact ⟨fun x d h => (w72_L0 x).trans h, trivial⟩
theorem r72 (x : InsT c72.ins) : fnK Tryz.prog Γ t72 a72 Tryz.f72 c72 x = g72 x.1 x.2.1 := by kernel_rfl
theorem k72 : TblOk Tryz.prog t72 := tblOk_cons o147 (tblOk_nil)
theorem o72 : Holds Tryz.prog 72 c72 := fn_holds (code := Tryz.f72.body.getD .skip) (by kernel_rfl) gamOk k72 Tryz.func72 (by kernel_rfl) (by kernel_rfl) (by kernel_rfl) (by kernel_rfl) v72 (fun x _ h => (r72 x).trans h)
/-! ### 17: loop.example/g00076/laws.eqTables -/
noncomputable def t17 : Tbl := [(67, [], c67), (68, [], c68), (69, [], c69), (70, [], c70), (71, [], c71), (72, [], c72)]
noncomputable def a17 : Nat → Option LoopAnn := fun _ => none
noncomputable def g17 (x0 : Ta262) (x1 : Ta262) : Option ((Bool × Unit) × Unit) :=
  bif (x0.1 != x1.1) then
    some ((false, ()), ())
  else
    bif (!(f67 x0.2.1 x1.2.1)) then
      some ((false, ()), ())
    else
      bif (x0.2.2.1 != x1.2.2.1) then
        some ((false, ()), ())
      else
        bif (!(f68 x0.2.2.2.1 x1.2.2.2.1)) then
          some ((false, ()), ())
        else
          bif (x0.2.2.2.2.1 != x1.2.2.2.2.1) then
            some ((false, ()), ())
          else
            bif (x0.2.2.2.2.2.1 != x1.2.2.2.2.2.1) then
              some ((false, ()), ())
            else
              bif (x0.2.2.2.2.2.2.1 != x1.2.2.2.2.2.2.1) then
                some ((false, ()), ())
              else
                (g69 x0.2.2.2.2.2.2.2.1 x1.2.2.2.2.2.2.2.1).bind fun y1 =>
                  bif (!y1.1.1) then
                    some ((false, ()), ())
                  else
                    (g70 x0.2.2.2.2.2.2.2.2.1 x1.2.2.2.2.2.2.2.2.1).bind fun y2 =>
                      bif (!y2.1.1) then
                        some ((false, ()), ())
                      else
                        (g71 x0.2.2.2.2.2.2.2.2.2.1 x1.2.2.2.2.2.2.2.2.2.1).bind fun y3 =>
                          bif (!y3.1.1) then
                            some ((false, ()), ())
                          else
                            (g72 x0.2.2.2.2.2.2.2.2.2.2.1 x1.2.2.2.2.2.2.2.2.2.2.1).bind fun y4 =>
                              bif (!y4.1.1) then
                                some ((false, ()), ())
                              else
                                some ((true, ()), ())
noncomputable def c17 : Ctr := { ins := [.v Ty286, .v Ty286], out := [.bool], F := fun x => g17 x.1 x.2.1 }
theorem v17 : LoopsOk Tryz.prog Γ t17 a17 (loopsIn (Tryz.f17.body.getD .skip) 0) := loopsOk_nil (by kernel_rfl)
theorem r17 (x : InsT c17.ins) : fnK Tryz.prog Γ t17 a17 Tryz.f17 c17 x = g17 x.1 x.2.1 := by kernel_rfl
theorem k17 : TblOk Tryz.prog t17 := tblOk_cons o67 (tblOk_cons o68 (tblOk_cons o69 (tblOk_cons o70 (tblOk_cons o71 (tblOk_cons o72 (tblOk_nil))))))
theorem o17 : Holds Tryz.prog 17 c17 := fn_holds (code := Tryz.f17.body.getD .skip) (by kernel_rfl) gamOk k17 Tryz.func17 (by kernel_rfl) (by kernel_rfl) (by kernel_rfl) (by kernel_rfl) v17 (fun x _ h => (r17 x).trans h)
/-! ### 160: loop.example/g00076/laws.eqUint32S -/
noncomputable def t160 : Tbl := []
abbrev h160_L0 : Shape := { slots := [(0, .v (.sl (.int .u32))), (1, .v (.sl (.int .u32))), (5, .v (.int .i64))], boxes := [] }
abbrev e160_L0 : List (XT × Shape) := [(.ret, { slots := [(4, .v .bool)], boxes := [] }), (.exit 0, { slots := [], boxes := [] })]
noncomputable def q160_L0 (t0 : (L Int)) (t1 : (L Int)) (t5 : Int) : Option (Ta66 ⊕ (((Bool × Unit) × Unit) ⊕ ((Unit × Unit) ⊕ Empty))) :=
  bif (decide (t5 < (t0.len : Int))) then
    bif (decide (0 ≤ t5) && decide (t5 < (t0.len : Int))) then
      bif (decide (0 ≤ t5) && decide (t5 < (t1.len : Int))) then
        bif ((L.get t0 t5.toNat) != (L.get t1 t5.toNat)) then
          some (.inr (.inl ((false, ()), ())))
        else
          some (.inl ((t0, (t1, ((wI (t5 + (1 : Int))), ()))), ()))
      else
        none
    else
      none
  else
    some (.inr (.inr (.inl ((), ()))))
noncomputable def s160_L0 (x : Ta66) : Option (Ta66 ⊕ (((Bool × Unit) × Unit) ⊕ ((Unit × Unit) ⊕ Empty))) := q160_L0 x.1.1 x.1.2.1 x.1.2.2.1
noncomputable def a160 : Nat → Option LoopAnn := fun c => bif Nat.beq c 0 then some (.fix h160_L0 e160_L0 s160_L0) else none
noncomputable def g160 (x0 : (L Int)) (x1 : (L Int)) : Option ((Bool × Unit) × Unit) :=
  bif ((x0.len : Int) != (x1.len : Int)) then
    some ((false, ()), ())
  else
    (fixO s160_L0 ((x0, (x1, ((0 : Int), ()))), ())).bind fun d2 => match d2 with
    | .inl y1 =>
      some ((y1.1.1, ()), ())
    | .inr (.inl y1) =>
      some ((true, ()), ())
    | .inr (.inr e) => nomatch e
noncomputable def c160 : Ctr := { ins := [.v (.sl (.int .u32)), .v (.sl (.int .u32))], out := [.bool], F := fun x => g160 x.1 x.2.1 }
noncomputable def l160 : List (Nat × Code) := loopsIn (Tryz.f160.body.getD .skip) 0
theorem w160_L0 (x : h160_L0.T) : runK Tryz.prog Γ t160 a160 (l160.getD 0 (0, .skip)).2 0 (pkSh h160_L0 x) (loopCls (sh := h160_L0) (es := e160_L0)) = (s160_L0 x : Option _) := by kernel_rfl
theorem v160 : LoopsOk Tryz.prog Γ t160 a160 (loopsIn (Tryz.f160.body.getD .skip) 0) := by
  have e : loopsIn (Tryz.f160.body.getD .skip) 0 = [(0, (l160.getD 0 (0, .skip)).2)] := by kernel_rfl
  rw [e]
  exact ⟨fun x d h => (w160_L0 x).trans h, trivial⟩
theorem r160 (x : InsT c160.ins) : fnK Tryz.prog Γ t160 a160 Tryz.f160 c160 x = g160 x.1 x.2.1 := by kernel_rfl
theorem k160 : TblOk Tryz.prog t160 := tblOk_nil
theorem o160 : Holds Tryz.prog 160 c160 := fn_holds (code := Tryz.f160.body.getD .skip) (by kernel_rfl) gamOk k160 Tryz.func160 (by kernel_rfl) (by kernel_rfl) (by kernel_rfl) (by kernel_rfl) v160 (fun x _ h => (r160 x).trans h)
/-! ### 83: loop.example/g00076/laws.eqByteS -/
noncomputable def t83 : Tbl := []
abbrev h83_L0 : Shape := { slots := [(0, .v (.sl (.int .u8))), (1, .v (.sl (.int .u8))), (5, .v (.int .i64))], boxes := [] }
abbrev e83_L0 : List (XT × Shape) := [(.ret, { slots := [(4, .v .bool)], boxes := [] }), (.exit 0, { slots := [], boxes := [] })]
noncomputable def q83_L0 (t0 : (L Int)) (t1 : (L Int)) (t5 : Int) : Option (Ta66 ⊕ (((Bool × Unit) × Unit) ⊕ ((Unit × Unit) ⊕ Empty))) :=
  bif (decide (t5 < (t0.len : Int))) then
    bif (decide (0 ≤ t5) && decide (t5 < (t0.len : Int))) then
      bif (decide (0 ≤ t5) && decide (t5 < (t1.len : Int))) then
        bif ((L.get t0 t5.toNat) != (L.get t1 t5.toNat)) then
          some (.inr (.inl ((false, ()), ())))
        else
          some (.inl ((t0, (t1, ((wI (t5 + (1 : Int))), ()))), ()))
      else
        none
    else
      none
  else
    some (.inr (.inr (.inl ((), ()))))
noncomputable def s83_L0 (x : Ta66) : Option (Ta66 ⊕ (((Bool × Unit) × Unit) ⊕ ((Unit × Unit) ⊕ Empty))) := q83_L0 x.1.1 x.1.2.1 x.1.2.2.1
noncomputable def a83 : Nat → Option LoopAnn := fun c => bif Nat.beq c 0 then some (.fix h83_L0 e83_L0 s83_L0) else none
noncomputable def g83 (x0 : (L Int)) (x1 : (L Int)) : Option ((Bool × Unit) × Unit) :=
  bif ((x0.len : Int) != (x1.len : Int)) then
    some ((false, ()), ())
  else
    (fixO s83_L0 ((x0, (x1, ((0 : Int), ()))), ())).bind fun d2 => match d2 with
    | .inl y1 =>
      some ((y1.1.1, ()), ())
    | .inr (.inl y1) =>
      some ((true, ()), ())
    | .inr (.inr e) => nomatch e
noncomputable def c83 : Ctr := { ins := [.v (.sl (.int .u8)), .v (.sl (.int .u8))], out := [.bool], F := fun x => g83 x.1 x.2.1 }
noncomputable def l83 : List (Nat × Code) := loopsIn (Tryz.f83.body.getD .skip) 0
theorem w83_L0 (x : h83_L0.T) : runK Tryz.prog Γ t83 a83 (l83.getD 0 (0, .skip)).2 0 (pkSh h83_L0 x) (loopCls (sh := h83_L0) (es := e83_L0)) = (s83_L0 x : Option _) := by kernel_rfl
theorem v83 : LoopsOk Tryz.prog Γ t83 a83 (loopsIn (Tryz.f83.body.getD .skip) 0) := by
  have e : loopsIn (Tryz.f83.body.getD .skip) 0 = [(0, (l83.getD 0 (0, .skip)).2)] := by kernel_rfl
  rw [e]
  exact ⟨fun x d h => (w83_L0 x).trans h, trivial⟩
theorem r83 (x : InsT c83.ins) : fnK Tryz.prog Γ t83 a83 Tryz.f83 c83 x = g83 x.1 x.2.1 := by kernel_rfl
theorem k83 : TblOk Tryz.prog t83 := tblOk_nil
theorem o83 : Holds Tryz.prog 83 c83 := fn_holds (code := Tryz.f83.body.getD .skip) (by kernel_rfl) gamOk k83 Tryz.func83 (by kernel_rfl) (by kernel_rfl) (by kernel_rfl) (by kernel_rfl) v83 (fun x _ h => (r83 x).trans h)
/-! ### 30: loop.example/g00076/laws.eqByteSS -/
noncomputable def t30 : Tbl := [(83, [], c83)]
abbrev h30_L0 : Shape := { slots := [(0, .v (.sl (.sl (.int .u8)))), (1, .v (.sl (.sl (.int .u8)))), (5, .v (.int .i64))], boxes := [] }
abbrev e30_L0 : List (XT × Shape) := [(.ret, { slots := [(4, .v .bool)], boxes := [] }), (.exit 0, { slots := [], boxes := [] })]
noncomputable def q30_L0 (t0 : (L (L Int))) (t1 : (L (L Int))) (t5 : Int) : Option (Ta88 ⊕ (((Bool × Unit) × Unit) ⊕ ((Unit × Unit) ⊕ Empty))) :=
  bif (decide (t5 < (t0.len : Int))) then
    bif (decide (0 ≤ t5) && decide (t5 < (t0.len : Int))) then
      bif (decide (0 ≤ t5) && decide (t5 < (t1.len : Int))) then
        (g83 (L.get t0 t5.toNat) (L.get t1 t5.toNat)).bind fun y1 =>
          bif (!y1.1.1) then
            some (.inr (.inl ((false, ()), ())))
          else
            some (.inl ((t0, (t1, ((wI (t5 + (1 : Int))), ()))), ()))
      else
        none
    else
      none
  else
    some (.inr (.inr (.inl ((), ()))))
noncomputable def s30_L0 (x : Ta88) : Option (Ta88 ⊕ (((Bool × Unit) × Unit) ⊕ ((Unit × Unit) ⊕ Empty))) := q30_L0 x.1.1 x.1.2.1 x.1.2.2.1
noncomputable def a30 : Nat → Option LoopAnn := fun c => bif Nat.beq c 0 then some (.fix h30_L0 e30_L0 s30_L0) else none
noncomputable def g30 (x0 : (L (L Int))) (x1 : (L (L Int))) : Option ((Bool × Unit) × Unit) :=
  bif ((x0.len : Int) != (x1.len : Int)) then
    some ((false, ()), ())
  else
    (fixO s30_L0 ((x0, (x1, ((0 : Int), ()))), ())).bind fun d3 => match d3 with
    | .inl y2 =>
      some ((y2.1.1, ()), ())
    | .inr (.inl y2) =>
      some ((true, ()), ())
    | .inr (.inr e) => nomatch e
noncomputable def c30 : Ctr := { ins := [.v (.sl (.sl (.int .u8))), .v (.sl (.sl (.int .u8)))], out := [.bool], F := fun x => g30 x.1 x.2.1 }
noncomputable def l30 : List (Nat × Code) := loopsIn (Tryz.f30.body.getD .skip) 0
theorem w30_L0 (x : h30_L0.T) : runK Tryz.prog Γ t30 a30 (l30.getD 0 (0, .skip)).2 0 (pkSh h30_L0 x) (loopCls (sh := h30_L0) (es := e30_L0)) = (s30_L0 x : Option _) := by kernel_rfl
theorem v30 : LoopsOk Tryz.prog Γ t30 a30 (loopsIn (Tryz.f30.body.getD .skip) 0) := by
  have e : loopsIn (Tryz.f30.body.getD .skip) 0 = [(0, (l30.getD 0 (0, .skip)).2)] := by kernel_rfl
  rw [e]
  exact ⟨fun x d h => (w30_L0 x).trans h, trivial⟩
theorem r30 (x : InsT c30.ins) : fnK Tryz.prog Γ t30 a30 Tryz.f30 c30 x = g30 x.1 x.2.1 := by kernel_rfl
theorem k30 : TblOk Tryz.prog t30 := tblOk_cons o83 (tblOk_nil)
theorem o30 : Holds Tryz.prog 30 c30 := fn_holds (code := Tryz.f30.body.getD .skip) (by kernel_rfl) gamOk k30 Tryz.func30 (by kernel_rfl) (by kernel_rfl) (by kernel_rfl) (by kernel_rfl) v30 (fun x _ h => (r30 x).trans h)
/-! ### 120: loop.example/g00076/laws.eqGuest -/
noncomputable def t120 : Tbl := [(160, [], c160), (30, [], c30)]
noncomputable def a120 : Nat → Option LoopAnn := fun _ => none
noncomputable def g120 (x0 : Ta51) (x1 : Ta51) : Option ((Bool × Unit) × Unit) :=
  (g160 x0.1 x1.1).bind fun y1 =>
    bif (!y1.1.1) then
      some ((false, ()), ())
    else
      bif (x0.2.1 != x1.2.1) then
        some ((false, ()), ())
      else
        (g30 x0.2.2.1 x1.2.2.1).bind fun y2 =>
          bif (!y2.1.1) then
            some ((false, ()), ())
          else
            some ((true, ()), ())
noncomputable def c120 : Ctr := { ins := [.v Ty160, .v Ty160], out := [.bool], F := fun x => g120 x.1 x.2.1 }
theorem v120 : LoopsOk Tryz.prog Γ t120 a120 (loopsIn (Tryz.f120.body.getD .skip) 0) := loopsOk_nil (by kernel_rfl)
theorem r120 (x : InsT c120.ins) : fnK Tryz.prog Γ t120 a120 Tryz.f120 c120 x = g120 x.1 x.2.1 := by kernel_rfl
theorem k120 : TblOk Tryz.prog t120 := tblOk_cons o160 (tblOk_cons o30 (tblOk_nil))
theorem o120 : Holds Tryz.prog 120 c120 := fn_holds (code := Tryz.f120.body.getD .skip) (by kernel_rfl) gamOk k120 Tryz.func120 (by kernel_rfl) (by kernel_rfl) (by kernel_rfl) (by kernel_rfl) v120 (fun x _ h => (r120 x).trans h)
/-! ### 121: loop.example/g00076/laws.eqVirt -/
noncomputable def t121 : Tbl := []
noncomputable def a121 : Nat → Option LoopAnn := fun _ => none
noncomputable def g121 (x0 : Ta138) (x1 : Ta138) : Option ((Bool × Unit) × Unit) :=
  bif (!(x0.1 == x1.1)) then
    some ((false, ()), ())
  else
    bif (x0.2.1 != x1.2.1) then
      some ((false, ()), ())
    else
      bif (x0.2.2.1 != x1.2.2.1) then
        some ((false, ()), ())
      else
        bif (x0.2.2.2.1 != x1.2.2.2.1) then
          some ((false, ()), ())
        else
          bif (x0.2.2.2.2.1 != x1.2.2.2.2.1) then
            some ((false, ()), ())
          else
            bif (!(x0.2.2.2.2.2.1 == x1.2.2.2.2.2.1)) then
              some ((false, ()), ())
            else
              bif (!(x0.2.2.2.2.2.2.1 == x1.2.2.2.2.2.2.1)) then
                some ((false, ()), ())
              else
                bif (x0.2.2.2.2.2.2.2.1 != x1.2.2.2.2.2.2.2.1) then
                  some ((false, ()), ())
                else
                  some ((true, ()), ())
noncomputable def f121 (x0 : Ta138) (x1 : Ta138) : Bool :=
  bif (!(x0.1 == x1.1)) then
    false
  else
    bif (x0.2.1 != x1.2.1) then
      false
    else
      bif (x0.2.2.1 != x1.2.2.1) then
        false
      else
        bif (x0.2.2.2.1 != x1.2.2.2.1) then
          false
        else
          bif (x0.2.2.2.2.1 != x1.2.2.2.2.1) then
            false
          else
            bif (!(x0.2.2.2.2.2.1 == x1.2.2.2.2.2.1)) then
              false
            else
              bif (!(x0.2.2.2.2.2.2.1 == x1.2.2.2.2.2.2.1)) then
                false
              else
                bif (x0.2.2.2.2.2.2.2.1 != x1.2.2.2.2.2.2.2.1) then
                  false
                else
                  true
theorem n121 (x0 : Ta138) (x1 : Ta138) : g121 x0 x1 = some ((f121 x0 x1, ()), ()) := by
  simp only [g121, f121, pull1]
noncomputable def c121 : Ctr := { ins := [.v Ty225, .v Ty225], out := [.bool], F := fun x => some ((f121 x.1 x.2.1, ()), ()) }
theorem v121 : LoopsOk Tryz.prog Γ t121 a121 (loopsIn (Tryz.f121.body.getD .skip) 0) := loopsOk_nil (by kernel_rfl)
theorem r121 (x : InsT c121.ins) : fnK Tryz.prog Γ t121 a121 Tryz.f121 c121 x = g121 x.1 x.2.1 := by kernel_rfl
theorem k121 : TblOk Tryz.prog t121 := tblOk_nil
theorem o121 : Holds Tryz.prog 121 c121 := fn_holds (code := Tryz.f121.body.getD .skip) (by kernel_rfl) gamOk k121 Tryz.func121 (by kernel_rfl) (by kernel_rfl) (by kernel_rfl) (by kernel_rfl) v121 (fun x _ h => (r121 x).trans ((n121 x.1 x.2.1).trans h))
/-! ### 122: loop.example/g00076/laws.eqHealth -/
noncomputable def t122 : Tbl := []
noncomputable def a122 : Nat → Option LoopAnn := fun _ => none
noncomputable def g122 (x0 : Ta38) (x1 : Ta38) : Option ((Bool × Unit) × Unit) :=
  bif (x0.1 != x1.1) then
    some ((false, ()), ())
  else
    bif (x0.2.1 != x1.2.1) then
      some ((false, ()), ())
    else
      bif (x0.2.2.1 != x1.2.2.1) then
        some ((false, ()), ())
      else
        bif (!(x0.2.2.2.1 == x1.2.2.2.1)) then
          some ((false, ()), ())
        else
          some ((true, ()), ())
noncomputable def f122 (x0 : Ta38) (x1 : Ta38) : Bool :=
  bif (x0.1 != x1.1) then
    false
  else
    bif (x0.2.1 != x1.2.1) then
      false
    else
      bif (x0.2.2.1 != x1.2.2.1) then
        false
      else
        bif (!(x0.2.2.2.1 == x1.2.2.2.1)) then
          false
        else
          true
theorem n122 (x0 : Ta38) (x1 : Ta38) : g122 x0 x1 = some ((f122 x0 x1, ()), ()) := by
  simp only [g122, f122, pull1]
noncomputable def c122 : Ctr := { ins := [.v Ty154, .v Ty154], out := [.bool], F := fun x => some ((f122 x.1 x.2.1, ()), ()) }
theorem v122 : LoopsOk Tryz.prog Γ t122 a122 (loopsIn (Tryz.f122.body.getD .skip) 0) := loopsOk_nil (by kernel_rfl)
theorem r122 (x : InsT c122.ins) : fnK Tryz.prog Γ t122 a122 Tryz.f122 c122 x = g122 x.1 x.2.1 := by kernel_rfl
theorem k122 : TblOk Tryz.prog t122 := tblOk_nil
theorem o122 : Holds Tryz.prog 122 c122 := fn_holds (code := Tryz.f122.body.getD .skip) (by kernel_rfl) gamOk k122 Tryz.func122 (by kernel_rfl) (by kernel_rfl) (by kernel_rfl) (by kernel_rfl) v122 (fun x _ h => (r122 x).trans ((n122 x.1 x.2.1).trans h))
/-! ### 218: loop.example/g00076/laws.eqWay -/
noncomputable def t218 : Tbl := []
noncomputable def a218 : Nat → Option LoopAnn := fun _ => none
noncomputable def g218 (x0 : (Int × (Bool × Unit))) (x1 : (Int × (Bool × Unit))) : Option ((Bool × Unit) × Unit) :=
  bif (x0.1 != x1.1) then
    some ((false, ()), ())
  else
    bif (!(x0.2.1 == x1.2.1)) then
      some ((false, ()), ())
    else
      some ((true, ()), ())
noncomputable def f218 (x0 : (Int × (Bool × Unit))) (x1 : (Int × (Bool × Unit))) : Bool :=
  bif (x0.1 != x1.1) then
    false
  else
    bif (!(x0.2.1 == x1.2.1)) then
      false
    else
      true
theorem n218 (x0 : (Int × (Bool × Unit))) (x1 : (Int × (Bool × Unit))) : g218 x0 x1 = some ((f218 x0 x1, ()), ()) := by
  simp only [g218, f218, pull1]
noncomputable def c218 : Ctr := { ins := [.v Ty48, .v Ty48], out := [.bool], F := fun x => some ((f218 x.1 x.2.1, ()), ()) }
theorem v218 : LoopsOk Tryz.prog Γ t218 a218 (loopsIn (Tryz.f218.body.getD .skip) 0) := loopsOk_nil (by kernel_rfl)
theorem r218 (x : InsT c218.ins) : fnK Tryz.prog Γ t218 a218 Tryz.f218 c218 x = g218 x.1 x.2.1 := by kernel_rfl
theorem k218 : TblOk Tryz.prog t218 := tblOk_nil
theorem o218 : Holds Tryz.prog 218 c218 := fn_holds (code := Tryz.f218.body.getD .skip) (by kernel_rfl) gamOk k218 Tryz.func218 (by kernel_rfl) (by kernel_rfl) (by kernel_rfl) (by kernel_rfl) v218 (fun x _ h => (r218 x).trans ((n218 x.1 x.2.1).trans h))
/-! ### 169: loop.example/g00076/laws.eqWayS -/
noncomputable def t169 : Tbl := [(218, [], c218)]
abbrev h169_L0 : Shape := { slots := [(0, .v Ty62), (1, .v Ty62), (5, .v (.int .i64))], boxes := [] }
abbrev e169_L0 : List (XT × Shape) := [(.ret, { slots := [(4, .v .bool)], boxes := [] }), (.exit 0, { slots := [], boxes := [] })]
noncomputable def q169_L0 (t0 : Ta3) (t1 : Ta3) (t5 : Int) : Option (Ta159 ⊕ (((Bool × Unit) × Unit) ⊕ ((Unit × Unit) ⊕ Empty))) :=
  bif (decide (t5 < (t0.len : Int))) then
    bif (decide (0 ≤ t5) && decide (t5 < (t0.len : Int))) then
      bif (decide (0 ≤ t5) && decide (t5 < (t1.len : Int))) then
        bif (!(f218 (L.get t0 t5.toNat) (L.get t1 t5.toNat))) then
          some (.inr (.inl ((false, ()), ())))
        else
          some (.inl ((t0, (t1, ((wI (t5 + (1 : Int))), ()))), ()))
      else
        none
    else
      none
  else
    some (.inr (.inr (.inl ((), ()))))
noncomputable def s169_L0 (x : Ta159) : Option (Ta159 ⊕ (((Bool × Unit) × Unit) ⊕ ((Unit × Unit) ⊕ Empty))) := q169_L0 x.1.1 x.1.2.1 x.1.2.2.1
noncomputable def a169 : Nat → Option LoopAnn := fun c => bif Nat.beq c 0 then some (.fix h169_L0 e169_L0 s169_L0) else none
noncomputable def g169 (x0 : Ta3) (x1 : Ta3) : Option ((Bool × Unit) × Unit) :=
  bif ((x0.len : Int) != (x1.len : Int)) then
    some ((false, ()), ())
  else
    (fixO s169_L0 ((x0, (x1, ((0 : Int), ()))), ())).bind fun d2 => match d2 with
    | .inl y1 =>
      some ((y1.1.1, ()), ())
    | .inr (.inl y1) =>
      some ((true, ()), ())
    | .inr (.inr e) => nomatch e
noncomputable def c169 : Ctr := { ins := [.v Ty62, .v Ty62], out := [.bool], F := fun x => g169 x.1 x.2.1 }
noncomputable def l169 : List (Nat × Code) := loopsIn (Tryz.f169.body.getD .skip) 0
theorem w169_L0 (x : h169_L0.T) : runK Tryz.prog Γ t169 a169 (l169.getD 0 (0, .skip)).2 0 (pkSh h169_L0 x) (loopCls (sh := h169_L0) (es := e169_L0)) = (s169_L0 x : Option _) := by kernel_rfl
theorem v169 : LoopsOk Tryz.prog Γ t169 a169 (loopsIn (Tryz.f169.body.getD .skip) 0) := by
  have e : loopsIn (Tryz.f169.body.getD .skip) 0 = [(0, (l169.getD 0 (0, .skip)).2)] := by kernel_rfl
  rw [e]
  exact ⟨fun x d h => (w169_L0 x).trans h, trivial⟩
theorem r169 (x : InsT c169.ins) : fnK Tryz.prog Γ t169 a169 Tryz.f169 c169 x = g169 x.1 x.2.1 := by kernel_rfl
theorem k169 : TblOk Tryz.prog t169 := tblOk_cons o218 (tblOk_nil)
theorem o169 : Holds Tryz.prog 169 c169 := fn_holds (code := Tryz.f169.body.getD .skip) (by kernel_rfl) gamOk k169 Tryz.func169 (by kernel_rfl) (by kernel_rfl) (by kernel_rfl) (by kernel_rfl) v169 (fun x _ h => (r169 x).trans h)
/-! ### 102: loop.example/g00076/laws.eqWaySS -/
noncomputable def t102 : Tbl := [(169, [], c169)]
abbrev h102_L0 : Shape := { slots := [(0, .v Ty82), (1, .v Ty82), (5, .v (.int .i64))], boxes := [] }
abbrev e102_L0 : List (XT × Shape) := [(.ret, { slots := [(4, .v .bool)], boxes := [] }), (.exit 0, { slots := [], boxes := [] })]
noncomputable def q102_L0 (t0 : Ta13) (t1 : Ta13) (t5 : Int) : Option (Ta173 ⊕ (((Bool × Unit) × Unit) ⊕ ((Unit × Unit) ⊕ Empty))) :=
  bif (decide (t5 < (t0.len : Int))) then
    bif (decide (0 ≤ t5) && decide (t5 < (t0.len : Int))) then
      bif (decide (0 ≤ t5) && decide (t5 < (t1.len : Int))) then
        (g169 (L.get t0 t5.toNat) (L.get t1 t5.toNat)).bind fun y1 =>
          bif (!y1.1.1) then
            some (.inr (.inl ((false, ()), ())))
          else
            some (.inl ((t0, (t1, ((wI (t5 + (1 : Int))), ()))), ()))
      else
        none
    else
      none
  else
    some (.inr (.inr (.inl ((), ()))))
noncomputable def s102_L0 (x : Ta173) : Option (Ta173 ⊕ (((Bool × Unit) × Unit) ⊕ ((Unit × Unit) ⊕ Empty))) := q102_L0 x.1.1 x.1.2.1 x.1.2.2.1
noncomputable def a102 : Nat → Option LoopAnn := fun c => bif Nat.beq c 0 then some (.fix h102_L0 e102_L0 s102_L0) else none
noncomputable def g102 (x0 : Ta13) (x1 : Ta13) : Option ((Bool × Unit) × Unit) :=
  bif ((x0.len : Int) != (x1.len : Int)) then
    some ((false, ()), ())
  else
    (fixO s102_L0 ((x0, (x1, ((0 : Int), ()))), ())).bind fun d3 => match d3 with
    | .inl y2 =>
      some ((y2.1.1, ()), ())
    | .inr (.inl y2) =>
      some ((true, ()), ())
    | .inr (.inr e) => nomatch e
noncomputable def c102 : Ctr := { ins := [.v Ty82, .v Ty82], out := [.bool], F := fun x => g102 x.1 x.2.1 }
noncomputable def l102 : List (Nat × Code) := loopsIn (Tryz.f102.body.getD .skip) 0
theorem w102_L0 (x : h102_L0.T) : runK Tryz.prog Γ t102 a102 (l102.getD 0 (0, .skip)).2 0 (pkSh h102_L0 x) (loopCls (sh := h102_L0) (es := e102_L0)) = (s102_L0 x : Option _) := by kernel_rfl
theorem v102 : LoopsOk Tryz.prog Γ t102 a102 (loopsIn (Tryz.f102.body.getD .skip) 0) := by
  have e : loopsIn (Tryz.f102.body.getD .skip) 0 = [(0, (l102.getD 0 (0, .skip)).2)] := by kernel_rfl
  rw [e]
  exact ⟨fun x d h => (w102_L0 x).trans h, trivial⟩
theorem r102 (x : InsT c102.ins) : fnK Tryz.prog Γ t102 a102 Tryz.f102 c102 x = g102 x.1 x.2.1 := by kernel_rfl
theorem k102 : TblOk Tryz.prog t102 := tblOk_cons o169 (tblOk_nil)
theorem o102 : Holds Tryz.prog 102 c102 := fn_holds (code := Tryz.f102.body.getD .skip) (by kernel_rfl) gamOk k102 Tryz.func102 (by kernel_rfl) (by kernel_rfl) (by kernel_rfl) (by kernel_rfl) v102 (fun x _ h => (r102 x).trans h)
/-! ### 46: loop.example/g00076/laws.eqCache -/
noncomputable def t46 : Tbl := [(67, [], c67), (102, [], c102)]
noncomputable def a46 : Nat → Option LoopAnn := fun _ => none
noncomputable def g46 (x0 : Ta137) (x1 : Ta137) : Option ((Bool × Unit) × Unit) :=
  bif (!(f67 x0.1 x1.1)) then
    some ((false, ()), ())
  else
    (g102 x0.2.1 x1.2.1).bind fun y1 =>
      bif (!y1.1.1) then
        some ((false, ()), ())
      else
        some ((true, ()), ())
noncomputable def c46 : Ctr := { ins := [.v Ty218, .v Ty218], out := [.bool], F := fun x => g46 x.1 x.2.1 }
theorem v46 : LoopsOk Tryz.prog Γ t46 a46 (loopsIn (Tryz.f46.body.getD .skip) 0) := loopsOk_nil (by kernel_rfl)
theorem r46 (x : InsT c46.ins) : fnK Tryz.prog Γ t46 a46 Tryz.f46 c46 x = g46 x.1 x.2.1 := by kernel_rfl
theorem k46 : TblOk Tryz.prog t46 := tblOk_cons o67 (tblOk_cons o102 (tblOk_nil))
theorem o46 : Holds Tryz.prog 46 c46 := fn_holds (code := Tryz.f46.body.getD .skip) (by kernel_rfl) gamOk k46 Tryz.func46 (by kernel_rfl) (by kernel_rfl) (by kernel_rfl) (by kernel_rfl) v46 (fun x _ h => (r46 x).trans h)
/-! ### 123: loop.example/g00076/laws.eqTlb -/
noncomputable def t123 : Tbl := [(70, [], c70)]
noncomputable def a123 : Nat → Option LoopAnn := fun _ => none
noncomputable def g123 (x0 : Ta0) (x1 : Ta0) : Option ((Bool × Unit) × Unit) :=
  bif (x0.1 != x1.1) then
    some ((false, ()), ())
  else
    (g70 x0.2.1 x1.2.1).bind fun y1 =>
      bif (!y1.1.1) then
        some ((false, ()), ())
      else
        some ((true, ()), ())
noncomputable def c123 : Ctr := { ins := [.v Ty83, .v Ty83], out := [.bool], F := fun x => g123 x.1 x.2.1 }
theorem v123 : LoopsOk Tryz.prog Γ t123 a123 (loopsIn (Tryz.f123.body.getD .skip) 0) := loopsOk_nil (by kernel_rfl)
theorem r123 (x : InsT c123.ins) : fnK Tryz.prog Γ t123 a123 Tryz.f123 c123 x = g123 x.1 x.2.1 := by kernel_rfl
theorem k123 : TblOk Tryz.prog t123 := tblOk_cons o70 (tblOk_nil)
theorem o123 : Holds Tryz.prog 123 c123 := fn_holds (code := Tryz.f123.body.getD .skip) (by kernel_rfl) gamOk k123 Tryz.func123 (by kernel_rfl) (by kernel_rfl) (by kernel_rfl) (by kernel_rfl) v123 (fun x _ h => (r123 x).trans h)
/-! ### 184: loop.example/g00076/laws.eqOutEnd -/
noncomputable def t184 : Tbl := [(160, [], c160)]
noncomputable def a184 : Nat → Option LoopAnn := fun _ => none
noncomputable def g184 (x0 : Ta0) (x1 : Ta0) : Option ((Bool × Unit) × Unit) :=
  bif (x0.1 != x1.1) then
    some ((false, ()), ())
  else
    (g160 x0.2.1 x1.2.1).bind fun y1 =>
      bif (!y1.1.1) then
        some ((false, ()), ())
      else
        some ((true, ()), ())
noncomputable def c184 : Ctr := { ins := [.v Ty81, .v Ty81], out := [.bool], F := fun x => g184 x.1 x.2.1 }
theorem v184 : LoopsOk Tryz.prog Γ t184 a184 (loopsIn (Tryz.f184.body.getD .skip) 0) := loopsOk_nil (by kernel_rfl)
theorem r184 (x : InsT c184.ins) : fnK Tryz.prog Γ t184 a184 Tryz.f184 c184 x = g184 x.1 x.2.1 := by kernel_rfl
theorem k184 : TblOk Tryz.prog t184 := tblOk_cons o160 (tblOk_nil)
theorem o184 : Holds Tryz.prog 184 c184 := fn_holds (code := Tryz.f184.body.getD .skip) (by kernel_rfl) gamOk k184 Tryz.func184 (by kernel_rfl) (by kernel_rfl) (by kernel_rfl) (by kernel_rfl) v184 (fun x _ h => (r184 x).trans h)
/-! ### 124: loop.example/g00076/laws.eqOutEndS -/
noncomputable def t124 : Tbl := [(184, [], c184)]
abbrev h124_L0 : Shape := { slots := [(0, .v Ty97), (1, .v Ty97), (5, .v (.int .i64))], boxes := [] }
abbrev e124_L0 : List (XT × Shape) := [(.ret, { slots := [(4, .v .bool)], boxes := [] }), (.exit 0, { slots := [], boxes := [] })]
noncomputable def q124_L0 (t0 : Ta10) (t1 : Ta10) (t5 : Int) : Option (Ta171 ⊕ (((Bool × Unit) × Unit) ⊕ ((Unit × Unit) ⊕ Empty))) :=
  bif (decide (t5 < (t0.len : Int))) then
    bif (decide (0 ≤ t5) && decide (t5 < (t0.len : Int))) then
      bif (decide (0 ≤ t5) && decide (t5 < (t1.len : Int))) then
        (g184 (L.get t0 t5.toNat) (L.get t1 t5.toNat)).bind fun y1 =>
          bif (!y1.1.1) then
            some (.inr (.inl ((false, ()), ())))
          else
            some (.inl ((t0, (t1, ((wI (t5 + (1 : Int))), ()))), ()))
      else
        none
    else
      none
  else
    some (.inr (.inr (.inl ((), ()))))
noncomputable def s124_L0 (x : Ta171) : Option (Ta171 ⊕ (((Bool × Unit) × Unit) ⊕ ((Unit × Unit) ⊕ Empty))) := q124_L0 x.1.1 x.1.2.1 x.1.2.2.1
noncomputable def a124 : Nat → Option LoopAnn := fun c => bif Nat.beq c 0 then some (.fix h124_L0 e124_L0 s124_L0) else none
noncomputable def g124 (x0 : Ta10) (x1 : Ta10) : Option ((Bool × Unit) × Unit) :=
  bif ((x0.len : Int) != (x1.len : Int)) then
    some ((false, ()), ())
  else
    (fixO s124_L0 ((x0, (x1, ((0 : Int), ()))), ())).bind fun d3 => match d3 with
    | .inl y2 =>
      some ((y2.1.1, ()), ())
    | .inr (.inl y2) =>
      some ((true, ()), ())
    | .inr (.inr e) => nomatch e
noncomputable def c124 : Ctr := { ins := [.v Ty97, .v Ty97], out := [.bool], F := fun x => g124 x.1 x.2.1 }
noncomputable def l124 : List (Nat × Code) := loopsIn (Tryz.f124.body.getD .skip) 0
theorem w124_L0 (x : h124_L0.T) : runK Tryz.prog Γ t124 a124 (l124.getD 0 (0, .skip)).2 0 (pkSh h124_L0 x) (loopCls (sh := h124_L0) (es := e124_L0)) = (s124_L0 x : Option _) := by kernel_rfl
theorem v124 : LoopsOk Tryz.prog Γ t124 a124 (loopsIn (Tryz.f124.body.getD .skip) 0) := by
  have e : loopsIn (Tryz.f124.body.getD .skip) 0 = [(0, (l124.getD 0 (0, .skip)).2)] := by kernel_rfl
  rw [e]
  exact ⟨fun x d h => (w124_L0 x).trans h, trivial⟩
theorem r124 (x : InsT c124.ins) : fnK Tryz.prog Γ t124 a124 Tryz.f124 c124 x = g124 x.1 x.2.1 := by kernel_rfl
theorem k124 : TblOk Tryz.prog t124 := tblOk_cons o184 (tblOk_nil)
theorem o124 : Holds Tryz.prog 124 c124 := fn_holds (code := Tryz.f124.body.getD .skip) (by kernel_rfl) gamOk k124 Tryz.func124 (by kernel_rfl) (by kernel_rfl) (by kernel_rfl) (by kernel_rfl) v124 (fun x _ h => (r124 x).trans h)
/-! ### 185: loop.example/g00076/laws.eqInEnd -/
noncomputable def t185 : Tbl := [(160, [], c160)]
noncomputable def a185 : Nat → Option LoopAnn := fun _ => none
noncomputable def g185 (x0 : ((L Int) × Unit)) (x1 : ((L Int) × Unit)) : Option ((Bool × Unit) × Unit) :=
  (g160 x0.1 x1.1).bind fun y1 =>
    bif (!y1.1.1) then
      some ((false, ()), ())
    else
      some ((true, ()), ())
noncomputable def c185 : Ctr := { ins := [.v Ty21, .v Ty21], out := [.bool], F := fun x => g185 x.1 x.2.1 }
theorem v185 : LoopsOk Tryz.prog Γ t185 a185 (loopsIn (Tryz.f185.body.getD .skip) 0) := loopsOk_nil (by kernel_rfl)
theorem r185 (x : InsT c185.ins) : fnK Tryz.prog Γ t185 a185 Tryz.f185 c185 x = g185 x.1 x.2.1 := by kernel_rfl
theorem k185 : TblOk Tryz.prog t185 := tblOk_cons o160 (tblOk_nil)
theorem o185 : Holds Tryz.prog 185 c185 := fn_holds (code := Tryz.f185.body.getD .skip) (by kernel_rfl) gamOk k185 Tryz.func185 (by kernel_rfl) (by kernel_rfl) (by kernel_rfl) (by kernel_rfl) v185 (fun x _ h => (r185 x).trans h)
/-! ### 125: loop.example/g00076/laws.eqInEndS -/
noncomputable def t125 : Tbl := [(185, [], c185)]
abbrev h125_L0 : Shape := { slots := [(0, .v Ty37), (1, .v Ty37), (5, .v (.int .i64))], boxes := [] }
abbrev e125_L0 : List (XT × Shape) := [(.ret, { slots := [(4, .v .bool)], boxes := [] }), (.exit 0, { slots := [], boxes := [] })]
noncomputable def q125_L0 (t0 : (L ((L Int) × Unit))) (t1 : (L ((L Int) × Unit))) (t5 : Int) : Option (Ta139 ⊕ (((Bool × Unit) × Unit) ⊕ ((Unit × Unit) ⊕ Empty))) :=
  bif (decide (t5 < (t0.len : Int))) then
    bif (decide (0 ≤ t5) && decide (t5 < (t0.len : Int))) then
      bif (decide (0 ≤ t5) && decide (t5 < (t1.len : Int))) then
        (g185 (L.get t0 t5.toNat) (L.get t1 t5.toNat)).bind fun y1 =>
          bif (!y1.1.1) then
            some (.inr (.inl ((false, ()), ())))
          else
            some (.inl ((t0, (t1, ((wI (t5 + (1 : Int))), ()))), ()))
      else
        none
    else
      none
  else
    some (.inr (.inr (.inl ((), ()))))
noncomputable def s125_L0 (x : Ta139) : Option (Ta139 ⊕ (((Bool × Unit) × Unit) ⊕ ((Unit × Unit) ⊕ Empty))) := q125_L0 x.1.1 x.1.2.1 x.1.2.2.1
noncomputable def a125 : Nat → Option LoopAnn := fun c => bif Nat.beq c 0 then some (.fix h125_L0 e125_L0 s125_L0) else none
noncomputable def g125 (x0 : (L ((L Int) × Unit))) (x1 : (L ((L Int) × Unit))) : Option ((Bool × Unit) × Unit) :=
  bif ((x0.len : Int) != (x1.len : Int)) then
    some ((false, ()), ())
  else
    (fixO s125_L0 ((x0, (x1, ((0 : Int), ()))), ())).bind fun d3 => match d3 with
    | .inl y2 =>
      some ((y2.1.1, ()), ())
    | .inr (.inl y2) =>
      some ((true, ()), ())
    | .inr (.inr e) => nomatch e
noncomputable def c125 : Ctr := { ins := [.v Ty37, .v Ty37], out := [.bool], F := fun x => g125 x.1 x.2.1 }
noncomputable def l125 : List (Nat × Code) := loopsIn (Tryz.f125.body.getD .skip) 0
theorem w125_L0 (x : h125_L0.T) : runK Tryz.prog Γ t125 a125 (l125.getD 0 (0, .skip)).2 0 (pkSh h125_L0 x) (loopCls (sh := h125_L0) (es := e125_L0)) = (s125_L0 x : Option _) := by kernel_rfl
theorem v125 : LoopsOk Tryz.prog Γ t125 a125 (loopsIn (Tryz.f125.body.getD .skip) 0) := by
  have e : loopsIn (Tryz.f125.body.getD .skip) 0 = [(0, (l125.getD 0 (0, .skip)).2)] := by kernel_rfl
  rw [e]
  exact ⟨fun x d h => (w125_L0 x).trans h, trivial⟩
theorem r125 (x : InsT c125.ins) : fnK Tryz.prog Γ t125 a125 Tryz.f125 c125 x = g125 x.1 x.2.1 := by kernel_rfl
theorem k125 : TblOk Tryz.prog t125 := tblOk_cons o185 (tblOk_nil)
theorem o125 : Holds Tryz.prog 125 c125 := fn_holds (code := Tryz.f125.body.getD .skip) (by kernel_rfl) gamOk k125 Tryz.func125 (by kernel_rfl) (by kernel_rfl) (by kernel_rfl) (by kernel_rfl) v125 (fun x _ h => (r125 x).trans h)
/-! ### 186: loop.example/g00076/laws.eqDevState -/
noncomputable def t186 : Tbl := [(160, [], c160)]
noncomputable def a186 : Nat → Option LoopAnn := fun _ => none
noncomputable def g186 (x0 : Ta11) (x1 : Ta11) : Option ((Bool × Unit) × Unit) :=
  (g160 x0.1 x1.1).bind fun y1 =>
    bif (!y1.1.1) then
      some ((false, ()), ())
    else
      (g160 x0.2.1 x1.2.1).bind fun y2 =>
        bif (!y2.1.1) then
          some ((false, ()), ())
        else
          some ((true, ()), ())
noncomputable def c186 : Ctr := { ins := [.v Ty96, .v Ty96], out := [.bool], F := fun x => g186 x.1 x.2.1 }
theorem v186 : LoopsOk Tryz.prog Γ t186 a186 (loopsIn (Tryz.f186.body.getD .skip) 0) := loopsOk_nil (by kernel_rfl)
theorem r186 (x : InsT c186.ins) : fnK Tryz.prog Γ t186 a186 Tryz.f186 c186 x = g186 x.1 x.2.1 := by kernel_rfl
theorem k186 : TblOk Tryz.prog t186 := tblOk_cons o160 (tblOk_nil)
theorem o186 : Holds Tryz.prog 186 c186 := fn_holds (code := Tryz.f186.body.getD .skip) (by kernel_rfl) gamOk k186 Tryz.func186 (by kernel_rfl) (by kernel_rfl) (by kernel_rfl) (by kernel_rfl) v186 (fun x _ h => (r186 x).trans h)
/-! ### 126: loop.example/g00076/laws.eqDevStateS -/
noncomputable def t126 : Tbl := [(186, [], c186)]
abbrev h126_L0 : Shape := { slots := [(0, .v Ty117), (1, .v Ty117), (5, .v (.int .i64))], boxes := [] }
abbrev e126_L0 : List (XT × Shape) := [(.ret, { slots := [(4, .v .bool)], boxes := [] }), (.exit 0, { slots := [], boxes := [] })]
noncomputable def q126_L0 (t0 : Ta25) (t1 : Ta25) (t5 : Int) : Option (Ta183 ⊕ (((Bool × Unit) × Unit) ⊕ ((Unit × Unit) ⊕ Empty))) :=
  bif (decide (t5 < (t0.len : Int))) then
    bif (decide (0 ≤ t5) && decide (t5 < (t0.len : Int))) then
      bif (decide (0 ≤ t5) && decide (t5 < (t1.len : Int))) then
        (g186 (L.get t0 t5.toNat) (L.get t1 t5.toNat)).bind fun y1 =>
          bif (!y1.1.1) then
            some (.inr (.inl ((false, ()), ())))
          else
            some (.inl ((t0, (t1, ((wI (t5 + (1 : Int))), ()))), ()))
      else
        none
    else
      none
  else
    some (.inr (.inr (.inl ((), ()))))
noncomputable def s126_L0 (x : Ta183) : Option (Ta183 ⊕ (((Bool × Unit) × Unit) ⊕ ((Unit × Unit) ⊕ Empty))) := q126_L0 x.1.1 x.1.2.1 x.1.2.2.1
noncomputable def a126 : Nat → Option LoopAnn := fun c => bif Nat.beq c 0 then some (.fix h126_L0 e126_L0 s126_L0) else none
noncomputable def g126 (x0 : Ta25) (x1 : Ta25) : Option ((Bool × Unit) × Unit) :=
  bif ((x0.len : Int) != (x1.len : Int)) then
    some ((false, ()), ())
  else
    (fixO s126_L0 ((x0, (x1, ((0 : Int), ()))), ())).bind fun d3 => match d3 with
    | .inl y2 =>
      some ((y2.1.1, ()), ())
    | .inr (.inl y2) =>
      some ((true, ()), ())
    | .inr (.inr e) => nomatch e
noncomputable def c126 : Ctr := { ins := [.v Ty117, .v Ty117], out := [.bool], F := fun x => g126 x.1 x.2.1 }
noncomputable def l126 : List (Nat × Code) := loopsIn (Tryz.f126.body.getD .skip) 0
theorem w126_L0 (x : h126_L0.T) : runK Tryz.prog Γ t126 a126 (l126.getD 0 (0, .skip)).2 0 (pkSh h126_L0 x) (loopCls (sh := h126_L0) (es := e126_L0)) = (s126_L0 x : Option _) := by kernel_rfl
theorem v126 : LoopsOk Tryz.prog Γ t126 a126 (loopsIn (Tryz.f126.body.getD .skip) 0) := by
  have e : loopsIn (Tryz.f126.body.getD .skip) 0 = [(0, (l126.getD 0 (0, .skip)).2)] := by kernel_rfl
  rw [e]
  exact ⟨fun x d h => (w126_L0 x).trans h, trivial⟩
theorem r126 (x : InsT c126.ins) : fnK Tryz.prog Γ t126 a126 Tryz.f126 c126 x = g126 x.1 x.2.1 := by kernel_rfl
theorem k126 : TblOk Tryz.prog t126 := tblOk_cons o186 (tblOk_nil)
theorem o126 : Holds Tryz.prog 126 c126 := fn_holds (code := Tryz.f126.body.getD .skip) (by kernel_rfl) gamOk k126 Tryz.func126 (by kernel_rfl) (by kernel_rfl) (by kernel_rfl) (by kernel_rfl) v126 (fun x _ h => (r126 x).trans h)
/-! ### 51: loop.example/g00076/laws.eqPartState -/
noncomputable def t51 : Tbl := [(120, [], c120), (121, [], c121), (122, [], c122), (46, [], c46), (123, [], c123), (30, [], c30), (124, [], c124), (125, [], c125), (126, [], c126)]
noncomputable def a51 : Nat → Option LoopAnn := fun _ => none
noncomputable def g51 (x0 : Ta270) (x1 : Ta270) : Option ((Bool × Unit) × Unit) :=
  (g120 x0.1 x1.1).bind fun y1 =>
    bif (!y1.1.1) then
      some ((false, ()), ())
    else
      bif (!(f121 x0.2.1 x1.2.1)) then
        some ((false, ()), ())
      else
        bif (!(f122 x0.2.2.1 x1.2.2.1)) then
          some ((false, ()), ())
        else
          (g46 x0.2.2.2.1 x1.2.2.2.1).bind fun y2 =>
            bif (!y2.1.1) then
              some ((false, ()), ())
            else
              (g123 x0.2.2.2.2.1 x1.2.2.2.2.1).bind fun y3 =>
                bif (!y3.1.1) then
                  some ((false, ()), ())
                else
                  bif (x0.2.2.2.2.2.1 != x1.2.2.2.2.2.1) then
                    some ((false, ()), ())
                  else
                    bif (!(x0.2.2.2.2.2.2.1 == x1.2.2.2.2.2.2.1)) then
                      some ((false, ()), ())
                    else
                      (g30 x0.2.2.2.2.2.2.2.1 x1.2.2.2.2.2.2.2.1).bind fun y4 =>
                        bif (!y4.1.1) then
                          some ((false, ()), ())
                        else
                          (g124 x0.2.2.2.2.2.2.2.2.1 x1.2.2.2.2.2.2.2.2.1).bind fun y5 =>
                            bif (!y5.1.1) then
                              some ((false, ()), ())
                            else
                              (g125 x0.2.2.2.2.2.2.2.2.2.1 x1.2.2.2.2.2.2.2.2.2.1).bind fun y6 =>
                                bif (!y6.1.1) then
                                  some ((false, ()), ())
                                else
                                  (g126 x0.2.2.2.2.2.2.2.2.2.2.1 x1.2.2.2.2.2.2.2.2.2.2.1).bind fun y7 =>
                                    bif (!y7.1.1) then
                                      some ((false, ()), ())
                                    else
                                      some ((true, ()), ())
noncomputable def c51 : Ctr := { ins := [.v Ty290, .v Ty290], out := [.bool], F := fun x => g51 x.1 x.2.1 }
theorem v51 : LoopsOk Tryz.prog Γ t51 a51 (loopsIn (Tryz.f51.body.getD .skip) 0) := loopsOk_nil (by kernel_rfl)
theorem r51 (x : InsT c51.ins) : fnK Tryz.prog Γ t51 a51 Tryz.f51 c51 x = g51 x.1 x.2.1 := by kernel_rfl
theorem k51 : TblOk Tryz.prog t51 := tblOk_cons o120 (tblOk_cons o121 (tblOk_cons o122 (tblOk_cons o46 (tblOk_cons o123 (tblOk_cons o30 (tblOk_cons o124 (tblOk_cons o125 (tblOk_cons o126 (tblOk_nil)))))))))
theorem o51 : Holds Tryz.prog 51 c51 := fn_holds (code := Tryz.f51.body.getD .skip) (by kernel_rfl) gamOk k51 Tryz.func51 (by kernel_rfl) (by kernel_rfl) (by kernel_rfl) (by kernel_rfl) v51 (fun x _ h => (r51 x).trans h)
/-! ### 12: loop.example/g00076/laws.FnExactPartOk -/
noncomputable def t12 : Tbl := [(13, [], c13), (47, [], c47), (15, [], c15), (49, [], c49), (48, [], c48), (50, [], c50), (17, [], c17), (51, [], c51)]
noncomputable def a12 : Nat → Option LoopAnn := fun _ => none
noncomputable def g12 (x0 : Ta262) (x1 : Int) (x2 : Ta270) : Option ((Bool × Unit) × Unit) :=
  (g13 x0 (1048576 : Int)).bind fun y1 =>
    bif (decide (y1.1.1 < (0 : Int))) then
      some ((true, ()), ())
    else
      (g47 x2 y1.1.1).bind fun y2 =>
        bif (decide (y2.1.1 < (0 : Int))) then
          some ((true, ()), ())
        else
          (g15 x0).bind fun y3 =>
            (g49 x2).bind fun y4 =>
              (g48 y3.1.1 x1 y4.1.1).bind fun y5 =>
                (g15 x0).bind fun y6 =>
                  (g49 x2).bind fun y7 =>
                    (g50 y6.1.1 x1 y7.1.1).bind fun y8 =>
                      bif (!(y8.1.1 == y5.1.1)) then
                        some ((false, ()), ())
                      else
                        (g15 x0).bind fun y9 =>
                          (g17 y6.1.1 y9.1.1).bind fun y10 =>
                            bif (!y10.1.1) then
                              some ((false, ()), ())
                            else
                              (g49 x2).bind fun y11 =>
                                (g51 y7.1.1 y11.1.1).bind fun y12 =>
                                  bif (!y12.1.1) then
                                    some ((false, ()), ())
                                  else
                                    some ((true, ()), ())
noncomputable def c12 : Ctr := { ins := [.v Ty286, .v (.int .i64), .v Ty290], out := [.bool], F := fun x => g12 x.1 x.2.1 x.2.2.1 }
theorem v12 : LoopsOk Tryz.prog Γ t12 a12 (loopsIn (Tryz.f12.body.getD .skip) 0) := loopsOk_nil (by kernel_rfl)
theorem r12 (x : InsT c12.ins) : fnK Tryz.prog Γ t12 a12 Tryz.f12 c12 x = g12 x.1 x.2.1 x.2.2.1 := by kernel_rfl
theorem k12 : TblOk Tryz.prog t12 := tblOk_cons o13 (tblOk_cons o47 (tblOk_cons o15 (tblOk_cons o49 (tblOk_cons o48 (tblOk_cons o50 (tblOk_cons o17 (tblOk_cons o51 (tblOk_nil))))))))
theorem o12 : Holds Tryz.prog 12 c12 := fn_holds (code := Tryz.f12.body.getD .skip) (by kernel_rfl) gamOk k12 Tryz.func12 (by kernel_rfl) (by kernel_rfl) (by kernel_rfl) (by kernel_rfl) v12 (fun x _ h => (r12 x).trans h)
end Go.VE.VFnExactPartOk
