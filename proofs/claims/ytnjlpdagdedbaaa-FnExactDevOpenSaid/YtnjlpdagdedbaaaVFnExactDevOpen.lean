import Derived.Test.YtnjlpdagdedbaaaVgZ
import Derived.Test.YtnjlpdagdedbaaaProg
/- What the functions do that laws.FnExactDevOpen reaches, as plain functions, and that they do it. -/
set_option linter.unusedVariables false
set_option linter.unusedSimpArgs false
namespace Go.VE.VFnExactDevOpen
open Go.Proofs Go.VE
abbrev Ta0 : Type := ((L Int) × (Int × Unit))
abbrev Ta1 : Type := (((L Int) × Unit) × Unit)
abbrev Ta2 : Type := ((L Int) × ((L Int) × Unit))
abbrev Ta3 : Type := (Unit × (Int × (Int × Unit)))
abbrev Ty4 : Ty := (.pair (.sl (.int .u32)) .unit)
abbrev Ta5 : Type := (Unit × (Unit × (Bool × Unit)))
abbrev Ta6 : Type := ((L Int) × (Int × (Int × Unit)))
abbrev Ta7 : Type := ((Int × Unit) × ((L Int) × Unit))
abbrev Ta8 : Type := ((L Int) × (Unit × (Int × Unit)))
abbrev Ta9 : Type := ((L Int) × Ta0)
abbrev Ta10 : Type := ((L (L Int)) × (Int × (Int × Unit)))
abbrev Ta11 : Type := (Ta2 × Unit)
abbrev Ta12 : Type := (Ta6 × Unit)
abbrev Ta13 : Type := (Int × Ta10)
abbrev Ta14 : Type := (Ta9 × Unit)
abbrev Ta15 : Type := (Ta11 × Unit)
abbrev Ta16 : Type := ((L Int) × Ta10)
abbrev Ta17 : Type := (Ta3 × ((L Int) × Unit))
abbrev Ta18 : Type := (Ta8 × ((L Int) × Unit))
abbrev Ty19 : Ty := (.pair (.sl (.int .u32)) Ty4)
abbrev Ta20 : Type := (Ta16 × Unit)
abbrev Ta21 : Type := ((L (L Int)) × Ta13)
abbrev Ta22 : Type := (Ta21 × Unit)
abbrev Ta23 : Type := (Ta2 × Ta11)
abbrev Ta24 : Type := (Ta5 × Ta23)
def Γ : TypeId → Option Ty := fun e => bif Nat.beq e 26 then some (.sl (.int .u32)) else bif Nat.beq e 29 then some (.int .u32) else none
theorem gamOk : GamOk Try.prog Γ := gamOk_of [26, 29] (fun e ty h => by
  simp only [Γ] at h
  cases h26 : Nat.beq e 26 with
  | true => simp [Nat.eq_of_beq_eq_true h26]
  | false =>
  simp only [h26, cond_false] at h
  cases h29 : Nat.beq e 29 with
  | true => simp [Nat.eq_of_beq_eq_true h29]
  | false =>
  simp only [h29, cond_false] at h
  cases h) (by kernel_rfl)
/-! ### 64: loop.example/g00076/laws.szUint32S -/
noncomputable def t64 : Tbl := []
noncomputable def a64 : Nat → Option LoopAnn := fun _ => none
noncomputable def g64 (x0 : (L Int)) (x1 : Int) : Option ((Int × Unit) × Unit) :=
  bif (decide ((wI (x1 - (x0.len : Int))) < (0 : Int))) then
    some (((-1 : Int), ()), ())
  else
    some (((wI (x1 - (x0.len : Int))), ()), ())
noncomputable def f64 (x0 : (L Int)) (x1 : Int) : Int :=
  bif (decide ((wI (x1 - (x0.len : Int))) < (0 : Int))) then
    (-1 : Int)
  else
    (wI (x1 - (x0.len : Int)))
theorem n64 (x0 : (L Int)) (x1 : Int) : g64 x0 x1 = some ((f64 x0 x1, ()), ()) := by
  simp only [g64, f64, pull1]
noncomputable def c64 : Ctr := { ins := [.v (.sl (.int .u32)), .v (.int .i64)], out := [(.int .i64)], F := fun x => some ((f64 x.1 x.2.1, ()), ()) }
theorem v64 : LoopsOk Try.prog Γ t64 a64 (loopsIn (Try.f64.body.getD .skip) 0) := loopsOk_nil (by kernel_rfl)
theorem r64 (x : InsT c64.ins) : fnK Try.prog Γ t64 a64 Try.f64 c64 x = g64 x.1 x.2.1 := by kernel_rfl
theorem k64 : TblOk Try.prog t64 := tblOk_nil
theorem o64 : Holds Try.prog 64 c64 := fn_holds (code := Try.f64.body.getD .skip) (by kernel_rfl) gamOk k64 Try.func64 (by kernel_rfl) (by kernel_rfl) (by kernel_rfl) (by kernel_rfl) v64 (fun x _ h => (r64 x).trans ((n64 x.1 x.2.1).trans h))
/-! ### 17: loop.example/g00076/laws.szDevState -/
noncomputable def t17 : Tbl := [(64, [], c64)]
noncomputable def a17 : Nat → Option LoopAnn := fun _ => none
noncomputable def g17 (x0 : Ta2) (x1 : Int) : Option ((Int × Unit) × Unit) :=
  bif (decide ((f64 x0.1 x1) < (0 : Int))) then
    some (((-1 : Int), ()), ())
  else
    bif (decide ((f64 x0.2.1 (f64 x0.1 x1)) < (0 : Int))) then
      some (((-1 : Int), ()), ())
    else
      some (((f64 x0.2.1 (f64 x0.1 x1)), ()), ())
noncomputable def f17 (x0 : Ta2) (x1 : Int) : Int :=
  bif (decide ((f64 x0.1 x1) < (0 : Int))) then
    (-1 : Int)
  else
    bif (decide ((f64 x0.2.1 (f64 x0.1 x1)) < (0 : Int))) then
      (-1 : Int)
    else
      (f64 x0.2.1 (f64 x0.1 x1))
theorem n17 (x0 : Ta2) (x1 : Int) : g17 x0 x1 = some ((f17 x0 x1, ()), ()) := by
  simp only [g17, f17, pull1]
noncomputable def c17 : Ctr := { ins := [.v Ty19, .v (.int .i64)], out := [(.int .i64)], F := fun x => some ((f17 x.1 x.2.1, ()), ()) }
theorem v17 : LoopsOk Try.prog Γ t17 a17 (loopsIn (Try.f17.body.getD .skip) 0) := loopsOk_nil (by kernel_rfl)
theorem r17 (x : InsT c17.ins) : fnK Try.prog Γ t17 a17 Try.f17 c17 x = g17 x.1 x.2.1 := by kernel_rfl
theorem k17 : TblOk Try.prog t17 := tblOk_cons o64 (tblOk_nil)
theorem o17 : Holds Try.prog 17 c17 := fn_holds (code := Try.f17.body.getD .skip) (by kernel_rfl) gamOk k17 Try.func17 (by kernel_rfl) (by kernel_rfl) (by kernel_rfl) (by kernel_rfl) v17 (fun x _ h => (r17 x).trans ((n17 x.1 x.2.1).trans h))
/-! ### 65: loop.example/g00076/spec.DevOk -/
noncomputable def t65 : Tbl := []
noncomputable def a65 : Nat → Option LoopAnn := fun _ => none
noncomputable def g65 (x0 : Ta2) : Option ((Bool × Unit) × Unit) :=
  bif (decide ((x0.1.len : Int) ≤ (8 : Int))) then
    some (((decide ((x0.2.1.len : Int) ≤ (8 : Int))), ()), ())
  else
    some ((false, ()), ())
noncomputable def f65 (x0 : Ta2) : Bool :=
  bif (decide ((x0.1.len : Int) ≤ (8 : Int))) then
    (decide ((x0.2.1.len : Int) ≤ (8 : Int)))
  else
    false
theorem n65 (x0 : Ta2) : g65 x0 = some ((f65 x0, ()), ()) := by
  simp only [g65, f65, pull1]
noncomputable def c65 : Ctr := { ins := [.v Ty19], out := [.bool], F := fun x => some ((f65 x.1, ()), ()) }
theorem v65 : LoopsOk Try.prog Γ t65 a65 (loopsIn (Try.f65.body.getD .skip) 0) := loopsOk_nil (by kernel_rfl)
theorem r65 (x : InsT c65.ins) : fnK Try.prog Γ t65 a65 Try.f65 c65 x = g65 x.1 := by kernel_rfl
theorem k65 : TblOk Try.prog t65 := tblOk_nil
theorem o65 : Holds Try.prog 65 c65 := fn_holds (code := Try.f65.body.getD .skip) (by kernel_rfl) gamOk k65 Try.func65 (by kernel_rfl) (by kernel_rfl) (by kernel_rfl) (by kernel_rfl) v65 (fun x _ h => (r65 x).trans ((n65 x.1).trans h))
/-! ### 74: loop.example/g00076/spec.l11List -/
noncomputable def t74w : Tbl := []
noncomputable def a74w : Nat → Option LoopAnn := fun _ => none
noncomputable def g74w (x0 : (L Int)) : Option Ta1 :=
  bif (decide ((L.of (Ty.zero (.int .u32)) []).len + x0.len ≤ most)) then
    some (((L.app (L.of (Ty.zero (.int .u32)) []) x0), ()), ())
  else
    none
noncomputable def c74w : Ctr := { ins := [.v (.sl (.int .u32))], out := [(.sl (.int .u32))], F := fun x => g74w x.1, fr := 2 }
theorem v74w : LoopsOk Try.prog Γ t74w a74w (loopsIn (Try.f74.body.getD .skip) 0) := loopsOk_nil (by kernel_rfl)
theorem r74w (x : InsT c74w.ins) : fnK Try.prog Γ t74w a74w Try.f74 c74w x = g74w x.1 := by kernel_rfl
theorem k74w : TblOk Try.prog t74w := tblOk_nil
theorem o74w : Holds Try.prog 74 c74w := fn_holds (code := Try.f74.body.getD .skip) (by kernel_rfl) gamOk k74w Try.func74 (by kernel_rfl) (by kernel_rfl) (by kernel_rfl) (by kernel_rfl) v74w (fun x _ h => (r74w x).trans h)
/-! ### 66: loop.example/g00076/spec.l12Copy -/
noncomputable def t66w : Tbl := [(74, [], c74w)]
noncomputable def a66w : Nat → Option LoopAnn := fun _ => none
noncomputable def g66w (x0 : Ta2) : Option Ta15 :=
  (g74w x0.1).bind fun y1 =>
    (g74w x0.2.1).bind fun y2 =>
      some (((y1.1.1, y2.1), ()), ())
noncomputable def c66w : Ctr := { ins := [.v Ty19], out := [Ty19], F := fun x => g66w x.1, fr := 2 }
theorem v66w : LoopsOk Try.prog Γ t66w a66w (loopsIn (Try.f66.body.getD .skip) 0) := loopsOk_nil (by kernel_rfl)
theorem r66w (x : InsT c66w.ins) : fnK Try.prog Γ t66w a66w Try.f66 c66w x = g66w x.1 := by kernel_rfl
theorem k66w : TblOk Try.prog t66w := tblOk_cons o74w (tblOk_nil)
theorem o66w : Holds Try.prog 66 c66w := fn_holds (code := Try.f66.body.getD .skip) (by kernel_rfl) gamOk k66w Try.func66 (by kernel_rfl) (by kernel_rfl) (by kernel_rfl) (by kernel_rfl) v66w (fun x _ h => (r66w x).trans h)
/-! ### 68: loop.example/g00076/impl.isDev -/
noncomputable def t68 : Tbl := []
noncomputable def a68 : Nat → Option LoopAnn := fun _ => none
noncomputable def g68 (x0 : Ta2) : Option ((Bool × Unit) × Unit) :=
  bif (decide ((x0.1.len : Int) ≤ (8 : Int))) then
    some (((decide ((x0.2.1.len : Int) ≤ (8 : Int))), ()), ())
  else
    some ((false, ()), ())
noncomputable def f68 (x0 : Ta2) : Bool :=
  bif (decide ((x0.1.len : Int) ≤ (8 : Int))) then
    (decide ((x0.2.1.len : Int) ≤ (8 : Int)))
  else
    false
theorem n68 (x0 : Ta2) : g68 x0 = some ((f68 x0, ()), ()) := by
  simp only [g68, f68, pull1]
noncomputable def c68 : Ctr := { ins := [.v Ty19], out := [.bool], F := fun x => some ((f68 x.1, ()), ()) }
theorem v68 : LoopsOk Try.prog Γ t68 a68 (loopsIn (Try.f68.body.getD .skip) 0) := loopsOk_nil (by kernel_rfl)
theorem r68 (x : InsT c68.ins) : fnK Try.prog Γ t68 a68 Try.f68 c68 x = g68 x.1 := by kernel_rfl
theorem k68 : TblOk Try.prog t68 := tblOk_nil
theorem o68 : Holds Try.prog 68 c68 := fn_holds (code := Try.f68.body.getD .skip) (by kernel_rfl) gamOk k68 Try.func68 (by kernel_rfl) (by kernel_rfl) (by kernel_rfl) (by kernel_rfl) v68 (fun x _ h => (r68 x).trans ((n68 x.1).trans h))
/-! ### 71: loop.example/g00076/laws.eqUint32S -/
noncomputable def t71 : Tbl := []
abbrev h71_L0 : Shape := { slots := [(0, .v (.sl (.int .u32))), (1, .v (.sl (.int .u32))), (5, .v (.int .i64))], boxes := [] }
abbrev e71_L0 : List (XT × Shape) := [(.ret, { slots := [(4, .v .bool)], boxes := [] }), (.exit 0, { slots := [], boxes := [] })]
noncomputable def q71_L0 (t0 : (L Int)) (t1 : (L Int)) (t5 : Int) : Option (Ta14 ⊕ (((Bool × Unit) × Unit) ⊕ ((Unit × Unit) ⊕ Empty))) :=
  bif (decide (t5 < (t0.len : Int))) then
    bif (decide (0 ≤ t5) && decide (t5 < (t0.len : Int))) then
      bif (decide (0 ≤ t5) && decide (t5 < (t1.len : Int))) then
        bif ((L.get t0 t5.toNat) != (L.get t1 t5.toNat)) then
          some (.inr (.inl ((false, ()), ())))
        else
          some (.inl ((t0, (t1, ((wI (t5 + (1 : Int))), ()))), ()))
      else
        none
    else
      none
  else
    some (.inr (.inr (.inl ((), ()))))
noncomputable def s71_L0 (x : Ta14) : Option (Ta14 ⊕ (((Bool × Unit) × Unit) ⊕ ((Unit × Unit) ⊕ Empty))) := q71_L0 x.1.1 x.1.2.1 x.1.2.2.1
noncomputable def a71 : Nat → Option LoopAnn := fun c => bif Nat.beq c 0 then some (.fix h71_L0 e71_L0 s71_L0) else none
noncomputable def g71 (x0 : (L Int)) (x1 : (L Int)) : Option ((Bool × Unit) × Unit) :=
  bif ((x0.len : Int) != (x1.len : Int)) then
    some ((false, ()), ())
  else
    (fixO s71_L0 ((x0, (x1, ((0 : Int), ()))), ())).bind fun d2 => match d2 with
    | .inl y1 =>
      some ((y1.1.1, ()), ())
    | .inr (.inl y1) =>
      some ((true, ()), ())
    | .inr (.inr e) => nomatch e
noncomputable def c71 : Ctr := { ins := [.v (.sl (.int .u32)), .v (.sl (.int .u32))], out := [.bool], F := fun x => g71 x.1 x.2.1 }
noncomputable def l71 : List (Nat × Code) := loopsIn (Try.f71.body.getD .skip) 0
theorem w71_L0 (x : h71_L0.T) : runK Try.prog Γ t71 (inlN Try.prog Γ t71 3) a71 (l71.getD 0 (0, .skip)).2 0 (pkSh h71_L0 x) (loopCls (sh := h71_L0) (es := e71_L0)) = (s71_L0 x : Option _) := by kernel_rfl
theorem v71 : LoopsOk Try.prog Γ t71 a71 (loopsIn (Try.f71.body.getD .skip) 0) := by
  have e : loopsIn (Try.f71.body.getD .skip) 0 = [(0, (l71.getD 0 (0, .skip)).2)] := by kernel_rfl
  rw [e]
  exact ⟨fun x d h => (w71_L0 x).trans h, trivial⟩
theorem r71 (x : InsT c71.ins) : fnK Try.prog Γ t71 a71 Try.f71 c71 x = g71 x.1 x.2.1 := by kernel_rfl
theorem k71 : TblOk Try.prog t71 := tblOk_nil
theorem o71 : Holds Try.prog 71 c71 := fn_holds (code := Try.f71.body.getD .skip) (by kernel_rfl) gamOk k71 Try.func71 (by kernel_rfl) (by kernel_rfl) (by kernel_rfl) (by kernel_rfl) v71 (fun x _ h => (r71 x).trans h)
/-! ### 21: loop.example/g00076/laws.eqDevState -/
noncomputable def t21 : Tbl := [(71, [], c71)]
noncomputable def a21 : Nat → Option LoopAnn := fun _ => none
noncomputable def g21 (x0 : Ta2) (x1 : Ta2) : Option ((Bool × Unit) × Unit) :=
  (g71 x0.1 x1.1).bind fun y1 =>
    bif (!y1.1.1) then
      some ((false, ()), ())
    else
      (g71 x0.2.1 x1.2.1).bind fun y2 =>
        bif (!y2.1.1) then
          some ((false, ()), ())
        else
          some ((true, ()), ())
noncomputable def c21 : Ctr := { ins := [.v Ty19, .v Ty19], out := [.bool], F := fun x => g21 x.1 x.2.1 }
theorem v21 : LoopsOk Try.prog Γ t21 a21 (loopsIn (Try.f21.body.getD .skip) 0) := loopsOk_nil (by kernel_rfl)
theorem r21 (x : InsT c21.ins) : fnK Try.prog Γ t21 a21 Try.f21 c21 x = g21 x.1 x.2.1 := by kernel_rfl
theorem k21 : TblOk Try.prog t21 := tblOk_cons o71 (tblOk_nil)
theorem o21 : Holds Try.prog 21 c21 := fn_holds (code := Try.f21.body.getD .skip) (by kernel_rfl) gamOk k21 Try.func21 (by kernel_rfl) (by kernel_rfl) (by kernel_rfl) (by kernel_rfl) v21 (fun x _ h => (r21 x).trans h)
/-! ### 72: loop.example/g00076/laws.markUint32S -/
noncomputable def t72 : Tbl := []
abbrev h72_L0 : Shape := { slots := [(0, .ms 100000000), (1, .v (.int .i64)), (5, .v (.int .i64))], boxes := [(100000000, .arr (.int .u32))] }
abbrev e72_L0 : List (XT × Shape) := [(.exit 0, { slots := [(1, .v (.int .i64))], boxes := [(100000000, .arr (.int .u32))] })]
noncomputable def q72_L0 (t1 : Int) (t5 : Int) (r100000000 : (L Int)) : Option (Ta17 ⊕ (Ta7 ⊕ Empty)) :=
  bif (decide (t5 < (r100000000.len : Int))) then
    bif (decide (0 ≤ t5) && decide (t5 < (r100000000.len : Int))) then
      some (.inl (((), ((wI (t1 + (1 : Int))), ((wI (t5 + (1 : Int))), ()))), ((L.set r100000000 t5.toNat (IntKind.wrap .u32 (t1))), ())))
    else
      none
  else
    some (.inr (.inl ((t1, ()), (r100000000, ()))))
noncomputable def s72_L0 (x : Ta17) : Option (Ta17 ⊕ (Ta7 ⊕ Empty)) := q72_L0 x.1.2.1 x.1.2.2.1 x.2.1
noncomputable def a72 : Nat → Option LoopAnn := fun c => bif Nat.beq c 0 then some (.fix h72_L0 e72_L0 s72_L0) else none
noncomputable def g72 (x0 : (L Int)) (x1 : Int) : Option Ta7 :=
  (fixO s72_L0 (((), (x1, ((0 : Int), ()))), (x0, ()))).bind fun d2 => match d2 with
  | .inl y1 =>
    some ((y1.1.1, ()), (y1.2.1, ()))
  | .inr e => nomatch e
noncomputable def c72 : Ctr := { ins := [.ow (.int .u32), .v (.int .i64)], out := [(.int .i64)], F := fun x => g72 x.1 x.2.1 }
noncomputable def l72 : List (Nat × Code) := loopsIn (Try.f72.body.getD .skip) 0
theorem w72_L0 (x : h72_L0.T) : runK Try.prog Γ t72 (inlN Try.prog Γ t72 3) a72 (l72.getD 0 (0, .skip)).2 0 (pkSh h72_L0 x) (loopCls (sh := h72_L0) (es := e72_L0)) = (s72_L0 x : Option _) := by kernel_rfl
theorem v72 : LoopsOk Try.prog Γ t72 a72 (loopsIn (Try.f72.body.getD .skip) 0) := by
  have e : loopsIn (Try.f72.body.getD .skip) 0 = [(0, (l72.getD 0 (0, .skip)).2)] := by kernel_rfl
  rw [e]
  exact ⟨fun x d h => (w72_L0 x).trans h, trivial⟩
theorem r72 (x : InsT c72.ins) : fnK Try.prog Γ t72 a72 Try.f72 c72 x = g72 x.1 x.2.1 := by kernel_rfl
theorem k72 : TblOk Try.prog t72 := tblOk_nil
theorem o72 : Holds Try.prog 72 c72 := fn_holds (code := Try.f72.body.getD .skip) (by kernel_rfl) gamOk k72 Try.func72 (by kernel_rfl) (by kernel_rfl) (by kernel_rfl) (by kernel_rfl) v72 (fun x _ h => (r72 x).trans h)
/-! ### 67: loop.example/g00076/laws.toUint32S -/
noncomputable def t67r : Tbl := []
abbrev h67r_L0 : Shape := { slots := [(0, .v (.sl (.int .u32))), (3, .ms 7), (4, .v (.int .i64))], boxes := [(7, .arr (.int .u32))] }
abbrev e67r_L0 : List (XT × Shape) := [(.exit 0, { slots := [(3, .ms 7)], boxes := [(7, .arr (.int .u32))] })]
noncomputable def q67r_L0 (t0 : (L Int)) (t4 : Int) (r7 : (L Int)) : Option (Ta18 ⊕ (((Unit × Unit) × ((L Int) × Unit)) ⊕ Empty)) :=
  bif (decide (t4 < (t0.len : Int))) then
    bif (decide (0 ≤ t4) && decide (t4 < (t0.len : Int))) then
      bif (decide (0 ≤ t4) && decide (t4 < (r7.len : Int))) then
        some (.inl ((t0, ((), ((wI (t4 + (1 : Int))), ()))), ((L.set r7 t4.toNat (L.get t0 t4.toNat)), ())))
      else
        none
    else
      none
  else
    some (.inr (.inl (((), ()), (r7, ()))))
noncomputable def s67r_L0 (x : Ta18) : Option (Ta18 ⊕ (((Unit × Unit) × ((L Int) × Unit)) ⊕ Empty)) := q67r_L0 x.1.1 x.1.2.2.1 x.2.1
noncomputable def a67r : Nat → Option LoopAnn := fun c => bif Nat.beq c 0 then some (.fix h67r_L0 e67r_L0 s67r_L0) else none
noncomputable def g67r (x0 : (L Int)) : Option Ta1 :=
  bif (decide ((x0.len : Int) = (x0.len : Int)) && (decide (0 ≤ (x0.len : Int)) && (decide ((x0.len : Int) ≤ 2 ^ 40) && decide (4 * (x0.len : Int) ≤ 2 ^ 48)))) then
    (fixO s67r_L0 ((x0, ((), ((0 : Int), ()))), ((L.rep (x0.len : Int).toNat (Ty.zero (.int .u32))), ()))).bind fun d2 => match d2 with
    | .inl y1 =>
      some ((y1.2.1, ()), ())
    | .inr e => nomatch e
  else
    none
noncomputable def c67r : Ctr := { ins := [.v (.sl (.int .u32))], out := [(.sl (.int .u32))], F := fun x => g67r x.1, fr := 1 }
noncomputable def l67r : List (Nat × Code) := loopsIn (Try.f67.body.getD .skip) 0
theorem w67r_L0 (x : h67r_L0.T) : runK Try.prog Γ t67r (inlN Try.prog Γ t67r 3) a67r (l67r.getD 0 (0, .skip)).2 0 (pkSh h67r_L0 x) (loopCls (sh := h67r_L0) (es := e67r_L0)) = (s67r_L0 x : Option _) := by kernel_rfl
theorem v67r : LoopsOk Try.prog Γ t67r a67r (loopsIn (Try.f67.body.getD .skip) 0) := by
  have e : loopsIn (Try.f67.body.getD .skip) 0 = [(0, (l67r.getD 0 (0, .skip)).2)] := by kernel_rfl
  rw [e]
  exact ⟨fun x d h => (w67r_L0 x).trans h, trivial⟩
theorem r67r (x : InsT c67r.ins) : fnK Try.prog Γ t67r a67r Try.f67 c67r x = g67r x.1 := by kernel_rfl
theorem k67r : TblOk Try.prog t67r := tblOk_nil
theorem o67r : Holds Try.prog 67 c67r := fn_holds (code := Try.f67.body.getD .skip) (by kernel_rfl) gamOk k67r Try.func67 (by kernel_rfl) (by kernel_rfl) (by kernel_rfl) (by kernel_rfl) v67r (fun x _ h => (r67r x).trans h)
/-! ### 19: loop.example/g00076/laws.toDevState -/
noncomputable def t19r : Tbl := [(67, [], c67r)]
noncomputable def a19r : Nat → Option LoopAnn := fun _ => none
noncomputable def g19r (x0 : Ta2) : Option Ta15 :=
  (g67r x0.1).bind fun y1 =>
    (g67r x0.2.1).bind fun y2 =>
      some (((y1.1.1, y2.1), ()), ())
noncomputable def c19r : Ctr := { ins := [.v Ty19], out := [Ty19], F := fun x => g19r x.1, fr := 1 }
theorem v19r : LoopsOk Try.prog Γ t19r a19r (loopsIn (Try.f19.body.getD .skip) 0) := loopsOk_nil (by kernel_rfl)
theorem r19r (x : InsT c19r.ins) : fnK Try.prog Γ t19r a19r Try.f19 c19r x = g19r x.1 := by kernel_rfl
theorem k19r : TblOk Try.prog t19r := tblOk_cons o67r (tblOk_nil)
theorem o19r : Holds Try.prog 19 c19r := fn_holds (code := Try.f19.body.getD .skip) (by kernel_rfl) gamOk k19r Try.func19 (by kernel_rfl) (by kernel_rfl) (by kernel_rfl) (by kernel_rfl) v19r (fun x _ h => (r19r x).trans h)
/-! ### 26: loop.example/g00076/spec.DevOpen -/
noncomputable def t26r : Tbl := [(65, [], c65), (66, [], c66w), (74, [], c74w)]
abbrev h26r_L0 : Shape := { slots := [(2, .bx 2 0), (4, .bx 4 0), (5, .v .bool)], boxes := [(2, .cells [.exo (.int .u32) 60128, .exo (.int .u32) 60129]), (4, .cells [.exo (.int .u32) 60256, .exo (.int .u32) 60257])] }
abbrev e26r_L0 : List (XT × Shape) := [(.exit 0, { slots := [(2, .bx 2 0), (4, .bx 4 0), (5, .v .bool)], boxes := [(2, .cells [.exo (.int .u32) 60128, .exo (.int .u32) 60129]), (4, .cells [.exo (.int .u32) 60256, .exo (.int .u32) 60257])] })]
noncomputable def q26r_L0 (t5 : Bool) (b2_0 : (L Int)) (b2_1 : (L Int)) (b4_0 : (L Int)) (b4_1 : (L Int)) : Option (Ta24 ⊕ (Ta24 ⊕ Empty)) :=
  bif (decide ((b4_1.len : Int) < (8 : Int))) then
    bif (decide ((b4_0.len : Int) > (0 : Int))) then
      bif (decide ((0 : Int) < (b4_0.len : Int))) then
        bif (decide (b4_1.len + (L.of (Ty.zero (.int .u32)) [(L.get b4_0 (0 : Int).toNat)]).len ≤ most)) then
          bif (decide (0 ≤ (1 : Int)) && (decide ((1 : Int) ≤ (b4_0.len : Int)) && decide ((b4_0.len : Int) ≤ (b4_0.len : Int)))) then
            (g74w (L.cut b4_0 (1 : Int).toNat (b4_0.len : Int).toNat)).bind fun y2 =>
              some (.inl (((), ((), (true, ()))), ((b2_0, (b2_1, ())), ((y2.1.1, ((L.app b4_1 (L.of (Ty.zero (.int .u32)) [(L.get b4_0 (0 : Int).toNat)])), ())), ()))))
          else
            none
        else
          none
      else
        none
    else
      some (.inr (.inl (((), ((), (t5, ()))), ((b2_0, (b2_1, ())), ((b4_0, (b4_1, ())), ())))))
  else
    some (.inr (.inl (((), ((), (t5, ()))), ((b2_0, (b2_1, ())), ((b4_0, (b4_1, ())), ())))))
noncomputable def s26r_L0 (x : Ta24) : Option (Ta24 ⊕ (Ta24 ⊕ Empty)) := q26r_L0 x.1.2.2.1 x.2.1.1 x.2.1.2.1 x.2.2.1.1 x.2.2.1.2.1
noncomputable def a26r : Nat → Option LoopAnn := fun c => bif Nat.beq c 0 then some (.fix h26r_L0 e26r_L0 s26r_L0) else none
noncomputable def g26r (x0 : Ta2) : Option ((Ta2 × (Bool × Unit)) × Unit) :=
  bif (!(f65 x0)) then
    some ((((nilL (.int .u32)), ((nilL (.int .u32)), ())), false, ()), ())
  else
    (g66w x0).bind fun y1 =>
      (fixO s26r_L0 (((), ((), (false, ()))), (((nilL (.int .u32)), ((nilL (.int .u32)), ())), y1.1))).bind fun d4 => match d4 with
      | .inl y3 =>
        some ((y3.2.2.1, y3.1.2.2.1, ()), ())
      | .inr e => nomatch e
noncomputable def c26r : Ctr := { ins := [.v Ty19], out := [Ty19, .bool], F := fun x => g26r x.1, fr := 1 }
noncomputable def l26r : List (Nat × Code) := loopsIn (Try.f26.body.getD .skip) 0
theorem w26r_L0 (x : h26r_L0.T) : runK Try.prog Γ t26r (inlN Try.prog Γ t26r 3) a26r (l26r.getD 0 (0, .skip)).2 0 (pkSh h26r_L0 x) (loopCls (sh := h26r_L0) (es := e26r_L0)) = (s26r_L0 x : Option _) := by kernel_rfl
theorem v26r : LoopsOk Try.prog Γ t26r a26r (loopsIn (Try.f26.body.getD .skip) 0) := by
  have e : loopsIn (Try.f26.body.getD .skip) 0 = [(0, (l26r.getD 0 (0, .skip)).2)] := by kernel_rfl
  rw [e]
  exact ⟨fun x d h => (w26r_L0 x).trans h, trivial⟩
theorem r26r (x : InsT c26r.ins) : fnK Try.prog Γ t26r a26r Try.f26 c26r x = g26r x.1 := by kernel_rfl
theorem k26r : TblOk Try.prog t26r := tblOk_cons o65 (tblOk_cons o66w (tblOk_cons o74w (tblOk_nil)))
theorem o26r : Holds Try.prog 26 c26r := fn_holds (code := Try.f26.body.getD .skip) (by kernel_rfl) gamOk k26r Try.func26 (by kernel_rfl) (by kernel_rfl) (by kernel_rfl) (by kernel_rfl) v26r (fun x _ h => (r26r x).trans h)
/-! ### 108: slices.Clone[[]uint32,uint32] -/
noncomputable def t108w : Tbl := []
noncomputable def a108w : Nat → Option LoopAnn := fun _ => none
noncomputable def g108w (x0 : (L Int)) : Option Ta1 :=
  bif x0.nil then
    some (((nilL (.int .u32)), ()), ())
  else
    bif (decide ((L.of (Ty.zero (.int .u32)) []).len + x0.len ≤ most)) then
      some (((L.app (L.of (Ty.zero (.int .u32)) []) x0), ()), ())
    else
      none
noncomputable def c108w : Ctr := { ins := [.v (.sl (.int .u32))], out := [(.sl (.int .u32))], F := fun x => g108w x.1, fr := 2 }
theorem v108w : LoopsOk Try.prog Γ t108w a108w (loopsIn (Try.f108.body.getD .skip) 0) := loopsOk_nil (by kernel_rfl)
theorem r108w (x : InsT c108w.ins) : fnK Try.prog Γ t108w a108w Try.f108 c108w x = g108w x.1 := by kernel_rfl
theorem k108w : TblOk Try.prog t108w := tblOk_nil
theorem o108w : Holds Try.prog 108 c108w := fn_holds (code := Try.f108.body.getD .skip) (by kernel_rfl) gamOk k108w Try.func108 (by kernel_rfl) (by kernel_rfl) (by kernel_rfl) (by kernel_rfl) v108w (fun x _ h => (r108w x).trans h)
/-! ### 69: loop.example/g00076/impl.cloneDev -/
noncomputable def t69w : Tbl := [(108, [], c108w)]
noncomputable def a69w : Nat → Option LoopAnn := fun _ => none
noncomputable def g69w (x0 : Ta2) : Option Ta15 :=
  (g108w x0.1).bind fun y1 =>
    (g108w x0.2.1).bind fun y2 =>
      some (((y1.1.1, y2.1), ()), ())
noncomputable def c69w : Ctr := { ins := [.v Ty19], out := [Ty19], F := fun x => g69w x.1, fr := 2 }
theorem v69w : LoopsOk Try.prog Γ t69w a69w (loopsIn (Try.f69.body.getD .skip) 0) := loopsOk_nil (by kernel_rfl)
theorem r69w (x : InsT c69w.ins) : fnK Try.prog Γ t69w a69w Try.f69 c69w x = g69w x.1 := by kernel_rfl
theorem k69w : TblOk Try.prog t69w := tblOk_cons o108w (tblOk_nil)
theorem o69w : Holds Try.prog 69 c69w := fn_holds (code := Try.f69.body.getD .skip) (by kernel_rfl) gamOk k69w Try.func69 (by kernel_rfl) (by kernel_rfl) (by kernel_rfl) (by kernel_rfl) v69w (fun x _ h => (r69w x).trans h)
/-! ### 109: slices.Concat[[]uint32,uint32] -/
noncomputable def t109w : Tbl := []
abbrev h109w_L0 : Shape := { slots := [(0, .v (.sl (.sl (.int .u32)))), (3, .v (.int .i64)), (9, .v (.sl (.sl (.int .u32)))), (10, .v (.int .i64)), (11, .v (.int .i64))], boxes := [] }
abbrev e109w_L0 : List (XT × Shape) := [(.exit 0, { slots := [(0, .v (.sl (.sl (.int .u32)))), (3, .v (.int .i64))], boxes := [] })]
noncomputable def q109w_L0 (t0 : (L (L Int))) (t3 : Int) (t9 : (L (L Int))) (t10 : Int) (t11 : Int) : Option (Ta22 ⊕ ((((L (L Int)) × (Int × Unit)) × Unit) ⊕ Empty)) :=
  bif (decide (t11 < t10)) then
    bif (decide (0 ≤ t11) && decide (t11 < (t9.len : Int))) then
      bif (decide ((wI (t3 + ((L.get t9 t11.toNat).len : Int))) < (0 : Int))) then
        none
      else
        some (.inl ((t0, ((wI (t3 + ((L.get t9 t11.toNat).len : Int))), (t9, (t10, ((wI (t11 + (1 : Int))), ()))))), ()))
    else
      none
  else
    some (.inr (.inl ((t0, (t3, ())), ())))
noncomputable def s109w_L0 (x : Ta22) : Option (Ta22 ⊕ ((((L (L Int)) × (Int × Unit)) × Unit) ⊕ Empty)) := q109w_L0 x.1.1 x.1.2.1 x.1.2.2.1 x.1.2.2.2.1 x.1.2.2.2.2.1
abbrev h109w_L2 : Shape := { slots := [(6, .exo (.int .u32) 50006), (25, .v (.sl (.sl (.int .u32)))), (26, .v (.int .i64)), (27, .v (.int .i64))], boxes := [] }
abbrev e109w_L2 : List (XT × Shape) := [(.exit 2, { slots := [(6, .exo (.int .u32) 50006)], boxes := [] })]
noncomputable def q109w_L2 (t6 : (L Int)) (t25 : (L (L Int))) (t26 : Int) (t27 : Int) : Option (Ta20 ⊕ (Ta1 ⊕ Empty)) :=
  bif (decide (t27 < t26)) then
    bif (decide (0 ≤ t27) && decide (t27 < (t25.len : Int))) then
      bif (decide (t6.len + (L.get t25 t27.toNat).len ≤ most)) then
        some (.inl (((L.app t6 (L.get t25 t27.toNat)), (t25, (t26, ((wI (t27 + (1 : Int))), ())))), ()))
      else
        none
    else
      none
  else
    some (.inr (.inl ((t6, ()), ())))
noncomputable def s109w_L2 (x : Ta20) : Option (Ta20 ⊕ (Ta1 ⊕ Empty)) := q109w_L2 x.1.1 x.1.2.1 x.1.2.2.1 x.1.2.2.2.1
noncomputable def a109w : Nat → Option LoopAnn := fun c => bif Nat.beq c 0 then some (.fix h109w_L0 e109w_L0 s109w_L0) else bif Nat.beq c 2 then some (.fix h109w_L2 e109w_L2 s109w_L2) else none
noncomputable def g109w (x0 : (L (L Int))) : Option Ta1 :=
  (fixO s109w_L0 ((x0, ((0 : Int), (x0, ((x0.len : Int), ((0 : Int), ()))))), ())).bind fun d6 => match d6 with
  | .inl y1 =>
    bif (decide (y1.1.2.1 < (0 : Int))) then
      none
    else
      bif (decide ((wI (y1.1.2.1 - (0 : Int))) > (0 : Int))) then
        bif (decide (0 < (wI (y1.1.2.1 - (0 : Int)))) && decide ((wI (y1.1.2.1 - (0 : Int))) ≤ most)) then
          (fixO s109w_L2 (((zL (.int .u32)), (y1.1.1, ((y1.1.1.len : Int), ((0 : Int), ())))), ())).bind fun d3 => match d3 with
          | .inl y2 =>
            some ((y2.1.1, ()), ())
          | .inr e => nomatch e
        else
          none
      else
        (fixO s109w_L2 (((nilL (.int .u32)), (y1.1.1, ((y1.1.1.len : Int), ((0 : Int), ())))), ())).bind fun d5 => match d5 with
        | .inl y4 =>
          some ((y4.1.1, ()), ())
        | .inr e => nomatch e
  | .inr e => nomatch e
noncomputable def c109w : Ctr := { ins := [.v (.sl (.sl (.int .u32)))], out := [(.sl (.int .u32))], F := fun x => g109w x.1, fr := 2 }
noncomputable def l109w : List (Nat × Code) := loopsIn (Try.f109.body.getD .skip) 0
theorem w109w_L0 (x : h109w_L0.T) : runK Try.prog Γ t109w (inlN Try.prog Γ t109w 3) a109w (l109w.getD 0 (0, .skip)).2 0 (pkSh h109w_L0 x) (loopCls (sh := h109w_L0) (es := e109w_L0)) = (s109w_L0 x : Option _) := by kernel_rfl
theorem w109w_L2 (x : h109w_L2.T) : runK Try.prog Γ t109w (inlN Try.prog Γ t109w 3) a109w (l109w.getD 1 (0, .skip)).2 2 (pkSh h109w_L2 x) (loopCls (sh := h109w_L2) (es := e109w_L2)) = (s109w_L2 x : Option _) := by kernel_rfl
theorem v109w : LoopsOk Try.prog Γ t109w a109w (loopsIn (Try.f109.body.getD .skip) 0) := by
  have e : loopsIn (Try.f109.body.getD .skip) 0 = [(0, (l109w.getD 0 (0, .skip)).2), (2, (l109w.getD 1 (0, .skip)).2)] := by kernel_rfl
  rw [e]
  exact ⟨fun x d h => (w109w_L0 x).trans h, fun x d h => (w109w_L2 x).trans h, trivial⟩
theorem r109w (x : InsT c109w.ins) : fnK Try.prog Γ t109w a109w Try.f109 c109w x = g109w x.1 := by kernel_rfl
theorem k109w : TblOk Try.prog t109w := tblOk_nil
theorem o109w : Holds Try.prog 109 c109w := fn_holds (code := Try.f109.body.getD .skip) (by kernel_rfl) gamOk k109w Try.func109 (by kernel_rfl) (by kernel_rfl) (by kernel_rfl) (by kernel_rfl) v109w (fun x _ h => (r109w x).trans h)
/-! ### 27: loop.example/g00076/impl.DevOpen -/
noncomputable def t27r : Tbl := [(68, [], c68), (69, [], c69w), (109, [], c109w)]
noncomputable def a27r : Nat → Option LoopAnn := fun _ => none
noncomputable def g27r (x0 : Ta2) : Option ((Ta2 × (Bool × Unit)) × Unit) :=
  bif (!(f68 x0)) then
    some ((((nilL (.int .u32)), ((nilL (.int .u32)), ())), false, ()), ())
  else
    (g69w x0).bind fun y1 =>
      bif (decide (0 ≤ (0 : Int)) && (decide ((0 : Int) ≤ (if (wI ((8 : Int) - (y1.1.1.2.1.len : Int))) < (y1.1.1.1.len : Int) then (wI ((8 : Int) - (y1.1.1.2.1.len : Int))) else (y1.1.1.1.len : Int))) && decide ((if (wI ((8 : Int) - (y1.1.1.2.1.len : Int))) < (y1.1.1.1.len : Int) then (wI ((8 : Int) - (y1.1.1.2.1.len : Int))) else (y1.1.1.1.len : Int)) ≤ (y1.1.1.1.len : Int)))) then
        (g109w (L.of (Ty.zero (.sl (.int .u32))) [y1.1.1.2.1, (L.cut y1.1.1.1 (0 : Int).toNat (if (wI ((8 : Int) - (y1.1.1.2.1.len : Int))) < (y1.1.1.1.len : Int) then (wI ((8 : Int) - (y1.1.1.2.1.len : Int))) else (y1.1.1.1.len : Int)).toNat)])).bind fun y2 =>
          bif (decide (0 ≤ (if (wI ((8 : Int) - (y1.1.1.2.1.len : Int))) < (y1.1.1.1.len : Int) then (wI ((8 : Int) - (y1.1.1.2.1.len : Int))) else (y1.1.1.1.len : Int))) && (decide ((if (wI ((8 : Int) - (y1.1.1.2.1.len : Int))) < (y1.1.1.1.len : Int) then (wI ((8 : Int) - (y1.1.1.2.1.len : Int))) else (y1.1.1.1.len : Int)) ≤ (y1.1.1.1.len : Int)) && decide ((y1.1.1.1.len : Int) ≤ (y1.1.1.1.len : Int)))) then
            some ((((L.cut y1.1.1.1 (if (wI ((8 : Int) - (y1.1.1.2.1.len : Int))) < (y1.1.1.1.len : Int) then (wI ((8 : Int) - (y1.1.1.2.1.len : Int))) else (y1.1.1.1.len : Int)).toNat (y1.1.1.1.len : Int).toNat), y2.1), (decide ((if (wI ((8 : Int) - (y1.1.1.2.1.len : Int))) < (y1.1.1.1.len : Int) then (wI ((8 : Int) - (y1.1.1.2.1.len : Int))) else (y1.1.1.1.len : Int)) > (0 : Int))), ()), ())
          else
            none
      else
        none
noncomputable def c27r : Ctr := { ins := [.v Ty19], out := [Ty19, .bool], F := fun x => g27r x.1, fr := 1 }
theorem v27r : LoopsOk Try.prog Γ t27r a27r (loopsIn (Try.f27.body.getD .skip) 0) := loopsOk_nil (by kernel_rfl)
theorem r27r (x : InsT c27r.ins) : fnK Try.prog Γ t27r a27r Try.f27 c27r x = g27r x.1 := by kernel_rfl
theorem k27r : TblOk Try.prog t27r := tblOk_cons o68 (tblOk_cons o69w (tblOk_cons o109w (tblOk_nil)))
theorem o27r : Holds Try.prog 27 c27r := fn_holds (code := Try.f27.body.getD .skip) (by kernel_rfl) gamOk k27r Try.func27 (by kernel_rfl) (by kernel_rfl) (by kernel_rfl) (by kernel_rfl) v27r (fun x _ h => (r27r x).trans h)
/-! ### 73: loop.example/g00076/laws.heldUint32S -/
noncomputable def t73 : Tbl := []
abbrev h73_L0 : Shape := { slots := [(0, .v (.sl (.int .u32))), (1, .v (.int .i64)), (5, .v (.int .i64))], boxes := [] }
abbrev e73_L0 : List (XT × Shape) := [(.ret, { slots := [(4, .v (.int .i64))], boxes := [] }), (.exit 0, { slots := [(1, .v (.int .i64))], boxes := [] })]
noncomputable def q73_L0 (t0 : (L Int)) (t1 : Int) (t5 : Int) : Option (Ta12 ⊕ (((Int × Unit) × Unit) ⊕ (((Int × Unit) × Unit) ⊕ Empty))) :=
  bif (decide (t5 < (t0.len : Int))) then
    bif (decide (0 ≤ t5) && decide (t5 < (t0.len : Int))) then
      bif ((L.get t0 t5.toNat) != (IntKind.wrap .u32 (t1))) then
        some (.inr (.inl (((-1 : Int), ()), ())))
      else
        some (.inl ((t0, ((wI (t1 + (1 : Int))), ((wI (t5 + (1 : Int))), ()))), ()))
    else
      none
  else
    some (.inr (.inr (.inl ((t1, ()), ()))))
noncomputable def s73_L0 (x : Ta12) : Option (Ta12 ⊕ (((Int × Unit) × Unit) ⊕ (((Int × Unit) × Unit) ⊕ Empty))) := q73_L0 x.1.1 x.1.2.1 x.1.2.2.1
noncomputable def a73 : Nat → Option LoopAnn := fun c => bif Nat.beq c 0 then some (.fix h73_L0 e73_L0 s73_L0) else none
noncomputable def g73 (x0 : (L Int)) (x1 : Int) : Option ((Int × Unit) × Unit) :=
  (fixO s73_L0 ((x0, (x1, ((0 : Int), ()))), ())).bind fun d2 => match d2 with
  | .inl y1 =>
    some ((y1.1.1, ()), ())
  | .inr (.inl y1) =>
    some ((y1.1.1, ()), ())
  | .inr (.inr e) => nomatch e
noncomputable def c73 : Ctr := { ins := [.v (.sl (.int .u32)), .v (.int .i64)], out := [(.int .i64)], F := fun x => g73 x.1 x.2.1 }
noncomputable def l73 : List (Nat × Code) := loopsIn (Try.f73.body.getD .skip) 0
theorem w73_L0 (x : h73_L0.T) : runK Try.prog Γ t73 (inlN Try.prog Γ t73 3) a73 (l73.getD 0 (0, .skip)).2 0 (pkSh h73_L0 x) (loopCls (sh := h73_L0) (es := e73_L0)) = (s73_L0 x : Option _) := by kernel_rfl
theorem v73 : LoopsOk Try.prog Γ t73 a73 (loopsIn (Try.f73.body.getD .skip) 0) := by
  have e : loopsIn (Try.f73.body.getD .skip) 0 = [(0, (l73.getD 0 (0, .skip)).2)] := by kernel_rfl
  rw [e]
  exact ⟨fun x d h => (w73_L0 x).trans h, trivial⟩
theorem r73 (x : InsT c73.ins) : fnK Try.prog Γ t73 a73 Try.f73 c73 x = g73 x.1 x.2.1 := by kernel_rfl
theorem k73 : TblOk Try.prog t73 := tblOk_nil
theorem o73 : Holds Try.prog 73 c73 := fn_holds (code := Try.f73.body.getD .skip) (by kernel_rfl) gamOk k73 Try.func73 (by kernel_rfl) (by kernel_rfl) (by kernel_rfl) (by kernel_rfl) v73 (fun x _ h => (r73 x).trans h)
/-! ### 23: loop.example/g00076/laws.heldDevState -/
noncomputable def t23 : Tbl := [(73, [], c73)]
noncomputable def a23 : Nat → Option LoopAnn := fun _ => none
noncomputable def g23 (x0 : Ta2) (x1 : Int) : Option ((Int × Unit) × Unit) :=
  (g73 x0.1 x1).bind fun y1 =>
    bif (decide (y1.1.1 < (0 : Int))) then
      some (((-1 : Int), ()), ())
    else
      (g73 x0.2.1 y1.1.1).bind fun y2 =>
        bif (decide (y2.1.1 < (0 : Int))) then
          some (((-1 : Int), ()), ())
        else
          some ((y2.1.1, ()), ())
noncomputable def c23 : Ctr := { ins := [.v Ty19, .v (.int .i64)], out := [(.int .i64)], F := fun x => g23 x.1 x.2.1 }
theorem v23 : LoopsOk Try.prog Γ t23 a23 (loopsIn (Try.f23.body.getD .skip) 0) := loopsOk_nil (by kernel_rfl)
theorem r23 (x : InsT c23.ins) : fnK Try.prog Γ t23 a23 Try.f23 c23 x = g23 x.1 x.2.1 := by kernel_rfl
theorem k23 : TblOk Try.prog t23 := tblOk_cons o73 (tblOk_nil)
theorem o23 : Holds Try.prog 23 c23 := fn_holds (code := Try.f23.body.getD .skip) (by kernel_rfl) gamOk k23 Try.func23 (by kernel_rfl) (by kernel_rfl) (by kernel_rfl) (by kernel_rfl) v23 (fun x _ h => (r23 x).trans h)
/-! ### 7: loop.example/g00076/laws.FnExactDevOpen -/
noncomputable def t7 : Tbl := [(17, [], c17), (19, [], c19r), (26, [], c26r), (27, [], c27r), (21, [], c21), (72, [], c72), (23, [], c23)]
noncomputable def a7 : Nat → Option LoopAnn := fun _ => none
noncomputable def g7 (x0 : Ta2) : Option ((Bool × Unit) × Unit) :=
  bif (decide ((f17 x0 (1048576 : Int)) < (0 : Int))) then
    some ((true, ()), ())
  else
    (g19r x0).bind fun y1 =>
      (g26r y1.1.1).bind fun y2 =>
        (g19r x0).bind fun y3 =>
          (g27r y3.1.1).bind fun y4 =>
            (g21 y4.1.1 y2.1.1).bind fun y5 =>
              bif (!y5.1.1) then
                some ((false, ()), ())
              else
                bif (!(y4.1.2.1 == y2.1.2.1)) then
                  some ((false, ()), ())
                else
                  (g19r x0).bind fun y6 =>
                    (g21 y3.1.1 y6.1.1).bind fun y7 =>
                      bif (!y7.1.1) then
                        some ((false, ()), ())
                      else
                        (g72 y3.1.1.1 (1 : Int)).bind fun y8 =>
                          (g72 y3.1.1.2.1 y8.1.1).bind fun y9 =>
                            bif (decide (y9.1.1 < (0 : Int))) then
                              some ((false, ()), ())
                            else
                              (g21 y4.1.1 y2.1.1).bind fun y10 =>
                                bif (!y10.1.1) then
                                  some ((false, ()), ())
                                else
                                  bif (!(y4.1.2.1 == y2.1.2.1)) then
                                    some ((false, ()), ())
                                  else
                                    (g72 y4.1.1.1 (1 : Int)).bind fun y11 =>
                                      (g72 y4.1.1.2.1 y11.1.1).bind fun y12 =>
                                        (g23 (y11.2.1, y12.2) (1 : Int)).bind fun y13 =>
                                          bif (decide (y13.1.1 < (0 : Int))) then
                                            some ((false, ()), ())
                                          else
                                            bif (y13.1.1 != y12.1.1) then
                                              some ((false, ()), ())
                                            else
                                              (g19r x0).bind fun y14 =>
                                                (g27r y14.1.1).bind fun y15 =>
                                                  (g21 y15.1.1 y2.1.1).bind fun y16 =>
                                                    bif (!y16.1.1) then
                                                      some ((false, ()), ())
                                                    else
                                                      bif (!(y15.1.2.1 == y2.1.2.1)) then
                                                        some ((false, ()), ())
                                                      else
                                                        (g23 (y11.2.1, y12.2) (1 : Int)).bind fun y17 =>
                                                          bif (decide (y17.1.1 < (0 : Int))) then
                                                            some ((false, ()), ())
                                                          else
                                                            bif (y17.1.1 != y12.1.1) then
                                                              some ((false, ()), ())
                                                            else
                                                              some ((true, ()), ())
noncomputable def c7 : Ctr := { ins := [.v Ty19], out := [.bool], F := fun x => g7 x.1 }
theorem v7 : LoopsOk Try.prog Γ t7 a7 (loopsIn (Try.f7.body.getD .skip) 0) := loopsOk_nil (by kernel_rfl)
theorem r7 (x : InsT c7.ins) : fnK Try.prog Γ t7 a7 Try.f7 c7 x = g7 x.1 := by kernel_rfl
theorem k7 : TblOk Try.prog t7 := tblOk_cons o17 (tblOk_cons o19r (tblOk_cons o26r (tblOk_cons o27r (tblOk_cons o21 (tblOk_cons o72 (tblOk_cons o23 (tblOk_nil)))))))
theorem o7 : Holds Try.prog 7 c7 := fn_holds (code := Try.f7.body.getD .skip) (by kernel_rfl) gamOk k7 Try.func7 (by kernel_rfl) (by kernel_rfl) (by kernel_rfl) (by kernel_rfl) v7 (fun x _ h => (r7 x).trans h)
end Go.VE.VFnExactDevOpen
