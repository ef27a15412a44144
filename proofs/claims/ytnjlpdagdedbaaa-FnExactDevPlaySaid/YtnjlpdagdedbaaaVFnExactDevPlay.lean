import Derived.Test.YtnjlpdagdedbaaaVgZ
import Derived.Test.YtnjlpdagdedbaaaProg
/- What the functions do that laws.FnExactDevPlay reaches, as plain functions, and that they do it. -/
set_option linter.unusedVariables false
set_option linter.unusedSimpArgs false
namespace Go.VE.VFnExactDevPlay
open Go.Proofs Go.VE
abbrev Ta0 : Type := (L (Int × (Int × Unit)))
abbrev Ty1 : Ty := (.pair (.int .u32) .unit)
abbrev Ty2 : Ty := (.pair (.int .i64) .unit)
abbrev Ta3 : Type := (((L Int) × Unit) × Unit)
abbrev Ta4 : Type := ((L Int) × ((L Int) × Unit))
abbrev Ta5 : Type := (Unit × (Int × (Int × Unit)))
abbrev Ta6 : Type := (Bool × (Int × (Int × Unit)))
abbrev Ty7 : Ty := (.pair (.sl (.int .u32)) .unit)
abbrev Ta8 : Type := (Unit × (Unit × (Bool × Unit)))
abbrev Ta9 : Type := (L Ta6)
abbrev Ta10 : Type := (Ta0 × Unit)
abbrev Ta11 : Type := ((L (L Int)) × (Int × (Int × Unit)))
abbrev Ta12 : Type := (Ta4 × Unit)
abbrev Ta13 : Type := (Ta0 × (Int × Unit))
abbrev Ta14 : Type := (Ta9 × Unit)
abbrev Ta15 : Type := (Int × Ta11)
abbrev Ty16 : Ty := (.pair (.int .i64) Ty1)
abbrev Ty17 : Ty := (.pair (.int .u32) Ty2)
abbrev Ta18 : Type := ((L Int) × Ta11)
abbrev Ta19 : Type := (Ta0 × (Int × (Int × Unit)))
abbrev Ta20 : Type := (Ta9 × (Int × Unit))
abbrev Ta21 : Type := ((Int × Unit) × Ta10)
abbrev Ta22 : Type := (Ta0 × (Unit × (Int × Unit)))
abbrev Ty23 : Ty := (.sl Ty16)
abbrev Ta24 : Type := (Ta14 × Unit)
abbrev Ty25 : Ty := (.pair (.sl (.int .u32)) Ty7)
abbrev Ta26 : Type := (Ta18 × Unit)
abbrev Ta27 : Type := (Ta0 × Ta5)
abbrev Ta28 : Type := (Ta9 × (Int × (Int × Unit)))
abbrev Ty29 : Ty := (.pair .bool Ty17)
abbrev Ta30 : Type := (Ta9 × (Unit × (Int × Unit)))
abbrev Ta31 : Type := ((Int × Unit) × Ta14)
abbrev Ta32 : Type := ((L (L Int)) × Ta15)
abbrev Ty33 : Ty := (.sl Ty29)
abbrev Ta34 : Type := (Ta27 × Unit)
abbrev Ta35 : Type := (Ta5 × Ta10)
abbrev Ta36 : Type := (Ta28 × Unit)
abbrev Ta37 : Type := (Ta32 × Unit)
abbrev Ta38 : Type := (Ta0 × Ta13)
abbrev Ta39 : Type := (Ta4 × Ta12)
abbrev Ta40 : Type := (Ta5 × Ta14)
abbrev Ta41 : Type := (Ta38 × Unit)
abbrev Ta42 : Type := (Ta0 × Ta20)
abbrev Ta43 : Type := (Ta9 × Ta19)
abbrev Ta44 : Type := (Ta9 × Ta20)
abbrev Ta45 : Type := (Ta22 × Ta10)
abbrev Ta46 : Type := (Ta42 × Unit)
abbrev Ta47 : Type := (Ta0 × Ta30)
abbrev Ta48 : Type := (Unit × Ta43)
abbrev Ta49 : Type := (Ta44 × Unit)
abbrev Ta50 : Type := (Ta8 × Ta39)
abbrev Ta51 : Type := (Ta47 × Ta12)
abbrev Ta52 : Type := (Ta48 × Ta12)
def Γ : TypeId → Option Ty := fun e => bif Nat.beq e 26 then some (.sl (.int .u32)) else bif Nat.beq e 29 then some (.int .u32) else bif Nat.beq e 57 then some Ty16 else bif Nat.beq e 59 then some Ty29 else bif Nat.beq e 102 then some Ty16 else none
theorem gamOk : GamOk Try.prog Γ := gamOk_of [26, 29, 57, 59, 102] (fun e ty h => by
  simp only [Γ] at h
  cases h26 : Nat.beq e 26 with
  | true => simp [Nat.eq_of_beq_eq_true h26]
  | false =>
  simp only [h26, cond_false] at h
  cases h29 : Nat.beq e 29 with
  | true => simp [Nat.eq_of_beq_eq_true h29]
  | false =>
  simp only [h29, cond_false] at h
  cases h57 : Nat.beq e 57 with
  | true => simp [Nat.eq_of_beq_eq_true h57]
  | false =>
  simp only [h57, cond_false] at h
  cases h59 : Nat.beq e 59 with
  | true => simp [Nat.eq_of_beq_eq_true h59]
  | false =>
  simp only [h59, cond_false] at h
  cases h102 : Nat.beq e 102 with
  | true => simp [Nat.eq_of_beq_eq_true h102]
  | false =>
  simp only [h102, cond_false] at h
  cases h) (by kernel_rfl)
/-! ### 28: loop.example/g00076/laws.szDevOpS -/
noncomputable def t28 : Tbl := []
noncomputable def a28 : Nat → Option LoopAnn := fun _ => none
noncomputable def g28 (x0 : Ta0) (x1 : Int) : Option ((Int × Unit) × Unit) :=
  bif (decide ((wI (x1 - (x0.len : Int))) < (0 : Int))) then
    some (((-1 : Int), ()), ())
  else
    some (((wI (x1 - (x0.len : Int))), ()), ())
noncomputable def f28 (x0 : Ta0) (x1 : Int) : Int :=
  bif (decide ((wI (x1 - (x0.len : Int))) < (0 : Int))) then
    (-1 : Int)
  else
    (wI (x1 - (x0.len : Int)))
theorem n28 (x0 : Ta0) (x1 : Int) : g28 x0 x1 = some ((f28 x0 x1, ()), ()) := by
  simp only [g28, f28, pull1]
noncomputable def c28 : Ctr := { ins := [.v Ty23, .v (.int .i64)], out := [(.int .i64)], F := fun x => some ((f28 x.1 x.2.1, ()), ()) }
theorem v28 : LoopsOk Try.prog Γ t28 a28 (loopsIn (Try.f28.body.getD .skip) 0) := loopsOk_nil (by kernel_rfl)
theorem r28 (x : InsT c28.ins) : fnK Try.prog Γ t28 a28 Try.f28 c28 x = g28 x.1 x.2.1 := by kernel_rfl
theorem k28 : TblOk Try.prog t28 := tblOk_nil
theorem o28 : Holds Try.prog 28 c28 := fn_holds (code := Try.f28.body.getD .skip) (by kernel_rfl) gamOk k28 Try.func28 (by kernel_rfl) (by kernel_rfl) (by kernel_rfl) (by kernel_rfl) v28 (fun x _ h => (r28 x).trans ((n28 x.1 x.2.1).trans h))
/-! ### 77: loop.example/g00076/laws.toDevOp -/
noncomputable def t77 : Tbl := []
noncomputable def a77 : Nat → Option LoopAnn := fun _ => none
noncomputable def g77 (x0 : (Int × (Int × Unit))) : Option (((Int × (Int × Unit)) × Unit) × Unit) :=
  some ((x0, ()), ())
noncomputable def f77 (x0 : (Int × (Int × Unit))) : (Int × (Int × Unit)) :=
  x0
theorem n77 (x0 : (Int × (Int × Unit))) : g77 x0 = some ((f77 x0, ()), ()) := by
  simp only [g77, f77, pull1]
noncomputable def c77 : Ctr := { ins := [.v Ty16], out := [Ty16], F := fun x => some ((f77 x.1, ()), ()) }
theorem v77 : LoopsOk Try.prog Γ t77 a77 (loopsIn (Try.f77.body.getD .skip) 0) := loopsOk_nil (by kernel_rfl)
theorem r77 (x : InsT c77.ins) : fnK Try.prog Γ t77 a77 Try.f77 c77 x = g77 x.1 := by kernel_rfl
theorem k77 : TblOk Try.prog t77 := tblOk_nil
theorem o77 : Holds Try.prog 77 c77 := fn_holds (code := Try.f77.body.getD .skip) (by kernel_rfl) gamOk k77 Try.func77 (by kernel_rfl) (by kernel_rfl) (by kernel_rfl) (by kernel_rfl) v77 (fun x _ h => (r77 x).trans ((n77 x.1).trans h))
/-! ### 60: loop.example/g00076/spec.l01In -/
noncomputable def t60 : Tbl := []
noncomputable def a60 : Nat → Option LoopAnn := fun _ => none
noncomputable def g60 (x0 : Int) (x1 : Int) (x2 : Int) : Option ((Bool × Unit) × Unit) :=
  bif (decide (x0 ≥ x1)) then
    some (((decide (x0 ≤ x2)), ()), ())
  else
    some ((false, ()), ())
noncomputable def f60 (x0 : Int) (x1 : Int) (x2 : Int) : Bool :=
  bif (decide (x0 ≥ x1)) then
    (decide (x0 ≤ x2))
  else
    false
theorem n60 (x0 : Int) (x1 : Int) (x2 : Int) : g60 x0 x1 x2 = some ((f60 x0 x1 x2, ()), ()) := by
  simp only [g60, f60, pull1]
noncomputable def c60 : Ctr := { ins := [.v (.int .i64), .v (.int .i64), .v (.int .i64)], out := [.bool], F := fun x => some ((f60 x.1 x.2.1 x.2.2.1, ()), ()) }
theorem v60 : LoopsOk Try.prog Γ t60 a60 (loopsIn (Try.f60.body.getD .skip) 0) := loopsOk_nil (by kernel_rfl)
theorem r60 (x : InsT c60.ins) : fnK Try.prog Γ t60 a60 Try.f60 c60 x = g60 x.1 x.2.1 x.2.2.1 := by kernel_rfl
theorem k60 : TblOk Try.prog t60 := tblOk_nil
theorem o60 : Holds Try.prog 60 c60 := fn_holds (code := Try.f60.body.getD .skip) (by kernel_rfl) gamOk k60 Try.func60 (by kernel_rfl) (by kernel_rfl) (by kernel_rfl) (by kernel_rfl) v60 (fun x _ h => (r60 x).trans ((n60 x.1 x.2.1 x.2.2.1).trans h))
/-! ### 65: loop.example/g00076/spec.DevOk -/
noncomputable def t65 : Tbl := []
noncomputable def a65 : Nat → Option LoopAnn := fun _ => none
noncomputable def g65 (x0 : Ta4) : Option ((Bool × Unit) × Unit) :=
  bif (decide ((x0.1.len : Int) ≤ (8 : Int))) then
    some (((decide ((x0.2.1.len : Int) ≤ (8 : Int))), ()), ())
  else
    some ((false, ()), ())
noncomputable def f65 (x0 : Ta4) : Bool :=
  bif (decide ((x0.1.len : Int) ≤ (8 : Int))) then
    (decide ((x0.2.1.len : Int) ≤ (8 : Int)))
  else
    false
theorem n65 (x0 : Ta4) : g65 x0 = some ((f65 x0, ()), ()) := by
  simp only [g65, f65, pull1]
noncomputable def c65 : Ctr := { ins := [.v Ty25], out := [.bool], F := fun x => some ((f65 x.1, ()), ()) }
theorem v65 : LoopsOk Try.prog Γ t65 a65 (loopsIn (Try.f65.body.getD .skip) 0) := loopsOk_nil (by kernel_rfl)
theorem r65 (x : InsT c65.ins) : fnK Try.prog Γ t65 a65 Try.f65 c65 x = g65 x.1 := by kernel_rfl
theorem k65 : TblOk Try.prog t65 := tblOk_nil
theorem o65 : Holds Try.prog 65 c65 := fn_holds (code := Try.f65.body.getD .skip) (by kernel_rfl) gamOk k65 Try.func65 (by kernel_rfl) (by kernel_rfl) (by kernel_rfl) (by kernel_rfl) v65 (fun x _ h => (r65 x).trans ((n65 x.1).trans h))
/-! ### 74: loop.example/g00076/spec.l11List -/
noncomputable def t74w : Tbl := []
noncomputable def a74w : Nat → Option LoopAnn := fun _ => none
noncomputable def g74w (x0 : (L Int)) : Option Ta3 :=
  bif (decide ((L.of (Ty.zero (.int .u32)) []).len + x0.len ≤ most)) then
    some (((L.app (L.of (Ty.zero (.int .u32)) []) x0), ()), ())
  else
    none
noncomputable def c74w : Ctr := { ins := [.v (.sl (.int .u32))], out := [(.sl (.int .u32))], F := fun x => g74w x.1, fr := 2 }
theorem v74w : LoopsOk Try.prog Γ t74w a74w (loopsIn (Try.f74.body.getD .skip) 0) := loopsOk_nil (by kernel_rfl)
theorem r74w (x : InsT c74w.ins) : fnK Try.prog Γ t74w a74w Try.f74 c74w x = g74w x.1 := by kernel_rfl
theorem k74w : TblOk Try.prog t74w := tblOk_nil
theorem o74w : Holds Try.prog 74 c74w := fn_holds (code := Try.f74.body.getD .skip) (by kernel_rfl) gamOk k74w Try.func74 (by kernel_rfl) (by kernel_rfl) (by kernel_rfl) (by kernel_rfl) v74w (fun x _ h => (r74w x).trans h)
/-! ### 66: loop.example/g00076/spec.l12Copy -/
noncomputable def t66w : Tbl := [(74, [], c74w)]
noncomputable def a66w : Nat → Option LoopAnn := fun _ => none
noncomputable def g66w (x0 : Ta4) : Option (Ta12 × Unit) :=
  (g74w x0.1).bind fun y1 =>
    (g74w x0.2.1).bind fun y2 =>
      some (((y1.1.1, y2.1), ()), ())
noncomputable def c66w : Ctr := { ins := [.v Ty25], out := [Ty25], F := fun x => g66w x.1, fr := 2 }
theorem v66w : LoopsOk Try.prog Γ t66w a66w (loopsIn (Try.f66.body.getD .skip) 0) := loopsOk_nil (by kernel_rfl)
theorem r66w (x : InsT c66w.ins) : fnK Try.prog Γ t66w a66w Try.f66 c66w x = g66w x.1 := by kernel_rfl
theorem k66w : TblOk Try.prog t66w := tblOk_cons o74w (tblOk_nil)
theorem o66w : Holds Try.prog 66 c66w := fn_holds (code := Try.f66.body.getD .skip) (by kernel_rfl) gamOk k66w Try.func66 (by kernel_rfl) (by kernel_rfl) (by kernel_rfl) (by kernel_rfl) v66w (fun x _ h => (r66w x).trans h)
/-! ### 61: loop.example/g00076/impl.within -/
noncomputable def t61 : Tbl := []
noncomputable def a61 : Nat → Option LoopAnn := fun _ => none
noncomputable def g61 (x0 : Int) (x1 : Int) (x2 : Int) : Option ((Bool × Unit) × Unit) :=
  bif (decide (x0 ≥ x1)) then
    some (((decide (x0 ≤ x2)), ()), ())
  else
    some ((false, ()), ())
noncomputable def f61 (x0 : Int) (x1 : Int) (x2 : Int) : Bool :=
  bif (decide (x0 ≥ x1)) then
    (decide (x0 ≤ x2))
  else
    false
theorem n61 (x0 : Int) (x1 : Int) (x2 : Int) : g61 x0 x1 x2 = some ((f61 x0 x1 x2, ()), ()) := by
  simp only [g61, f61, pull1]
noncomputable def c61 : Ctr := { ins := [.v (.int .i64), .v (.int .i64), .v (.int .i64)], out := [.bool], F := fun x => some ((f61 x.1 x.2.1 x.2.2.1, ()), ()) }
theorem v61 : LoopsOk Try.prog Γ t61 a61 (loopsIn (Try.f61.body.getD .skip) 0) := loopsOk_nil (by kernel_rfl)
theorem r61 (x : InsT c61.ins) : fnK Try.prog Γ t61 a61 Try.f61 c61 x = g61 x.1 x.2.1 x.2.2.1 := by kernel_rfl
theorem k61 : TblOk Try.prog t61 := tblOk_nil
theorem o61 : Holds Try.prog 61 c61 := fn_holds (code := Try.f61.body.getD .skip) (by kernel_rfl) gamOk k61 Try.func61 (by kernel_rfl) (by kernel_rfl) (by kernel_rfl) (by kernel_rfl) v61 (fun x _ h => (r61 x).trans ((n61 x.1 x.2.1 x.2.2.1).trans h))
/-! ### 79: loop.example/g00076/impl.DevPlay$1 -/
noncomputable def t79 : Tbl := [(61, [], c61)]
noncomputable def a79 : Nat → Option LoopAnn := fun _ => none
noncomputable def g79 (x0 : (Int × (Int × Unit))) : Option ((Bool × Unit) × Unit) :=
  some (((!(f61 x0.1 (0 : Int) (2 : Int))), ()), ())
noncomputable def f79 (x0 : (Int × (Int × Unit))) : Bool :=
  (!(f61 x0.1 (0 : Int) (2 : Int)))
theorem n79 (x0 : (Int × (Int × Unit))) : g79 x0 = some ((f79 x0, ()), ()) := by
  simp only [g79, f79, pull1]
noncomputable def c79 : Ctr := { ins := [.v Ty16], out := [.bool], F := fun x => some ((f79 x.1, ()), ()) }
theorem v79 : LoopsOk Try.prog Γ t79 a79 (loopsIn (Try.f79.body.getD .skip) 0) := loopsOk_nil (by kernel_rfl)
theorem r79 (x : InsT c79.ins) : fnK Try.prog Γ t79 a79 Try.f79 c79 x = g79 x.1 := by kernel_rfl
theorem k79 : TblOk Try.prog t79 := tblOk_cons o61 (tblOk_nil)
theorem o79 : Holds Try.prog 79 c79 := fn_holds (code := Try.f79.body.getD .skip) (by kernel_rfl) gamOk k79 Try.func79 (by kernel_rfl) (by kernel_rfl) (by kernel_rfl) (by kernel_rfl) v79 (fun x _ h => (r79 x).trans ((n79 x.1).trans h))
/-! ### 110: slices.IndexFunc[[]loop.example/g00076/impl.DevOp,loop.example/g00076/impl.DevOp] -/
noncomputable def t110_79 : Tbl := [(79, [], c79)]
abbrev h110_79_L0 : Shape := { slots := [(0, .v Ty23), (1, .clo 79 []), (7, .v (.int .i64)), (8, .v (.int .i64))], boxes := [] }
abbrev e110_79_L0 : List (XT × Shape) := [(.ret, { slots := [(4, .v (.int .i64))], boxes := [] }), (.exit 0, { slots := [], boxes := [] })]
noncomputable def q110_79_L0 (t0 : Ta0) (t7 : Int) (t8 : Int) : Option (Ta34 ⊕ (((Int × Unit) × Unit) ⊕ ((Unit × Unit) ⊕ Empty))) :=
  bif (decide (t8 < t7)) then
    bif (decide (0 ≤ t8) && decide (t8 < (t0.len : Int))) then
      bif (f79 (L.get t0 t8.toNat)) then
        some (.inr (.inl ((t8, ()), ())))
      else
        some (.inl ((t0, ((), (t7, ((wI (t8 + (1 : Int))), ())))), ()))
    else
      none
  else
    some (.inr (.inr (.inl ((), ()))))
noncomputable def s110_79_L0 (x : Ta34) : Option (Ta34 ⊕ (((Int × Unit) × Unit) ⊕ ((Unit × Unit) ⊕ Empty))) := q110_79_L0 x.1.1 x.1.2.2.1 x.1.2.2.2.1
noncomputable def a110_79 : Nat → Option LoopAnn := fun c => bif Nat.beq c 0 then some (.fix h110_79_L0 e110_79_L0 s110_79_L0) else none
noncomputable def g110_79 (x0 : Ta0) (x1 : Unit) : Option ((Int × Unit) × Unit) :=
  (fixO s110_79_L0 ((x0, ((), ((x0.len : Int), ((0 : Int), ())))), ())).bind fun d2 => match d2 with
  | .inl y1 =>
    some ((y1.1.1, ()), ())
  | .inr (.inl y1) =>
    some (((-1 : Int), ()), ())
  | .inr (.inr e) => nomatch e
noncomputable def c110_79 : Ctr := { ins := [.v Ty23, .clo 79 []], out := [(.int .i64)], F := fun x => g110_79 x.1 x.2.1 }
noncomputable def l110_79 : List (Nat × Code) := loopsIn (Try.f110.body.getD .skip) 0
theorem w110_79_L0 (x : h110_79_L0.T) : runK Try.prog Γ t110_79 (inlN Try.prog Γ t110_79 3) a110_79 (l110_79.getD 0 (0, .skip)).2 0 (pkSh h110_79_L0 x) (loopCls (sh := h110_79_L0) (es := e110_79_L0)) = (s110_79_L0 x : Option _) := by kernel_rfl
theorem v110_79 : LoopsOk Try.prog Γ t110_79 a110_79 (loopsIn (Try.f110.body.getD .skip) 0) := by
  have e : loopsIn (Try.f110.body.getD .skip) 0 = [(0, (l110_79.getD 0 (0, .skip)).2)] := by kernel_rfl
  rw [e]
  exact ⟨fun x d h => (w110_79_L0 x).trans h, trivial⟩
theorem r110_79 (x : InsT c110_79.ins) : fnK Try.prog Γ t110_79 a110_79 Try.f110 c110_79 x = g110_79 x.1 x.2.1 := by kernel_rfl
theorem k110_79 : TblOk Try.prog t110_79 := tblOk_cons o79 (tblOk_nil)
theorem o110_79 : Holds Try.prog 110 c110_79 := fn_holds (code := Try.f110.body.getD .skip) (by kernel_rfl) gamOk k110_79 Try.func110 (by kernel_rfl) (by kernel_rfl) (by kernel_rfl) (by kernel_rfl) v110_79 (fun x _ h => (r110_79 x).trans h)
/-! ### 78: slices.ContainsFunc[[]loop.example/g00076/impl.DevOp,loop.example/g00076/impl.DevOp] -/
noncomputable def t78_79 : Tbl := [(110, [79], c110_79)]
noncomputable def a78_79 : Nat → Option LoopAnn := fun _ => none
noncomputable def g78_79 (x0 : Ta0) (x1 : Unit) : Option ((Bool × Unit) × Unit) :=
  (g110_79 x0 ()).bind fun y1 =>
    some (((decide (y1.1.1 ≥ (0 : Int))), ()), ())
noncomputable def c78_79 : Ctr := { ins := [.v Ty23, .clo 79 []], out := [.bool], F := fun x => g78_79 x.1 x.2.1 }
theorem v78_79 : LoopsOk Try.prog Γ t78_79 a78_79 (loopsIn (Try.f78.body.getD .skip) 0) := loopsOk_nil (by kernel_rfl)
theorem r78_79 (x : InsT c78_79.ins) : fnK Try.prog Γ t78_79 a78_79 Try.f78 c78_79 x = g78_79 x.1 x.2.1 := by kernel_rfl
theorem k78_79 : TblOk Try.prog t78_79 := tblOk_cons o110_79 (tblOk_nil)
theorem o78_79 : Holds Try.prog 78 c78_79 := fn_holds (code := Try.f78.body.getD .skip) (by kernel_rfl) gamOk k78_79 Try.func78 (by kernel_rfl) (by kernel_rfl) (by kernel_rfl) (by kernel_rfl) v78_79 (fun x _ h => (r78_79 x).trans h)
/-! ### 80: loop.example/g00076/laws.eqDevSaid -/
noncomputable def t80 : Tbl := []
noncomputable def a80 : Nat → Option LoopAnn := fun _ => none
noncomputable def g80 (x0 : Ta6) (x1 : Ta6) : Option ((Bool × Unit) × Unit) :=
  bif (!(x0.1 == x1.1)) then
    some ((false, ()), ())
  else
    bif (x0.2.1 != x1.2.1) then
      some ((false, ()), ())
    else
      bif (x0.2.2.1 != x1.2.2.1) then
        some ((false, ()), ())
      else
        some ((true, ()), ())
noncomputable def f80 (x0 : Ta6) (x1 : Ta6) : Bool :=
  bif (!(x0.1 == x1.1)) then
    false
  else
    bif (x0.2.1 != x1.2.1) then
      false
    else
      bif (x0.2.2.1 != x1.2.2.1) then
        false
      else
        true
theorem n80 (x0 : Ta6) (x1 : Ta6) : g80 x0 x1 = some ((f80 x0 x1, ()), ()) := by
  simp only [g80, f80, pull1]
noncomputable def c80 : Ctr := { ins := [.v Ty29, .v Ty29], out := [.bool], F := fun x => some ((f80 x.1 x.2.1, ()), ()) }
theorem v80 : LoopsOk Try.prog Γ t80 a80 (loopsIn (Try.f80.body.getD .skip) 0) := loopsOk_nil (by kernel_rfl)
theorem r80 (x : InsT c80.ins) : fnK Try.prog Γ t80 a80 Try.f80 c80 x = g80 x.1 x.2.1 := by kernel_rfl
theorem k80 : TblOk Try.prog t80 := tblOk_nil
theorem o80 : Holds Try.prog 80 c80 := fn_holds (code := Try.f80.body.getD .skip) (by kernel_rfl) gamOk k80 Try.func80 (by kernel_rfl) (by kernel_rfl) (by kernel_rfl) (by kernel_rfl) v80 (fun x _ h => (r80 x).trans ((n80 x.1 x.2.1).trans h))
/-! ### 32: loop.example/g00076/laws.eqDevSaidS -/
noncomputable def t32 : Tbl := [(80, [], c80)]
abbrev h32_L0 : Shape := { slots := [(0, .v Ty33), (1, .v Ty33), (5, .v (.int .i64))], boxes := [] }
abbrev e32_L0 : List (XT × Shape) := [(.ret, { slots := [(4, .v .bool)], boxes := [] }), (.exit 0, { slots := [], boxes := [] })]
noncomputable def q32_L0 (t0 : Ta9) (t1 : Ta9) (t5 : Int) : Option (Ta49 ⊕ (((Bool × Unit) × Unit) ⊕ ((Unit × Unit) ⊕ Empty))) :=
  bif (decide (t5 < (t0.len : Int))) then
    bif (decide (0 ≤ t5) && decide (t5 < (t0.len : Int))) then
      bif (decide (0 ≤ t5) && decide (t5 < (t1.len : Int))) then
        bif (!(f80 (L.get t0 t5.toNat) (L.get t1 t5.toNat))) then
          some (.inr (.inl ((false, ()), ())))
        else
          some (.inl ((t0, (t1, ((wI (t5 + (1 : Int))), ()))), ()))
      else
        none
    else
      none
  else
    some (.inr (.inr (.inl ((), ()))))
noncomputable def s32_L0 (x : Ta49) : Option (Ta49 ⊕ (((Bool × Unit) × Unit) ⊕ ((Unit × Unit) ⊕ Empty))) := q32_L0 x.1.1 x.1.2.1 x.1.2.2.1
noncomputable def a32 : Nat → Option LoopAnn := fun c => bif Nat.beq c 0 then some (.fix h32_L0 e32_L0 s32_L0) else none
noncomputable def g32 (x0 : Ta9) (x1 : Ta9) : Option ((Bool × Unit) × Unit) :=
  bif ((x0.len : Int) != (x1.len : Int)) then
    some ((false, ()), ())
  else
    (fixO s32_L0 ((x0, (x1, ((0 : Int), ()))), ())).bind fun d2 => match d2 with
    | .inl y1 =>
      some ((y1.1.1, ()), ())
    | .inr (.inl y1) =>
      some ((true, ()), ())
    | .inr (.inr e) => nomatch e
noncomputable def c32 : Ctr := { ins := [.v Ty33, .v Ty33], out := [.bool], F := fun x => g32 x.1 x.2.1 }
noncomputable def l32 : List (Nat × Code) := loopsIn (Try.f32.body.getD .skip) 0
theorem w32_L0 (x : h32_L0.T) : runK Try.prog Γ t32 (inlN Try.prog Γ t32 3) a32 (l32.getD 0 (0, .skip)).2 0 (pkSh h32_L0 x) (loopCls (sh := h32_L0) (es := e32_L0)) = (s32_L0 x : Option _) := by kernel_rfl
theorem v32 : LoopsOk Try.prog Γ t32 a32 (loopsIn (Try.f32.body.getD .skip) 0) := by
  have e : loopsIn (Try.f32.body.getD .skip) 0 = [(0, (l32.getD 0 (0, .skip)).2)] := by kernel_rfl
  rw [e]
  exact ⟨fun x d h => (w32_L0 x).trans h, trivial⟩
theorem r32 (x : InsT c32.ins) : fnK Try.prog Γ t32 a32 Try.f32 c32 x = g32 x.1 x.2.1 := by kernel_rfl
theorem k32 : TblOk Try.prog t32 := tblOk_cons o80 (tblOk_nil)
theorem o32 : Holds Try.prog 32 c32 := fn_holds (code := Try.f32.body.getD .skip) (by kernel_rfl) gamOk k32 Try.func32 (by kernel_rfl) (by kernel_rfl) (by kernel_rfl) (by kernel_rfl) v32 (fun x _ h => (r32 x).trans h)
/-! ### 81: loop.example/g00076/laws.eqDevOp -/
noncomputable def t81 : Tbl := []
noncomputable def a81 : Nat → Option LoopAnn := fun _ => none
noncomputable def g81 (x0 : (Int × (Int × Unit))) (x1 : (Int × (Int × Unit))) : Option ((Bool × Unit) × Unit) :=
  bif (x0.1 != x1.1) then
    some ((false, ()), ())
  else
    bif (x0.2.1 != x1.2.1) then
      some ((false, ()), ())
    else
      some ((true, ()), ())
noncomputable def f81 (x0 : (Int × (Int × Unit))) (x1 : (Int × (Int × Unit))) : Bool :=
  bif (x0.1 != x1.1) then
    false
  else
    bif (x0.2.1 != x1.2.1) then
      false
    else
      true
theorem n81 (x0 : (Int × (Int × Unit))) (x1 : (Int × (Int × Unit))) : g81 x0 x1 = some ((f81 x0 x1, ()), ()) := by
  simp only [g81, f81, pull1]
noncomputable def c81 : Ctr := { ins := [.v Ty16, .v Ty16], out := [.bool], F := fun x => some ((f81 x.1 x.2.1, ()), ()) }
theorem v81 : LoopsOk Try.prog Γ t81 a81 (loopsIn (Try.f81.body.getD .skip) 0) := loopsOk_nil (by kernel_rfl)
theorem r81 (x : InsT c81.ins) : fnK Try.prog Γ t81 a81 Try.f81 c81 x = g81 x.1 x.2.1 := by kernel_rfl
theorem k81 : TblOk Try.prog t81 := tblOk_nil
theorem o81 : Holds Try.prog 81 c81 := fn_holds (code := Try.f81.body.getD .skip) (by kernel_rfl) gamOk k81 Try.func81 (by kernel_rfl) (by kernel_rfl) (by kernel_rfl) (by kernel_rfl) v81 (fun x _ h => (r81 x).trans ((n81 x.1 x.2.1).trans h))
/-! ### 33: loop.example/g00076/laws.eqDevOpS -/
noncomputable def t33 : Tbl := [(81, [], c81)]
abbrev h33_L0 : Shape := { slots := [(0, .v Ty23), (1, .v Ty23), (5, .v (.int .i64))], boxes := [] }
abbrev e33_L0 : List (XT × Shape) := [(.ret, { slots := [(4, .v .bool)], boxes := [] }), (.exit 0, { slots := [], boxes := [] })]
noncomputable def q33_L0 (t0 : Ta0) (t1 : Ta0) (t5 : Int) : Option (Ta41 ⊕ (((Bool × Unit) × Unit) ⊕ ((Unit × Unit) ⊕ Empty))) :=
  bif (decide (t5 < (t0.len : Int))) then
    bif (decide (0 ≤ t5) && decide (t5 < (t0.len : Int))) then
      bif (decide (0 ≤ t5) && decide (t5 < (t1.len : Int))) then
        bif (!(f81 (L.get t0 t5.toNat) (L.get t1 t5.toNat))) then
          some (.inr (.inl ((false, ()), ())))
        else
          some (.inl ((t0, (t1, ((wI (t5 + (1 : Int))), ()))), ()))
      else
        none
    else
      none
  else
    some (.inr (.inr (.inl ((), ()))))
noncomputable def s33_L0 (x : Ta41) : Option (Ta41 ⊕ (((Bool × Unit) × Unit) ⊕ ((Unit × Unit) ⊕ Empty))) := q33_L0 x.1.1 x.1.2.1 x.1.2.2.1
noncomputable def a33 : Nat → Option LoopAnn := fun c => bif Nat.beq c 0 then some (.fix h33_L0 e33_L0 s33_L0) else none
noncomputable def g33 (x0 : Ta0) (x1 : Ta0) : Option ((Bool × Unit) × Unit) :=
  bif ((x0.len : Int) != (x1.len : Int)) then
    some ((false, ()), ())
  else
    (fixO s33_L0 ((x0, (x1, ((0 : Int), ()))), ())).bind fun d2 => match d2 with
    | .inl y1 =>
      some ((y1.1.1, ()), ())
    | .inr (.inl y1) =>
      some ((true, ()), ())
    | .inr (.inr e) => nomatch e
noncomputable def c33 : Ctr := { ins := [.v Ty23, .v Ty23], out := [.bool], F := fun x => g33 x.1 x.2.1 }
noncomputable def l33 : List (Nat × Code) := loopsIn (Try.f33.body.getD .skip) 0
theorem w33_L0 (x : h33_L0.T) : runK Try.prog Γ t33 (inlN Try.prog Γ t33 3) a33 (l33.getD 0 (0, .skip)).2 0 (pkSh h33_L0 x) (loopCls (sh := h33_L0) (es := e33_L0)) = (s33_L0 x : Option _) := by kernel_rfl
theorem v33 : LoopsOk Try.prog Γ t33 a33 (loopsIn (Try.f33.body.getD .skip) 0) := by
  have e : loopsIn (Try.f33.body.getD .skip) 0 = [(0, (l33.getD 0 (0, .skip)).2)] := by kernel_rfl
  rw [e]
  exact ⟨fun x d h => (w33_L0 x).trans h, trivial⟩
theorem r33 (x : InsT c33.ins) : fnK Try.prog Γ t33 a33 Try.f33 c33 x = g33 x.1 x.2.1 := by kernel_rfl
theorem k33 : TblOk Try.prog t33 := tblOk_cons o81 (tblOk_nil)
theorem o33 : Holds Try.prog 33 c33 := fn_holds (code := Try.f33.body.getD .skip) (by kernel_rfl) gamOk k33 Try.func33 (by kernel_rfl) (by kernel_rfl) (by kernel_rfl) (by kernel_rfl) v33 (fun x _ h => (r33 x).trans h)
/-! ### 34: loop.example/g00076/laws.markDevOpS -/
noncomputable def t34 : Tbl := []
abbrev h34_L0 : Shape := { slots := [(0, .ms 100000000), (1, .v (.int .i64)), (5, .v (.int .i64))], boxes := [(100000000, .arr Ty16)] }
abbrev e34_L0 : List (XT × Shape) := [(.exit 0, { slots := [(1, .v (.int .i64))], boxes := [(100000000, .arr Ty16)] })]
noncomputable def q34_L0 (t1 : Int) (t5 : Int) (r100000000 : Ta0) : Option (Ta35 ⊕ (Ta21 ⊕ Empty)) :=
  bif (decide (t5 < (r100000000.len : Int))) then
    bif (decide (0 ≤ t5) && decide (t5 < (r100000000.len : Int))) then
      bif (decide (0 ≤ t5) && decide (t5 < ((L.set r100000000 t5.toNat (t1, (L.get r100000000 t5.toNat).2)).len : Int))) then
        some (.inl (((), ((wI ((wI (t1 + (1 : Int))) + (1 : Int))), ((wI (t5 + (1 : Int))), ()))), ((L.set (L.set r100000000 t5.toNat (t1, (L.get r100000000 t5.toNat).2)) t5.toNat ((L.get (L.set r100000000 t5.toNat (t1, (L.get r100000000 t5.toNat).2)) t5.toNat).1, ((IntKind.wrap .u32 ((wI (t1 + (1 : Int))))), ()))), ())))
      else
        none
    else
      none
  else
    some (.inr (.inl ((t1, ()), (r100000000, ()))))
noncomputable def s34_L0 (x : Ta35) : Option (Ta35 ⊕ (Ta21 ⊕ Empty)) := q34_L0 x.1.2.1 x.1.2.2.1 x.2.1
noncomputable def a34 : Nat → Option LoopAnn := fun c => bif Nat.beq c 0 then some (.fix h34_L0 e34_L0 s34_L0) else none
noncomputable def g34 (x0 : Ta0) (x1 : Int) : Option Ta21 :=
  (fixO s34_L0 (((), (x1, ((0 : Int), ()))), (x0, ()))).bind fun d2 => match d2 with
  | .inl y1 =>
    some ((y1.1.1, ()), (y1.2.1, ()))
  | .inr e => nomatch e
noncomputable def c34 : Ctr := { ins := [.ow Ty16, .v (.int .i64)], out := [(.int .i64)], F := fun x => g34 x.1 x.2.1 }
noncomputable def l34 : List (Nat × Code) := loopsIn (Try.f34.body.getD .skip) 0
theorem w34_L0 (x : h34_L0.T) : runK Try.prog Γ t34 (inlN Try.prog Γ t34 3) a34 (l34.getD 0 (0, .skip)).2 0 (pkSh h34_L0 x) (loopCls (sh := h34_L0) (es := e34_L0)) = (s34_L0 x : Option _) := by kernel_rfl
theorem v34 : LoopsOk Try.prog Γ t34 a34 (loopsIn (Try.f34.body.getD .skip) 0) := by
  have e : loopsIn (Try.f34.body.getD .skip) 0 = [(0, (l34.getD 0 (0, .skip)).2)] := by kernel_rfl
  rw [e]
  exact ⟨fun x d h => (w34_L0 x).trans h, trivial⟩
theorem r34 (x : InsT c34.ins) : fnK Try.prog Γ t34 a34 Try.f34 c34 x = g34 x.1 x.2.1 := by kernel_rfl
theorem k34 : TblOk Try.prog t34 := tblOk_nil
theorem o34 : Holds Try.prog 34 c34 := fn_holds (code := Try.f34.body.getD .skip) (by kernel_rfl) gamOk k34 Try.func34 (by kernel_rfl) (by kernel_rfl) (by kernel_rfl) (by kernel_rfl) v34 (fun x _ h => (r34 x).trans h)
/-! ### 30: loop.example/g00076/laws.toDevOpS -/
noncomputable def t30r : Tbl := [(77, [], c77)]
abbrev h30r_L0 : Shape := { slots := [(0, .v Ty23), (3, .ms 7), (4, .v (.int .i64))], boxes := [(7, .arr Ty16)] }
abbrev e30r_L0 : List (XT × Shape) := [(.exit 0, { slots := [(3, .ms 7)], boxes := [(7, .arr Ty16)] })]
noncomputable def q30r_L0 (t0 : Ta0) (t4 : Int) (r7 : Ta0) : Option (Ta45 ⊕ (((Unit × Unit) × Ta10) ⊕ Empty)) :=
  bif (decide (t4 < (t0.len : Int))) then
    bif (decide (0 ≤ t4) && decide (t4 < (t0.len : Int))) then
      bif (decide (0 ≤ t4) && decide (t4 < (r7.len : Int))) then
        some (.inl ((t0, ((), ((wI (t4 + (1 : Int))), ()))), ((L.set r7 t4.toNat (f77 (L.get t0 t4.toNat))), ())))
      else
        none
    else
      none
  else
    some (.inr (.inl (((), ()), (r7, ()))))
noncomputable def s30r_L0 (x : Ta45) : Option (Ta45 ⊕ (((Unit × Unit) × Ta10) ⊕ Empty)) := q30r_L0 x.1.1 x.1.2.2.1 x.2.1
noncomputable def a30r : Nat → Option LoopAnn := fun c => bif Nat.beq c 0 then some (.fix h30r_L0 e30r_L0 s30r_L0) else none
noncomputable def g30r (x0 : Ta0) : Option (Ta10 × Unit) :=
  bif (decide ((x0.len : Int) = (x0.len : Int)) && (decide (0 ≤ (x0.len : Int)) && (decide ((x0.len : Int) ≤ 2 ^ 40) && decide (16 * (x0.len : Int) ≤ 2 ^ 48)))) then
    (fixO s30r_L0 ((x0, ((), ((0 : Int), ()))), ((L.rep (x0.len : Int).toNat (Ty.zero Ty16)), ()))).bind fun d2 => match d2 with
    | .inl y1 =>
      some ((y1.2.1, ()), ())
    | .inr e => nomatch e
  else
    none
noncomputable def c30r : Ctr := { ins := [.v Ty23], out := [Ty23], F := fun x => g30r x.1, fr := 1 }
noncomputable def l30r : List (Nat × Code) := loopsIn (Try.f30.body.getD .skip) 0
theorem w30r_L0 (x : h30r_L0.T) : runK Try.prog Γ t30r (inlN Try.prog Γ t30r 3) a30r (l30r.getD 0 (0, .skip)).2 0 (pkSh h30r_L0 x) (loopCls (sh := h30r_L0) (es := e30r_L0)) = (s30r_L0 x : Option _) := by kernel_rfl
theorem v30r : LoopsOk Try.prog Γ t30r a30r (loopsIn (Try.f30.body.getD .skip) 0) := by
  have e : loopsIn (Try.f30.body.getD .skip) 0 = [(0, (l30r.getD 0 (0, .skip)).2)] := by kernel_rfl
  rw [e]
  exact ⟨fun x d h => (w30r_L0 x).trans h, trivial⟩
theorem r30r (x : InsT c30r.ins) : fnK Try.prog Γ t30r a30r Try.f30 c30r x = g30r x.1 := by kernel_rfl
theorem k30r : TblOk Try.prog t30r := tblOk_cons o77 (tblOk_nil)
theorem o30r : Holds Try.prog 30 c30r := fn_holds (code := Try.f30.body.getD .skip) (by kernel_rfl) gamOk k30r Try.func30 (by kernel_rfl) (by kernel_rfl) (by kernel_rfl) (by kernel_rfl) v30r (fun x _ h => (r30r x).trans h)
/-! ### 18: loop.example/g00076/spec.DevInput -/
noncomputable def t18w : Tbl := [(65, [], c65), (66, [], c66w)]
noncomputable def a18w : Nat → Option LoopAnn := fun _ => none
noncomputable def g18w (x0 : Ta4) (x1 : Int) : Option ((Ta4 × (Bool × Unit)) × Unit) :=
  bif (!(f65 x0)) then
    some ((((nilL (.int .u32)), ((nilL (.int .u32)), ())), false, ()), ())
  else
    (g66w x0).bind fun y1 =>
      bif ((x0.1.len : Int) == (8 : Int)) then
        some ((y1.1.1, false, ()), ())
      else
        bif (decide (y1.1.1.1.len + (L.of (Ty.zero (.int .u32)) [x1]).len ≤ most)) then
          some ((((L.app y1.1.1.1 (L.of (Ty.zero (.int .u32)) [x1])), y1.1.1.2), true, ()), ())
        else
          none
noncomputable def c18w : Ctr := { ins := [.v Ty25, .v (.int .u32)], out := [Ty25, .bool], F := fun x => g18w x.1 x.2.1, fr := 2 }
theorem v18w : LoopsOk Try.prog Γ t18w a18w (loopsIn (Try.f18.body.getD .skip) 0) := loopsOk_nil (by kernel_rfl)
theorem r18w (x : InsT c18w.ins) : fnK Try.prog Γ t18w a18w Try.f18 c18w x = g18w x.1 x.2.1 := by kernel_rfl
theorem k18w : TblOk Try.prog t18w := tblOk_cons o65 (tblOk_cons o66w (tblOk_nil))
theorem o18w : Holds Try.prog 18 c18w := fn_holds (code := Try.f18.body.getD .skip) (by kernel_rfl) gamOk k18w Try.func18 (by kernel_rfl) (by kernel_rfl) (by kernel_rfl) (by kernel_rfl) v18w (fun x _ h => (r18w x).trans h)
/-! ### 26: loop.example/g00076/spec.DevOpen -/
noncomputable def t26w : Tbl := [(65, [], c65), (66, [], c66w), (74, [], c74w)]
abbrev h26w_L0 : Shape := { slots := [(2, .bx 2 0), (4, .bx 4 0), (5, .v .bool)], boxes := [(2, .cells [.exo (.int .u32) 60128, .exo (.int .u32) 60129]), (4, .cells [.exo (.int .u32) 60256, .exo (.int .u32) 60257])] }
abbrev e26w_L0 : List (XT × Shape) := [(.exit 0, { slots := [(2, .bx 2 0), (4, .bx 4 0), (5, .v .bool)], boxes := [(2, .cells [.exo (.int .u32) 60128, .exo (.int .u32) 60129]), (4, .cells [.exo (.int .u32) 60256, .exo (.int .u32) 60257])] })]
noncomputable def q26w_L0 (t5 : Bool) (b2_0 : (L Int)) (b2_1 : (L Int)) (b4_0 : (L Int)) (b4_1 : (L Int)) : Option (Ta50 ⊕ (Ta50 ⊕ Empty)) :=
  bif (decide ((b4_1.len : Int) < (8 : Int))) then
    bif (decide ((b4_0.len : Int) > (0 : Int))) then
      bif (decide ((0 : Int) < (b4_0.len : Int))) then
        bif (decide (b4_1.len + (L.of (Ty.zero (.int .u32)) [(L.get b4_0 (0 : Int).toNat)]).len ≤ most)) then
          bif (decide (0 ≤ (1 : Int)) && (decide ((1 : Int) ≤ (b4_0.len : Int)) && decide ((b4_0.len : Int) ≤ (b4_0.len : Int)))) then
            (g74w (L.cut b4_0 (1 : Int).toNat (b4_0.len : Int).toNat)).bind fun y2 =>
              some (.inl (((), ((), (true, ()))), ((b2_0, (b2_1, ())), ((y2.1.1, ((L.app b4_1 (L.of (Ty.zero (.int .u32)) [(L.get b4_0 (0 : Int).toNat)])), ())), ()))))
          else
            none
        else
          none
      else
        none
    else
      some (.inr (.inl (((), ((), (t5, ()))), ((b2_0, (b2_1, ())), ((b4_0, (b4_1, ())), ())))))
  else
    some (.inr (.inl (((), ((), (t5, ()))), ((b2_0, (b2_1, ())), ((b4_0, (b4_1, ())), ())))))
noncomputable def s26w_L0 (x : Ta50) : Option (Ta50 ⊕ (Ta50 ⊕ Empty)) := q26w_L0 x.1.2.2.1 x.2.1.1 x.2.1.2.1 x.2.2.1.1 x.2.2.1.2.1
noncomputable def a26w : Nat → Option LoopAnn := fun c => bif Nat.beq c 0 then some (.fix h26w_L0 e26w_L0 s26w_L0) else none
noncomputable def g26w (x0 : Ta4) : Option ((Ta4 × (Bool × Unit)) × Unit) :=
  bif (!(f65 x0)) then
    some ((((nilL (.int .u32)), ((nilL (.int .u32)), ())), false, ()), ())
  else
    (g66w x0).bind fun y1 =>
      (fixO s26w_L0 (((), ((), (false, ()))), (((nilL (.int .u32)), ((nilL (.int .u32)), ())), y1.1))).bind fun d4 => match d4 with
      | .inl y3 =>
        some ((y3.2.2.1, y3.1.2.2.1, ()), ())
      | .inr e => nomatch e
noncomputable def c26w : Ctr := { ins := [.v Ty25], out := [Ty25, .bool], F := fun x => g26w x.1, fr := 2 }
noncomputable def l26w : List (Nat × Code) := loopsIn (Try.f26.body.getD .skip) 0
theorem w26w_L0 (x : h26w_L0.T) : runK Try.prog Γ t26w (inlN Try.prog Γ t26w 3) a26w (l26w.getD 0 (0, .skip)).2 0 (pkSh h26w_L0 x) (loopCls (sh := h26w_L0) (es := e26w_L0)) = (s26w_L0 x : Option _) := by kernel_rfl
theorem v26w : LoopsOk Try.prog Γ t26w a26w (loopsIn (Try.f26.body.getD .skip) 0) := by
  have e : loopsIn (Try.f26.body.getD .skip) 0 = [(0, (l26w.getD 0 (0, .skip)).2)] := by kernel_rfl
  rw [e]
  exact ⟨fun x d h => (w26w_L0 x).trans h, trivial⟩
theorem r26w (x : InsT c26w.ins) : fnK Try.prog Γ t26w a26w Try.f26 c26w x = g26w x.1 := by kernel_rfl
theorem k26w : TblOk Try.prog t26w := tblOk_cons o65 (tblOk_cons o66w (tblOk_cons o74w (tblOk_nil)))
theorem o26w : Holds Try.prog 26 c26w := fn_holds (code := Try.f26.body.getD .skip) (by kernel_rfl) gamOk k26w Try.func26 (by kernel_rfl) (by kernel_rfl) (by kernel_rfl) (by kernel_rfl) v26w (fun x _ h => (r26w x).trans h)
/-! ### 24: loop.example/g00076/spec.DevRead -/
noncomputable def t24w : Tbl := [(65, [], c65), (66, [], c66w), (74, [], c74w)]
noncomputable def a24w : Nat → Option LoopAnn := fun _ => none
noncomputable def g24w (x0 : Ta4) : Option ((Ta4 × (Int × (Int × Unit))) × Unit) :=
  bif (!(f65 x0)) then
    some ((((nilL (.int .u32)), ((nilL (.int .u32)), ())), (0 : Int), (3 : Int), ()), ())
  else
    (g66w x0).bind fun y1 =>
      bif ((x0.2.1.len : Int) == (0 : Int)) then
        some ((y1.1.1, (0 : Int), (1 : Int), ()), ())
      else
        bif (decide (0 ≤ (1 : Int)) && (decide ((1 : Int) ≤ (x0.2.1.len : Int)) && decide ((x0.2.1.len : Int) ≤ (x0.2.1.len : Int)))) then
          (g74w (L.cut x0.2.1 (1 : Int).toNat (x0.2.1.len : Int).toNat)).bind fun y2 =>
            bif (decide ((0 : Int) < (x0.2.1.len : Int))) then
              some (((y1.1.1.1, y2.1), (L.get x0.2.1 (0 : Int).toNat), (0 : Int), ()), ())
            else
              none
        else
          none
noncomputable def c24w : Ctr := { ins := [.v Ty25], out := [Ty25, (.int .u32), (.int .i64)], F := fun x => g24w x.1, fr := 2 }
theorem v24w : LoopsOk Try.prog Γ t24w a24w (loopsIn (Try.f24.body.getD .skip) 0) := loopsOk_nil (by kernel_rfl)
theorem r24w (x : InsT c24w.ins) : fnK Try.prog Γ t24w a24w Try.f24 c24w x = g24w x.1 := by kernel_rfl
theorem k24w : TblOk Try.prog t24w := tblOk_cons o65 (tblOk_cons o66w (tblOk_cons o74w (tblOk_nil)))
theorem o24w : Holds Try.prog 24 c24w := fn_holds (code := Try.f24.body.getD .skip) (by kernel_rfl) gamOk k24w Try.func24 (by kernel_rfl) (by kernel_rfl) (by kernel_rfl) (by kernel_rfl) v24w (fun x _ h => (r24w x).trans h)
/-! ### 29: loop.example/g00076/spec.DevPlay -/
noncomputable def t29r : Tbl := [(60, [], c60), (18, [], c18w), (26, [], c26w), (24, [], c24w)]
abbrev h29r_L0 : Shape := { slots := [(0, .v Ty23), (3, .exo Ty29 50003), (4, .v (.int .i64))], boxes := [] }
abbrev e29r_L0 : List (XT × Shape) := [(.ret, { slots := [(2, .exo Ty29 50002)], boxes := [] }), (.exit 0, { slots := [(0, .v Ty23), (3, .exo Ty29 50003)], boxes := [] })]
noncomputable def q29r_L0 (t0 : Ta0) (t3 : Ta9) (t4 : Int) : Option (Ta46 ⊕ (Ta24 ⊕ (((Ta0 × Ta14) × Unit) ⊕ Empty))) :=
  bif (decide (t4 < (t0.len : Int))) then
    bif (decide (0 ≤ t4) && decide (t4 < (t0.len : Int))) then
      bif (!(f60 (L.get t0 t4.toNat).1 (0 : Int) (2 : Int))) then
        some (.inr (.inl ((t3, ()), ())))
      else
        some (.inl ((t0, (t3, ((wI (t4 + (1 : Int))), ()))), ()))
    else
      none
  else
    some (.inr (.inr (.inl ((t0, (t3, ())), ()))))
noncomputable def s29r_L0 (x : Ta46) : Option (Ta46 ⊕ (Ta24 ⊕ (((Ta0 × Ta14) × Unit) ⊕ Empty))) := q29r_L0 x.1.1 x.1.2.1 x.1.2.2.1
abbrev h29r_L2 : Shape := { slots := [(0, .v Ty23), (3, .exo Ty29 50003), (5, .bx 5 0), (6, .v (.int .i64))], boxes := [(5, .cells [.exo (.int .u32) 60320, .exo (.int .u32) 60321])] }
abbrev e29r_L2 : List (XT × Shape) := [(.exit 2, { slots := [(3, .exo Ty29 50003)], boxes := [] })]
noncomputable def q29r_L2 (t0 : Ta0) (t3 : Ta9) (t6 : Int) (b5_0 : (L Int)) (b5_1 : (L Int)) : Option (Ta51 ⊕ (Ta24 ⊕ Empty)) :=
  bif (decide (t6 < (t0.len : Int))) then
    bif (decide (0 ≤ t6) && decide (t6 < (t0.len : Int))) then
      bif ((L.get t0 t6.toNat).1 == (0 : Int)) then
        bif (decide (0 ≤ t6) && decide (t6 < (t0.len : Int))) then
          (g18w (b5_0, (b5_1, ())) (L.get t0 t6.toNat).2.1).bind fun y2 =>
            bif (decide (t3.len + (L.of (Ty.zero Ty29) [(y2.1.2.1, ((0 : Int), ((0 : Int), ())))]).len ≤ most)) then
              some (.inl ((t0, ((L.app t3 (L.of (Ty.zero Ty29) [(y2.1.2.1, ((0 : Int), ((0 : Int), ())))])), ((), ((wI (t6 + (1 : Int))), ())))), (y2.1.1, ())))
            else
              none
        else
          none
      else
        bif ((L.get t0 t6.toNat).1 == (1 : Int)) then
          (g26w (b5_0, (b5_1, ()))).bind fun y3 =>
            bif (decide (t3.len + (L.of (Ty.zero Ty29) [(y3.1.2.1, ((0 : Int), ((0 : Int), ())))]).len ≤ most)) then
              some (.inl ((t0, ((L.app t3 (L.of (Ty.zero Ty29) [(y3.1.2.1, ((0 : Int), ((0 : Int), ())))])), ((), ((wI (t6 + (1 : Int))), ())))), (y3.1.1, ())))
            else
              none
        else
          (g24w (b5_0, (b5_1, ()))).bind fun y4 =>
            bif (decide (t3.len + (L.of (Ty.zero Ty29) [(false, y4.1.2)]).len ≤ most)) then
              some (.inl ((t0, ((L.app t3 (L.of (Ty.zero Ty29) [(false, y4.1.2)])), ((), ((wI (t6 + (1 : Int))), ())))), (y4.1.1, ())))
            else
              none
    else
      none
  else
    some (.inr (.inl ((t3, ()), ())))
noncomputable def s29r_L2 (x : Ta51) : Option (Ta51 ⊕ (Ta24 ⊕ Empty)) := q29r_L2 x.1.1 x.1.2.1 x.1.2.2.2.1 x.2.1.1 x.2.1.2.1
noncomputable def a29r : Nat → Option LoopAnn := fun c => bif Nat.beq c 0 then some (.fix h29r_L0 e29r_L0 s29r_L0) else bif Nat.beq c 2 then some (.fix h29r_L2 e29r_L2 s29r_L2) else none
noncomputable def g29r (x0 : Ta0) : Option Ta24 :=
  bif (decide ((x0.len : Int) > (1000 : Int))) then
    some (((L.of (Ty.zero Ty29) []), ()), ())
  else
    (fixO s29r_L0 ((x0, ((L.of (Ty.zero Ty29) []), ((0 : Int), ()))), ())).bind fun d7 => match d7 with
    | .inl y1 =>
      some ((y1.1.1, ()), ())
    | .inr (.inl y1) =>
      (fixO s29r_L2 ((y1.1.1, (y1.1.2.1, ((), ((0 : Int), ())))), (((nilL (.int .u32)), ((nilL (.int .u32)), ())), ()))).bind fun d6 => match d6 with
      | .inl y5 =>
        some ((y5.1.1, ()), ())
      | .inr e => nomatch e
    | .inr (.inr e) => nomatch e
noncomputable def c29r : Ctr := { ins := [.v Ty23], out := [Ty33], F := fun x => g29r x.1, fr := 1 }
noncomputable def l29r : List (Nat × Code) := loopsIn (Try.f29.body.getD .skip) 0
theorem w29r_L0 (x : h29r_L0.T) : runK Try.prog Γ t29r (inlN Try.prog Γ t29r 3) a29r (l29r.getD 0 (0, .skip)).2 0 (pkSh h29r_L0 x) (loopCls (sh := h29r_L0) (es := e29r_L0)) = (s29r_L0 x : Option _) := by kernel_rfl
theorem w29r_L2 (x : h29r_L2.T) : runK Try.prog Γ t29r (inlN Try.prog Γ t29r 3) a29r (l29r.getD 1 (0, .skip)).2 2 (pkSh h29r_L2 x) (loopCls (sh := h29r_L2) (es := e29r_L2)) = (s29r_L2 x : Option _) := by kernel_rfl
theorem v29r : LoopsOk Try.prog Γ t29r a29r (loopsIn (Try.f29.body.getD .skip) 0) := by
  have e : loopsIn (Try.f29.body.getD .skip) 0 = [(0, (l29r.getD 0 (0, .skip)).2), (2, (l29r.getD 1 (0, .skip)).2)] := by kernel_rfl
  rw [e]
  exact ⟨fun x d h => (w29r_L0 x).trans h, fun x d h => (w29r_L2 x).trans h, trivial⟩
theorem r29r (x : InsT c29r.ins) : fnK Try.prog Γ t29r a29r Try.f29 c29r x = g29r x.1 := by kernel_rfl
theorem k29r : TblOk Try.prog t29r := tblOk_cons o60 (tblOk_cons o18w (tblOk_cons o26w (tblOk_cons o24w (tblOk_nil))))
theorem o29r : Holds Try.prog 29 c29r := fn_holds (code := Try.f29.body.getD .skip) (by kernel_rfl) gamOk k29r Try.func29 (by kernel_rfl) (by kernel_rfl) (by kernel_rfl) (by kernel_rfl) v29r (fun x _ h => (r29r x).trans h)
/-! ### 109: slices.Concat[[]uint32,uint32] -/
noncomputable def t109w : Tbl := []
abbrev h109w_L0 : Shape := { slots := [(0, .v (.sl (.sl (.int .u32)))), (3, .v (.int .i64)), (9, .v (.sl (.sl (.int .u32)))), (10, .v (.int .i64)), (11, .v (.int .i64))], boxes := [] }
abbrev e109w_L0 : List (XT × Shape) := [(.exit 0, { slots := [(0, .v (.sl (.sl (.int .u32)))), (3, .v (.int .i64))], boxes := [] })]
noncomputable def q109w_L0 (t0 : (L (L Int))) (t3 : Int) (t9 : (L (L Int))) (t10 : Int) (t11 : Int) : Option (Ta37 ⊕ ((((L (L Int)) × (Int × Unit)) × Unit) ⊕ Empty)) :=
  bif (decide (t11 < t10)) then
    bif (decide (0 ≤ t11) && decide (t11 < (t9.len : Int))) then
      bif (decide ((wI (t3 + ((L.get t9 t11.toNat).len : Int))) < (0 : Int))) then
        none
      else
        some (.inl ((t0, ((wI (t3 + ((L.get t9 t11.toNat).len : Int))), (t9, (t10, ((wI (t11 + (1 : Int))), ()))))), ()))
    else
      none
  else
    some (.inr (.inl ((t0, (t3, ())), ())))
noncomputable def s109w_L0 (x : Ta37) : Option (Ta37 ⊕ ((((L (L Int)) × (Int × Unit)) × Unit) ⊕ Empty)) := q109w_L0 x.1.1 x.1.2.1 x.1.2.2.1 x.1.2.2.2.1 x.1.2.2.2.2.1
abbrev h109w_L2 : Shape := { slots := [(6, .exo (.int .u32) 50006), (25, .v (.sl (.sl (.int .u32)))), (26, .v (.int .i64)), (27, .v (.int .i64))], boxes := [] }
abbrev e109w_L2 : List (XT × Shape) := [(.exit 2, { slots := [(6, .exo (.int .u32) 50006)], boxes := [] })]
noncomputable def q109w_L2 (t6 : (L Int)) (t25 : (L (L Int))) (t26 : Int) (t27 : Int) : Option (Ta26 ⊕ (Ta3 ⊕ Empty)) :=
  bif (decide (t27 < t26)) then
    bif (decide (0 ≤ t27) && decide (t27 < (t25.len : Int))) then
      bif (decide (t6.len + (L.get t25 t27.toNat).len ≤ most)) then
        some (.inl (((L.app t6 (L.get t25 t27.toNat)), (t25, (t26, ((wI (t27 + (1 : Int))), ())))), ()))
      else
        none
    else
      none
  else
    some (.inr (.inl ((t6, ()), ())))
noncomputable def s109w_L2 (x : Ta26) : Option (Ta26 ⊕ (Ta3 ⊕ Empty)) := q109w_L2 x.1.1 x.1.2.1 x.1.2.2.1 x.1.2.2.2.1
noncomputable def a109w : Nat → Option LoopAnn := fun c => bif Nat.beq c 0 then some (.fix h109w_L0 e109w_L0 s109w_L0) else bif Nat.beq c 2 then some (.fix h109w_L2 e109w_L2 s109w_L2) else none
noncomputable def g109w (x0 : (L (L Int))) : Option Ta3 :=
  (fixO s109w_L0 ((x0, ((0 : Int), (x0, ((x0.len : Int), ((0 : Int), ()))))), ())).bind fun d6 => match d6 with
  | .inl y1 =>
    bif (decide (y1.1.2.1 < (0 : Int))) then
      none
    else
      bif (decide ((wI (y1.1.2.1 - (0 : Int))) > (0 : Int))) then
        bif (decide (0 < (wI (y1.1.2.1 - (0 : Int)))) && decide ((wI (y1.1.2.1 - (0 : Int))) ≤ most)) then
          (fixO s109w_L2 (((zL (.int .u32)), (y1.1.1, ((y1.1.1.len : Int), ((0 : Int), ())))), ())).bind fun d3 => match d3 with
          | .inl y2 =>
            some ((y2.1.1, ()), ())
          | .inr e => nomatch e
        else
          none
      else
        (fixO s109w_L2 (((nilL (.int .u32)), (y1.1.1, ((y1.1.1.len : Int), ((0 : Int), ())))), ())).bind fun d5 => match d5 with
        | .inl y4 =>
          some ((y4.1.1, ()), ())
        | .inr e => nomatch e
  | .inr e => nomatch e
noncomputable def c109w : Ctr := { ins := [.v (.sl (.sl (.int .u32)))], out := [(.sl (.int .u32))], F := fun x => g109w x.1, fr := 2 }
noncomputable def l109w : List (Nat × Code) := loopsIn (Try.f109.body.getD .skip) 0
theorem w109w_L0 (x : h109w_L0.T) : runK Try.prog Γ t109w (inlN Try.prog Γ t109w 3) a109w (l109w.getD 0 (0, .skip)).2 0 (pkSh h109w_L0 x) (loopCls (sh := h109w_L0) (es := e109w_L0)) = (s109w_L0 x : Option _) := by kernel_rfl
theorem w109w_L2 (x : h109w_L2.T) : runK Try.prog Γ t109w (inlN Try.prog Γ t109w 3) a109w (l109w.getD 1 (0, .skip)).2 2 (pkSh h109w_L2 x) (loopCls (sh := h109w_L2) (es := e109w_L2)) = (s109w_L2 x : Option _) := by kernel_rfl
theorem v109w : LoopsOk Try.prog Γ t109w a109w (loopsIn (Try.f109.body.getD .skip) 0) := by
  have e : loopsIn (Try.f109.body.getD .skip) 0 = [(0, (l109w.getD 0 (0, .skip)).2), (2, (l109w.getD 1 (0, .skip)).2)] := by kernel_rfl
  rw [e]
  exact ⟨fun x d h => (w109w_L0 x).trans h, fun x d h => (w109w_L2 x).trans h, trivial⟩
theorem r109w (x : InsT c109w.ins) : fnK Try.prog Γ t109w a109w Try.f109 c109w x = g109w x.1 := by kernel_rfl
theorem k109w : TblOk Try.prog t109w := tblOk_nil
theorem o109w : Holds Try.prog 109 c109w := fn_holds (code := Try.f109.body.getD .skip) (by kernel_rfl) gamOk k109w Try.func109 (by kernel_rfl) (by kernel_rfl) (by kernel_rfl) (by kernel_rfl) v109w (fun x _ h => (r109w x).trans h)
/-! ### 31: loop.example/g00076/impl.DevPlay -/
noncomputable def t31r : Tbl := [(78, [79], c78_79), (109, [], c109w)]
abbrev h31r_L0 : Shape := { slots := [(3, .bx 3 0), (4, .exo Ty29 50004), (15, .v Ty23), (16, .v (.int .i64)), (17, .v (.int .i64))], boxes := [(3, .cells [.exo (.int .u32) 60192, .exo (.int .u32) 60193])] }
abbrev e31r_L0 : List (XT × Shape) := [(.exit 0, { slots := [(4, .exo Ty29 50004)], boxes := [] })]
noncomputable def q31r_L0 (t4 : Ta9) (t15 : Ta0) (t16 : Int) (t17 : Int) (b3_0 : (L Int)) (b3_1 : (L Int)) : Option (Ta52 ⊕ (Ta24 ⊕ Empty)) :=
  bif (decide (t17 < t16)) then
    bif (decide (0 ≤ t17) && decide (t17 < (t15.len : Int))) then
      bif ((L.get t15 t17.toNat).1 == (0 : Int)) then
        bif ((b3_0.len : Int) == (8 : Int)) then
          bif (decide (t4.len + (L.of (Ty.zero Ty29) [(false, ((0 : Int), ((0 : Int), ())))]).len ≤ most)) then
            some (.inl (((), ((L.app t4 (L.of (Ty.zero Ty29) [(false, ((0 : Int), ((0 : Int), ())))])), (t15, (t16, ((wI (t17 + (1 : Int))), ()))))), ((b3_0, (b3_1, ())), ())))
          else
            none
        else
          bif (decide (b3_0.len + (L.of (Ty.zero (.int .u32)) [(L.get t15 t17.toNat).2.1]).len ≤ most)) then
            bif (decide (t4.len + (L.of (Ty.zero Ty29) [(true, ((0 : Int), ((0 : Int), ())))]).len ≤ most)) then
              some (.inl (((), ((L.app t4 (L.of (Ty.zero Ty29) [(true, ((0 : Int), ((0 : Int), ())))])), (t15, (t16, ((wI (t17 + (1 : Int))), ()))))), (((L.app b3_0 (L.of (Ty.zero (.int .u32)) [(L.get t15 t17.toNat).2.1])), (b3_1, ())), ())))
            else
              none
          else
            none
      else
        bif ((L.get t15 t17.toNat).1 == (1 : Int)) then
          bif (decide (0 ≤ (0 : Int)) && (decide ((0 : Int) ≤ (if (wI ((8 : Int) - (b3_1.len : Int))) < (b3_0.len : Int) then (wI ((8 : Int) - (b3_1.len : Int))) else (b3_0.len : Int))) && decide ((if (wI ((8 : Int) - (b3_1.len : Int))) < (b3_0.len : Int) then (wI ((8 : Int) - (b3_1.len : Int))) else (b3_0.len : Int)) ≤ (b3_0.len : Int)))) then
            (g109w (L.of (Ty.zero (.sl (.int .u32))) [b3_1, (L.cut b3_0 (0 : Int).toNat (if (wI ((8 : Int) - (b3_1.len : Int))) < (b3_0.len : Int) then (wI ((8 : Int) - (b3_1.len : Int))) else (b3_0.len : Int)).toNat)])).bind fun y2 =>
              bif (decide (0 ≤ (if (wI ((8 : Int) - (b3_1.len : Int))) < (b3_0.len : Int) then (wI ((8 : Int) - (b3_1.len : Int))) else (b3_0.len : Int))) && (decide ((if (wI ((8 : Int) - (b3_1.len : Int))) < (b3_0.len : Int) then (wI ((8 : Int) - (b3_1.len : Int))) else (b3_0.len : Int)) ≤ (b3_0.len : Int)) && decide ((b3_0.len : Int) ≤ (b3_0.len : Int)))) then
                bif (decide (t4.len + (L.of (Ty.zero Ty29) [((decide ((if (wI ((8 : Int) - (b3_1.len : Int))) < (b3_0.len : Int) then (wI ((8 : Int) - (b3_1.len : Int))) else (b3_0.len : Int)) > (0 : Int))), ((0 : Int), ((0 : Int), ())))]).len ≤ most)) then
                  some (.inl (((), ((L.app t4 (L.of (Ty.zero Ty29) [((decide ((if (wI ((8 : Int) - (b3_1.len : Int))) < (b3_0.len : Int) then (wI ((8 : Int) - (b3_1.len : Int))) else (b3_0.len : Int)) > (0 : Int))), ((0 : Int), ((0 : Int), ())))])), (t15, (t16, ((wI (t17 + (1 : Int))), ()))))), (((L.cut b3_0 (if (wI ((8 : Int) - (b3_1.len : Int))) < (b3_0.len : Int) then (wI ((8 : Int) - (b3_1.len : Int))) else (b3_0.len : Int)).toNat (b3_0.len : Int).toNat), y2.1), ())))
                else
                  none
              else
                none
          else
            none
        else
          bif ((b3_1.len : Int) == (0 : Int)) then
            bif (decide (t4.len + (L.of (Ty.zero Ty29) [(false, ((0 : Int), ((1 : Int), ())))]).len ≤ most)) then
              some (.inl (((), ((L.app t4 (L.of (Ty.zero Ty29) [(false, ((0 : Int), ((1 : Int), ())))])), (t15, (t16, ((wI (t17 + (1 : Int))), ()))))), ((b3_0, (b3_1, ())), ())))
            else
              none
          else
            bif (decide ((0 : Int) < (b3_1.len : Int))) then
              bif (decide (0 ≤ (1 : Int)) && (decide ((1 : Int) ≤ (b3_1.len : Int)) && decide ((b3_1.len : Int) ≤ (b3_1.len : Int)))) then
                bif (decide (t4.len + (L.of (Ty.zero Ty29) [(false, ((L.get b3_1 (0 : Int).toNat), ((0 : Int), ())))]).len ≤ most)) then
                  some (.inl (((), ((L.app t4 (L.of (Ty.zero Ty29) [(false, ((L.get b3_1 (0 : Int).toNat), ((0 : Int), ())))])), (t15, (t16, ((wI (t17 + (1 : Int))), ()))))), ((b3_0, ((L.cut b3_1 (1 : Int).toNat (b3_1.len : Int).toNat), ())), ())))
                else
                  none
              else
                none
            else
              none
    else
      none
  else
    some (.inr (.inl ((t4, ()), ())))
noncomputable def s31r_L0 (x : Ta52) : Option (Ta52 ⊕ (Ta24 ⊕ Empty)) := q31r_L0 x.1.2.1 x.1.2.2.1 x.1.2.2.2.1 x.1.2.2.2.2.1 x.2.1.1 x.2.1.2.1
noncomputable def a31r : Nat → Option LoopAnn := fun c => bif Nat.beq c 0 then some (.fix h31r_L0 e31r_L0 s31r_L0) else none
noncomputable def g31r (x0 : Ta0) : Option Ta24 :=
  bif (decide ((x0.len : Int) > (1000 : Int))) then
    some (((nilL Ty29), ()), ())
  else
    (g78_79 x0 ()).bind fun y1 =>
      bif y1.1.1 then
        some (((nilL Ty29), ()), ())
      else
        (fixO s31r_L0 (((), ((nilL Ty29), (x0, ((x0.len : Int), ((0 : Int), ()))))), (((nilL (.int .u32)), ((nilL (.int .u32)), ())), ()))).bind fun d4 => match d4 with
        | .inl y3 =>
          some ((y3.1.1, ()), ())
        | .inr e => nomatch e
noncomputable def c31r : Ctr := { ins := [.v Ty23], out := [Ty33], F := fun x => g31r x.1, fr := 1 }
noncomputable def l31r : List (Nat × Code) := loopsIn (Try.f31.body.getD .skip) 0
theorem w31r_L0 (x : h31r_L0.T) : runK Try.prog Γ t31r (inlN Try.prog Γ t31r 3) a31r (l31r.getD 0 (0, .skip)).2 0 (pkSh h31r_L0 x) (loopCls (sh := h31r_L0) (es := e31r_L0)) = (s31r_L0 x : Option _) := by kernel_rfl
theorem v31r : LoopsOk Try.prog Γ t31r a31r (loopsIn (Try.f31.body.getD .skip) 0) := by
  have e : loopsIn (Try.f31.body.getD .skip) 0 = [(0, (l31r.getD 0 (0, .skip)).2)] := by kernel_rfl
  rw [e]
  exact ⟨fun x d h => (w31r_L0 x).trans h, trivial⟩
theorem r31r (x : InsT c31r.ins) : fnK Try.prog Γ t31r a31r Try.f31 c31r x = g31r x.1 := by kernel_rfl
theorem k31r : TblOk Try.prog t31r := tblOk_cons o78_79 (tblOk_cons o109w (tblOk_nil))
theorem o31r : Holds Try.prog 31 c31r := fn_holds (code := Try.f31.body.getD .skip) (by kernel_rfl) gamOk k31r Try.func31 (by kernel_rfl) (by kernel_rfl) (by kernel_rfl) (by kernel_rfl) v31r (fun x _ h => (r31r x).trans h)
/-! ### 35: loop.example/g00076/laws.markDevSaidS -/
noncomputable def t35 : Tbl := []
abbrev h35_L0 : Shape := { slots := [(0, .ms 100000000), (1, .v (.int .i64)), (5, .v (.int .i64))], boxes := [(100000000, .arr Ty29)] }
abbrev e35_L0 : List (XT × Shape) := [(.exit 0, { slots := [(1, .v (.int .i64))], boxes := [(100000000, .arr Ty29)] })]
noncomputable def q35_L0 (t1 : Int) (t5 : Int) (r100000000 : Ta9) : Option (Ta40 ⊕ (Ta31 ⊕ Empty)) :=
  bif (decide (t5 < (r100000000.len : Int))) then
    bif (decide (0 ≤ t5) && decide (t5 < (r100000000.len : Int))) then
      bif (decide (0 ≤ t5) && decide (t5 < ((L.set r100000000 t5.toNat (((Int.tmod t1 (3 : Int)) == (0 : Int)), (L.get r100000000 t5.toNat).2)).len : Int))) then
        bif (decide (0 ≤ t5) && decide (t5 < ((L.set (L.set r100000000 t5.toNat (((Int.tmod t1 (3 : Int)) == (0 : Int)), (L.get r100000000 t5.toNat).2)) t5.toNat ((L.get (L.set r100000000 t5.toNat (((Int.tmod t1 (3 : Int)) == (0 : Int)), (L.get r100000000 t5.toNat).2)) t5.toNat).1, ((IntKind.wrap .u32 ((wI (t1 + (1 : Int))))), (L.get (L.set r100000000 t5.toNat (((Int.tmod t1 (3 : Int)) == (0 : Int)), (L.get r100000000 t5.toNat).2)) t5.toNat).2.2))).len : Int))) then
          some (.inl (((), ((wI ((wI ((wI (t1 + (1 : Int))) + (1 : Int))) + (1 : Int))), ((wI (t5 + (1 : Int))), ()))), ((L.set (L.set (L.set r100000000 t5.toNat (((Int.tmod t1 (3 : Int)) == (0 : Int)), (L.get r100000000 t5.toNat).2)) t5.toNat ((L.get (L.set r100000000 t5.toNat (((Int.tmod t1 (3 : Int)) == (0 : Int)), (L.get r100000000 t5.toNat).2)) t5.toNat).1, ((IntKind.wrap .u32 ((wI (t1 + (1 : Int))))), (L.get (L.set r100000000 t5.toNat (((Int.tmod t1 (3 : Int)) == (0 : Int)), (L.get r100000000 t5.toNat).2)) t5.toNat).2.2))) t5.toNat ((L.get (L.set (L.set r100000000 t5.toNat (((Int.tmod t1 (3 : Int)) == (0 : Int)), (L.get r100000000 t5.toNat).2)) t5.toNat ((L.get (L.set r100000000 t5.toNat (((Int.tmod t1 (3 : Int)) == (0 : Int)), (L.get r100000000 t5.toNat).2)) t5.toNat).1, ((IntKind.wrap .u32 ((wI (t1 + (1 : Int))))), (L.get (L.set r100000000 t5.toNat (((Int.tmod t1 (3 : Int)) == (0 : Int)), (L.get r100000000 t5.toNat).2)) t5.toNat).2.2))) t5.toNat).1, ((L.get (L.set (L.set r100000000 t5.toNat (((Int.tmod t1 (3 : Int)) == (0 : Int)), (L.get r100000000 t5.toNat).2)) t5.toNat ((L.get (L.set r100000000 t5.toNat (((Int.tmod t1 (3 : Int)) == (0 : Int)), (L.get r100000000 t5.toNat).2)) t5.toNat).1, ((IntKind.wrap .u32 ((wI (t1 + (1 : Int))))), (L.get (L.set r100000000 t5.toNat (((Int.tmod t1 (3 : Int)) == (0 : Int)), (L.get r100000000 t5.toNat).2)) t5.toNat).2.2))) t5.toNat).2.1, ((wI ((wI (t1 + (1 : Int))) + (1 : Int))), ())))), ())))
        else
          none
      else
        none
    else
      none
  else
    some (.inr (.inl ((t1, ()), (r100000000, ()))))
noncomputable def s35_L0 (x : Ta40) : Option (Ta40 ⊕ (Ta31 ⊕ Empty)) := q35_L0 x.1.2.1 x.1.2.2.1 x.2.1
noncomputable def a35 : Nat → Option LoopAnn := fun c => bif Nat.beq c 0 then some (.fix h35_L0 e35_L0 s35_L0) else none
noncomputable def g35 (x0 : Ta9) (x1 : Int) : Option Ta31 :=
  (fixO s35_L0 (((), (x1, ((0 : Int), ()))), (x0, ()))).bind fun d2 => match d2 with
  | .inl y1 =>
    some ((y1.1.1, ()), (y1.2.1, ()))
  | .inr e => nomatch e
noncomputable def c35 : Ctr := { ins := [.ow Ty29, .v (.int .i64)], out := [(.int .i64)], F := fun x => g35 x.1 x.2.1 }
noncomputable def l35 : List (Nat × Code) := loopsIn (Try.f35.body.getD .skip) 0
theorem w35_L0 (x : h35_L0.T) : runK Try.prog Γ t35 (inlN Try.prog Γ t35 3) a35 (l35.getD 0 (0, .skip)).2 0 (pkSh h35_L0 x) (loopCls (sh := h35_L0) (es := e35_L0)) = (s35_L0 x : Option _) := by kernel_rfl
theorem v35 : LoopsOk Try.prog Γ t35 a35 (loopsIn (Try.f35.body.getD .skip) 0) := by
  have e : loopsIn (Try.f35.body.getD .skip) 0 = [(0, (l35.getD 0 (0, .skip)).2)] := by kernel_rfl
  rw [e]
  exact ⟨fun x d h => (w35_L0 x).trans h, trivial⟩
theorem r35 (x : InsT c35.ins) : fnK Try.prog Γ t35 a35 Try.f35 c35 x = g35 x.1 x.2.1 := by kernel_rfl
theorem k35 : TblOk Try.prog t35 := tblOk_nil
theorem o35 : Holds Try.prog 35 c35 := fn_holds (code := Try.f35.body.getD .skip) (by kernel_rfl) gamOk k35 Try.func35 (by kernel_rfl) (by kernel_rfl) (by kernel_rfl) (by kernel_rfl) v35 (fun x _ h => (r35 x).trans h)
/-! ### 36: loop.example/g00076/laws.heldDevSaidS -/
noncomputable def t36 : Tbl := []
abbrev h36_L0 : Shape := { slots := [(0, .v Ty33), (1, .v (.int .i64)), (5, .v (.int .i64))], boxes := [] }
abbrev e36_L0 : List (XT × Shape) := [(.ret, { slots := [(4, .v (.int .i64))], boxes := [] }), (.exit 0, { slots := [(1, .v (.int .i64))], boxes := [] })]
noncomputable def q36_L0 (t0 : Ta9) (t1 : Int) (t5 : Int) : Option (Ta36 ⊕ (((Int × Unit) × Unit) ⊕ (((Int × Unit) × Unit) ⊕ Empty))) :=
  bif (decide (t5 < (t0.len : Int))) then
    bif (decide (0 ≤ t5) && decide (t5 < (t0.len : Int))) then
      bif (!((L.get t0 t5.toNat).1 == ((Int.tmod t1 (3 : Int)) == (0 : Int)))) then
        some (.inr (.inl (((-1 : Int), ()), ())))
      else
        bif (decide (0 ≤ t5) && decide (t5 < (t0.len : Int))) then
          bif ((L.get t0 t5.toNat).2.1 != (IntKind.wrap .u32 ((wI (t1 + (1 : Int)))))) then
            some (.inr (.inl (((-1 : Int), ()), ())))
          else
            bif (decide (0 ≤ t5) && decide (t5 < (t0.len : Int))) then
              bif ((L.get t0 t5.toNat).2.2.1 != (wI ((wI (t1 + (1 : Int))) + (1 : Int)))) then
                some (.inr (.inl (((-1 : Int), ()), ())))
              else
                some (.inl ((t0, ((wI ((wI ((wI (t1 + (1 : Int))) + (1 : Int))) + (1 : Int))), ((wI (t5 + (1 : Int))), ()))), ()))
            else
              none
        else
          none
    else
      none
  else
    some (.inr (.inr (.inl ((t1, ()), ()))))
noncomputable def s36_L0 (x : Ta36) : Option (Ta36 ⊕ (((Int × Unit) × Unit) ⊕ (((Int × Unit) × Unit) ⊕ Empty))) := q36_L0 x.1.1 x.1.2.1 x.1.2.2.1
noncomputable def a36 : Nat → Option LoopAnn := fun c => bif Nat.beq c 0 then some (.fix h36_L0 e36_L0 s36_L0) else none
noncomputable def g36 (x0 : Ta9) (x1 : Int) : Option ((Int × Unit) × Unit) :=
  (fixO s36_L0 ((x0, (x1, ((0 : Int), ()))), ())).bind fun d2 => match d2 with
  | .inl y1 =>
    some ((y1.1.1, ()), ())
  | .inr (.inl y1) =>
    some ((y1.1.1, ()), ())
  | .inr (.inr e) => nomatch e
noncomputable def c36 : Ctr := { ins := [.v Ty33, .v (.int .i64)], out := [(.int .i64)], F := fun x => g36 x.1 x.2.1 }
noncomputable def l36 : List (Nat × Code) := loopsIn (Try.f36.body.getD .skip) 0
theorem w36_L0 (x : h36_L0.T) : runK Try.prog Γ t36 (inlN Try.prog Γ t36 3) a36 (l36.getD 0 (0, .skip)).2 0 (pkSh h36_L0 x) (loopCls (sh := h36_L0) (es := e36_L0)) = (s36_L0 x : Option _) := by kernel_rfl
theorem v36 : LoopsOk Try.prog Γ t36 a36 (loopsIn (Try.f36.body.getD .skip) 0) := by
  have e : loopsIn (Try.f36.body.getD .skip) 0 = [(0, (l36.getD 0 (0, .skip)).2)] := by kernel_rfl
  rw [e]
  exact ⟨fun x d h => (w36_L0 x).trans h, trivial⟩
theorem r36 (x : InsT c36.ins) : fnK Try.prog Γ t36 a36 Try.f36 c36 x = g36 x.1 x.2.1 := by kernel_rfl
theorem k36 : TblOk Try.prog t36 := tblOk_nil
theorem o36 : Holds Try.prog 36 c36 := fn_holds (code := Try.f36.body.getD .skip) (by kernel_rfl) gamOk k36 Try.func36 (by kernel_rfl) (by kernel_rfl) (by kernel_rfl) (by kernel_rfl) v36 (fun x _ h => (r36 x).trans h)
/-! ### 8: loop.example/g00076/laws.FnExactDevPlay -/
noncomputable def t8 : Tbl := [(28, [], c28), (30, [], c30r), (29, [], c29r), (31, [], c31r), (32, [], c32), (33, [], c33), (34, [], c34), (35, [], c35), (36, [], c36)]
noncomputable def a8 : Nat → Option LoopAnn := fun _ => none
noncomputable def g8 (x0 : Ta0) : Option ((Bool × Unit) × Unit) :=
  bif (decide ((f28 x0 (1048576 : Int)) < (0 : Int))) then
    some ((true, ()), ())
  else
    (g30r x0).bind fun y1 =>
      (g29r y1.1.1).bind fun y2 =>
        (g30r x0).bind fun y3 =>
          (g31r y3.1.1).bind fun y4 =>
            (g32 y4.1.1 y2.1.1).bind fun y5 =>
              bif (!y5.1.1) then
                some ((false, ()), ())
              else
                (g30r x0).bind fun y6 =>
                  (g33 y3.1.1 y6.1.1).bind fun y7 =>
                    bif (!y7.1.1) then
                      some ((false, ()), ())
                    else
                      (g34 y3.1.1 (1 : Int)).bind fun y8 =>
                        bif (decide (y8.1.1 < (0 : Int))) then
                          some ((false, ()), ())
                        else
                          (g32 y4.1.1 y2.1.1).bind fun y9 =>
                            bif (!y9.1.1) then
                              some ((false, ()), ())
                            else
                              (g35 y4.1.1 (1 : Int)).bind fun y10 =>
                                (g36 y10.2.1 (1 : Int)).bind fun y11 =>
                                  bif (decide (y11.1.1 < (0 : Int))) then
                                    some ((false, ()), ())
                                  else
                                    bif (y11.1.1 != y10.1.1) then
                                      some ((false, ()), ())
                                    else
                                      (g30r x0).bind fun y12 =>
                                        (g31r y12.1.1).bind fun y13 =>
                                          (g32 y13.1.1 y2.1.1).bind fun y14 =>
                                            bif (!y14.1.1) then
                                              some ((false, ()), ())
                                            else
                                              (g36 y10.2.1 (1 : Int)).bind fun y15 =>
                                                bif (decide (y15.1.1 < (0 : Int))) then
                                                  some ((false, ()), ())
                                                else
                                                  bif (y15.1.1 != y10.1.1) then
                                                    some ((false, ()), ())
                                                  else
                                                    some ((true, ()), ())
noncomputable def c8 : Ctr := { ins := [.v Ty23], out := [.bool], F := fun x => g8 x.1 }
theorem v8 : LoopsOk Try.prog Γ t8 a8 (loopsIn (Try.f8.body.getD .skip) 0) := loopsOk_nil (by kernel_rfl)
theorem r8 (x : InsT c8.ins) : fnK Try.prog Γ t8 a8 Try.f8 c8 x = g8 x.1 := by kernel_rfl
theorem k8 : TblOk Try.prog t8 := tblOk_cons o28 (tblOk_cons o30r (tblOk_cons o29r (tblOk_cons o31r (tblOk_cons o32 (tblOk_cons o33 (tblOk_cons o34 (tblOk_cons o35 (tblOk_cons o36 (tblOk_nil)))))))))
theorem o8 : Holds Try.prog 8 c8 := fn_holds (code := Try.f8.body.getD .skip) (by kernel_rfl) gamOk k8 Try.func8 (by kernel_rfl) (by kernel_rfl) (by kernel_rfl) (by kernel_rfl) v8 (fun x _ h => (r8 x).trans h)
end Go.VE.VFnExactDevPlay
