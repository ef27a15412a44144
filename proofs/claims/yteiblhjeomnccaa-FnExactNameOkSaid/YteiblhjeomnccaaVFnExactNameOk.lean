import Derived.Test.YteiblhjeomnccaaVeZ
import Derived.Test.YteiblhjeomnccaaProg
/- What the functions do that laws.FnExactNameOk reaches, as plain functions, and that they do it. -/
set_option linter.unusedVariables false
set_option linter.unusedSimpArgs false
namespace Go.VE.VFnExactNameOk
open Go.Proofs Go.VE
def Γ : TypeId → Option Ty := fun e => none
theorem gamOk : GamOk Try.prog Γ := fun e ty h => by simp [Γ] at h
/-! ### 62: loop.example/g00076/spec.l01In -/
noncomputable def t62 : Tbl := []
noncomputable def a62 : Nat → Option LoopAnn := fun _ => none
noncomputable def g62 (x0 : Int) (x1 : Int) (x2 : Int) : Option ((Bool × Unit) × Unit) :=
  bif (decide (x0 ≥ x1)) then
    some (((decide (x0 ≤ x2)), ()), ())
  else
    some ((false, ()), ())
noncomputable def f62 (x0 : Int) (x1 : Int) (x2 : Int) : Bool :=
  bif (decide (x0 ≥ x1)) then
    (decide (x0 ≤ x2))
  else
    false
theorem n62 (x0 : Int) (x1 : Int) (x2 : Int) : g62 x0 x1 x2 = some ((f62 x0 x1 x2, ()), ()) := by
  simp only [g62, f62, pull1]
noncomputable def c62 : Ctr := { ins := [.v (.int .i64), .v (.int .i64), .v (.int .i64)], out := [.bool], F := fun x => some ((f62 x.1 x.2.1 x.2.2.1, ()), ()) }
theorem v62 : LoopsOk Try.prog Γ t62 a62 (loopsIn (Try.f62.body.getD .skip) 0) := loopsOk_nil (by kernel_rfl)
theorem r62 (x : InsT c62.ins) : fnK Try.prog Γ t62 a62 Try.f62 c62 x = g62 x.1 x.2.1 x.2.2.1 := by kernel_rfl
theorem k62 : TblOk Try.prog t62 := tblOk_nil
theorem o62 : Holds Try.prog 62 c62 := fn_holds (code := Try.f62.body.getD .skip) (by kernel_rfl) gamOk k62 Try.func62 (by kernel_rfl) (by kernel_rfl) (by kernel_rfl) (by kernel_rfl) v62 (fun x _ h => (r62 x).trans ((n62 x.1 x.2.1 x.2.2.1).trans h))
/-! ### 60: loop.example/g00076/spec.LabelOk -/
noncomputable def t60 : Tbl := [(62, [], c62)]
abbrev h60_L0 : Shape := { slots := [(0, .v .str), (3, .v (.int .i64))], boxes := [] }
abbrev e60_L0 : List (XT × Shape) := [(.ret, { slots := [(2, .v .bool)], boxes := [] }), (.exit 0, { slots := [(0, .v .str)], boxes := [] })]
noncomputable def q60_L0 (t0 : ByteArray) (t3 : Int) : Option (((ByteArray × (Int × Unit)) × Unit) ⊕ (((Bool × Unit) × Unit) ⊕ (((ByteArray × Unit) × Unit) ⊕ Empty))) :=
  bif (decide (t3 < (t0.size : Int))) then
    bif (decide (t3 < (13 : Int))) then
      bif (decide (0 ≤ t3) && decide (t3 < t0.size)) then
        bif (!(f62 (wI ((bt t0 t3))) (97 : Int) (122 : Int))) then
          some (.inr (.inl ((false, ()), ())))
        else
          some (.inl ((t0, ((wI (t3 + (1 : Int))), ())), ()))
      else
        none
    else
      some (.inr (.inr (.inl ((t0, ()), ()))))
  else
    some (.inr (.inr (.inl ((t0, ()), ()))))
noncomputable def s60_L0 (x : ((ByteArray × (Int × Unit)) × Unit)) : Option (((ByteArray × (Int × Unit)) × Unit) ⊕ (((Bool × Unit) × Unit) ⊕ (((ByteArray × Unit) × Unit) ⊕ Empty))) := q60_L0 x.1.1 x.1.2.1
noncomputable def a60 : Nat → Option LoopAnn := fun c => bif Nat.beq c 0 then some (.fix h60_L0 e60_L0 s60_L0) else none
noncomputable def g60 (x0 : ByteArray) : Option ((Bool × Unit) × Unit) :=
  (fixO s60_L0 ((x0, ((0 : Int), ())), ())).bind fun d2 => match d2 with
  | .inl y1 =>
    some ((y1.1.1, ()), ())
  | .inr (.inl y1) =>
    some (((f62 (y1.1.1.size : Int) (1 : Int) (12 : Int)), ()), ())
  | .inr (.inr e) => nomatch e
noncomputable def c60 : Ctr := { ins := [.v .str], out := [.bool], F := fun x => g60 x.1 }
noncomputable def l60 : List (Nat × Code) := loopsIn (Try.f60.body.getD .skip) 0
theorem w60_L0 (x : h60_L0.T) : runK Try.prog Γ t60 a60 (l60.getD 0 (0, .skip)).2 0 (pkSh h60_L0 x) (loopCls (sh := h60_L0) (es := e60_L0)) = (s60_L0 x : Option _) := by kernel_rfl
theorem v60 : LoopsOk Try.prog Γ t60 a60 (loopsIn (Try.f60.body.getD .skip) 0) := by
  have e : loopsIn (Try.f60.body.getD .skip) 0 = [(0, (l60.getD 0 (0, .skip)).2)] := by kernel_rfl
  rw [e]
  exact ⟨fun x d h => (w60_L0 x).trans h, trivial⟩
theorem r60 (x : InsT c60.ins) : fnK Try.prog Γ t60 a60 Try.f60 c60 x = g60 x.1 := by kernel_rfl
theorem k60 : TblOk Try.prog t60 := tblOk_cons o62 (tblOk_nil)
theorem o60 : Holds Try.prog 60 c60 := fn_holds (code := Try.f60.body.getD .skip) (by kernel_rfl) gamOk k60 Try.func60 (by kernel_rfl) (by kernel_rfl) (by kernel_rfl) (by kernel_rfl) v60 (fun x _ h => (r60 x).trans h)
/-! ### 18: loop.example/g00076/spec.NameOk -/
noncomputable def t18 : Tbl := [(60, [], c60)]
noncomputable def a18 : Nat → Option LoopAnn := fun _ => none
noncomputable def g18 (x0 : ByteArray) : Option ((Bool × Unit) × Unit) :=
  bif (decide ((x0.size : Int) ≤ (8 : Int))) then
    (g60 x0).bind fun y1 =>
      some ((y1.1.1, ()), ())
  else
    some ((false, ()), ())
noncomputable def c18 : Ctr := { ins := [.v .str], out := [.bool], F := fun x => g18 x.1 }
theorem v18 : LoopsOk Try.prog Γ t18 a18 (loopsIn (Try.f18.body.getD .skip) 0) := loopsOk_nil (by kernel_rfl)
theorem r18 (x : InsT c18.ins) : fnK Try.prog Γ t18 a18 Try.f18 c18 x = g18 x.1 := by kernel_rfl
theorem k18 : TblOk Try.prog t18 := tblOk_cons o60 (tblOk_nil)
theorem o18 : Holds Try.prog 18 c18 := fn_holds (code := Try.f18.body.getD .skip) (by kernel_rfl) gamOk k18 Try.func18 (by kernel_rfl) (by kernel_rfl) (by kernel_rfl) (by kernel_rfl) v18 (fun x _ h => (r18 x).trans h)
/-! ### 63: loop.example/g00076/impl.within -/
noncomputable def t63 : Tbl := []
noncomputable def a63 : Nat → Option LoopAnn := fun _ => none
noncomputable def g63 (x0 : Int) (x1 : Int) (x2 : Int) : Option ((Bool × Unit) × Unit) :=
  bif (decide (x0 ≥ x1)) then
    some (((decide (x0 ≤ x2)), ()), ())
  else
    some ((false, ()), ())
noncomputable def f63 (x0 : Int) (x1 : Int) (x2 : Int) : Bool :=
  bif (decide (x0 ≥ x1)) then
    (decide (x0 ≤ x2))
  else
    false
theorem n63 (x0 : Int) (x1 : Int) (x2 : Int) : g63 x0 x1 x2 = some ((f63 x0 x1 x2, ()), ()) := by
  simp only [g63, f63, pull1]
noncomputable def c63 : Ctr := { ins := [.v (.int .i64), .v (.int .i64), .v (.int .i64)], out := [.bool], F := fun x => some ((f63 x.1 x.2.1 x.2.2.1, ()), ()) }
theorem v63 : LoopsOk Try.prog Γ t63 a63 (loopsIn (Try.f63.body.getD .skip) 0) := loopsOk_nil (by kernel_rfl)
theorem r63 (x : InsT c63.ins) : fnK Try.prog Γ t63 a63 Try.f63 c63 x = g63 x.1 x.2.1 x.2.2.1 := by kernel_rfl
theorem k63 : TblOk Try.prog t63 := tblOk_nil
theorem o63 : Holds Try.prog 63 c63 := fn_holds (code := Try.f63.body.getD .skip) (by kernel_rfl) gamOk k63 Try.func63 (by kernel_rfl) (by kernel_rfl) (by kernel_rfl) (by kernel_rfl) v63 (fun x _ h => (r63 x).trans ((n63 x.1 x.2.1 x.2.2.1).trans h))
/-! ### 98: loop.example/g00076/impl.isLabel -/
noncomputable def t98 : Tbl := [(63, [], c63)]
abbrev h98_L0 : Shape := { slots := [(0, .v .str), (5, .v (.int .i64)), (6, .v (.int .i64))], boxes := [] }
abbrev e98_L0 : List (XT × Shape) := [(.ret, { slots := [(2, .v .bool)], boxes := [] }), (.exit 0, { slots := [(0, .v .str)], boxes := [] })]
noncomputable def q98_L0 (t0 : ByteArray) (t5 : Int) (t6 : Int) : Option (((ByteArray × (Int × (Int × Unit))) × Unit) ⊕ (((Bool × Unit) × Unit) ⊕ (((ByteArray × Unit) × Unit) ⊕ Empty))) :=
  bif (decide (t6 < t5)) then
    bif (decide (0 ≤ t6) && decide (t6 < t0.size)) then
      bif (decide ((bt t0 t6) < (97 : Int))) then
        some (.inr (.inl ((false, ()), ())))
      else
        bif (decide (0 ≤ t6) && decide (t6 < t0.size)) then
          bif (decide ((bt t0 t6) > (122 : Int))) then
            some (.inr (.inl ((false, ()), ())))
          else
            some (.inl ((t0, (t5, ((wI (t6 + (1 : Int))), ()))), ()))
        else
          none
    else
      none
  else
    some (.inr (.inr (.inl ((t0, ()), ()))))
noncomputable def s98_L0 (x : ((ByteArray × (Int × (Int × Unit))) × Unit)) : Option (((ByteArray × (Int × (Int × Unit))) × Unit) ⊕ (((Bool × Unit) × Unit) ⊕ (((ByteArray × Unit) × Unit) ⊕ Empty))) := q98_L0 x.1.1 x.1.2.1 x.1.2.2.1
noncomputable def a98 : Nat → Option LoopAnn := fun c => bif Nat.beq c 0 then some (.fix h98_L0 e98_L0 s98_L0) else none
noncomputable def g98 (x0 : ByteArray) : Option ((Bool × Unit) × Unit) :=
  (fixO s98_L0 ((x0, ((x0.size : Int), ((0 : Int), ()))), ())).bind fun d2 => match d2 with
  | .inl y1 =>
    some ((y1.1.1, ()), ())
  | .inr (.inl y1) =>
    some (((f63 (y1.1.1.size : Int) (1 : Int) (12 : Int)), ()), ())
  | .inr (.inr e) => nomatch e
noncomputable def c98 : Ctr := { ins := [.v .str], out := [.bool], F := fun x => g98 x.1 }
noncomputable def l98 : List (Nat × Code) := loopsIn (Try.f98.body.getD .skip) 0
theorem w98_L0 (x : h98_L0.T) : runK Try.prog Γ t98 a98 (l98.getD 0 (0, .skip)).2 0 (pkSh h98_L0 x) (loopCls (sh := h98_L0) (es := e98_L0)) = (s98_L0 x : Option _) := by kernel_rfl
theorem v98 : LoopsOk Try.prog Γ t98 a98 (loopsIn (Try.f98.body.getD .skip) 0) := by
  have e : loopsIn (Try.f98.body.getD .skip) 0 = [(0, (l98.getD 0 (0, .skip)).2)] := by kernel_rfl
  rw [e]
  exact ⟨fun x d h => (w98_L0 x).trans h, trivial⟩
theorem r98 (x : InsT c98.ins) : fnK Try.prog Γ t98 a98 Try.f98 c98 x = g98 x.1 := by kernel_rfl
theorem k98 : TblOk Try.prog t98 := tblOk_cons o63 (tblOk_nil)
theorem o98 : Holds Try.prog 98 c98 := fn_holds (code := Try.f98.body.getD .skip) (by kernel_rfl) gamOk k98 Try.func98 (by kernel_rfl) (by kernel_rfl) (by kernel_rfl) (by kernel_rfl) v98 (fun x _ h => (r98 x).trans h)
/-! ### 61: loop.example/g00076/impl.isName -/
noncomputable def t61 : Tbl := [(98, [], c98)]
noncomputable def a61 : Nat → Option LoopAnn := fun _ => none
noncomputable def g61 (x0 : ByteArray) : Option ((Bool × Unit) × Unit) :=
  (g98 x0).bind fun y1 =>
    bif y1.1.1 then
      some (((decide ((x0.size : Int) ≤ (8 : Int))), ()), ())
    else
      some ((false, ()), ())
noncomputable def c61 : Ctr := { ins := [.v .str], out := [.bool], F := fun x => g61 x.1 }
theorem v61 : LoopsOk Try.prog Γ t61 a61 (loopsIn (Try.f61.body.getD .skip) 0) := loopsOk_nil (by kernel_rfl)
theorem r61 (x : InsT c61.ins) : fnK Try.prog Γ t61 a61 Try.f61 c61 x = g61 x.1 := by kernel_rfl
theorem k61 : TblOk Try.prog t61 := tblOk_cons o98 (tblOk_nil)
theorem o61 : Holds Try.prog 61 c61 := fn_holds (code := Try.f61.body.getD .skip) (by kernel_rfl) gamOk k61 Try.func61 (by kernel_rfl) (by kernel_rfl) (by kernel_rfl) (by kernel_rfl) v61 (fun x _ h => (r61 x).trans h)
/-! ### 19: loop.example/g00076/impl.NameOk -/
noncomputable def t19 : Tbl := [(61, [], c61)]
noncomputable def a19 : Nat → Option LoopAnn := fun _ => none
noncomputable def g19 (x0 : ByteArray) : Option ((Bool × Unit) × Unit) :=
  (g61 x0).bind fun y1 =>
    some ((y1.1.1, ()), ())
noncomputable def c19 : Ctr := { ins := [.v .str], out := [.bool], F := fun x => g19 x.1 }
theorem v19 : LoopsOk Try.prog Γ t19 a19 (loopsIn (Try.f19.body.getD .skip) 0) := loopsOk_nil (by kernel_rfl)
theorem r19 (x : InsT c19.ins) : fnK Try.prog Γ t19 a19 Try.f19 c19 x = g19 x.1 := by kernel_rfl
theorem k19 : TblOk Try.prog t19 := tblOk_cons o61 (tblOk_nil)
theorem o19 : Holds Try.prog 19 c19 := fn_holds (code := Try.f19.body.getD .skip) (by kernel_rfl) gamOk k19 Try.func19 (by kernel_rfl) (by kernel_rfl) (by kernel_rfl) (by kernel_rfl) v19 (fun x _ h => (r19 x).trans h)
/-! ### 4: loop.example/g00076/laws.FnExactNameOk -/
noncomputable def t4 : Tbl := [(18, [], c18), (19, [], c19)]
noncomputable def a4 : Nat → Option LoopAnn := fun _ => none
noncomputable def g4 (x0 : ByteArray) : Option ((Bool × Unit) × Unit) :=
  bif (decide ((x0.size : Int) > (1048576 : Int))) then
    some ((true, ()), ())
  else
    (g18 x0).bind fun y1 =>
      (g19 x0).bind fun y2 =>
        bif (!(y2.1.1 == y1.1.1)) then
          some ((false, ()), ())
        else
          some ((true, ()), ())
noncomputable def c4 : Ctr := { ins := [.v .str], out := [.bool], F := fun x => g4 x.1 }
theorem v4 : LoopsOk Try.prog Γ t4 a4 (loopsIn (Try.f4.body.getD .skip) 0) := loopsOk_nil (by kernel_rfl)
theorem r4 (x : InsT c4.ins) : fnK Try.prog Γ t4 a4 Try.f4 c4 x = g4 x.1 := by kernel_rfl
theorem k4 : TblOk Try.prog t4 := tblOk_cons o18 (tblOk_cons o19 (tblOk_nil))
theorem o4 : Holds Try.prog 4 c4 := fn_holds (code := Try.f4.body.getD .skip) (by kernel_rfl) gamOk k4 Try.func4 (by kernel_rfl) (by kernel_rfl) (by kernel_rfl) (by kernel_rfl) v4 (fun x _ h => (r4 x).trans h)
end Go.VE.VFnExactNameOk
