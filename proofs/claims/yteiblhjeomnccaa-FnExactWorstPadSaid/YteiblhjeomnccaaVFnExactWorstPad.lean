import Derived.Test.YteiblhjeomnccaaVeZ
import Derived.Test.YteiblhjeomnccaaProg
/- What the functions do that laws.FnExactWorstPad reaches, as plain functions, and that they do it. -/
set_option linter.unusedVariables false
set_option linter.unusedSimpArgs false
namespace Go.VE.VFnExactWorstPad
open Go.Proofs Go.VE
def Γ : TypeId → Option Ty := fun e => bif Nat.beq e 102 then some (.pair (.int .i64) (.pair (.int .i64) (.pair (.int .i64) (.pair (.int .i64) .unit)))) else bif Nat.beq e 104 then some (.pair (.int .i64) (.pair (.int .i64) (.pair (.int .i64) (.pair (.int .i64) .unit)))) else none
theorem gamOk : GamOk Try.prog Γ := gamOk_of [102, 104] (fun e ty h => by
  simp only [Γ] at h
  cases h102 : Nat.beq e 102 with
  | true => simp [Nat.eq_of_beq_eq_true h102]
  | false =>
  simp only [h102, cond_false] at h
  cases h104 : Nat.beq e 104 with
  | true => simp [Nat.eq_of_beq_eq_true h104]
  | false =>
  simp only [h104, cond_false] at h
  cases h) (by kernel_rfl)
/-! ### 42: loop.example/g00076/laws.szChanRowS -/
noncomputable def t42 : Tbl := []
noncomputable def a42 : Nat → Option LoopAnn := fun _ => none
noncomputable def g42 (x0 : (L (Int × (Int × (Int × (Int × Unit)))))) (x1 : Int) : Option ((Int × Unit) × Unit) :=
  bif (decide ((wI (x1 - (x0.len : Int))) < (0 : Int))) then
    some (((-1 : Int), ()), ())
  else
    some (((wI (x1 - (x0.len : Int))), ()), ())
noncomputable def f42 (x0 : (L (Int × (Int × (Int × (Int × Unit)))))) (x1 : Int) : Int :=
  bif (decide ((wI (x1 - (x0.len : Int))) < (0 : Int))) then
    (-1 : Int)
  else
    (wI (x1 - (x0.len : Int)))
theorem n42 (x0 : (L (Int × (Int × (Int × (Int × Unit)))))) (x1 : Int) : g42 x0 x1 = some ((f42 x0 x1, ()), ()) := by
  simp only [g42, f42, pull1]
noncomputable def c42 : Ctr := { ins := [.v (.sl (.pair (.int .i64) (.pair (.int .i64) (.pair (.int .i64) (.pair (.int .i64) .unit))))), .v (.int .i64)], out := [(.int .i64)], F := fun x => some ((f42 x.1 x.2.1, ()), ()) }
theorem v42 : LoopsOk Try.prog Γ t42 a42 (loopsIn (Try.f42.body.getD .skip) 0) := loopsOk_nil (by kernel_rfl)
theorem r42 (x : InsT c42.ins) : fnK Try.prog Γ t42 a42 Try.f42 c42 x = g42 x.1 x.2.1 := by kernel_rfl
theorem k42 : TblOk Try.prog t42 := tblOk_nil
theorem o42 : Holds Try.prog 42 c42 := fn_holds (code := Try.f42.body.getD .skip) (by kernel_rfl) gamOk k42 Try.func42 (by kernel_rfl) (by kernel_rfl) (by kernel_rfl) (by kernel_rfl) v42 (fun x _ h => (r42 x).trans ((n42 x.1 x.2.1).trans h))
/-! ### 44: loop.example/g00076/laws.toCosts -/
noncomputable def t44 : Tbl := []
noncomputable def a44 : Nat → Option LoopAnn := fun _ => none
noncomputable def g44 (x0 : (Int × (Int × (Int × (Int × (Int × (Int × (Int × Unit)))))))) : Option (((Int × (Int × (Int × (Int × (Int × (Int × (Int × Unit))))))) × Unit) × Unit) :=
  some ((x0, ()), ())
noncomputable def f44 (x0 : (Int × (Int × (Int × (Int × (Int × (Int × (Int × Unit)))))))) : (Int × (Int × (Int × (Int × (Int × (Int × (Int × Unit))))))) :=
  x0
theorem n44 (x0 : (Int × (Int × (Int × (Int × (Int × (Int × (Int × Unit)))))))) : g44 x0 = some ((f44 x0, ()), ()) := by
  simp only [g44, f44, pull1]
noncomputable def c44 : Ctr := { ins := [.v (.pair (.int .i64) (.pair (.int .i64) (.pair (.int .i64) (.pair (.int .i64) (.pair (.int .i64) (.pair (.int .i64) (.pair (.int .i64) .unit)))))))], out := [(.pair (.int .i64) (.pair (.int .i64) (.pair (.int .i64) (.pair (.int .i64) (.pair (.int .i64) (.pair (.int .i64) (.pair (.int .i64) .unit)))))))], F := fun x => some ((f44 x.1, ()), ()) }
theorem v44 : LoopsOk Try.prog Γ t44 a44 (loopsIn (Try.f44.body.getD .skip) 0) := loopsOk_nil (by kernel_rfl)
theorem r44 (x : InsT c44.ins) : fnK Try.prog Γ t44 a44 Try.f44 c44 x = g44 x.1 := by kernel_rfl
theorem k44 : TblOk Try.prog t44 := tblOk_nil
theorem o44 : Holds Try.prog 44 c44 := fn_holds (code := Try.f44.body.getD .skip) (by kernel_rfl) gamOk k44 Try.func44 (by kernel_rfl) (by kernel_rfl) (by kernel_rfl) (by kernel_rfl) v44 (fun x _ h => (r44 x).trans ((n44 x.1).trans h))
/-! ### 45: loop.example/g00076/laws.toShape -/
noncomputable def t45 : Tbl := []
noncomputable def a45 : Nat → Option LoopAnn := fun _ => none
noncomputable def g45 (x0 : (Int × (Int × (Int × Unit)))) : Option (((Int × (Int × (Int × Unit))) × Unit) × Unit) :=
  some ((x0, ()), ())
noncomputable def f45 (x0 : (Int × (Int × (Int × Unit)))) : (Int × (Int × (Int × Unit))) :=
  x0
theorem n45 (x0 : (Int × (Int × (Int × Unit)))) : g45 x0 = some ((f45 x0, ()), ()) := by
  simp only [g45, f45, pull1]
noncomputable def c45 : Ctr := { ins := [.v (.pair (.int .i64) (.pair (.int .i64) (.pair (.int .i64) .unit)))], out := [(.pair (.int .i64) (.pair (.int .i64) (.pair (.int .i64) .unit)))], F := fun x => some ((f45 x.1, ()), ()) }
theorem v45 : LoopsOk Try.prog Γ t45 a45 (loopsIn (Try.f45.body.getD .skip) 0) := loopsOk_nil (by kernel_rfl)
theorem r45 (x : InsT c45.ins) : fnK Try.prog Γ t45 a45 Try.f45 c45 x = g45 x.1 := by kernel_rfl
theorem k45 : TblOk Try.prog t45 := tblOk_nil
theorem o45 : Holds Try.prog 45 c45 := fn_holds (code := Try.f45.body.getD .skip) (by kernel_rfl) gamOk k45 Try.func45 (by kernel_rfl) (by kernel_rfl) (by kernel_rfl) (by kernel_rfl) v45 (fun x _ h => (r45 x).trans ((n45 x.1).trans h))
/-! ### 84: loop.example/g00076/laws.toChanRow -/
noncomputable def t84 : Tbl := []
noncomputable def a84 : Nat → Option LoopAnn := fun _ => none
noncomputable def g84 (x0 : (Int × (Int × (Int × (Int × Unit))))) : Option (((Int × (Int × (Int × (Int × Unit)))) × Unit) × Unit) :=
  some ((x0, ()), ())
noncomputable def f84 (x0 : (Int × (Int × (Int × (Int × Unit))))) : (Int × (Int × (Int × (Int × Unit)))) :=
  x0
theorem n84 (x0 : (Int × (Int × (Int × (Int × Unit))))) : g84 x0 = some ((f84 x0, ()), ()) := by
  simp only [g84, f84, pull1]
noncomputable def c84 : Ctr := { ins := [.v (.pair (.int .i64) (.pair (.int .i64) (.pair (.int .i64) (.pair (.int .i64) .unit))))], out := [(.pair (.int .i64) (.pair (.int .i64) (.pair (.int .i64) (.pair (.int .i64) .unit))))], F := fun x => some ((f84 x.1, ()), ()) }
theorem v84 : LoopsOk Try.prog Γ t84 a84 (loopsIn (Try.f84.body.getD .skip) 0) := loopsOk_nil (by kernel_rfl)
theorem r84 (x : InsT c84.ins) : fnK Try.prog Γ t84 a84 Try.f84 c84 x = g84 x.1 := by kernel_rfl
theorem k84 : TblOk Try.prog t84 := tblOk_nil
theorem o84 : Holds Try.prog 84 c84 := fn_holds (code := Try.f84.body.getD .skip) (by kernel_rfl) gamOk k84 Try.func84 (by kernel_rfl) (by kernel_rfl) (by kernel_rfl) (by kernel_rfl) v84 (fun x _ h => (r84 x).trans ((n84 x.1).trans h))
/-! ### 46: loop.example/g00076/laws.toChanRowS -/
noncomputable def t46 : Tbl := [(84, [], c84)]
abbrev h46_L0 : Shape := { slots := [(0, .v (.sl (.pair (.int .i64) (.pair (.int .i64) (.pair (.int .i64) (.pair (.int .i64) .unit)))))), (3, .ms 7), (4, .v (.int .i64))], boxes := [(7, .arr (.pair (.int .i64) (.pair (.int .i64) (.pair (.int .i64) (.pair (.int .i64) .unit)))))] }
abbrev e46_L0 : List (XT × Shape) := [(.exit 0, { slots := [(3, .ms 7)], boxes := [(7, .arr (.pair (.int .i64) (.pair (.int .i64) (.pair (.int .i64) (.pair (.int .i64) .unit)))))] })]
noncomputable def q46_L0 (t0 : (L (Int × (Int × (Int × (Int × Unit)))))) (t4 : Int) (r7 : (L (Int × (Int × (Int × (Int × Unit)))))) : Option ((((L (Int × (Int × (Int × (Int × Unit))))) × (Unit × (Int × Unit))) × ((L (Int × (Int × (Int × (Int × Unit))))) × Unit)) ⊕ (((Unit × Unit) × ((L (Int × (Int × (Int × (Int × Unit))))) × Unit)) ⊕ Empty)) :=
  bif (decide (t4 < (t0.len : Int))) then
    bif (decide (0 ≤ t4) && decide (t4 < (t0.len : Int))) then
      bif (decide (0 ≤ t4) && decide (t4 < (r7.len : Int))) then
        some (.inl ((t0, ((), ((wI (t4 + (1 : Int))), ()))), ((L.set r7 t4.toNat (f84 (L.get t0 t4.toNat))), ())))
      else
        none
    else
      none
  else
    some (.inr (.inl (((), ()), (r7, ()))))
noncomputable def s46_L0 (x : (((L (Int × (Int × (Int × (Int × Unit))))) × (Unit × (Int × Unit))) × ((L (Int × (Int × (Int × (Int × Unit))))) × Unit))) : Option ((((L (Int × (Int × (Int × (Int × Unit))))) × (Unit × (Int × Unit))) × ((L (Int × (Int × (Int × (Int × Unit))))) × Unit)) ⊕ (((Unit × Unit) × ((L (Int × (Int × (Int × (Int × Unit))))) × Unit)) ⊕ Empty)) := q46_L0 x.1.1 x.1.2.2.1 x.2.1
noncomputable def a46 : Nat → Option LoopAnn := fun c => bif Nat.beq c 0 then some (.fix h46_L0 e46_L0 s46_L0) else none
noncomputable def g46 (x0 : (L (Int × (Int × (Int × (Int × Unit)))))) : Option (((L (Int × (Int × (Int × (Int × Unit))))) × Unit) × Unit) :=
  bif (decide ((x0.len : Int) = (x0.len : Int)) && (decide (0 ≤ (x0.len : Int)) && (decide ((x0.len : Int) ≤ 2 ^ 40) && decide (32 * (x0.len : Int) ≤ 2 ^ 48)))) then
    (fixO s46_L0 ((x0, ((), ((0 : Int), ()))), ((L.rep (x0.len : Int).toNat (Ty.zero (.pair (.int .i64) (.pair (.int .i64) (.pair (.int .i64) (.pair (.int .i64) .unit)))))), ()))).bind fun d2 => match d2 with
    | .inl y1 =>
      some ((y1.2.1, ()), ())
    | .inr e => nomatch e
  else
    none
noncomputable def c46 : Ctr := { ins := [.v (.sl (.pair (.int .i64) (.pair (.int .i64) (.pair (.int .i64) (.pair (.int .i64) .unit)))))], out := [(.sl (.pair (.int .i64) (.pair (.int .i64) (.pair (.int .i64) (.pair (.int .i64) .unit)))))], F := fun x => g46 x.1 }
noncomputable def l46 : List (Nat × Code) := loopsIn (Try.f46.body.getD .skip) 0
theorem w46_L0 (x : h46_L0.T) : runK Try.prog Γ t46 a46 (l46.getD 0 (0, .skip)).2 0 (pkSh h46_L0 x) (loopCls (sh := h46_L0) (es := e46_L0)) = (s46_L0 x : Option _) := by kernel_rfl
theorem v46 : LoopsOk Try.prog Γ t46 a46 (loopsIn (Try.f46.body.getD .skip) 0) := by
  have e : loopsIn (Try.f46.body.getD .skip) 0 = [(0, (l46.getD 0 (0, .skip)).2)] := by kernel_rfl
  rw [e]
  exact ⟨fun x d h => (w46_L0 x).trans h, trivial⟩
theorem r46 (x : InsT c46.ins) : fnK Try.prog Γ t46 a46 Try.f46 c46 x = g46 x.1 := by kernel_rfl
theorem k46 : TblOk Try.prog t46 := tblOk_cons o84 (tblOk_nil)
theorem o46 : Holds Try.prog 46 c46 := fn_holds (code := Try.f46.body.getD .skip) (by kernel_rfl) gamOk k46 Try.func46 (by kernel_rfl) (by kernel_rfl) (by kernel_rfl) (by kernel_rfl) v46 (fun x _ h => (r46 x).trans h)
/-! ### 62: loop.example/g00076/spec.l01In -/
noncomputable def t62 : Tbl := []
noncomputable def a62 : Nat → Option LoopAnn := fun _ => none
noncomputable def g62 (x0 : Int) (x1 : Int) (x2 : Int) : Option ((Bool × Unit) × Unit) :=
  bif (decide (x0 ≥ x1)) then
    some (((decide (x0 ≤ x2)), ()), ())
  else
    some ((false, ()), ())
noncomputable def f62 (x0 : Int) (x1 : Int) (x2 : Int) : Bool :=
  bif (decide (x0 ≥ x1)) then
    (decide (x0 ≤ x2))
  else
    false
theorem n62 (x0 : Int) (x1 : Int) (x2 : Int) : g62 x0 x1 x2 = some ((f62 x0 x1 x2, ()), ()) := by
  simp only [g62, f62, pull1]
noncomputable def c62 : Ctr := { ins := [.v (.int .i64), .v (.int .i64), .v (.int .i64)], out := [.bool], F := fun x => some ((f62 x.1 x.2.1 x.2.2.1, ()), ()) }
theorem v62 : LoopsOk Try.prog Γ t62 a62 (loopsIn (Try.f62.body.getD .skip) 0) := loopsOk_nil (by kernel_rfl)
theorem r62 (x : InsT c62.ins) : fnK Try.prog Γ t62 a62 Try.f62 c62 x = g62 x.1 x.2.1 x.2.2.1 := by kernel_rfl
theorem k62 : TblOk Try.prog t62 := tblOk_nil
theorem o62 : Holds Try.prog 62 c62 := fn_holds (code := Try.f62.body.getD .skip) (by kernel_rfl) gamOk k62 Try.func62 (by kernel_rfl) (by kernel_rfl) (by kernel_rfl) (by kernel_rfl) v62 (fun x _ h => (r62 x).trans ((n62 x.1 x.2.1 x.2.2.1).trans h))
/-! ### 81: loop.example/g00076/spec.CostsOk -/
noncomputable def t81 : Tbl := [(62, [], c62)]
noncomputable def a81 : Nat → Option LoopAnn := fun _ => none
noncomputable def g81 (x0 : (Int × (Int × (Int × (Int × (Int × (Int × (Int × Unit)))))))) : Option ((Bool × Unit) × Unit) :=
  bif (f62 x0.1 (1 : Int) (20 : Int)) then
    bif (f62 x0.2.1 (0 : Int) (50 : Int)) then
      bif (f62 x0.2.2.1 (0 : Int) (50 : Int)) then
        bif (f62 x0.2.2.2.1 (0 : Int) (50 : Int)) then
          bif (f62 x0.2.2.2.2.1 (0 : Int) (50 : Int)) then
            bif (f62 x0.2.2.2.2.2.1 (0 : Int) (50 : Int)) then
              some (((f62 x0.2.2.2.2.2.2.1 (0 : Int) (50 : Int)), ()), ())
            else
              some ((false, ()), ())
          else
            some ((false, ()), ())
        else
          some ((false, ()), ())
      else
        some ((false, ()), ())
    else
      some ((false, ()), ())
  else
    some ((false, ()), ())
noncomputable def f81 (x0 : (Int × (Int × (Int × (Int × (Int × (Int × (Int × Unit)))))))) : Bool :=
  bif (f62 x0.1 (1 : Int) (20 : Int)) then
    bif (f62 x0.2.1 (0 : Int) (50 : Int)) then
      bif (f62 x0.2.2.1 (0 : Int) (50 : Int)) then
        bif (f62 x0.2.2.2.1 (0 : Int) (50 : Int)) then
          bif (f62 x0.2.2.2.2.1 (0 : Int) (50 : Int)) then
            bif (f62 x0.2.2.2.2.2.1 (0 : Int) (50 : Int)) then
              (f62 x0.2.2.2.2.2.2.1 (0 : Int) (50 : Int))
            else
              false
          else
            false
        else
          false
      else
        false
    else
      false
  else
    false
theorem n81 (x0 : (Int × (Int × (Int × (Int × (Int × (Int × (Int × Unit)))))))) : g81 x0 = some ((f81 x0, ()), ()) := by
  simp only [g81, f81, pull1]
noncomputable def c81 : Ctr := { ins := [.v (.pair (.int .i64) (.pair (.int .i64) (.pair (.int .i64) (.pair (.int .i64) (.pair (.int .i64) (.pair (.int .i64) (.pair (.int .i64) .unit)))))))], out := [.bool], F := fun x => some ((f81 x.1, ()), ()) }
theorem v81 : LoopsOk Try.prog Γ t81 a81 (loopsIn (Try.f81.body.getD .skip) 0) := loopsOk_nil (by kernel_rfl)
theorem r81 (x : InsT c81.ins) : fnK Try.prog Γ t81 a81 Try.f81 c81 x = g81 x.1 := by kernel_rfl
theorem k81 : TblOk Try.prog t81 := tblOk_cons o62 (tblOk_nil)
theorem o81 : Holds Try.prog 81 c81 := fn_holds (code := Try.f81.body.getD .skip) (by kernel_rfl) gamOk k81 Try.func81 (by kernel_rfl) (by kernel_rfl) (by kernel_rfl) (by kernel_rfl) v81 (fun x _ h => (r81 x).trans ((n81 x.1).trans h))
/-! ### 82: loop.example/g00076/spec.ShapeOk -/
noncomputable def t82 : Tbl := [(62, [], c62)]
noncomputable def a82 : Nat → Option LoopAnn := fun _ => none
noncomputable def g82 (x0 : (Int × (Int × (Int × Unit)))) : Option ((Bool × Unit) × Unit) :=
  bif (x0.1 == (1 : Int)) then
    bif (x0.2.2.1 == (4 : Int)) then
      some (((f62 x0.2.1 (1 : Int) (4 : Int)), ()), ())
    else
      bif (x0.2.2.1 == (8 : Int)) then
        some (((f62 x0.2.1 (1 : Int) (4 : Int)), ()), ())
      else
        bif (x0.2.2.1 == (16 : Int)) then
          some (((f62 x0.2.1 (1 : Int) (4 : Int)), ()), ())
        else
          bif (x0.2.2.1 == (32 : Int)) then
            some (((f62 x0.2.1 (1 : Int) (4 : Int)), ()), ())
          else
            some ((false, ()), ())
  else
    bif (x0.1 == (2 : Int)) then
      bif (x0.2.2.1 == (4 : Int)) then
        some (((f62 x0.2.1 (1 : Int) (4 : Int)), ()), ())
      else
        bif (x0.2.2.1 == (8 : Int)) then
          some (((f62 x0.2.1 (1 : Int) (4 : Int)), ()), ())
        else
          bif (x0.2.2.1 == (16 : Int)) then
            some (((f62 x0.2.1 (1 : Int) (4 : Int)), ()), ())
          else
            bif (x0.2.2.1 == (32 : Int)) then
              some (((f62 x0.2.1 (1 : Int) (4 : Int)), ()), ())
            else
              some ((false, ()), ())
    else
      bif (x0.1 == (4 : Int)) then
        bif (x0.2.2.1 == (4 : Int)) then
          some (((f62 x0.2.1 (1 : Int) (4 : Int)), ()), ())
        else
          bif (x0.2.2.1 == (8 : Int)) then
            some (((f62 x0.2.1 (1 : Int) (4 : Int)), ()), ())
          else
            bif (x0.2.2.1 == (16 : Int)) then
              some (((f62 x0.2.1 (1 : Int) (4 : Int)), ()), ())
            else
              bif (x0.2.2.1 == (32 : Int)) then
                some (((f62 x0.2.1 (1 : Int) (4 : Int)), ()), ())
              else
                some ((false, ()), ())
      else
        bif (x0.1 == (8 : Int)) then
          bif (x0.2.2.1 == (4 : Int)) then
            some (((f62 x0.2.1 (1 : Int) (4 : Int)), ()), ())
          else
            bif (x0.2.2.1 == (8 : Int)) then
              some (((f62 x0.2.1 (1 : Int) (4 : Int)), ()), ())
            else
              bif (x0.2.2.1 == (16 : Int)) then
                some (((f62 x0.2.1 (1 : Int) (4 : Int)), ()), ())
              else
                bif (x0.2.2.1 == (32 : Int)) then
                  some (((f62 x0.2.1 (1 : Int) (4 : Int)), ()), ())
                else
                  some ((false, ()), ())
        else
          bif (x0.2.2.1 == (4 : Int)) then
            bif (x0.1 == (16 : Int)) then
              some (((f62 x0.2.1 (1 : Int) (4 : Int)), ()), ())
            else
              some ((false, ()), ())
          else
            bif (x0.2.2.1 == (8 : Int)) then
              bif (x0.1 == (16 : Int)) then
                some (((f62 x0.2.1 (1 : Int) (4 : Int)), ()), ())
              else
                some ((false, ()), ())
            else
              bif (x0.2.2.1 == (16 : Int)) then
                bif (x0.1 == (16 : Int)) then
                  some (((f62 x0.2.1 (1 : Int) (4 : Int)), ()), ())
                else
                  some ((false, ()), ())
              else
                bif (x0.1 == (16 : Int)) then
                  bif (x0.2.2.1 == (32 : Int)) then
                    some (((f62 x0.2.1 (1 : Int) (4 : Int)), ()), ())
                  else
                    some ((false, ()), ())
                else
                  some ((false, ()), ())
noncomputable def f82 (x0 : (Int × (Int × (Int × Unit)))) : Bool :=
  bif (x0.1 == (1 : Int)) then
    bif (x0.2.2.1 == (4 : Int)) then
      (f62 x0.2.1 (1 : Int) (4 : Int))
    else
      bif (x0.2.2.1 == (8 : Int)) then
        (f62 x0.2.1 (1 : Int) (4 : Int))
      else
        bif (x0.2.2.1 == (16 : Int)) then
          (f62 x0.2.1 (1 : Int) (4 : Int))
        else
          bif (x0.2.2.1 == (32 : Int)) then
            (f62 x0.2.1 (1 : Int) (4 : Int))
          else
            false
  else
    bif (x0.1 == (2 : Int)) then
      bif (x0.2.2.1 == (4 : Int)) then
        (f62 x0.2.1 (1 : Int) (4 : Int))
      else
        bif (x0.2.2.1 == (8 : Int)) then
          (f62 x0.2.1 (1 : Int) (4 : Int))
        else
          bif (x0.2.2.1 == (16 : Int)) then
            (f62 x0.2.1 (1 : Int) (4 : Int))
          else
            bif (x0.2.2.1 == (32 : Int)) then
              (f62 x0.2.1 (1 : Int) (4 : Int))
            else
              false
    else
      bif (x0.1 == (4 : Int)) then
        bif (x0.2.2.1 == (4 : Int)) then
          (f62 x0.2.1 (1 : Int) (4 : Int))
        else
          bif (x0.2.2.1 == (8 : Int)) then
            (f62 x0.2.1 (1 : Int) (4 : Int))
          else
            bif (x0.2.2.1 == (16 : Int)) then
              (f62 x0.2.1 (1 : Int) (4 : Int))
            else
              bif (x0.2.2.1 == (32 : Int)) then
                (f62 x0.2.1 (1 : Int) (4 : Int))
              else
                false
      else
        bif (x0.1 == (8 : Int)) then
          bif (x0.2.2.1 == (4 : Int)) then
            (f62 x0.2.1 (1 : Int) (4 : Int))
          else
            bif (x0.2.2.1 == (8 : Int)) then
              (f62 x0.2.1 (1 : Int) (4 : Int))
            else
              bif (x0.2.2.1 == (16 : Int)) then
                (f62 x0.2.1 (1 : Int) (4 : Int))
              else
                bif (x0.2.2.1 == (32 : Int)) then
                  (f62 x0.2.1 (1 : Int) (4 : Int))
                else
                  false
        else
          bif (x0.2.2.1 == (4 : Int)) then
            bif (x0.1 == (16 : Int)) then
              (f62 x0.2.1 (1 : Int) (4 : Int))
            else
              false
          else
            bif (x0.2.2.1 == (8 : Int)) then
              bif (x0.1 == (16 : Int)) then
                (f62 x0.2.1 (1 : Int) (4 : Int))
              else
                false
            else
              bif (x0.2.2.1 == (16 : Int)) then
                bif (x0.1 == (16 : Int)) then
                  (f62 x0.2.1 (1 : Int) (4 : Int))
                else
                  false
              else
                bif (x0.1 == (16 : Int)) then
                  bif (x0.2.2.1 == (32 : Int)) then
                    (f62 x0.2.1 (1 : Int) (4 : Int))
                  else
                    false
                else
                  false
theorem n82 (x0 : (Int × (Int × (Int × Unit)))) : g82 x0 = some ((f82 x0, ()), ()) := by
  simp only [g82, f82, pull1]
noncomputable def c82 : Ctr := { ins := [.v (.pair (.int .i64) (.pair (.int .i64) (.pair (.int .i64) .unit)))], out := [.bool], F := fun x => some ((f82 x.1, ()), ()) }
theorem v82 : LoopsOk Try.prog Γ t82 a82 (loopsIn (Try.f82.body.getD .skip) 0) := loopsOk_nil (by kernel_rfl)
theorem r82 (x : InsT c82.ins) : fnK Try.prog Γ t82 a82 Try.f82 c82 x = g82 x.1 := by kernel_rfl
theorem k82 : TblOk Try.prog t82 := tblOk_cons o62 (tblOk_nil)
theorem o82 : Holds Try.prog 82 c82 := fn_holds (code := Try.f82.body.getD .skip) (by kernel_rfl) gamOk k82 Try.func82 (by kernel_rfl) (by kernel_rfl) (by kernel_rfl) (by kernel_rfl) v82 (fun x _ h => (r82 x).trans ((n82 x.1).trans h))
/-! ### 83: loop.example/g00076/spec.ChanOk -/
noncomputable def t83 : Tbl := [(62, [], c62)]
noncomputable def a83 : Nat → Option LoopAnn := fun _ => none
noncomputable def g83 (x0 : (Int × (Int × (Int × (Int × Unit))))) : Option ((Bool × Unit) × Unit) :=
  bif (!(f62 x0.2.1 (0 : Int) (5 : Int))) then
    some ((false, ()), ())
  else
    bif (!(f62 x0.2.2.1 (0 : Int) (5 : Int))) then
      some ((false, ()), ())
    else
      bif (x0.2.1 == x0.2.2.1) then
        some ((false, ()), ())
      else
        bif (x0.1 == (0 : Int)) then
          bif (x0.2.2.2.1 == (0 : Int)) then
            some ((true, ()), ())
          else
            bif (x0.1 == (1 : Int)) then
              some (((f62 x0.2.2.2.1 (1 : Int) (8 : Int)), ()), ())
            else
              some ((false, ()), ())
        else
          bif (x0.1 == (1 : Int)) then
            some (((f62 x0.2.2.2.1 (1 : Int) (8 : Int)), ()), ())
          else
            some ((false, ()), ())
noncomputable def f83 (x0 : (Int × (Int × (Int × (Int × Unit))))) : Bool :=
  bif (!(f62 x0.2.1 (0 : Int) (5 : Int))) then
    false
  else
    bif (!(f62 x0.2.2.1 (0 : Int) (5 : Int))) then
      false
    else
      bif (x0.2.1 == x0.2.2.1) then
        false
      else
        bif (x0.1 == (0 : Int)) then
          bif (x0.2.2.2.1 == (0 : Int)) then
            true
          else
            bif (x0.1 == (1 : Int)) then
              (f62 x0.2.2.2.1 (1 : Int) (8 : Int))
            else
              false
        else
          bif (x0.1 == (1 : Int)) then
            (f62 x0.2.2.2.1 (1 : Int) (8 : Int))
          else
            false
theorem n83 (x0 : (Int × (Int × (Int × (Int × Unit))))) : g83 x0 = some ((f83 x0, ()), ()) := by
  simp only [g83, f83, pull1]
noncomputable def c83 : Ctr := { ins := [.v (.pair (.int .i64) (.pair (.int .i64) (.pair (.int .i64) (.pair (.int .i64) .unit))))], out := [.bool], F := fun x => some ((f83 x.1, ()), ()) }
theorem v83 : LoopsOk Try.prog Γ t83 a83 (loopsIn (Try.f83.body.getD .skip) 0) := loopsOk_nil (by kernel_rfl)
theorem r83 (x : InsT c83.ins) : fnK Try.prog Γ t83 a83 Try.f83 c83 x = g83 x.1 := by kernel_rfl
theorem k83 : TblOk Try.prog t83 := tblOk_cons o62 (tblOk_nil)
theorem o83 : Holds Try.prog 83 c83 := fn_holds (code := Try.f83.body.getD .skip) (by kernel_rfl) gamOk k83 Try.func83 (by kernel_rfl) (by kernel_rfl) (by kernel_rfl) (by kernel_rfl) v83 (fun x _ h => (r83 x).trans ((n83 x.1).trans h))
/-! ### 43: loop.example/g00076/spec.WorstPad -/
noncomputable def t43 : Tbl := [(81, [], c81), (82, [], c82), (83, [], c83)]
abbrev h43_L0 : Shape := { slots := [(2, .v (.sl (.pair (.int .i64) (.pair (.int .i64) (.pair (.int .i64) (.pair (.int .i64) .unit)))))), (3, .bx 3 0), (7, .v (.int .i64)), (8, .v (.int .i64))], boxes := [(3, .cells [.v (.int .i64), .v (.int .i64), .v (.int .i64), .v (.int .i64), .v (.int .i64), .v (.int .i64), .v (.int .i64)])] }
abbrev e43_L0 : List (XT × Shape) := [(.ret, { slots := [(6, .v (.int .i64))], boxes := [] }), (.exit 0, { slots := [(7, .v (.int .i64))], boxes := [] })]
noncomputable def q43_L0 (t2 : (L (Int × (Int × (Int × (Int × Unit)))))) (t7 : Int) (t8 : Int) (b3_0 : Int) (b3_1 : Int) (b3_2 : Int) (b3_3 : Int) (b3_4 : Int) (b3_5 : Int) (b3_6 : Int) : Option ((((L (Int × (Int × (Int × (Int × Unit))))) × (Unit × (Int × (Int × Unit)))) × ((Int × (Int × (Int × (Int × (Int × (Int × (Int × Unit))))))) × Unit)) ⊕ (((Int × Unit) × Unit) ⊕ (((Int × Unit) × Unit) ⊕ Empty))) :=
  bif (decide (t8 < (t2.len : Int))) then
    bif (decide (0 ≤ t8) && decide (t8 < (t2.len : Int))) then
      bif (!(f83 (L.get t2 t8.toNat))) then
        some (.inr (.inl (((-1 : Int), ()), ())))
      else
        bif (decide (0 ≤ t8) && decide (t8 < (t2.len : Int))) then
          bif ((L.get t2 t8.toNat).1 == (0 : Int)) then
            some (.inl ((t2, ((), ((wI (t7 + b3_0)), ((wI (t8 + (1 : Int))), ())))), ((b3_0, (b3_1, (b3_2, (b3_3, (b3_4, (b3_5, (b3_6, ()))))))), ())))
          else
            bif (decide (0 ≤ t8) && decide (t8 < (t2.len : Int))) then
              some (.inl ((t2, ((), ((wI (t7 + (wI (b3_0 * (L.get t2 t8.toNat).2.2.2.1)))), ((wI (t8 + (1 : Int))), ())))), ((b3_0, (b3_1, (b3_2, (b3_3, (b3_4, (b3_5, (b3_6, ()))))))), ())))
            else
              none
        else
          none
    else
      none
  else
    some (.inr (.inr (.inl ((t7, ()), ()))))
noncomputable def s43_L0 (x : (((L (Int × (Int × (Int × (Int × Unit))))) × (Unit × (Int × (Int × Unit)))) × ((Int × (Int × (Int × (Int × (Int × (Int × (Int × Unit))))))) × Unit))) : Option ((((L (Int × (Int × (Int × (Int × Unit))))) × (Unit × (Int × (Int × Unit)))) × ((Int × (Int × (Int × (Int × (Int × (Int × (Int × Unit))))))) × Unit)) ⊕ (((Int × Unit) × Unit) ⊕ (((Int × Unit) × Unit) ⊕ Empty))) := q43_L0 x.1.1 x.1.2.2.1 x.1.2.2.2.1 x.2.1.1 x.2.1.2.1 x.2.1.2.2.1 x.2.1.2.2.2.1 x.2.1.2.2.2.2.1 x.2.1.2.2.2.2.2.1 x.2.1.2.2.2.2.2.2.1
noncomputable def a43 : Nat → Option LoopAnn := fun c => bif Nat.beq c 0 then some (.fix h43_L0 e43_L0 s43_L0) else none
noncomputable def g43 (x0 : (Int × (Int × (Int × (Int × (Int × (Int × (Int × Unit)))))))) (x1 : (Int × (Int × (Int × Unit)))) (x2 : (L (Int × (Int × (Int × (Int × Unit)))))) : Option ((Int × Unit) × Unit) :=
  bif (!(f81 x0)) then
    some (((-1 : Int), ()), ())
  else
    bif (!(f82 x1)) then
      some (((-1 : Int), ()), ())
    else
      bif (decide ((x2.len : Int) > (8 : Int))) then
        some (((-1 : Int), ()), ())
      else
        (fixO s43_L0 ((x2, ((), ((wI ((wI ((16 : Int) * x0.1)) + (wI ((wI (x1.1 * x1.2.1)) * x0.2.2.2.2.2.2.1)))), ((0 : Int), ())))), (x0, ()))).bind fun d2 => match d2 with
        | .inl y1 =>
          some ((y1.1.1, ()), ())
        | .inr (.inl y1) =>
          some ((y1.1.1, ()), ())
        | .inr (.inr e) => nomatch e
noncomputable def c43 : Ctr := { ins := [.v (.pair (.int .i64) (.pair (.int .i64) (.pair (.int .i64) (.pair (.int .i64) (.pair (.int .i64) (.pair (.int .i64) (.pair (.int .i64) .unit))))))), .v (.pair (.int .i64) (.pair (.int .i64) (.pair (.int .i64) .unit))), .v (.sl (.pair (.int .i64) (.pair (.int .i64) (.pair (.int .i64) (.pair (.int .i64) .unit)))))], out := [(.int .i64)], F := fun x => g43 x.1 x.2.1 x.2.2.1 }
noncomputable def l43 : List (Nat × Code) := loopsIn (Try.f43.body.getD .skip) 0
theorem w43_L0 (x : h43_L0.T) : runK Try.prog Γ t43 a43 (l43.getD 0 (0, .skip)).2 0 (pkSh h43_L0 x) (loopCls (sh := h43_L0) (es := e43_L0)) = (s43_L0 x : Option _) := by kernel_rfl
theorem v43 : LoopsOk Try.prog Γ t43 a43 (loopsIn (Try.f43.body.getD .skip) 0) := by
  have e : loopsIn (Try.f43.body.getD .skip) 0 = [(0, (l43.getD 0 (0, .skip)).2)] := by kernel_rfl
  rw [e]
  exact ⟨fun x d h => (w43_L0 x).trans h, trivial⟩
theorem r43 (x : InsT c43.ins) : fnK Try.prog Γ t43 a43 Try.f43 c43 x = g43 x.1 x.2.1 x.2.2.1 := by kernel_rfl
theorem k43 : TblOk Try.prog t43 := tblOk_cons o81 (tblOk_cons o82 (tblOk_cons o83 (tblOk_nil)))
theorem o43 : Holds Try.prog 43 c43 := fn_holds (code := Try.f43.body.getD .skip) (by kernel_rfl) gamOk k43 Try.func43 (by kernel_rfl) (by kernel_rfl) (by kernel_rfl) (by kernel_rfl) v43 (fun x _ h => (r43 x).trans h)
/-! ### 63: loop.example/g00076/impl.within -/
noncomputable def t63 : Tbl := []
noncomputable def a63 : Nat → Option LoopAnn := fun _ => none
noncomputable def g63 (x0 : Int) (x1 : Int) (x2 : Int) : Option ((Bool × Unit) × Unit) :=
  bif (decide (x0 ≥ x1)) then
    some (((decide (x0 ≤ x2)), ()), ())
  else
    some ((false, ()), ())
noncomputable def f63 (x0 : Int) (x1 : Int) (x2 : Int) : Bool :=
  bif (decide (x0 ≥ x1)) then
    (decide (x0 ≤ x2))
  else
    false
theorem n63 (x0 : Int) (x1 : Int) (x2 : Int) : g63 x0 x1 x2 = some ((f63 x0 x1 x2, ()), ()) := by
  simp only [g63, f63, pull1]
noncomputable def c63 : Ctr := { ins := [.v (.int .i64), .v (.int .i64), .v (.int .i64)], out := [.bool], F := fun x => some ((f63 x.1 x.2.1 x.2.2.1, ()), ()) }
theorem v63 : LoopsOk Try.prog Γ t63 a63 (loopsIn (Try.f63.body.getD .skip) 0) := loopsOk_nil (by kernel_rfl)
theorem r63 (x : InsT c63.ins) : fnK Try.prog Γ t63 a63 Try.f63 c63 x = g63 x.1 x.2.1 x.2.2.1 := by kernel_rfl
theorem k63 : TblOk Try.prog t63 := tblOk_nil
theorem o63 : Holds Try.prog 63 c63 := fn_holds (code := Try.f63.body.getD .skip) (by kernel_rfl) gamOk k63 Try.func63 (by kernel_rfl) (by kernel_rfl) (by kernel_rfl) (by kernel_rfl) v63 (fun x _ h => (r63 x).trans ((n63 x.1 x.2.1 x.2.2.1).trans h))
/-! ### 85: loop.example/g00076/impl.areCosts -/
noncomputable def t85 : Tbl := [(63, [], c63)]
noncomputable def a85 : Nat → Option LoopAnn := fun c => bif Nat.beq c 0 then some (.unroll 7 [1, 17, 18] [1]) else none
noncomputable def g85 (x0 : (Int × (Int × (Int × (Int × (Int × (Int × (Int × Unit)))))))) : Option ((Bool × Unit) × Unit) :=
  bif (!(f63 x0.2.1 (0 : Int) (50 : Int))) then
    some ((false, ()), ())
  else
    bif (!(f63 x0.2.2.1 (0 : Int) (50 : Int))) then
      some ((false, ()), ())
    else
      bif (!(f63 x0.2.2.2.1 (0 : Int) (50 : Int))) then
        some ((false, ()), ())
      else
        bif (!(f63 x0.2.2.2.2.1 (0 : Int) (50 : Int))) then
          some ((false, ()), ())
        else
          bif (!(f63 x0.2.2.2.2.2.1 (0 : Int) (50 : Int))) then
            some ((false, ()), ())
          else
            bif (!(f63 x0.2.2.2.2.2.2.1 (0 : Int) (50 : Int))) then
              some ((false, ()), ())
            else
              some (((f63 x0.1 (1 : Int) (20 : Int)), ()), ())
noncomputable def f85 (x0 : (Int × (Int × (Int × (Int × (Int × (Int × (Int × Unit)))))))) : Bool :=
  bif (!(f63 x0.2.1 (0 : Int) (50 : Int))) then
    false
  else
    bif (!(f63 x0.2.2.1 (0 : Int) (50 : Int))) then
      false
    else
      bif (!(f63 x0.2.2.2.1 (0 : Int) (50 : Int))) then
        false
      else
        bif (!(f63 x0.2.2.2.2.1 (0 : Int) (50 : Int))) then
          false
        else
          bif (!(f63 x0.2.2.2.2.2.1 (0 : Int) (50 : Int))) then
            false
          else
            bif (!(f63 x0.2.2.2.2.2.2.1 (0 : Int) (50 : Int))) then
              false
            else
              (f63 x0.1 (1 : Int) (20 : Int))
theorem n85 (x0 : (Int × (Int × (Int × (Int × (Int × (Int × (Int × Unit)))))))) : g85 x0 = some ((f85 x0, ()), ()) := by
  simp only [g85, f85, pull1]
noncomputable def c85 : Ctr := { ins := [.v (.pair (.int .i64) (.pair (.int .i64) (.pair (.int .i64) (.pair (.int .i64) (.pair (.int .i64) (.pair (.int .i64) (.pair (.int .i64) .unit)))))))], out := [.bool], F := fun x => some ((f85 x.1, ()), ()) }
noncomputable def l85 : List (Nat × Code) := loopsIn (Try.f85.body.getD .skip) 0
theorem v85 : LoopsOk Try.prog Γ t85 a85 (loopsIn (Try.f85.body.getD .skip) 0) := by
  have e : loopsIn (Try.f85.body.getD .skip) 0 = [(0, (l85.getD 0 (0, .skip)).2)] := by kernel_rfl
  rw [e]
  exact ⟨trivial, trivial⟩
theorem r85 (x : InsT c85.ins) : fnK Try.prog Γ t85 a85 Try.f85 c85 x = g85 x.1 := by kernel_rfl
theorem k85 : TblOk Try.prog t85 := tblOk_cons o63 (tblOk_nil)
theorem o85 : Holds Try.prog 85 c85 := fn_holds (code := Try.f85.body.getD .skip) (by kernel_rfl) gamOk k85 Try.func85 (by kernel_rfl) (by kernel_rfl) (by kernel_rfl) (by kernel_rfl) v85 (fun x _ h => (r85 x).trans ((n85 x.1).trans h))
/-! ### 100: loop.example/g00076/impl.isPower -/
noncomputable def t100 : Tbl := []
noncomputable def a100 : Nat → Option LoopAnn := fun _ => none
noncomputable def g100 (x0 : Int) : Option ((Bool × Unit) × Unit) :=
  bif (decide (x0 > (0 : Int))) then
    some ((((andOf .i64 x0 (wI (x0 - (1 : Int)))) == (0 : Int)), ()), ())
  else
    some ((false, ()), ())
noncomputable def f100 (x0 : Int) : Bool :=
  bif (decide (x0 > (0 : Int))) then
    ((andOf .i64 x0 (wI (x0 - (1 : Int)))) == (0 : Int))
  else
    false
theorem n100 (x0 : Int) : g100 x0 = some ((f100 x0, ()), ()) := by
  simp only [g100, f100, pull1]
noncomputable def c100 : Ctr := { ins := [.v (.int .i64)], out := [.bool], F := fun x => some ((f100 x.1, ()), ()) }
theorem v100 : LoopsOk Try.prog Γ t100 a100 (loopsIn (Try.f100.body.getD .skip) 0) := loopsOk_nil (by kernel_rfl)
theorem r100 (x : InsT c100.ins) : fnK Try.prog Γ t100 a100 Try.f100 c100 x = g100 x.1 := by kernel_rfl
theorem k100 : TblOk Try.prog t100 := tblOk_nil
theorem o100 : Holds Try.prog 100 c100 := fn_holds (code := Try.f100.body.getD .skip) (by kernel_rfl) gamOk k100 Try.func100 (by kernel_rfl) (by kernel_rfl) (by kernel_rfl) (by kernel_rfl) v100 (fun x _ h => (r100 x).trans ((n100 x.1).trans h))
/-! ### 86: loop.example/g00076/impl.isShape -/
noncomputable def t86 : Tbl := [(63, [], c63), (100, [], c100)]
noncomputable def a86 : Nat → Option LoopAnn := fun _ => none
noncomputable def g86 (x0 : (Int × (Int × (Int × Unit)))) : Option ((Bool × Unit) × Unit) :=
  bif (f63 x0.1 (1 : Int) (16 : Int)) then
    bif (f100 x0.1) then
      bif (f63 x0.2.1 (1 : Int) (4 : Int)) then
        bif (f63 x0.2.2.1 (4 : Int) (32 : Int)) then
          some (((f100 x0.2.2.1), ()), ())
        else
          some ((false, ()), ())
      else
        some ((false, ()), ())
    else
      some ((false, ()), ())
  else
    some ((false, ()), ())
noncomputable def f86 (x0 : (Int × (Int × (Int × Unit)))) : Bool :=
  bif (f63 x0.1 (1 : Int) (16 : Int)) then
    bif (f100 x0.1) then
      bif (f63 x0.2.1 (1 : Int) (4 : Int)) then
        bif (f63 x0.2.2.1 (4 : Int) (32 : Int)) then
          (f100 x0.2.2.1)
        else
          false
      else
        false
    else
      false
  else
    false
theorem n86 (x0 : (Int × (Int × (Int × Unit)))) : g86 x0 = some ((f86 x0, ()), ()) := by
  simp only [g86, f86, pull1]
noncomputable def c86 : Ctr := { ins := [.v (.pair (.int .i64) (.pair (.int .i64) (.pair (.int .i64) .unit)))], out := [.bool], F := fun x => some ((f86 x.1, ()), ()) }
theorem v86 : LoopsOk Try.prog Γ t86 a86 (loopsIn (Try.f86.body.getD .skip) 0) := loopsOk_nil (by kernel_rfl)
theorem r86 (x : InsT c86.ins) : fnK Try.prog Γ t86 a86 Try.f86 c86 x = g86 x.1 := by kernel_rfl
theorem k86 : TblOk Try.prog t86 := tblOk_cons o63 (tblOk_cons o100 (tblOk_nil))
theorem o86 : Holds Try.prog 86 c86 := fn_holds (code := Try.f86.body.getD .skip) (by kernel_rfl) gamOk k86 Try.func86 (by kernel_rfl) (by kernel_rfl) (by kernel_rfl) (by kernel_rfl) v86 (fun x _ h => (r86 x).trans ((n86 x.1).trans h))
/-! ### 89: loop.example/g00076/impl.isChan -/
noncomputable def t89 : Tbl := [(63, [], c63)]
noncomputable def a89 : Nat → Option LoopAnn := fun _ => none
noncomputable def g89 (x0 : (Int × (Int × (Int × (Int × Unit))))) : Option ((Bool × Unit) × Unit) :=
  bif (!(f63 x0.2.1 (0 : Int) (5 : Int))) then
    some ((false, ()), ())
  else
    bif (!(f63 x0.2.2.1 (0 : Int) (5 : Int))) then
      some ((false, ()), ())
    else
      bif (x0.2.1 == x0.2.2.1) then
        some ((false, ()), ())
      else
        bif (x0.1 == (0 : Int)) then
          bif (x0.2.2.2.1 == (0 : Int)) then
            some ((true, ()), ())
          else
            bif (x0.1 == (1 : Int)) then
              some (((f63 x0.2.2.2.1 (1 : Int) (8 : Int)), ()), ())
            else
              some ((false, ()), ())
        else
          bif (x0.1 == (1 : Int)) then
            some (((f63 x0.2.2.2.1 (1 : Int) (8 : Int)), ()), ())
          else
            some ((false, ()), ())
noncomputable def f89 (x0 : (Int × (Int × (Int × (Int × Unit))))) : Bool :=
  bif (!(f63 x0.2.1 (0 : Int) (5 : Int))) then
    false
  else
    bif (!(f63 x0.2.2.1 (0 : Int) (5 : Int))) then
      false
    else
      bif (x0.2.1 == x0.2.2.1) then
        false
      else
        bif (x0.1 == (0 : Int)) then
          bif (x0.2.2.2.1 == (0 : Int)) then
            true
          else
            bif (x0.1 == (1 : Int)) then
              (f63 x0.2.2.2.1 (1 : Int) (8 : Int))
            else
              false
        else
          bif (x0.1 == (1 : Int)) then
            (f63 x0.2.2.2.1 (1 : Int) (8 : Int))
          else
            false
theorem n89 (x0 : (Int × (Int × (Int × (Int × Unit))))) : g89 x0 = some ((f89 x0, ()), ()) := by
  simp only [g89, f89, pull1]
noncomputable def c89 : Ctr := { ins := [.v (.pair (.int .i64) (.pair (.int .i64) (.pair (.int .i64) (.pair (.int .i64) .unit))))], out := [.bool], F := fun x => some ((f89 x.1, ()), ()) }
theorem v89 : LoopsOk Try.prog Γ t89 a89 (loopsIn (Try.f89.body.getD .skip) 0) := loopsOk_nil (by kernel_rfl)
theorem r89 (x : InsT c89.ins) : fnK Try.prog Γ t89 a89 Try.f89 c89 x = g89 x.1 := by kernel_rfl
theorem k89 : TblOk Try.prog t89 := tblOk_cons o63 (tblOk_nil)
theorem o89 : Holds Try.prog 89 c89 := fn_holds (code := Try.f89.body.getD .skip) (by kernel_rfl) gamOk k89 Try.func89 (by kernel_rfl) (by kernel_rfl) (by kernel_rfl) (by kernel_rfl) v89 (fun x _ h => (r89 x).trans ((n89 x.1).trans h))
/-! ### 88: loop.example/g00076/impl.WorstPad$1 -/
noncomputable def t88 : Tbl := [(89, [], c89)]
noncomputable def a88 : Nat → Option LoopAnn := fun _ => none
noncomputable def g88 (x0 : (Int × (Int × (Int × (Int × Unit))))) : Option ((Bool × Unit) × Unit) :=
  some (((!(f89 x0)), ()), ())
noncomputable def f88 (x0 : (Int × (Int × (Int × (Int × Unit))))) : Bool :=
  (!(f89 x0))
theorem n88 (x0 : (Int × (Int × (Int × (Int × Unit))))) : g88 x0 = some ((f88 x0, ()), ()) := by
  simp only [g88, f88, pull1]
noncomputable def c88 : Ctr := { ins := [.v (.pair (.int .i64) (.pair (.int .i64) (.pair (.int .i64) (.pair (.int .i64) .unit))))], out := [.bool], F := fun x => some ((f88 x.1, ()), ()) }
theorem v88 : LoopsOk Try.prog Γ t88 a88 (loopsIn (Try.f88.body.getD .skip) 0) := loopsOk_nil (by kernel_rfl)
theorem r88 (x : InsT c88.ins) : fnK Try.prog Γ t88 a88 Try.f88 c88 x = g88 x.1 := by kernel_rfl
theorem k88 : TblOk Try.prog t88 := tblOk_cons o89 (tblOk_nil)
theorem o88 : Holds Try.prog 88 c88 := fn_holds (code := Try.f88.body.getD .skip) (by kernel_rfl) gamOk k88 Try.func88 (by kernel_rfl) (by kernel_rfl) (by kernel_rfl) (by kernel_rfl) v88 (fun x _ h => (r88 x).trans ((n88 x.1).trans h))
/-! ### 101: slices.IndexFunc[[]loop.example/g00076/impl.ChanRow,loop.example/g00076/impl.ChanRow] -/
noncomputable def t101_88 : Tbl := [(88, [], c88)]
abbrev h101_88_L0 : Shape := { slots := [(0, .v (.sl (.pair (.int .i64) (.pair (.int .i64) (.pair (.int .i64) (.pair (.int .i64) .unit)))))), (1, .clo 88 []), (7, .v (.int .i64)), (8, .v (.int .i64))], boxes := [] }
abbrev e101_88_L0 : List (XT × Shape) := [(.ret, { slots := [(4, .v (.int .i64))], boxes := [] }), (.exit 0, { slots := [], boxes := [] })]
noncomputable def q101_88_L0 (t0 : (L (Int × (Int × (Int × (Int × Unit)))))) (t7 : Int) (t8 : Int) : Option ((((L (Int × (Int × (Int × (Int × Unit))))) × (Unit × (Int × (Int × Unit)))) × Unit) ⊕ (((Int × Unit) × Unit) ⊕ ((Unit × Unit) ⊕ Empty))) :=
  bif (decide (t8 < t7)) then
    bif (decide (0 ≤ t8) && decide (t8 < (t0.len : Int))) then
      bif (f88 (L.get t0 t8.toNat)) then
        some (.inr (.inl ((t8, ()), ())))
      else
        some (.inl ((t0, ((), (t7, ((wI (t8 + (1 : Int))), ())))), ()))
    else
      none
  else
    some (.inr (.inr (.inl ((), ()))))
noncomputable def s101_88_L0 (x : (((L (Int × (Int × (Int × (Int × Unit))))) × (Unit × (Int × (Int × Unit)))) × Unit)) : Option ((((L (Int × (Int × (Int × (Int × Unit))))) × (Unit × (Int × (Int × Unit)))) × Unit) ⊕ (((Int × Unit) × Unit) ⊕ ((Unit × Unit) ⊕ Empty))) := q101_88_L0 x.1.1 x.1.2.2.1 x.1.2.2.2.1
noncomputable def a101_88 : Nat → Option LoopAnn := fun c => bif Nat.beq c 0 then some (.fix h101_88_L0 e101_88_L0 s101_88_L0) else none
noncomputable def g101_88 (x0 : (L (Int × (Int × (Int × (Int × Unit)))))) (x1 : Unit) : Option ((Int × Unit) × Unit) :=
  (fixO s101_88_L0 ((x0, ((), ((x0.len : Int), ((0 : Int), ())))), ())).bind fun d2 => match d2 with
  | .inl y1 =>
    some ((y1.1.1, ()), ())
  | .inr (.inl y1) =>
    some (((-1 : Int), ()), ())
  | .inr (.inr e) => nomatch e
noncomputable def c101_88 : Ctr := { ins := [.v (.sl (.pair (.int .i64) (.pair (.int .i64) (.pair (.int .i64) (.pair (.int .i64) .unit))))), .clo 88 []], out := [(.int .i64)], F := fun x => g101_88 x.1 x.2.1 }
noncomputable def l101_88 : List (Nat × Code) := loopsIn (Try.f101.body.getD .skip) 0
theorem w101_88_L0 (x : h101_88_L0.T) : runK Try.prog Γ t101_88 a101_88 (l101_88.getD 0 (0, .skip)).2 0 (pkSh h101_88_L0 x) (loopCls (sh := h101_88_L0) (es := e101_88_L0)) = (s101_88_L0 x : Option _) := by kernel_rfl
theorem v101_88 : LoopsOk Try.prog Γ t101_88 a101_88 (loopsIn (Try.f101.body.getD .skip) 0) := by
  have e : loopsIn (Try.f101.body.getD .skip) 0 = [(0, (l101_88.getD 0 (0, .skip)).2)] := by kernel_rfl
  rw [e]
  exact ⟨fun x d h => (w101_88_L0 x).trans h, trivial⟩
theorem r101_88 (x : InsT c101_88.ins) : fnK Try.prog Γ t101_88 a101_88 Try.f101 c101_88 x = g101_88 x.1 x.2.1 := by kernel_rfl
theorem k101_88 : TblOk Try.prog t101_88 := tblOk_cons o88 (tblOk_nil)
theorem o101_88 : Holds Try.prog 101 c101_88 := fn_holds (code := Try.f101.body.getD .skip) (by kernel_rfl) gamOk k101_88 Try.func101 (by kernel_rfl) (by kernel_rfl) (by kernel_rfl) (by kernel_rfl) v101_88 (fun x _ h => (r101_88 x).trans h)
/-! ### 87: slices.ContainsFunc[[]loop.example/g00076/impl.ChanRow,loop.example/g00076/impl.ChanRow] -/
noncomputable def t87_88 : Tbl := [(101, [88], c101_88)]
noncomputable def a87_88 : Nat → Option LoopAnn := fun _ => none
noncomputable def g87_88 (x0 : (L (Int × (Int × (Int × (Int × Unit)))))) (x1 : Unit) : Option ((Bool × Unit) × Unit) :=
  (g101_88 x0 ()).bind fun y1 =>
    some (((decide (y1.1.1 ≥ (0 : Int))), ()), ())
noncomputable def c87_88 : Ctr := { ins := [.v (.sl (.pair (.int .i64) (.pair (.int .i64) (.pair (.int .i64) (.pair (.int .i64) .unit))))), .clo 88 []], out := [.bool], F := fun x => g87_88 x.1 x.2.1 }
theorem v87_88 : LoopsOk Try.prog Γ t87_88 a87_88 (loopsIn (Try.f87.body.getD .skip) 0) := loopsOk_nil (by kernel_rfl)
theorem r87_88 (x : InsT c87_88.ins) : fnK Try.prog Γ t87_88 a87_88 Try.f87 c87_88 x = g87_88 x.1 x.2.1 := by kernel_rfl
theorem k87_88 : TblOk Try.prog t87_88 := tblOk_cons o101_88 (tblOk_nil)
theorem o87_88 : Holds Try.prog 87 c87_88 := fn_holds (code := Try.f87.body.getD .skip) (by kernel_rfl) gamOk k87_88 Try.func87 (by kernel_rfl) (by kernel_rfl) (by kernel_rfl) (by kernel_rfl) v87_88 (fun x _ h => (r87_88 x).trans h)
/-! ### 102: loop.example/g00076/impl.depthOf -/
noncomputable def t102 : Tbl := []
noncomputable def a102 : Nat → Option LoopAnn := fun _ => none
noncomputable def g102 (x0 : (Int × (Int × (Int × (Int × Unit))))) : Option ((Int × Unit) × Unit) :=
  some (((if x0.2.2.2.1 > (1 : Int) then x0.2.2.2.1 else (1 : Int)), ()), ())
noncomputable def f102 (x0 : (Int × (Int × (Int × (Int × Unit))))) : Int :=
  (if x0.2.2.2.1 > (1 : Int) then x0.2.2.2.1 else (1 : Int))
theorem n102 (x0 : (Int × (Int × (Int × (Int × Unit))))) : g102 x0 = some ((f102 x0, ()), ()) := by
  simp only [g102, f102, pull1]
noncomputable def c102 : Ctr := { ins := [.v (.pair (.int .i64) (.pair (.int .i64) (.pair (.int .i64) (.pair (.int .i64) .unit))))], out := [(.int .i64)], F := fun x => some ((f102 x.1, ()), ()) }
theorem v102 : LoopsOk Try.prog Γ t102 a102 (loopsIn (Try.f102.body.getD .skip) 0) := loopsOk_nil (by kernel_rfl)
theorem r102 (x : InsT c102.ins) : fnK Try.prog Γ t102 a102 Try.f102 c102 x = g102 x.1 := by kernel_rfl
theorem k102 : TblOk Try.prog t102 := tblOk_nil
theorem o102 : Holds Try.prog 102 c102 := fn_holds (code := Try.f102.body.getD .skip) (by kernel_rfl) gamOk k102 Try.func102 (by kernel_rfl) (by kernel_rfl) (by kernel_rfl) (by kernel_rfl) v102 (fun x _ h => (r102 x).trans ((n102 x.1).trans h))
/-! ### 90: loop.example/g00076/impl.worstPad -/
noncomputable def t90 : Tbl := [(102, [], c102)]
abbrev h90_L0 : Shape := { slots := [(3, .bx 3 0), (7, .v (.int .i64)), (22, .v (.sl (.pair (.int .i64) (.pair (.int .i64) (.pair (.int .i64) (.pair (.int .i64) .unit)))))), (23, .v (.int .i64)), (24, .v (.int .i64))], boxes := [(3, .cells [.v (.int .i64), .v (.int .i64), .v (.int .i64), .v (.int .i64), .v (.int .i64), .v (.int .i64), .v (.int .i64)])] }
abbrev e90_L0 : List (XT × Shape) := [(.exit 0, { slots := [(7, .v (.int .i64))], boxes := [] })]
noncomputable def q90_L0 (t7 : Int) (t22 : (L (Int × (Int × (Int × (Int × Unit)))))) (t23 : Int) (t24 : Int) (b3_0 : Int) (b3_1 : Int) (b3_2 : Int) (b3_3 : Int) (b3_4 : Int) (b3_5 : Int) (b3_6 : Int) : Option (((Unit × (Int × ((L (Int × (Int × (Int × (Int × Unit))))) × (Int × (Int × Unit))))) × ((Int × (Int × (Int × (Int × (Int × (Int × (Int × Unit))))))) × Unit)) ⊕ (((Int × Unit) × Unit) ⊕ Empty)) :=
  bif (decide (t24 < t23)) then
    bif (decide (0 ≤ t24) && decide (t24 < (t22.len : Int))) then
      some (.inl (((), ((wI (t7 + (wI (b3_0 * (f102 (L.get t22 t24.toNat)))))), (t22, (t23, ((wI (t24 + (1 : Int))), ()))))), ((b3_0, (b3_1, (b3_2, (b3_3, (b3_4, (b3_5, (b3_6, ()))))))), ())))
    else
      none
  else
    some (.inr (.inl ((t7, ()), ())))
noncomputable def s90_L0 (x : ((Unit × (Int × ((L (Int × (Int × (Int × (Int × Unit))))) × (Int × (Int × Unit))))) × ((Int × (Int × (Int × (Int × (Int × (Int × (Int × Unit))))))) × Unit))) : Option (((Unit × (Int × ((L (Int × (Int × (Int × (Int × Unit))))) × (Int × (Int × Unit))))) × ((Int × (Int × (Int × (Int × (Int × (Int × (Int × Unit))))))) × Unit)) ⊕ (((Int × Unit) × Unit) ⊕ Empty)) := q90_L0 x.1.2.1 x.1.2.2.1 x.1.2.2.2.1 x.1.2.2.2.2.1 x.2.1.1 x.2.1.2.1 x.2.1.2.2.1 x.2.1.2.2.2.1 x.2.1.2.2.2.2.1 x.2.1.2.2.2.2.2.1 x.2.1.2.2.2.2.2.2.1
noncomputable def a90 : Nat → Option LoopAnn := fun c => bif Nat.beq c 0 then some (.fix h90_L0 e90_L0 s90_L0) else none
noncomputable def g90 (x0 : (Int × (Int × (Int × (Int × (Int × (Int × (Int × Unit)))))))) (x1 : (Int × (Int × (Int × Unit)))) (x2 : (L (Int × (Int × (Int × (Int × Unit)))))) : Option ((Int × Unit) × Unit) :=
  (fixO s90_L0 (((), ((wI ((wI ((16 : Int) * x0.1)) + (wI ((wI (x1.1 * x1.2.1)) * x0.2.2.2.2.2.2.1)))), (x2, ((x2.len : Int), ((0 : Int), ()))))), (x0, ()))).bind fun d2 => match d2 with
  | .inl y1 =>
    some ((y1.1.1, ()), ())
  | .inr e => nomatch e
noncomputable def c90 : Ctr := { ins := [.v (.pair (.int .i64) (.pair (.int .i64) (.pair (.int .i64) (.pair (.int .i64) (.pair (.int .i64) (.pair (.int .i64) (.pair (.int .i64) .unit))))))), .v (.pair (.int .i64) (.pair (.int .i64) (.pair (.int .i64) .unit))), .v (.sl (.pair (.int .i64) (.pair (.int .i64) (.pair (.int .i64) (.pair (.int .i64) .unit)))))], out := [(.int .i64)], F := fun x => g90 x.1 x.2.1 x.2.2.1 }
noncomputable def l90 : List (Nat × Code) := loopsIn (Try.f90.body.getD .skip) 0
theorem w90_L0 (x : h90_L0.T) : runK Try.prog Γ t90 a90 (l90.getD 0 (0, .skip)).2 0 (pkSh h90_L0 x) (loopCls (sh := h90_L0) (es := e90_L0)) = (s90_L0 x : Option _) := by kernel_rfl
theorem v90 : LoopsOk Try.prog Γ t90 a90 (loopsIn (Try.f90.body.getD .skip) 0) := by
  have e : loopsIn (Try.f90.body.getD .skip) 0 = [(0, (l90.getD 0 (0, .skip)).2)] := by kernel_rfl
  rw [e]
  exact ⟨fun x d h => (w90_L0 x).trans h, trivial⟩
theorem r90 (x : InsT c90.ins) : fnK Try.prog Γ t90 a90 Try.f90 c90 x = g90 x.1 x.2.1 x.2.2.1 := by kernel_rfl
theorem k90 : TblOk Try.prog t90 := tblOk_cons o102 (tblOk_nil)
theorem o90 : Holds Try.prog 90 c90 := fn_holds (code := Try.f90.body.getD .skip) (by kernel_rfl) gamOk k90 Try.func90 (by kernel_rfl) (by kernel_rfl) (by kernel_rfl) (by kernel_rfl) v90 (fun x _ h => (r90 x).trans h)
/-! ### 47: loop.example/g00076/impl.WorstPad -/
noncomputable def t47 : Tbl := [(85, [], c85), (86, [], c86), (87, [88], c87_88), (90, [], c90)]
noncomputable def a47 : Nat → Option LoopAnn := fun _ => none
noncomputable def g47 (x0 : (Int × (Int × (Int × (Int × (Int × (Int × (Int × Unit)))))))) (x1 : (Int × (Int × (Int × Unit)))) (x2 : (L (Int × (Int × (Int × (Int × Unit)))))) : Option ((Int × Unit) × Unit) :=
  bif (!(f85 x0)) then
    some (((-1 : Int), ()), ())
  else
    bif (!(f86 x1)) then
      some (((-1 : Int), ()), ())
    else
      bif (decide ((x2.len : Int) > (8 : Int))) then
        some (((-1 : Int), ()), ())
      else
        (g87_88 x2 ()).bind fun y1 =>
          bif y1.1.1 then
            some (((-1 : Int), ()), ())
          else
            (g90 x0 x1 x2).bind fun y2 =>
              some ((y2.1.1, ()), ())
noncomputable def c47 : Ctr := { ins := [.v (.pair (.int .i64) (.pair (.int .i64) (.pair (.int .i64) (.pair (.int .i64) (.pair (.int .i64) (.pair (.int .i64) (.pair (.int .i64) .unit))))))), .v (.pair (.int .i64) (.pair (.int .i64) (.pair (.int .i64) .unit))), .v (.sl (.pair (.int .i64) (.pair (.int .i64) (.pair (.int .i64) (.pair (.int .i64) .unit)))))], out := [(.int .i64)], F := fun x => g47 x.1 x.2.1 x.2.2.1 }
theorem v47 : LoopsOk Try.prog Γ t47 a47 (loopsIn (Try.f47.body.getD .skip) 0) := loopsOk_nil (by kernel_rfl)
theorem r47 (x : InsT c47.ins) : fnK Try.prog Γ t47 a47 Try.f47 c47 x = g47 x.1 x.2.1 x.2.2.1 := by kernel_rfl
theorem k47 : TblOk Try.prog t47 := tblOk_cons o85 (tblOk_cons o86 (tblOk_cons o87_88 (tblOk_cons o90 (tblOk_nil))))
theorem o47 : Holds Try.prog 47 c47 := fn_holds (code := Try.f47.body.getD .skip) (by kernel_rfl) gamOk k47 Try.func47 (by kernel_rfl) (by kernel_rfl) (by kernel_rfl) (by kernel_rfl) v47 (fun x _ h => (r47 x).trans h)
/-! ### 91: loop.example/g00076/laws.eqChanRow -/
noncomputable def t91 : Tbl := []
noncomputable def a91 : Nat → Option LoopAnn := fun _ => none
noncomputable def g91 (x0 : (Int × (Int × (Int × (Int × Unit))))) (x1 : (Int × (Int × (Int × (Int × Unit))))) : Option ((Bool × Unit) × Unit) :=
  bif (x0.1 != x1.1) then
    some ((false, ()), ())
  else
    bif (x0.2.1 != x1.2.1) then
      some ((false, ()), ())
    else
      bif (x0.2.2.1 != x1.2.2.1) then
        some ((false, ()), ())
      else
        bif (x0.2.2.2.1 != x1.2.2.2.1) then
          some ((false, ()), ())
        else
          some ((true, ()), ())
noncomputable def f91 (x0 : (Int × (Int × (Int × (Int × Unit))))) (x1 : (Int × (Int × (Int × (Int × Unit))))) : Bool :=
  bif (x0.1 != x1.1) then
    false
  else
    bif (x0.2.1 != x1.2.1) then
      false
    else
      bif (x0.2.2.1 != x1.2.2.1) then
        false
      else
        bif (x0.2.2.2.1 != x1.2.2.2.1) then
          false
        else
          true
theorem n91 (x0 : (Int × (Int × (Int × (Int × Unit))))) (x1 : (Int × (Int × (Int × (Int × Unit))))) : g91 x0 x1 = some ((f91 x0 x1, ()), ()) := by
  simp only [g91, f91, pull1]
noncomputable def c91 : Ctr := { ins := [.v (.pair (.int .i64) (.pair (.int .i64) (.pair (.int .i64) (.pair (.int .i64) .unit)))), .v (.pair (.int .i64) (.pair (.int .i64) (.pair (.int .i64) (.pair (.int .i64) .unit))))], out := [.bool], F := fun x => some ((f91 x.1 x.2.1, ()), ()) }
theorem v91 : LoopsOk Try.prog Γ t91 a91 (loopsIn (Try.f91.body.getD .skip) 0) := loopsOk_nil (by kernel_rfl)
theorem r91 (x : InsT c91.ins) : fnK Try.prog Γ t91 a91 Try.f91 c91 x = g91 x.1 x.2.1 := by kernel_rfl
theorem k91 : TblOk Try.prog t91 := tblOk_nil
theorem o91 : Holds Try.prog 91 c91 := fn_holds (code := Try.f91.body.getD .skip) (by kernel_rfl) gamOk k91 Try.func91 (by kernel_rfl) (by kernel_rfl) (by kernel_rfl) (by kernel_rfl) v91 (fun x _ h => (r91 x).trans ((n91 x.1 x.2.1).trans h))
/-! ### 48: loop.example/g00076/laws.eqChanRowS -/
noncomputable def t48 : Tbl := [(91, [], c91)]
abbrev h48_L0 : Shape := { slots := [(0, .v (.sl (.pair (.int .i64) (.pair (.int .i64) (.pair (.int .i64) (.pair (.int .i64) .unit)))))), (1, .v (.sl (.pair (.int .i64) (.pair (.int .i64) (.pair (.int .i64) (.pair (.int .i64) .unit)))))), (5, .v (.int .i64))], boxes := [] }
abbrev e48_L0 : List (XT × Shape) := [(.ret, { slots := [(4, .v .bool)], boxes := [] }), (.exit 0, { slots := [], boxes := [] })]
noncomputable def q48_L0 (t0 : (L (Int × (Int × (Int × (Int × Unit)))))) (t1 : (L (Int × (Int × (Int × (Int × Unit)))))) (t5 : Int) : Option ((((L (Int × (Int × (Int × (Int × Unit))))) × ((L (Int × (Int × (Int × (Int × Unit))))) × (Int × Unit))) × Unit) ⊕ (((Bool × Unit) × Unit) ⊕ ((Unit × Unit) ⊕ Empty))) :=
  bif (decide (t5 < (t0.len : Int))) then
    bif (decide (0 ≤ t5) && decide (t5 < (t0.len : Int))) then
      bif (decide (0 ≤ t5) && decide (t5 < (t1.len : Int))) then
        bif (!(f91 (L.get t0 t5.toNat) (L.get t1 t5.toNat))) then
          some (.inr (.inl ((false, ()), ())))
        else
          some (.inl ((t0, (t1, ((wI (t5 + (1 : Int))), ()))), ()))
      else
        none
    else
      none
  else
    some (.inr (.inr (.inl ((), ()))))
noncomputable def s48_L0 (x : (((L (Int × (Int × (Int × (Int × Unit))))) × ((L (Int × (Int × (Int × (Int × Unit))))) × (Int × Unit))) × Unit)) : Option ((((L (Int × (Int × (Int × (Int × Unit))))) × ((L (Int × (Int × (Int × (Int × Unit))))) × (Int × Unit))) × Unit) ⊕ (((Bool × Unit) × Unit) ⊕ ((Unit × Unit) ⊕ Empty))) := q48_L0 x.1.1 x.1.2.1 x.1.2.2.1
noncomputable def a48 : Nat → Option LoopAnn := fun c => bif Nat.beq c 0 then some (.fix h48_L0 e48_L0 s48_L0) else none
noncomputable def g48 (x0 : (L (Int × (Int × (Int × (Int × Unit)))))) (x1 : (L (Int × (Int × (Int × (Int × Unit)))))) : Option ((Bool × Unit) × Unit) :=
  bif ((x0.len : Int) != (x1.len : Int)) then
    some ((false, ()), ())
  else
    (fixO s48_L0 ((x0, (x1, ((0 : Int), ()))), ())).bind fun d2 => match d2 with
    | .inl y1 =>
      some ((y1.1.1, ()), ())
    | .inr (.inl y1) =>
      some ((true, ()), ())
    | .inr (.inr e) => nomatch e
noncomputable def c48 : Ctr := { ins := [.v (.sl (.pair (.int .i64) (.pair (.int .i64) (.pair (.int .i64) (.pair (.int .i64) .unit))))), .v (.sl (.pair (.int .i64) (.pair (.int .i64) (.pair (.int .i64) (.pair (.int .i64) .unit)))))], out := [.bool], F := fun x => g48 x.1 x.2.1 }
noncomputable def l48 : List (Nat × Code) := loopsIn (Try.f48.body.getD .skip) 0
theorem w48_L0 (x : h48_L0.T) : runK Try.prog Γ t48 a48 (l48.getD 0 (0, .skip)).2 0 (pkSh h48_L0 x) (loopCls (sh := h48_L0) (es := e48_L0)) = (s48_L0 x : Option _) := by kernel_rfl
theorem v48 : LoopsOk Try.prog Γ t48 a48 (loopsIn (Try.f48.body.getD .skip) 0) := by
  have e : loopsIn (Try.f48.body.getD .skip) 0 = [(0, (l48.getD 0 (0, .skip)).2)] := by kernel_rfl
  rw [e]
  exact ⟨fun x d h => (w48_L0 x).trans h, trivial⟩
theorem r48 (x : InsT c48.ins) : fnK Try.prog Γ t48 a48 Try.f48 c48 x = g48 x.1 x.2.1 := by kernel_rfl
theorem k48 : TblOk Try.prog t48 := tblOk_cons o91 (tblOk_nil)
theorem o48 : Holds Try.prog 48 c48 := fn_holds (code := Try.f48.body.getD .skip) (by kernel_rfl) gamOk k48 Try.func48 (by kernel_rfl) (by kernel_rfl) (by kernel_rfl) (by kernel_rfl) v48 (fun x _ h => (r48 x).trans h)
/-! ### 12: loop.example/g00076/laws.FnExactWorstPad -/
noncomputable def t12 : Tbl := [(42, [], c42), (44, [], c44), (45, [], c45), (46, [], c46), (43, [], c43), (47, [], c47), (48, [], c48)]
noncomputable def a12 : Nat → Option LoopAnn := fun _ => none
noncomputable def g12 (x0 : (Int × (Int × (Int × (Int × (Int × (Int × (Int × Unit)))))))) (x1 : (Int × (Int × (Int × Unit)))) (x2 : (L (Int × (Int × (Int × (Int × Unit)))))) : Option ((Bool × Unit) × Unit) :=
  bif (decide ((f42 x2 (1048576 : Int)) < (0 : Int))) then
    some ((true, ()), ())
  else
    (g46 x2).bind fun y1 =>
      (g43 (f44 x0) (f45 x1) y1.1.1).bind fun y2 =>
        (g46 x2).bind fun y3 =>
          (g47 (f44 x0) (f45 x1) y3.1.1).bind fun y4 =>
            bif (y4.1.1 != y2.1.1) then
              some ((false, ()), ())
            else
              (g46 x2).bind fun y5 =>
                (g48 y3.1.1 y5.1.1).bind fun y6 =>
                  bif (!y6.1.1) then
                    some ((false, ()), ())
                  else
                    some ((true, ()), ())
noncomputable def c12 : Ctr := { ins := [.v (.pair (.int .i64) (.pair (.int .i64) (.pair (.int .i64) (.pair (.int .i64) (.pair (.int .i64) (.pair (.int .i64) (.pair (.int .i64) .unit))))))), .v (.pair (.int .i64) (.pair (.int .i64) (.pair (.int .i64) .unit))), .v (.sl (.pair (.int .i64) (.pair (.int .i64) (.pair (.int .i64) (.pair (.int .i64) .unit)))))], out := [.bool], F := fun x => g12 x.1 x.2.1 x.2.2.1 }
theorem v12 : LoopsOk Try.prog Γ t12 a12 (loopsIn (Try.f12.body.getD .skip) 0) := loopsOk_nil (by kernel_rfl)
theorem r12 (x : InsT c12.ins) : fnK Try.prog Γ t12 a12 Try.f12 c12 x = g12 x.1 x.2.1 x.2.2.1 := by kernel_rfl
theorem k12 : TblOk Try.prog t12 := tblOk_cons o42 (tblOk_cons o44 (tblOk_cons o45 (tblOk_cons o46 (tblOk_cons o43 (tblOk_cons o47 (tblOk_cons o48 (tblOk_nil)))))))
theorem o12 : Holds Try.prog 12 c12 := fn_holds (code := Try.f12.body.getD .skip) (by kernel_rfl) gamOk k12 Try.func12 (by kernel_rfl) (by kernel_rfl) (by kernel_rfl) (by kernel_rfl) v12 (fun x _ h => (r12 x).trans h)
end Go.VE.VFnExactWorstPad
