import Derived.Test.YtnjlpdagdedbaaaVgZ
import Derived.Test.YtnjlpdagdedbaaaProg
/- What the functions do that laws.FnDevice reaches, as plain functions, and that they do it. -/
set_option linter.unusedVariables false
set_option linter.unusedSimpArgs false
namespace Go.VE.VFnDevice
open Go.Proofs Go.VE
abbrev Ta0 : Type := ((L Int) × (Int × Unit))
abbrev Ta1 : Type := (L (Int × (Int × Unit)))
abbrev Ty2 : Ty := (.pair (.int .u32) .unit)
abbrev Ty3 : Ty := (.pair (.int .i64) .unit)
abbrev Ta4 : Type := (((L Int) × Unit) × Unit)
abbrev Ta5 : Type := ((L Int) × ((L Int) × Unit))
abbrev Ta6 : Type := (Unit × (Int × (Int × Unit)))
abbrev Ta7 : Type := (Bool × (Int × (Int × Unit)))
abbrev Ty8 : Ty := (.pair (.sl (.int .u32)) .unit)
abbrev Ta9 : Type := (Unit × (Unit × (Bool × Unit)))
abbrev Ta10 : Type := ((L Int) × (Int × (Int × Unit)))
abbrev Ta11 : Type := (Ta1 × Unit)
abbrev Ta12 : Type := (L Ta7)
abbrev Ta13 : Type := ((L Int) × (Int × (Bool × Unit)))
abbrev Ta14 : Type := ((L (L Int)) × (Int × (Int × Unit)))
abbrev Ta15 : Type := ((L Int) × Ta0)
abbrev Ta16 : Type := (Ta5 × Unit)
abbrev Ta17 : Type := (Ta10 × Unit)
abbrev Ta18 : Type := (Ta1 × (Int × Unit))
abbrev Ta19 : Type := (Ta12 × Unit)
abbrev Ta20 : Type := (Int × Ta14)
abbrev Ty21 : Ty := (.pair (.int .i64) Ty2)
abbrev Ty22 : Ty := (.pair (.int .u32) Ty3)
abbrev Ty23 : Ty := (.pair (.int .i64) Ty3)
abbrev Ta24 : Type := ((L Int) × Ta13)
abbrev Ta25 : Type := ((L Int) × Ta14)
abbrev Ta26 : Type := (Int × Ta18)
abbrev Ta27 : Type := (Ta1 × (Int × (Int × Unit)))
abbrev Ta28 : Type := (Ta12 × (Int × Unit))
abbrev Ty29 : Ty := (.sl Ty21)
abbrev Ta30 : Type := (Ta19 × Unit)
abbrev Ta31 : Type := (Ta25 × Unit)
abbrev Ty32 : Ty := (.pair (.sl (.int .u32)) Ty8)
abbrev Ta33 : Type := ((Int × Unit) × Ta17)
abbrev Ta34 : Type := (Unit × Ta26)
abbrev Ta35 : Type := (Ta1 × Ta6)
abbrev Ty36 : Ty := (.pair .bool Ty22)
abbrev Ta37 : Type := (Ta12 × (Unit × (Int × Unit)))
abbrev Ta38 : Type := ((L (L Int)) × Ta20)
abbrev Ty39 : Ty := (.sl Ty36)
abbrev Ta40 : Type := (Ta35 × Unit)
abbrev Ta41 : Type := (Ta38 × Unit)
abbrev Ty42 : Ty := (.pair (.sl (.int .u8)) Ty23)
abbrev Ta43 : Type := (Ta5 × Ta16)
abbrev Ta44 : Type := (Ta12 × Ta15)
abbrev Ta45 : Type := (Ta11 × Ta17)
abbrev Ta46 : Type := (Ta1 × Ta28)
abbrev Ta47 : Type := (Ta12 × Ta24)
abbrev Ta48 : Type := (Ta12 × Ta27)
abbrev Ta49 : Type := (Ta46 × Unit)
abbrev Ta50 : Type := (Ta1 × Ta37)
abbrev Ta51 : Type := (Unit × Ta48)
abbrev Ta52 : Type := (Ta1 × Ta44)
abbrev Ta53 : Type := (Ta34 × Ta17)
abbrev Ta54 : Type := (Ta9 × Ta43)
abbrev Ta55 : Type := (Ta1 × Ta47)
abbrev Ta56 : Type := (Ta52 × Unit)
abbrev Ta57 : Type := (Ta55 × Unit)
abbrev Ta58 : Type := (Ta50 × Ta16)
abbrev Ta59 : Type := (Ta51 × Ta16)
def Γ : TypeId → Option Ty := fun e => bif Nat.beq e 3 then some (.int .i64) else bif Nat.beq e 5 then some (.int .u8) else bif Nat.beq e 26 then some (.sl (.int .u32)) else bif Nat.beq e 29 then some (.int .u32) else bif Nat.beq e 57 then some Ty21 else bif Nat.beq e 59 then some Ty36 else none
theorem gamOk : GamOk Try.prog Γ := gamOk_of [3, 5, 26, 29, 57, 59] (fun e ty h => by
  simp only [Γ] at h
  cases h3 : Nat.beq e 3 with
  | true => simp [Nat.eq_of_beq_eq_true h3]
  | false =>
  simp only [h3, cond_false] at h
  cases h5 : Nat.beq e 5 with
  | true => simp [Nat.eq_of_beq_eq_true h5]
  | false =>
  simp only [h5, cond_false] at h
  cases h26 : Nat.beq e 26 with
  | true => simp [Nat.eq_of_beq_eq_true h26]
  | false =>
  simp only [h26, cond_false] at h
  cases h29 : Nat.beq e 29 with
  | true => simp [Nat.eq_of_beq_eq_true h29]
  | false =>
  simp only [h29, cond_false] at h
  cases h57 : Nat.beq e 57 with
  | true => simp [Nat.eq_of_beq_eq_true h57]
  | false =>
  simp only [h57, cond_false] at h
  cases h59 : Nat.beq e 59 with
  | true => simp [Nat.eq_of_beq_eq_true h59]
  | false =>
  simp only [h59, cond_false] at h
  cases h) (by kernel_rfl)
/-! ### 37: loop.example/g00076/laws.big -/
noncomputable def t37 : Tbl := []
noncomputable def a37 : Nat → Option LoopAnn := fun _ => none
noncomputable def g37 (x0 : (L Int)) : Option ((Bool × Unit) × Unit) :=
  some (((decide ((x0.len : Int) > (1048576 : Int))), ()), ())
noncomputable def f37 (x0 : (L Int)) : Bool :=
  (decide ((x0.len : Int) > (1048576 : Int)))
theorem n37 (x0 : (L Int)) : g37 x0 = some ((f37 x0, ()), ()) := by
  simp only [g37, f37, pull1]
noncomputable def c37 : Ctr := { ins := [.v (.sl (.int .u8))], out := [.bool], F := fun x => some ((f37 x.1, ()), ()) }
theorem v37 : LoopsOk Try.prog Γ t37 a37 (loopsIn (Try.f37.body.getD .skip) 0) := loopsOk_nil (by kernel_rfl)
theorem r37 (x : InsT c37.ins) : fnK Try.prog Γ t37 a37 Try.f37 c37 x = g37 x.1 := by kernel_rfl
theorem k37 : TblOk Try.prog t37 := tblOk_nil
theorem o37 : Holds Try.prog 37 c37 := fn_holds (code := Try.f37.body.getD .skip) (by kernel_rfl) gamOk k37 Try.func37 (by kernel_rfl) (by kernel_rfl) (by kernel_rfl) (by kernel_rfl) v37 (fun x _ h => (r37 x).trans ((n37 x.1).trans h))
/-! ### 82: loop.example/g00076/spec.l01New -/
noncomputable def t82 : Tbl := []
abbrev h82_L0 : Shape := { slots := [(0, .v (.sl (.int .u8))), (3, .v (.int .i64)), (4, .v (.int .i64))], boxes := [] }
abbrev e82_L0 : List (XT × Shape) := [(.exit 0, { slots := [(0, .v (.sl (.int .u8))), (3, .v (.int .i64))], boxes := [] })]
noncomputable def q82_L0 (t0 : (L Int)) (t3 : Int) (t4 : Int) : Option (Ta17 ⊕ ((Ta0 × Unit) ⊕ Empty)) :=
  bif (decide (t4 < (t0.len : Int))) then
    bif (decide (t4 < (4000 : Int))) then
      bif (decide (0 ≤ t4) && decide (t4 < (t0.len : Int))) then
        some (.inl ((t0, ((andOf .i64 (wI ((wI ((wI (t3 * (131 : Int))) + (wI ((L.get t0 t4.toNat))))) + (7 : Int))) (1073741823 : Int)), ((wI (t4 + (1 : Int))), ()))), ()))
      else
        none
    else
      some (.inr (.inl ((t0, (t3, ())), ())))
  else
    some (.inr (.inl ((t0, (t3, ())), ())))
noncomputable def s82_L0 (x : Ta17) : Option (Ta17 ⊕ ((Ta0 × Unit) ⊕ Empty)) := q82_L0 x.1.1 x.1.2.1 x.1.2.2.1
noncomputable def a82 : Nat → Option LoopAnn := fun c => bif Nat.beq c 0 then some (.fix h82_L0 e82_L0 s82_L0) else none
noncomputable def g82 (x0 : (L Int)) : Option (Ta17 × Unit) :=
  (fixO s82_L0 ((x0, ((wI ((76076 : Int) + (x0.len : Int))), ((0 : Int), ()))), ())).bind fun d2 => match d2 with
  | .inl y1 =>
    some (((y1.1.1, ((0 : Int), y1.1.2)), ()), ())
  | .inr e => nomatch e
noncomputable def c82 : Ctr := { ins := [.v (.sl (.int .u8))], out := [Ty42], F := fun x => g82 x.1, ptr := true }
noncomputable def l82 : List (Nat × Code) := loopsIn (Try.f82.body.getD .skip) 0
theorem w82_L0 (x : h82_L0.T) : runK Try.prog Γ t82 (inlN Try.prog Γ t82 3) a82 (l82.getD 0 (0, .skip)).2 0 (pkSh h82_L0 x) (loopCls (sh := h82_L0) (es := e82_L0)) = (s82_L0 x : Option _) := by kernel_rfl
theorem v82 : LoopsOk Try.prog Γ t82 a82 (loopsIn (Try.f82.body.getD .skip) 0) := by
  have e : loopsIn (Try.f82.body.getD .skip) 0 = [(0, (l82.getD 0 (0, .skip)).2)] := by kernel_rfl
  rw [e]
  exact ⟨fun x d h => (w82_L0 x).trans h, trivial⟩
theorem r82 (x : InsT c82.ins) : fnK Try.prog Γ t82 a82 Try.f82 c82 x = g82 x.1 := by kernel_rfl
theorem k82 : TblOk Try.prog t82 := tblOk_nil
theorem o82 : Holds Try.prog 82 c82 := fn_holds (code := Try.f82.body.getD .skip) (by kernel_rfl) gamOk k82 Try.func82 (by kernel_rfl) (by kernel_rfl) (by kernel_rfl) (by kernel_rfl) v82 (fun x _ h => (r82 x).trans h)
/-! ### 85: loop.example/g00076/spec.l01Size -/
noncomputable def t85 : Tbl := []
noncomputable def a85 : Nat → Option LoopAnn := fun _ => none
noncomputable def g85 (x0 : (L Int)) (x1 : Int) : Option ((Int × Unit) × Unit) :=
  bif (decide ((wI ((2 : Int) + (wI (Int.tdiv (x0.len : Int) (20 : Int))))) > x1)) then
    some ((x1, ()), ())
  else
    some (((wI ((2 : Int) + (wI (Int.tdiv (x0.len : Int) (20 : Int))))), ()), ())
noncomputable def f85 (x0 : (L Int)) (x1 : Int) : Int :=
  bif (decide ((wI ((2 : Int) + (wI (Int.tdiv (x0.len : Int) (20 : Int))))) > x1)) then
    x1
  else
    (wI ((2 : Int) + (wI (Int.tdiv (x0.len : Int) (20 : Int)))))
theorem n85 (x0 : (L Int)) (x1 : Int) : g85 x0 x1 = some ((f85 x0 x1, ()), ()) := by
  simp only [g85, f85, pull1]
noncomputable def c85 : Ctr := { ins := [.v (.sl (.int .u8)), .v (.int .i64)], out := [(.int .i64)], F := fun x => some ((f85 x.1 x.2.1, ()), ()) }
theorem v85 : LoopsOk Try.prog Γ t85 a85 (loopsIn (Try.f85.body.getD .skip) 0) := loopsOk_nil (by kernel_rfl)
theorem r85 (x : InsT c85.ins) : fnK Try.prog Γ t85 a85 Try.f85 c85 x = g85 x.1 x.2.1 := by kernel_rfl
theorem k85 : TblOk Try.prog t85 := tblOk_nil
theorem o85 : Holds Try.prog 85 c85 := fn_holds (code := Try.f85.body.getD .skip) (by kernel_rfl) gamOk k85 Try.func85 (by kernel_rfl) (by kernel_rfl) (by kernel_rfl) (by kernel_rfl) v85 (fun x _ h => (r85 x).trans ((n85 x.1 x.2.1).trans h))
/-! ### 112: loop.example/g00076/spec.l01Byte -/
noncomputable def t112 : Tbl := []
noncomputable def a112 : Nat → Option LoopAnn := fun _ => none
noncomputable def g112 (x0 : Ta10) : Option Ta33 :=
  bif (decide (x0.2.1 < (x0.1.len : Int))) then
    bif (decide (0 ≤ x0.2.1) && decide (x0.2.1 < (x0.1.len : Int))) then
      some (((andOf .i64 (wI ((andOf .i64 (xorOf .i64 (shrOf .i64 (wI ((wI (x0.2.2.1 * (6364136223846793005 : Int))) + (1442695040888963407 : Int))) (33 : Int)) (shrOf .i64 (wI ((wI (x0.2.2.1 * (6364136223846793005 : Int))) + (1442695040888963407 : Int))) (45 : Int))) (255 : Int)) + (wI ((L.get x0.1 x0.2.1.toNat))))) (255 : Int)), ()), ((x0.1, ((wI (x0.2.1 + (1 : Int))), ((wI ((wI (x0.2.2.1 * (6364136223846793005 : Int))) + (1442695040888963407 : Int))), ()))), ()))
    else
      none
  else
    some (((andOf .i64 (xorOf .i64 (shrOf .i64 (wI ((wI (x0.2.2.1 * (6364136223846793005 : Int))) + (1442695040888963407 : Int))) (33 : Int)) (shrOf .i64 (wI ((wI (x0.2.2.1 * (6364136223846793005 : Int))) + (1442695040888963407 : Int))) (45 : Int))) (255 : Int)), ()), ((x0.1, (x0.2.1, ((wI ((wI (x0.2.2.1 * (6364136223846793005 : Int))) + (1442695040888963407 : Int))), ()))), ()))
noncomputable def c112 : Ctr := { ins := [.pt Ty42], out := [(.int .i64)], F := fun x => g112 x.1 }
theorem v112 : LoopsOk Try.prog Γ t112 a112 (loopsIn (Try.f112.body.getD .skip) 0) := loopsOk_nil (by kernel_rfl)
theorem r112 (x : InsT c112.ins) : fnK Try.prog Γ t112 a112 Try.f112 c112 x = g112 x.1 := by kernel_rfl
theorem k112 : TblOk Try.prog t112 := tblOk_nil
theorem o112 : Holds Try.prog 112 c112 := fn_holds (code := Try.f112.body.getD .skip) (by kernel_rfl) gamOk k112 Try.func112 (by kernel_rfl) (by kernel_rfl) (by kernel_rfl) (by kernel_rfl) v112 (fun x _ h => (r112 x).trans h)
/-! ### 84: loop.example/g00076/spec.l01Below -/
noncomputable def t84 : Tbl := [(112, [], c112)]
noncomputable def a84 : Nat → Option LoopAnn := fun _ => none
noncomputable def g84 (x0 : Ta10) (x1 : Int) : Option Ta33 :=
  bif (decide (x1 ≤ (0 : Int))) then
    some (((0 : Int), ()), (x0, ()))
  else
    bif (decide (x1 ≤ (256 : Int))) then
      (g112 x0).bind fun y1 =>
        bif (!decide (x1 = 0)) then
          some (((Int.tmod y1.1.1 x1), ()), (y1.2.1, ()))
        else
          none
    else
      (g112 x0).bind fun y2 =>
        (g112 y2.2.1).bind fun y3 =>
          (g112 y3.2.1).bind fun y4 =>
            (g112 y4.2.1).bind fun y5 =>
              bif (!decide (x1 = 0)) then
                some (((Int.tmod (wI ((wI ((wI ((wI (y2.1.1 * (16777216 : Int))) + (wI (y3.1.1 * (65536 : Int))))) + (wI (y4.1.1 * (256 : Int))))) + y5.1.1)) x1), ()), (y5.2.1, ()))
              else
                none
noncomputable def c84 : Ctr := { ins := [.pt Ty42, .v (.int .i64)], out := [(.int .i64)], F := fun x => g84 x.1 x.2.1 }
theorem v84 : LoopsOk Try.prog Γ t84 a84 (loopsIn (Try.f84.body.getD .skip) 0) := loopsOk_nil (by kernel_rfl)
theorem r84 (x : InsT c84.ins) : fnK Try.prog Γ t84 a84 Try.f84 c84 x = g84 x.1 x.2.1 := by kernel_rfl
theorem k84 : TblOk Try.prog t84 := tblOk_cons o112 (tblOk_nil)
theorem o84 : Holds Try.prog 84 c84 := fn_holds (code := Try.f84.body.getD .skip) (by kernel_rfl) gamOk k84 Try.func84 (by kernel_rfl) (by kernel_rfl) (by kernel_rfl) (by kernel_rfl) v84 (fun x _ h => (r84 x).trans h)
/-! ### 87: loop.example/g00076/spec.l01PickInt -/
noncomputable def t87 : Tbl := [(84, [], c84)]
noncomputable def a87 : Nat → Option LoopAnn := fun _ => none
noncomputable def g87 (x0 : Ta10) (x1 : (L Int)) : Option Ta33 :=
  (g84 x0 (x1.len : Int)).bind fun y1 =>
    bif (decide (0 ≤ y1.1.1) && decide (y1.1.1 < (x1.len : Int))) then
      some (((L.get x1 y1.1.1.toNat), ()), (y1.2.1, ()))
    else
      none
noncomputable def c87 : Ctr := { ins := [.pt Ty42, .v (.sl (.int .i64))], out := [(.int .i64)], F := fun x => g87 x.1 x.2.1 }
theorem v87 : LoopsOk Try.prog Γ t87 a87 (loopsIn (Try.f87.body.getD .skip) 0) := loopsOk_nil (by kernel_rfl)
theorem r87 (x : InsT c87.ins) : fnK Try.prog Γ t87 a87 Try.f87 c87 x = g87 x.1 x.2.1 := by kernel_rfl
theorem k87 : TblOk Try.prog t87 := tblOk_cons o84 (tblOk_nil)
theorem o87 : Holds Try.prog 87 c87 := fn_holds (code := Try.f87.body.getD .skip) (by kernel_rfl) gamOk k87 Try.func87 (by kernel_rfl) (by kernel_rfl) (by kernel_rfl) (by kernel_rfl) v87 (fun x _ h => (r87 x).trans h)
/-! ### 111: loop.example/g00076/spec.l01Word -/
noncomputable def t111 : Tbl := [(84, [], c84), (87, [], c87)]
noncomputable def a111 : Nat → Option LoopAnn := fun _ => none
noncomputable def g111 (x0 : Ta10) : Option Ta33 :=
  (g84 x0 (4 : Int)).bind fun y1 =>
    bif (y1.1.1 == (0 : Int)) then
      (g87 y1.2.1 (L.of (Ty.zero (.int .i64)) [(0 : Int), (1 : Int), (2 : Int), (31 : Int), (32 : Int), (255 : Int), (256 : Int), (2147483647 : Int), (2147483648 : Int), (4294967295 : Int), (4294967294 : Int)])).bind fun y2 =>
        some (((IntKind.wrap .u32 (y2.1.1)), ()), (y2.2.1, ()))
    else
      bif (y1.1.1 == (1 : Int)) then
        (g84 y1.2.1 (300 : Int)).bind fun y3 =>
          some (((IntKind.wrap .u32 (y3.1.1)), ()), (y3.2.1, ()))
      else
        (g84 y1.2.1 (65536 : Int)).bind fun y4 =>
          (g84 y4.2.1 (65536 : Int)).bind fun y5 =>
            some (((IntKind.wrap .u32 ((IntKind.wrap .u32 ((IntKind.wrap .u32 (y4.1.1)) * (65536 : Int))) + (IntKind.wrap .u32 (y5.1.1)))), ()), (y5.2.1, ()))
noncomputable def c111 : Ctr := { ins := [.pt Ty42], out := [(.int .u32)], F := fun x => g111 x.1 }
theorem v111 : LoopsOk Try.prog Γ t111 a111 (loopsIn (Try.f111.body.getD .skip) 0) := loopsOk_nil (by kernel_rfl)
theorem r111 (x : InsT c111.ins) : fnK Try.prog Γ t111 a111 Try.f111 c111 x = g111 x.1 := by kernel_rfl
theorem k111 : TblOk Try.prog t111 := tblOk_cons o84 (tblOk_cons o87 (tblOk_nil))
theorem o111 : Holds Try.prog 111 c111 := fn_holds (code := Try.f111.body.getD .skip) (by kernel_rfl) gamOk k111 Try.func111 (by kernel_rfl) (by kernel_rfl) (by kernel_rfl) (by kernel_rfl) v111 (fun x _ h => (r111 x).trans h)
/-! ### 86: loop.example/g00076/spec.l01Once -/
noncomputable def t86 : Tbl := [(84, [], c84)]
noncomputable def a86 : Nat → Option LoopAnn := fun _ => none
noncomputable def g86 (x0 : Ta10) (x1 : Int) : Option ((Bool × Unit) × Ta17) :=
  (g84 x0 x1).bind fun y1 =>
    some (((y1.1.1 == (0 : Int)), ()), (y1.2.1, ()))
noncomputable def c86 : Ctr := { ins := [.pt Ty42, .v (.int .i64)], out := [.bool], F := fun x => g86 x.1 x.2.1 }
theorem v86 : LoopsOk Try.prog Γ t86 a86 (loopsIn (Try.f86.body.getD .skip) 0) := loopsOk_nil (by kernel_rfl)
theorem r86 (x : InsT c86.ins) : fnK Try.prog Γ t86 a86 Try.f86 c86 x = g86 x.1 x.2.1 := by kernel_rfl
theorem k86 : TblOk Try.prog t86 := tblOk_cons o84 (tblOk_nil)
theorem o86 : Holds Try.prog 86 c86 := fn_holds (code := Try.f86.body.getD .skip) (by kernel_rfl) gamOk k86 Try.func86 (by kernel_rfl) (by kernel_rfl) (by kernel_rfl) (by kernel_rfl) v86 (fun x _ h => (r86 x).trans h)
/-! ### 83: loop.example/g00076/spec.l12Ops -/
noncomputable def t83w : Tbl := [(87, [], c87), (111, [], c111)]
abbrev h83w_L0 : Shape := { slots := [(0, .bx 100000000 0), (1, .v (.int .i64)), (5, .exo Ty21 50005), (6, .v (.int .i64))], boxes := [(100000000, .typ Ty42)] }
abbrev e83w_L0 : List (XT × Shape) := [(.exit 0, { slots := [(5, .exo Ty21 50005)], boxes := [(100000000, .typ Ty42)] })]
noncomputable def q83w_L0 (t1 : Int) (t5 : Ta1) (t6 : Int) (b100000000 : Ta10) : Option (Ta53 ⊕ (Ta45 ⊕ Empty)) :=
  bif (decide (t6 < t1)) then
    (g87 b100000000 (L.of (Ty.zero (.int .i64)) [(0 : Int), (0 : Int), (0 : Int), (1 : Int), (1 : Int), (2 : Int), (2 : Int)])).bind fun y1 =>
      bif (y1.1.1 == (0 : Int)) then
        (g111 y1.2.1).bind fun y2 =>
          bif (decide (t5.len + (L.of (Ty.zero Ty21) [(y1.1.1, y2.1)]).len ≤ most)) then
            some (.inl (((), (t1, ((L.app t5 (L.of (Ty.zero Ty21) [(y1.1.1, y2.1)])), ((wI (t6 + (1 : Int))), ())))), y2.2))
          else
            none
      else
        bif (decide (t5.len + (L.of (Ty.zero Ty21) [(y1.1.1, ((0 : Int), ()))]).len ≤ most)) then
          some (.inl (((), (t1, ((L.app t5 (L.of (Ty.zero Ty21) [(y1.1.1, ((0 : Int), ()))])), ((wI (t6 + (1 : Int))), ())))), y1.2))
        else
          none
  else
    some (.inr (.inl ((t5, ()), (b100000000, ()))))
noncomputable def s83w_L0 (x : Ta53) : Option (Ta53 ⊕ (Ta45 ⊕ Empty)) := q83w_L0 x.1.2.1 x.1.2.2.1 x.1.2.2.2.1 x.2.1
noncomputable def a83w : Nat → Option LoopAnn := fun c => bif Nat.beq c 0 then some (.fix h83w_L0 e83w_L0 s83w_L0) else none
noncomputable def g83w (x0 : Ta10) (x1 : Int) : Option Ta45 :=
  (fixO s83w_L0 (((), (x1, ((L.of (Ty.zero Ty21) []), ((0 : Int), ())))), (x0, ()))).bind fun d4 => match d4 with
  | .inl y3 =>
    some ((y3.1.1, ()), (y3.2.1, ()))
  | .inr e => nomatch e
noncomputable def c83w : Ctr := { ins := [.pt Ty42, .v (.int .i64)], out := [Ty29], F := fun x => g83w x.1 x.2.1, fr := 2 }
noncomputable def l83w : List (Nat × Code) := loopsIn (Try.f83.body.getD .skip) 0
theorem w83w_L0 (x : h83w_L0.T) : runK Try.prog Γ t83w (inlN Try.prog Γ t83w 3) a83w (l83w.getD 0 (0, .skip)).2 0 (pkSh h83w_L0 x) (loopCls (sh := h83w_L0) (es := e83w_L0)) = (s83w_L0 x : Option _) := by kernel_rfl
theorem v83w : LoopsOk Try.prog Γ t83w a83w (loopsIn (Try.f83.body.getD .skip) 0) := by
  have e : loopsIn (Try.f83.body.getD .skip) 0 = [(0, (l83w.getD 0 (0, .skip)).2)] := by kernel_rfl
  rw [e]
  exact ⟨fun x d h => (w83w_L0 x).trans h, trivial⟩
theorem r83w (x : InsT c83w.ins) : fnK Try.prog Γ t83w a83w Try.f83 c83w x = g83w x.1 x.2.1 := by kernel_rfl
theorem k83w : TblOk Try.prog t83w := tblOk_cons o87 (tblOk_cons o111 (tblOk_nil))
theorem o83w : Holds Try.prog 83 c83w := fn_holds (code := Try.f83.body.getD .skip) (by kernel_rfl) gamOk k83w Try.func83 (by kernel_rfl) (by kernel_rfl) (by kernel_rfl) (by kernel_rfl) v83w (fun x _ h => (r83w x).trans h)
/-! ### 38: loop.example/g00076/spec.DrawDevPlay -/
noncomputable def t38 : Tbl := [(82, [], c82), (85, [], c85), (84, [], c84), (83, [], c83w), (86, [], c86), (87, [], c87)]
noncomputable def a38 : Nat → Option LoopAnn := fun _ => none
noncomputable def g38 (x0 : (L Int)) : Option (Ta11 × Unit) :=
  (g82 x0).bind fun y1 =>
    (g84 y1.1.1 (f85 x0 (80 : Int))).bind fun y2 =>
      (g83w y2.2.1 y2.1.1).bind fun y3 =>
        (g86 y3.2.1 (20 : Int)).bind fun y4 =>
          bif y4.1.1 then
            (g87 y4.2.1 (L.of (Ty.zero (.int .i64)) [(-1 : Int), (3 : Int)])).bind fun y5 =>
              bif (decide (y3.1.1.len + (L.of (Ty.zero Ty21) [(y5.1.1, ((0 : Int), ()))]).len ≤ most)) then
                (g86 y5.2.1 (60 : Int)).bind fun y6 =>
                  bif y6.1.1 then
                    (g84 y6.2.1 (2 : Int)).bind fun y7 =>
                      (g83w y7.2.1 (wI ((1000 : Int) + y7.1.1))).bind fun y8 =>
                        some ((y8.1.1, ()), ())
                  else
                    some (((L.app y3.1.1 (L.of (Ty.zero Ty21) [(y5.1.1, ((0 : Int), ()))])), ()), ())
              else
                none
          else
            (g86 y4.2.1 (60 : Int)).bind fun y9 =>
              bif y9.1.1 then
                (g84 y9.2.1 (2 : Int)).bind fun y10 =>
                  (g83w y10.2.1 (wI ((1000 : Int) + y10.1.1))).bind fun y11 =>
                    some ((y11.1.1, ()), ())
              else
                some ((y3.1.1, ()), ())
noncomputable def c38 : Ctr := { ins := [.v (.sl (.int .u8))], out := [Ty29], F := fun x => g38 x.1 }
theorem v38 : LoopsOk Try.prog Γ t38 a38 (loopsIn (Try.f38.body.getD .skip) 0) := loopsOk_nil (by kernel_rfl)
theorem r38 (x : InsT c38.ins) : fnK Try.prog Γ t38 a38 Try.f38 c38 x = g38 x.1 := by kernel_rfl
theorem k38 : TblOk Try.prog t38 := tblOk_cons o82 (tblOk_cons o85 (tblOk_cons o84 (tblOk_cons o83w (tblOk_cons o86 (tblOk_cons o87 (tblOk_nil))))))
theorem o38 : Holds Try.prog 38 c38 := fn_holds (code := Try.f38.body.getD .skip) (by kernel_rfl) gamOk k38 Try.func38 (by kernel_rfl) (by kernel_rfl) (by kernel_rfl) (by kernel_rfl) v38 (fun x _ h => (r38 x).trans h)
/-! ### 61: loop.example/g00076/impl.within -/
noncomputable def t61 : Tbl := []
noncomputable def a61 : Nat → Option LoopAnn := fun _ => none
noncomputable def g61 (x0 : Int) (x1 : Int) (x2 : Int) : Option ((Bool × Unit) × Unit) :=
  bif (decide (x0 ≥ x1)) then
    some (((decide (x0 ≤ x2)), ()), ())
  else
    some ((false, ()), ())
noncomputable def f61 (x0 : Int) (x1 : Int) (x2 : Int) : Bool :=
  bif (decide (x0 ≥ x1)) then
    (decide (x0 ≤ x2))
  else
    false
theorem n61 (x0 : Int) (x1 : Int) (x2 : Int) : g61 x0 x1 x2 = some ((f61 x0 x1 x2, ()), ()) := by
  simp only [g61, f61, pull1]
noncomputable def c61 : Ctr := { ins := [.v (.int .i64), .v (.int .i64), .v (.int .i64)], out := [.bool], F := fun x => some ((f61 x.1 x.2.1 x.2.2.1, ()), ()) }
theorem v61 : LoopsOk Try.prog Γ t61 a61 (loopsIn (Try.f61.body.getD .skip) 0) := loopsOk_nil (by kernel_rfl)
theorem r61 (x : InsT c61.ins) : fnK Try.prog Γ t61 a61 Try.f61 c61 x = g61 x.1 x.2.1 x.2.2.1 := by kernel_rfl
theorem k61 : TblOk Try.prog t61 := tblOk_nil
theorem o61 : Holds Try.prog 61 c61 := fn_holds (code := Try.f61.body.getD .skip) (by kernel_rfl) gamOk k61 Try.func61 (by kernel_rfl) (by kernel_rfl) (by kernel_rfl) (by kernel_rfl) v61 (fun x _ h => (r61 x).trans ((n61 x.1 x.2.1 x.2.2.1).trans h))
/-! ### 79: loop.example/g00076/impl.DevPlay$1 -/
noncomputable def t79 : Tbl := [(61, [], c61)]
noncomputable def a79 : Nat → Option LoopAnn := fun _ => none
noncomputable def g79 (x0 : (Int × (Int × Unit))) : Option ((Bool × Unit) × Unit) :=
  some (((!(f61 x0.1 (0 : Int) (2 : Int))), ()), ())
noncomputable def f79 (x0 : (Int × (Int × Unit))) : Bool :=
  (!(f61 x0.1 (0 : Int) (2 : Int)))
theorem n79 (x0 : (Int × (Int × Unit))) : g79 x0 = some ((f79 x0, ()), ()) := by
  simp only [g79, f79, pull1]
noncomputable def c79 : Ctr := { ins := [.v Ty21], out := [.bool], F := fun x => some ((f79 x.1, ()), ()) }
theorem v79 : LoopsOk Try.prog Γ t79 a79 (loopsIn (Try.f79.body.getD .skip) 0) := loopsOk_nil (by kernel_rfl)
theorem r79 (x : InsT c79.ins) : fnK Try.prog Γ t79 a79 Try.f79 c79 x = g79 x.1 := by kernel_rfl
theorem k79 : TblOk Try.prog t79 := tblOk_cons o61 (tblOk_nil)
theorem o79 : Holds Try.prog 79 c79 := fn_holds (code := Try.f79.body.getD .skip) (by kernel_rfl) gamOk k79 Try.func79 (by kernel_rfl) (by kernel_rfl) (by kernel_rfl) (by kernel_rfl) v79 (fun x _ h => (r79 x).trans ((n79 x.1).trans h))
/-! ### 110: slices.IndexFunc[[]loop.example/g00076/impl.DevOp,loop.example/g00076/impl.DevOp] -/
noncomputable def t110_79 : Tbl := [(79, [], c79)]
abbrev h110_79_L0 : Shape := { slots := [(0, .v Ty29), (1, .clo 79 []), (7, .v (.int .i64)), (8, .v (.int .i64))], boxes := [] }
abbrev e110_79_L0 : List (XT × Shape) := [(.ret, { slots := [(4, .v (.int .i64))], boxes := [] }), (.exit 0, { slots := [], boxes := [] })]
noncomputable def q110_79_L0 (t0 : Ta1) (t7 : Int) (t8 : Int) : Option (Ta40 ⊕ (((Int × Unit) × Unit) ⊕ ((Unit × Unit) ⊕ Empty))) :=
  bif (decide (t8 < t7)) then
    bif (decide (0 ≤ t8) && decide (t8 < (t0.len : Int))) then
      bif (f79 (L.get t0 t8.toNat)) then
        some (.inr (.inl ((t8, ()), ())))
      else
        some (.inl ((t0, ((), (t7, ((wI (t8 + (1 : Int))), ())))), ()))
    else
      none
  else
    some (.inr (.inr (.inl ((), ()))))
noncomputable def s110_79_L0 (x : Ta40) : Option (Ta40 ⊕ (((Int × Unit) × Unit) ⊕ ((Unit × Unit) ⊕ Empty))) := q110_79_L0 x.1.1 x.1.2.2.1 x.1.2.2.2.1
noncomputable def a110_79 : Nat → Option LoopAnn := fun c => bif Nat.beq c 0 then some (.fix h110_79_L0 e110_79_L0 s110_79_L0) else none
noncomputable def g110_79 (x0 : Ta1) (x1 : Unit) : Option ((Int × Unit) × Unit) :=
  (fixO s110_79_L0 ((x0, ((), ((x0.len : Int), ((0 : Int), ())))), ())).bind fun d2 => match d2 with
  | .inl y1 =>
    some ((y1.1.1, ()), ())
  | .inr (.inl y1) =>
    some (((-1 : Int), ()), ())
  | .inr (.inr e) => nomatch e
noncomputable def c110_79 : Ctr := { ins := [.v Ty29, .clo 79 []], out := [(.int .i64)], F := fun x => g110_79 x.1 x.2.1 }
noncomputable def l110_79 : List (Nat × Code) := loopsIn (Try.f110.body.getD .skip) 0
theorem w110_79_L0 (x : h110_79_L0.T) : runK Try.prog Γ t110_79 (inlN Try.prog Γ t110_79 3) a110_79 (l110_79.getD 0 (0, .skip)).2 0 (pkSh h110_79_L0 x) (loopCls (sh := h110_79_L0) (es := e110_79_L0)) = (s110_79_L0 x : Option _) := by kernel_rfl
theorem v110_79 : LoopsOk Try.prog Γ t110_79 a110_79 (loopsIn (Try.f110.body.getD .skip) 0) := by
  have e : loopsIn (Try.f110.body.getD .skip) 0 = [(0, (l110_79.getD 0 (0, .skip)).2)] := by kernel_rfl
  rw [e]
  exact ⟨fun x d h => (w110_79_L0 x).trans h, trivial⟩
theorem r110_79 (x : InsT c110_79.ins) : fnK Try.prog Γ t110_79 a110_79 Try.f110 c110_79 x = g110_79 x.1 x.2.1 := by kernel_rfl
theorem k110_79 : TblOk Try.prog t110_79 := tblOk_cons o79 (tblOk_nil)
theorem o110_79 : Holds Try.prog 110 c110_79 := fn_holds (code := Try.f110.body.getD .skip) (by kernel_rfl) gamOk k110_79 Try.func110 (by kernel_rfl) (by kernel_rfl) (by kernel_rfl) (by kernel_rfl) v110_79 (fun x _ h => (r110_79 x).trans h)
/-! ### 78: slices.ContainsFunc[[]loop.example/g00076/impl.DevOp,loop.example/g00076/impl.DevOp] -/
noncomputable def t78_79 : Tbl := [(110, [79], c110_79)]
noncomputable def a78_79 : Nat → Option LoopAnn := fun _ => none
noncomputable def g78_79 (x0 : Ta1) (x1 : Unit) : Option ((Bool × Unit) × Unit) :=
  (g110_79 x0 ()).bind fun y1 =>
    some (((decide (y1.1.1 ≥ (0 : Int))), ()), ())
noncomputable def c78_79 : Ctr := { ins := [.v Ty29, .clo 79 []], out := [.bool], F := fun x => g78_79 x.1 x.2.1 }
theorem v78_79 : LoopsOk Try.prog Γ t78_79 a78_79 (loopsIn (Try.f78.body.getD .skip) 0) := loopsOk_nil (by kernel_rfl)
theorem r78_79 (x : InsT c78_79.ins) : fnK Try.prog Γ t78_79 a78_79 Try.f78 c78_79 x = g78_79 x.1 x.2.1 := by kernel_rfl
theorem k78_79 : TblOk Try.prog t78_79 := tblOk_cons o110_79 (tblOk_nil)
theorem o78_79 : Holds Try.prog 78 c78_79 := fn_holds (code := Try.f78.body.getD .skip) (by kernel_rfl) gamOk k78_79 Try.func78 (by kernel_rfl) (by kernel_rfl) (by kernel_rfl) (by kernel_rfl) v78_79 (fun x _ h => (r78_79 x).trans h)
/-! ### 109: slices.Concat[[]uint32,uint32] -/
noncomputable def t109 : Tbl := []
abbrev h109_L0 : Shape := { slots := [(0, .v (.sl (.sl (.int .u32)))), (3, .v (.int .i64)), (9, .v (.sl (.sl (.int .u32)))), (10, .v (.int .i64)), (11, .v (.int .i64))], boxes := [] }
abbrev e109_L0 : List (XT × Shape) := [(.exit 0, { slots := [(0, .v (.sl (.sl (.int .u32)))), (3, .v (.int .i64))], boxes := [] })]
noncomputable def q109_L0 (t0 : (L (L Int))) (t3 : Int) (t9 : (L (L Int))) (t10 : Int) (t11 : Int) : Option (Ta41 ⊕ ((((L (L Int)) × (Int × Unit)) × Unit) ⊕ Empty)) :=
  bif (decide (t11 < t10)) then
    bif (decide (0 ≤ t11) && decide (t11 < (t9.len : Int))) then
      bif (decide ((wI (t3 + ((L.get t9 t11.toNat).len : Int))) < (0 : Int))) then
        none
      else
        some (.inl ((t0, ((wI (t3 + ((L.get t9 t11.toNat).len : Int))), (t9, (t10, ((wI (t11 + (1 : Int))), ()))))), ()))
    else
      none
  else
    some (.inr (.inl ((t0, (t3, ())), ())))
noncomputable def s109_L0 (x : Ta41) : Option (Ta41 ⊕ ((((L (L Int)) × (Int × Unit)) × Unit) ⊕ Empty)) := q109_L0 x.1.1 x.1.2.1 x.1.2.2.1 x.1.2.2.2.1 x.1.2.2.2.2.1
abbrev h109_L2 : Shape := { slots := [(6, .exo (.int .u32) 50006), (25, .v (.sl (.sl (.int .u32)))), (26, .v (.int .i64)), (27, .v (.int .i64))], boxes := [] }
abbrev e109_L2 : List (XT × Shape) := [(.exit 2, { slots := [(6, .exo (.int .u32) 50006)], boxes := [] })]
noncomputable def q109_L2 (t6 : (L Int)) (t25 : (L (L Int))) (t26 : Int) (t27 : Int) : Option (Ta31 ⊕ (Ta4 ⊕ Empty)) :=
  bif (decide (t27 < t26)) then
    bif (decide (0 ≤ t27) && decide (t27 < (t25.len : Int))) then
      bif (decide (t6.len + (L.get t25 t27.toNat).len ≤ most)) then
        some (.inl (((L.app t6 (L.get t25 t27.toNat)), (t25, (t26, ((wI (t27 + (1 : Int))), ())))), ()))
      else
        none
    else
      none
  else
    some (.inr (.inl ((t6, ()), ())))
noncomputable def s109_L2 (x : Ta31) : Option (Ta31 ⊕ (Ta4 ⊕ Empty)) := q109_L2 x.1.1 x.1.2.1 x.1.2.2.1 x.1.2.2.2.1
noncomputable def a109 : Nat → Option LoopAnn := fun c => bif Nat.beq c 0 then some (.fix h109_L0 e109_L0 s109_L0) else bif Nat.beq c 2 then some (.fix h109_L2 e109_L2 s109_L2) else none
noncomputable def g109 (x0 : (L (L Int))) : Option Ta4 :=
  (fixO s109_L0 ((x0, ((0 : Int), (x0, ((x0.len : Int), ((0 : Int), ()))))), ())).bind fun d6 => match d6 with
  | .inl y1 =>
    bif (decide (y1.1.2.1 < (0 : Int))) then
      none
    else
      bif (decide ((wI (y1.1.2.1 - (0 : Int))) > (0 : Int))) then
        bif (decide (0 < (wI (y1.1.2.1 - (0 : Int)))) && decide ((wI (y1.1.2.1 - (0 : Int))) ≤ most)) then
          (fixO s109_L2 (((zL (.int .u32)), (y1.1.1, ((y1.1.1.len : Int), ((0 : Int), ())))), ())).bind fun d3 => match d3 with
          | .inl y2 =>
            some ((y2.1.1, ()), ())
          | .inr e => nomatch e
        else
          none
      else
        (fixO s109_L2 (((nilL (.int .u32)), (y1.1.1, ((y1.1.1.len : Int), ((0 : Int), ())))), ())).bind fun d5 => match d5 with
        | .inl y4 =>
          some ((y4.1.1, ()), ())
        | .inr e => nomatch e
  | .inr e => nomatch e
noncomputable def c109 : Ctr := { ins := [.v (.sl (.sl (.int .u32)))], out := [(.sl (.int .u32))], F := fun x => g109 x.1 }
noncomputable def l109 : List (Nat × Code) := loopsIn (Try.f109.body.getD .skip) 0
theorem w109_L0 (x : h109_L0.T) : runK Try.prog Γ t109 (inlN Try.prog Γ t109 3) a109 (l109.getD 0 (0, .skip)).2 0 (pkSh h109_L0 x) (loopCls (sh := h109_L0) (es := e109_L0)) = (s109_L0 x : Option _) := by kernel_rfl
theorem w109_L2 (x : h109_L2.T) : runK Try.prog Γ t109 (inlN Try.prog Γ t109 3) a109 (l109.getD 1 (0, .skip)).2 2 (pkSh h109_L2 x) (loopCls (sh := h109_L2) (es := e109_L2)) = (s109_L2 x : Option _) := by kernel_rfl
theorem v109 : LoopsOk Try.prog Γ t109 a109 (loopsIn (Try.f109.body.getD .skip) 0) := by
  have e : loopsIn (Try.f109.body.getD .skip) 0 = [(0, (l109.getD 0 (0, .skip)).2), (2, (l109.getD 1 (0, .skip)).2)] := by kernel_rfl
  rw [e]
  exact ⟨fun x d h => (w109_L0 x).trans h, fun x d h => (w109_L2 x).trans h, trivial⟩
theorem r109 (x : InsT c109.ins) : fnK Try.prog Γ t109 a109 Try.f109 c109 x = g109 x.1 := by kernel_rfl
theorem k109 : TblOk Try.prog t109 := tblOk_nil
theorem o109 : Holds Try.prog 109 c109 := fn_holds (code := Try.f109.body.getD .skip) (by kernel_rfl) gamOk k109 Try.func109 (by kernel_rfl) (by kernel_rfl) (by kernel_rfl) (by kernel_rfl) v109 (fun x _ h => (r109 x).trans h)
/-! ### 31: loop.example/g00076/impl.DevPlay -/
noncomputable def t31 : Tbl := [(78, [79], c78_79), (109, [], c109)]
abbrev h31_L0 : Shape := { slots := [(3, .bx 3 0), (4, .exo Ty36 50004), (15, .v Ty29), (16, .v (.int .i64)), (17, .v (.int .i64))], boxes := [(3, .cells [.exo (.int .u32) 60192, .v (.sl (.int .u32))])] }
abbrev e31_L0 : List (XT × Shape) := [(.exit 0, { slots := [(4, .exo Ty36 50004)], boxes := [] })]
noncomputable def q31_L0 (t4 : Ta12) (t15 : Ta1) (t16 : Int) (t17 : Int) (b3_0 : (L Int)) (b3_1 : (L Int)) : Option (Ta59 ⊕ (Ta30 ⊕ Empty)) :=
  bif (decide (t17 < t16)) then
    bif (decide (0 ≤ t17) && decide (t17 < (t15.len : Int))) then
      bif ((L.get t15 t17.toNat).1 == (0 : Int)) then
        bif ((b3_0.len : Int) == (8 : Int)) then
          bif (decide (t4.len + (L.of (Ty.zero Ty36) [(false, ((0 : Int), ((0 : Int), ())))]).len ≤ most)) then
            some (.inl (((), ((L.app t4 (L.of (Ty.zero Ty36) [(false, ((0 : Int), ((0 : Int), ())))])), (t15, (t16, ((wI (t17 + (1 : Int))), ()))))), ((b3_0, (b3_1, ())), ())))
          else
            none
        else
          bif (decide (b3_0.len + (L.of (Ty.zero (.int .u32)) [(L.get t15 t17.toNat).2.1]).len ≤ most)) then
            bif (decide (t4.len + (L.of (Ty.zero Ty36) [(true, ((0 : Int), ((0 : Int), ())))]).len ≤ most)) then
              some (.inl (((), ((L.app t4 (L.of (Ty.zero Ty36) [(true, ((0 : Int), ((0 : Int), ())))])), (t15, (t16, ((wI (t17 + (1 : Int))), ()))))), (((L.app b3_0 (L.of (Ty.zero (.int .u32)) [(L.get t15 t17.toNat).2.1])), (b3_1, ())), ())))
            else
              none
          else
            none
      else
        bif ((L.get t15 t17.toNat).1 == (1 : Int)) then
          bif (decide (0 ≤ (0 : Int)) && (decide ((0 : Int) ≤ (if (wI ((8 : Int) - (b3_1.len : Int))) < (b3_0.len : Int) then (wI ((8 : Int) - (b3_1.len : Int))) else (b3_0.len : Int))) && decide ((if (wI ((8 : Int) - (b3_1.len : Int))) < (b3_0.len : Int) then (wI ((8 : Int) - (b3_1.len : Int))) else (b3_0.len : Int)) ≤ (b3_0.len : Int)))) then
            (g109 (L.of (Ty.zero (.sl (.int .u32))) [b3_1, (L.cut b3_0 (0 : Int).toNat (if (wI ((8 : Int) - (b3_1.len : Int))) < (b3_0.len : Int) then (wI ((8 : Int) - (b3_1.len : Int))) else (b3_0.len : Int)).toNat)])).bind fun y2 =>
              bif (decide (0 ≤ (if (wI ((8 : Int) - (b3_1.len : Int))) < (b3_0.len : Int) then (wI ((8 : Int) - (b3_1.len : Int))) else (b3_0.len : Int))) && (decide ((if (wI ((8 : Int) - (b3_1.len : Int))) < (b3_0.len : Int) then (wI ((8 : Int) - (b3_1.len : Int))) else (b3_0.len : Int)) ≤ (b3_0.len : Int)) && decide ((b3_0.len : Int) ≤ (b3_0.len : Int)))) then
                bif (decide (t4.len + (L.of (Ty.zero Ty36) [((decide ((if (wI ((8 : Int) - (b3_1.len : Int))) < (b3_0.len : Int) then (wI ((8 : Int) - (b3_1.len : Int))) else (b3_0.len : Int)) > (0 : Int))), ((0 : Int), ((0 : Int), ())))]).len ≤ most)) then
                  some (.inl (((), ((L.app t4 (L.of (Ty.zero Ty36) [((decide ((if (wI ((8 : Int) - (b3_1.len : Int))) < (b3_0.len : Int) then (wI ((8 : Int) - (b3_1.len : Int))) else (b3_0.len : Int)) > (0 : Int))), ((0 : Int), ((0 : Int), ())))])), (t15, (t16, ((wI (t17 + (1 : Int))), ()))))), (((L.cut b3_0 (if (wI ((8 : Int) - (b3_1.len : Int))) < (b3_0.len : Int) then (wI ((8 : Int) - (b3_1.len : Int))) else (b3_0.len : Int)).toNat (b3_0.len : Int).toNat), y2.1), ())))
                else
                  none
              else
                none
          else
            none
        else
          bif ((b3_1.len : Int) == (0 : Int)) then
            bif (decide (t4.len + (L.of (Ty.zero Ty36) [(false, ((0 : Int), ((1 : Int), ())))]).len ≤ most)) then
              some (.inl (((), ((L.app t4 (L.of (Ty.zero Ty36) [(false, ((0 : Int), ((1 : Int), ())))])), (t15, (t16, ((wI (t17 + (1 : Int))), ()))))), ((b3_0, (b3_1, ())), ())))
            else
              none
          else
            bif (decide ((0 : Int) < (b3_1.len : Int))) then
              bif (decide (0 ≤ (1 : Int)) && (decide ((1 : Int) ≤ (b3_1.len : Int)) && decide ((b3_1.len : Int) ≤ (b3_1.len : Int)))) then
                bif (decide (t4.len + (L.of (Ty.zero Ty36) [(false, ((L.get b3_1 (0 : Int).toNat), ((0 : Int), ())))]).len ≤ most)) then
                  some (.inl (((), ((L.app t4 (L.of (Ty.zero Ty36) [(false, ((L.get b3_1 (0 : Int).toNat), ((0 : Int), ())))])), (t15, (t16, ((wI (t17 + (1 : Int))), ()))))), ((b3_0, ((L.cut b3_1 (1 : Int).toNat (b3_1.len : Int).toNat), ())), ())))
                else
                  none
              else
                none
            else
              none
    else
      none
  else
    some (.inr (.inl ((t4, ()), ())))
noncomputable def s31_L0 (x : Ta59) : Option (Ta59 ⊕ (Ta30 ⊕ Empty)) := q31_L0 x.1.2.1 x.1.2.2.1 x.1.2.2.2.1 x.1.2.2.2.2.1 x.2.1.1 x.2.1.2.1
noncomputable def a31 : Nat → Option LoopAnn := fun c => bif Nat.beq c 0 then some (.fix h31_L0 e31_L0 s31_L0) else none
noncomputable def g31 (x0 : Ta1) : Option Ta30 :=
  bif (decide ((x0.len : Int) > (1000 : Int))) then
    some (((nilL Ty36), ()), ())
  else
    (g78_79 x0 ()).bind fun y1 =>
      bif y1.1.1 then
        some (((nilL Ty36), ()), ())
      else
        (fixO s31_L0 (((), ((nilL Ty36), (x0, ((x0.len : Int), ((0 : Int), ()))))), (((nilL (.int .u32)), ((nilL (.int .u32)), ())), ()))).bind fun d4 => match d4 with
        | .inl y3 =>
          some ((y3.1.1, ()), ())
        | .inr e => nomatch e
noncomputable def c31 : Ctr := { ins := [.v Ty29], out := [Ty39], F := fun x => g31 x.1 }
noncomputable def l31 : List (Nat × Code) := loopsIn (Try.f31.body.getD .skip) 0
theorem w31_L0 (x : h31_L0.T) : runK Try.prog Γ t31 (inlN Try.prog Γ t31 3) a31 (l31.getD 0 (0, .skip)).2 0 (pkSh h31_L0 x) (loopCls (sh := h31_L0) (es := e31_L0)) = (s31_L0 x : Option _) := by kernel_rfl
theorem v31 : LoopsOk Try.prog Γ t31 a31 (loopsIn (Try.f31.body.getD .skip) 0) := by
  have e : loopsIn (Try.f31.body.getD .skip) 0 = [(0, (l31.getD 0 (0, .skip)).2)] := by kernel_rfl
  rw [e]
  exact ⟨fun x d h => (w31_L0 x).trans h, trivial⟩
theorem r31 (x : InsT c31.ins) : fnK Try.prog Γ t31 a31 Try.f31 c31 x = g31 x.1 := by kernel_rfl
theorem k31 : TblOk Try.prog t31 := tblOk_cons o78_79 (tblOk_cons o109 (tblOk_nil))
theorem o31 : Holds Try.prog 31 c31 := fn_holds (code := Try.f31.body.getD .skip) (by kernel_rfl) gamOk k31 Try.func31 (by kernel_rfl) (by kernel_rfl) (by kernel_rfl) (by kernel_rfl) v31 (fun x _ h => (r31 x).trans h)
/-! ### 60: loop.example/g00076/spec.l01In -/
noncomputable def t60 : Tbl := []
noncomputable def a60 : Nat → Option LoopAnn := fun _ => none
noncomputable def g60 (x0 : Int) (x1 : Int) (x2 : Int) : Option ((Bool × Unit) × Unit) :=
  bif (decide (x0 ≥ x1)) then
    some (((decide (x0 ≤ x2)), ()), ())
  else
    some ((false, ()), ())
noncomputable def f60 (x0 : Int) (x1 : Int) (x2 : Int) : Bool :=
  bif (decide (x0 ≥ x1)) then
    (decide (x0 ≤ x2))
  else
    false
theorem n60 (x0 : Int) (x1 : Int) (x2 : Int) : g60 x0 x1 x2 = some ((f60 x0 x1 x2, ()), ()) := by
  simp only [g60, f60, pull1]
noncomputable def c60 : Ctr := { ins := [.v (.int .i64), .v (.int .i64), .v (.int .i64)], out := [.bool], F := fun x => some ((f60 x.1 x.2.1 x.2.2.1, ()), ()) }
theorem v60 : LoopsOk Try.prog Γ t60 a60 (loopsIn (Try.f60.body.getD .skip) 0) := loopsOk_nil (by kernel_rfl)
theorem r60 (x : InsT c60.ins) : fnK Try.prog Γ t60 a60 Try.f60 c60 x = g60 x.1 x.2.1 x.2.2.1 := by kernel_rfl
theorem k60 : TblOk Try.prog t60 := tblOk_nil
theorem o60 : Holds Try.prog 60 c60 := fn_holds (code := Try.f60.body.getD .skip) (by kernel_rfl) gamOk k60 Try.func60 (by kernel_rfl) (by kernel_rfl) (by kernel_rfl) (by kernel_rfl) v60 (fun x _ h => (r60 x).trans ((n60 x.1 x.2.1 x.2.2.1).trans h))
/-! ### 65: loop.example/g00076/spec.DevOk -/
noncomputable def t65 : Tbl := []
noncomputable def a65 : Nat → Option LoopAnn := fun _ => none
noncomputable def g65 (x0 : Ta5) : Option ((Bool × Unit) × Unit) :=
  bif (decide ((x0.1.len : Int) ≤ (8 : Int))) then
    some (((decide ((x0.2.1.len : Int) ≤ (8 : Int))), ()), ())
  else
    some ((false, ()), ())
noncomputable def f65 (x0 : Ta5) : Bool :=
  bif (decide ((x0.1.len : Int) ≤ (8 : Int))) then
    (decide ((x0.2.1.len : Int) ≤ (8 : Int)))
  else
    false
theorem n65 (x0 : Ta5) : g65 x0 = some ((f65 x0, ()), ()) := by
  simp only [g65, f65, pull1]
noncomputable def c65 : Ctr := { ins := [.v Ty32], out := [.bool], F := fun x => some ((f65 x.1, ()), ()) }
theorem v65 : LoopsOk Try.prog Γ t65 a65 (loopsIn (Try.f65.body.getD .skip) 0) := loopsOk_nil (by kernel_rfl)
theorem r65 (x : InsT c65.ins) : fnK Try.prog Γ t65 a65 Try.f65 c65 x = g65 x.1 := by kernel_rfl
theorem k65 : TblOk Try.prog t65 := tblOk_nil
theorem o65 : Holds Try.prog 65 c65 := fn_holds (code := Try.f65.body.getD .skip) (by kernel_rfl) gamOk k65 Try.func65 (by kernel_rfl) (by kernel_rfl) (by kernel_rfl) (by kernel_rfl) v65 (fun x _ h => (r65 x).trans ((n65 x.1).trans h))
/-! ### 74: loop.example/g00076/spec.l11List -/
noncomputable def t74 : Tbl := []
noncomputable def a74 : Nat → Option LoopAnn := fun _ => none
noncomputable def g74 (x0 : (L Int)) : Option Ta4 :=
  bif (decide ((L.of (Ty.zero (.int .u32)) []).len + x0.len ≤ most)) then
    some (((L.app (L.of (Ty.zero (.int .u32)) []) x0), ()), ())
  else
    none
noncomputable def c74 : Ctr := { ins := [.v (.sl (.int .u32))], out := [(.sl (.int .u32))], F := fun x => g74 x.1 }
theorem v74 : LoopsOk Try.prog Γ t74 a74 (loopsIn (Try.f74.body.getD .skip) 0) := loopsOk_nil (by kernel_rfl)
theorem r74 (x : InsT c74.ins) : fnK Try.prog Γ t74 a74 Try.f74 c74 x = g74 x.1 := by kernel_rfl
theorem k74 : TblOk Try.prog t74 := tblOk_nil
theorem o74 : Holds Try.prog 74 c74 := fn_holds (code := Try.f74.body.getD .skip) (by kernel_rfl) gamOk k74 Try.func74 (by kernel_rfl) (by kernel_rfl) (by kernel_rfl) (by kernel_rfl) v74 (fun x _ h => (r74 x).trans h)
/-! ### 66: loop.example/g00076/spec.l12Copy -/
noncomputable def t66 : Tbl := [(74, [], c74)]
noncomputable def a66 : Nat → Option LoopAnn := fun _ => none
noncomputable def g66 (x0 : Ta5) : Option (Ta16 × Unit) :=
  (g74 x0.1).bind fun y1 =>
    (g74 x0.2.1).bind fun y2 =>
      some (((y1.1.1, y2.1), ()), ())
noncomputable def c66 : Ctr := { ins := [.v Ty32], out := [Ty32], F := fun x => g66 x.1 }
theorem v66 : LoopsOk Try.prog Γ t66 a66 (loopsIn (Try.f66.body.getD .skip) 0) := loopsOk_nil (by kernel_rfl)
theorem r66 (x : InsT c66.ins) : fnK Try.prog Γ t66 a66 Try.f66 c66 x = g66 x.1 := by kernel_rfl
theorem k66 : TblOk Try.prog t66 := tblOk_cons o74 (tblOk_nil)
theorem o66 : Holds Try.prog 66 c66 := fn_holds (code := Try.f66.body.getD .skip) (by kernel_rfl) gamOk k66 Try.func66 (by kernel_rfl) (by kernel_rfl) (by kernel_rfl) (by kernel_rfl) v66 (fun x _ h => (r66 x).trans h)
/-! ### 74: loop.example/g00076/spec.l11List -/
noncomputable def t74w : Tbl := []
noncomputable def a74w : Nat → Option LoopAnn := fun _ => none
noncomputable def g74w (x0 : (L Int)) : Option Ta4 :=
  bif (decide ((L.of (Ty.zero (.int .u32)) []).len + x0.len ≤ most)) then
    some (((L.app (L.of (Ty.zero (.int .u32)) []) x0), ()), ())
  else
    none
noncomputable def c74w : Ctr := { ins := [.v (.sl (.int .u32))], out := [(.sl (.int .u32))], F := fun x => g74w x.1, fr := 2 }
theorem v74w : LoopsOk Try.prog Γ t74w a74w (loopsIn (Try.f74.body.getD .skip) 0) := loopsOk_nil (by kernel_rfl)
theorem r74w (x : InsT c74w.ins) : fnK Try.prog Γ t74w a74w Try.f74 c74w x = g74w x.1 := by kernel_rfl
theorem k74w : TblOk Try.prog t74w := tblOk_nil
theorem o74w : Holds Try.prog 74 c74w := fn_holds (code := Try.f74.body.getD .skip) (by kernel_rfl) gamOk k74w Try.func74 (by kernel_rfl) (by kernel_rfl) (by kernel_rfl) (by kernel_rfl) v74w (fun x _ h => (r74w x).trans h)
/-! ### 66: loop.example/g00076/spec.l12Copy -/
noncomputable def t66w : Tbl := [(74, [], c74w)]
noncomputable def a66w : Nat → Option LoopAnn := fun _ => none
noncomputable def g66w (x0 : Ta5) : Option (Ta16 × Unit) :=
  (g74w x0.1).bind fun y1 =>
    (g74w x0.2.1).bind fun y2 =>
      some (((y1.1.1, y2.1), ()), ())
noncomputable def c66w : Ctr := { ins := [.v Ty32], out := [Ty32], F := fun x => g66w x.1, fr := 2 }
theorem v66w : LoopsOk Try.prog Γ t66w a66w (loopsIn (Try.f66.body.getD .skip) 0) := loopsOk_nil (by kernel_rfl)
theorem r66w (x : InsT c66w.ins) : fnK Try.prog Γ t66w a66w Try.f66 c66w x = g66w x.1 := by kernel_rfl
theorem k66w : TblOk Try.prog t66w := tblOk_cons o74w (tblOk_nil)
theorem o66w : Holds Try.prog 66 c66w := fn_holds (code := Try.f66.body.getD .skip) (by kernel_rfl) gamOk k66w Try.func66 (by kernel_rfl) (by kernel_rfl) (by kernel_rfl) (by kernel_rfl) v66w (fun x _ h => (r66w x).trans h)
/-! ### 18: loop.example/g00076/spec.DevInput -/
noncomputable def t18 : Tbl := [(65, [], c65), (66, [], c66w)]
noncomputable def a18 : Nat → Option LoopAnn := fun _ => none
noncomputable def g18 (x0 : Ta5) (x1 : Int) : Option ((Ta5 × (Bool × Unit)) × Unit) :=
  bif (!(f65 x0)) then
    some ((((nilL (.int .u32)), ((nilL (.int .u32)), ())), false, ()), ())
  else
    (g66w x0).bind fun y1 =>
      bif ((x0.1.len : Int) == (8 : Int)) then
        some ((y1.1.1, false, ()), ())
      else
        bif (decide (y1.1.1.1.len + (L.of (Ty.zero (.int .u32)) [x1]).len ≤ most)) then
          some ((((L.app y1.1.1.1 (L.of (Ty.zero (.int .u32)) [x1])), y1.1.1.2), true, ()), ())
        else
          none
noncomputable def c18 : Ctr := { ins := [.v Ty32, .v (.int .u32)], out := [Ty32, .bool], F := fun x => g18 x.1 x.2.1 }
theorem v18 : LoopsOk Try.prog Γ t18 a18 (loopsIn (Try.f18.body.getD .skip) 0) := loopsOk_nil (by kernel_rfl)
theorem r18 (x : InsT c18.ins) : fnK Try.prog Γ t18 a18 Try.f18 c18 x = g18 x.1 x.2.1 := by kernel_rfl
theorem k18 : TblOk Try.prog t18 := tblOk_cons o65 (tblOk_cons o66w (tblOk_nil))
theorem o18 : Holds Try.prog 18 c18 := fn_holds (code := Try.f18.body.getD .skip) (by kernel_rfl) gamOk k18 Try.func18 (by kernel_rfl) (by kernel_rfl) (by kernel_rfl) (by kernel_rfl) v18 (fun x _ h => (r18 x).trans h)
/-! ### 26: loop.example/g00076/spec.DevOpen -/
noncomputable def t26 : Tbl := [(65, [], c65), (66, [], c66w), (74, [], c74w)]
abbrev h26_L0 : Shape := { slots := [(2, .bx 2 0), (4, .bx 4 0), (5, .v .bool)], boxes := [(2, .cells [.exo (.int .u32) 60128, .exo (.int .u32) 60129]), (4, .cells [.exo (.int .u32) 60256, .exo (.int .u32) 60257])] }
abbrev e26_L0 : List (XT × Shape) := [(.exit 0, { slots := [(2, .bx 2 0), (4, .bx 4 0), (5, .v .bool)], boxes := [(2, .cells [.exo (.int .u32) 60128, .exo (.int .u32) 60129]), (4, .cells [.exo (.int .u32) 60256, .exo (.int .u32) 60257])] })]
noncomputable def q26_L0 (t5 : Bool) (b2_0 : (L Int)) (b2_1 : (L Int)) (b4_0 : (L Int)) (b4_1 : (L Int)) : Option (Ta54 ⊕ (Ta54 ⊕ Empty)) :=
  bif (decide ((b4_1.len : Int) < (8 : Int))) then
    bif (decide ((b4_0.len : Int) > (0 : Int))) then
      bif (decide ((0 : Int) < (b4_0.len : Int))) then
        bif (decide (b4_1.len + (L.of (Ty.zero (.int .u32)) [(L.get b4_0 (0 : Int).toNat)]).len ≤ most)) then
          bif (decide (0 ≤ (1 : Int)) && (decide ((1 : Int) ≤ (b4_0.len : Int)) && decide ((b4_0.len : Int) ≤ (b4_0.len : Int)))) then
            (g74w (L.cut b4_0 (1 : Int).toNat (b4_0.len : Int).toNat)).bind fun y2 =>
              some (.inl (((), ((), (true, ()))), ((b2_0, (b2_1, ())), ((y2.1.1, ((L.app b4_1 (L.of (Ty.zero (.int .u32)) [(L.get b4_0 (0 : Int).toNat)])), ())), ()))))
          else
            none
        else
          none
      else
        none
    else
      some (.inr (.inl (((), ((), (t5, ()))), ((b2_0, (b2_1, ())), ((b4_0, (b4_1, ())), ())))))
  else
    some (.inr (.inl (((), ((), (t5, ()))), ((b2_0, (b2_1, ())), ((b4_0, (b4_1, ())), ())))))
noncomputable def s26_L0 (x : Ta54) : Option (Ta54 ⊕ (Ta54 ⊕ Empty)) := q26_L0 x.1.2.2.1 x.2.1.1 x.2.1.2.1 x.2.2.1.1 x.2.2.1.2.1
noncomputable def a26 : Nat → Option LoopAnn := fun c => bif Nat.beq c 0 then some (.fix h26_L0 e26_L0 s26_L0) else none
noncomputable def g26 (x0 : Ta5) : Option ((Ta5 × (Bool × Unit)) × Unit) :=
  bif (!(f65 x0)) then
    some ((((nilL (.int .u32)), ((nilL (.int .u32)), ())), false, ()), ())
  else
    (g66w x0).bind fun y1 =>
      (fixO s26_L0 (((), ((), (false, ()))), (((nilL (.int .u32)), ((nilL (.int .u32)), ())), y1.1))).bind fun d4 => match d4 with
      | .inl y3 =>
        some ((y3.2.2.1, y3.1.2.2.1, ()), ())
      | .inr e => nomatch e
noncomputable def c26 : Ctr := { ins := [.v Ty32], out := [Ty32, .bool], F := fun x => g26 x.1 }
noncomputable def l26 : List (Nat × Code) := loopsIn (Try.f26.body.getD .skip) 0
theorem w26_L0 (x : h26_L0.T) : runK Try.prog Γ t26 (inlN Try.prog Γ t26 3) a26 (l26.getD 0 (0, .skip)).2 0 (pkSh h26_L0 x) (loopCls (sh := h26_L0) (es := e26_L0)) = (s26_L0 x : Option _) := by kernel_rfl
theorem v26 : LoopsOk Try.prog Γ t26 a26 (loopsIn (Try.f26.body.getD .skip) 0) := by
  have e : loopsIn (Try.f26.body.getD .skip) 0 = [(0, (l26.getD 0 (0, .skip)).2)] := by kernel_rfl
  rw [e]
  exact ⟨fun x d h => (w26_L0 x).trans h, trivial⟩
theorem r26 (x : InsT c26.ins) : fnK Try.prog Γ t26 a26 Try.f26 c26 x = g26 x.1 := by kernel_rfl
theorem k26 : TblOk Try.prog t26 := tblOk_cons o65 (tblOk_cons o66w (tblOk_cons o74w (tblOk_nil)))
theorem o26 : Holds Try.prog 26 c26 := fn_holds (code := Try.f26.body.getD .skip) (by kernel_rfl) gamOk k26 Try.func26 (by kernel_rfl) (by kernel_rfl) (by kernel_rfl) (by kernel_rfl) v26 (fun x _ h => (r26 x).trans h)
/-! ### 24: loop.example/g00076/spec.DevRead -/
noncomputable def t24 : Tbl := [(65, [], c65), (66, [], c66), (74, [], c74)]
noncomputable def a24 : Nat → Option LoopAnn := fun _ => none
noncomputable def g24 (x0 : Ta5) : Option ((Ta5 × (Int × (Int × Unit))) × Unit) :=
  bif (!(f65 x0)) then
    some ((((nilL (.int .u32)), ((nilL (.int .u32)), ())), (0 : Int), (3 : Int), ()), ())
  else
    (g66 x0).bind fun y1 =>
      bif ((x0.2.1.len : Int) == (0 : Int)) then
        some ((y1.1.1, (0 : Int), (1 : Int), ()), ())
      else
        bif (decide (0 ≤ (1 : Int)) && (decide ((1 : Int) ≤ (x0.2.1.len : Int)) && decide ((x0.2.1.len : Int) ≤ (x0.2.1.len : Int)))) then
          (g74 (L.cut x0.2.1 (1 : Int).toNat (x0.2.1.len : Int).toNat)).bind fun y2 =>
            bif (decide ((0 : Int) < (x0.2.1.len : Int))) then
              some (((y1.1.1.1, y2.1), (L.get x0.2.1 (0 : Int).toNat), (0 : Int), ()), ())
            else
              none
        else
          none
noncomputable def c24 : Ctr := { ins := [.v Ty32], out := [Ty32, (.int .u32), (.int .i64)], F := fun x => g24 x.1 }
theorem v24 : LoopsOk Try.prog Γ t24 a24 (loopsIn (Try.f24.body.getD .skip) 0) := loopsOk_nil (by kernel_rfl)
theorem r24 (x : InsT c24.ins) : fnK Try.prog Γ t24 a24 Try.f24 c24 x = g24 x.1 := by kernel_rfl
theorem k24 : TblOk Try.prog t24 := tblOk_cons o65 (tblOk_cons o66 (tblOk_cons o74 (tblOk_nil)))
theorem o24 : Holds Try.prog 24 c24 := fn_holds (code := Try.f24.body.getD .skip) (by kernel_rfl) gamOk k24 Try.func24 (by kernel_rfl) (by kernel_rfl) (by kernel_rfl) (by kernel_rfl) v24 (fun x _ h => (r24 x).trans h)
/-! ### 29: loop.example/g00076/spec.DevPlay -/
noncomputable def t29 : Tbl := [(60, [], c60), (18, [], c18), (26, [], c26), (24, [], c24)]
abbrev h29_L0 : Shape := { slots := [(0, .v Ty29), (3, .exo Ty36 50003), (4, .v (.int .i64))], boxes := [] }
abbrev e29_L0 : List (XT × Shape) := [(.ret, { slots := [(2, .exo Ty36 50002)], boxes := [] }), (.exit 0, { slots := [(0, .v Ty29), (3, .exo Ty36 50003)], boxes := [] })]
noncomputable def q29_L0 (t0 : Ta1) (t3 : Ta12) (t4 : Int) : Option (Ta49 ⊕ (Ta30 ⊕ (((Ta1 × Ta19) × Unit) ⊕ Empty))) :=
  bif (decide (t4 < (t0.len : Int))) then
    bif (decide (0 ≤ t4) && decide (t4 < (t0.len : Int))) then
      bif (!(f60 (L.get t0 t4.toNat).1 (0 : Int) (2 : Int))) then
        some (.inr (.inl ((t3, ()), ())))
      else
        some (.inl ((t0, (t3, ((wI (t4 + (1 : Int))), ()))), ()))
    else
      none
  else
    some (.inr (.inr (.inl ((t0, (t3, ())), ()))))
noncomputable def s29_L0 (x : Ta49) : Option (Ta49 ⊕ (Ta30 ⊕ (((Ta1 × Ta19) × Unit) ⊕ Empty))) := q29_L0 x.1.1 x.1.2.1 x.1.2.2.1
abbrev h29_L2 : Shape := { slots := [(0, .v Ty29), (3, .exo Ty36 50003), (5, .bx 5 0), (6, .v (.int .i64))], boxes := [(5, .cells [.v (.sl (.int .u32)), .v (.sl (.int .u32))])] }
abbrev e29_L2 : List (XT × Shape) := [(.exit 2, { slots := [(3, .exo Ty36 50003)], boxes := [] })]
noncomputable def q29_L2 (t0 : Ta1) (t3 : Ta12) (t6 : Int) (b5_0 : (L Int)) (b5_1 : (L Int)) : Option (Ta58 ⊕ (Ta30 ⊕ Empty)) :=
  bif (decide (t6 < (t0.len : Int))) then
    bif (decide (0 ≤ t6) && decide (t6 < (t0.len : Int))) then
      bif ((L.get t0 t6.toNat).1 == (0 : Int)) then
        bif (decide (0 ≤ t6) && decide (t6 < (t0.len : Int))) then
          (g18 (b5_0, (b5_1, ())) (L.get t0 t6.toNat).2.1).bind fun y2 =>
            bif (decide (t3.len + (L.of (Ty.zero Ty36) [(y2.1.2.1, ((0 : Int), ((0 : Int), ())))]).len ≤ most)) then
              some (.inl ((t0, ((L.app t3 (L.of (Ty.zero Ty36) [(y2.1.2.1, ((0 : Int), ((0 : Int), ())))])), ((), ((wI (t6 + (1 : Int))), ())))), (y2.1.1, ())))
            else
              none
        else
          none
      else
        bif ((L.get t0 t6.toNat).1 == (1 : Int)) then
          (g26 (b5_0, (b5_1, ()))).bind fun y3 =>
            bif (decide (t3.len + (L.of (Ty.zero Ty36) [(y3.1.2.1, ((0 : Int), ((0 : Int), ())))]).len ≤ most)) then
              some (.inl ((t0, ((L.app t3 (L.of (Ty.zero Ty36) [(y3.1.2.1, ((0 : Int), ((0 : Int), ())))])), ((), ((wI (t6 + (1 : Int))), ())))), (y3.1.1, ())))
            else
              none
        else
          (g24 (b5_0, (b5_1, ()))).bind fun y4 =>
            bif (decide (t3.len + (L.of (Ty.zero Ty36) [(false, y4.1.2)]).len ≤ most)) then
              some (.inl ((t0, ((L.app t3 (L.of (Ty.zero Ty36) [(false, y4.1.2)])), ((), ((wI (t6 + (1 : Int))), ())))), (y4.1.1, ())))
            else
              none
    else
      none
  else
    some (.inr (.inl ((t3, ()), ())))
noncomputable def s29_L2 (x : Ta58) : Option (Ta58 ⊕ (Ta30 ⊕ Empty)) := q29_L2 x.1.1 x.1.2.1 x.1.2.2.2.1 x.2.1.1 x.2.1.2.1
noncomputable def a29 : Nat → Option LoopAnn := fun c => bif Nat.beq c 0 then some (.fix h29_L0 e29_L0 s29_L0) else bif Nat.beq c 2 then some (.fix h29_L2 e29_L2 s29_L2) else none
noncomputable def g29 (x0 : Ta1) : Option Ta30 :=
  bif (decide ((x0.len : Int) > (1000 : Int))) then
    some (((L.of (Ty.zero Ty36) []), ()), ())
  else
    (fixO s29_L0 ((x0, ((L.of (Ty.zero Ty36) []), ((0 : Int), ()))), ())).bind fun d7 => match d7 with
    | .inl y1 =>
      some ((y1.1.1, ()), ())
    | .inr (.inl y1) =>
      (fixO s29_L2 ((y1.1.1, (y1.1.2.1, ((), ((0 : Int), ())))), (((nilL (.int .u32)), ((nilL (.int .u32)), ())), ()))).bind fun d6 => match d6 with
      | .inl y5 =>
        some ((y5.1.1, ()), ())
      | .inr e => nomatch e
    | .inr (.inr e) => nomatch e
noncomputable def c29 : Ctr := { ins := [.v Ty29], out := [Ty39], F := fun x => g29 x.1 }
noncomputable def l29 : List (Nat × Code) := loopsIn (Try.f29.body.getD .skip) 0
theorem w29_L0 (x : h29_L0.T) : runK Try.prog Γ t29 (inlN Try.prog Γ t29 3) a29 (l29.getD 0 (0, .skip)).2 0 (pkSh h29_L0 x) (loopCls (sh := h29_L0) (es := e29_L0)) = (s29_L0 x : Option _) := by kernel_rfl
theorem w29_L2 (x : h29_L2.T) : runK Try.prog Γ t29 (inlN Try.prog Γ t29 3) a29 (l29.getD 1 (0, .skip)).2 2 (pkSh h29_L2 x) (loopCls (sh := h29_L2) (es := e29_L2)) = (s29_L2 x : Option _) := by kernel_rfl
theorem v29 : LoopsOk Try.prog Γ t29 a29 (loopsIn (Try.f29.body.getD .skip) 0) := by
  have e : loopsIn (Try.f29.body.getD .skip) 0 = [(0, (l29.getD 0 (0, .skip)).2), (2, (l29.getD 1 (0, .skip)).2)] := by kernel_rfl
  rw [e]
  exact ⟨fun x d h => (w29_L0 x).trans h, fun x d h => (w29_L2 x).trans h, trivial⟩
theorem r29 (x : InsT c29.ins) : fnK Try.prog Γ t29 a29 Try.f29 c29 x = g29 x.1 := by kernel_rfl
theorem k29 : TblOk Try.prog t29 := tblOk_cons o60 (tblOk_cons o18 (tblOk_cons o26 (tblOk_cons o24 (tblOk_nil))))
theorem o29 : Holds Try.prog 29 c29 := fn_holds (code := Try.f29.body.getD .skip) (by kernel_rfl) gamOk k29 Try.func29 (by kernel_rfl) (by kernel_rfl) (by kernel_rfl) (by kernel_rfl) v29 (fun x _ h => (r29 x).trans h)
/-! ### 9: loop.example/g00076/laws.FnDevice -/
noncomputable def t9 : Tbl := [(37, [], c37), (38, [], c38), (31, [], c31), (29, [], c29)]
abbrev h9_L3 : Shape := { slots := [(3, .v Ty29), (4, .v Ty39), (6, .exo (.int .u32) 50006), (7, .exo (.int .u32) 50007), (8, .v (.int .i64)), (9, .v .bool)], boxes := [] }
abbrev e9_L3 : List (XT × Shape) := [(.exit 3, { slots := [(3, .v Ty29), (4, .v Ty39), (6, .exo (.int .u32) 50006), (7, .exo (.int .u32) 50007), (8, .v (.int .i64)), (9, .v .bool)], boxes := [] })]
noncomputable def q9_L3 (t3 : Ta1) (t4 : Ta12) (t6 : (L Int)) (t7 : (L Int)) (t8 : Int) (t9 : Bool) : Option (Ta57 ⊕ (Ta57 ⊕ Empty)) :=
  bif (decide ((t6.len : Int) > (0 : Int))) then
    bif (decide ((t7.len : Int) < (8 : Int))) then
      bif (decide ((0 : Int) < (t6.len : Int))) then
        bif (decide (t7.len + (L.of (Ty.zero (.int .u32)) [(L.get t6 (0 : Int).toNat)]).len ≤ most)) then
          bif (decide (0 ≤ (1 : Int)) && (decide ((1 : Int) ≤ (t6.len : Int)) && decide ((t6.len : Int) ≤ (t6.len : Int)))) then
            some (.inl ((t3, (t4, ((L.cut t6 (1 : Int).toNat (t6.len : Int).toNat), ((L.app t7 (L.of (Ty.zero (.int .u32)) [(L.get t6 (0 : Int).toNat)])), (t8, (true, ())))))), ()))
          else
            none
        else
          none
      else
        none
    else
      some (.inr (.inl ((t3, (t4, (t6, (t7, (t8, (t9, ())))))), ())))
  else
    some (.inr (.inl ((t3, (t4, (t6, (t7, (t8, (t9, ())))))), ())))
noncomputable def s9_L3 (x : Ta57) : Option (Ta57 ⊕ (Ta57 ⊕ Empty)) := q9_L3 x.1.1 x.1.2.1 x.1.2.2.1 x.1.2.2.2.1 x.1.2.2.2.2.1 x.1.2.2.2.2.2.1
abbrev h9_L0 : Shape := { slots := [(3, .v Ty29), (4, .v Ty39), (6, .exo (.int .u32) 50006), (7, .exo (.int .u32) 50007), (8, .v (.int .i64))], boxes := [] }
abbrev e9_L0 : List (XT × Shape) := [(.ret, { slots := [(2, .v .bool)], boxes := [] }), (.exit 0, { slots := [], boxes := [] })]
noncomputable def q9_L0 (t3 : Ta1) (t4 : Ta12) (t6 : (L Int)) (t7 : (L Int)) (t8 : Int) : Option (Ta56 ⊕ (((Bool × Unit) × Unit) ⊕ ((Unit × Unit) ⊕ Empty))) :=
  bif (decide (t8 < (t4.len : Int))) then
    bif (decide (0 ≤ t8) && decide (t8 < (t3.len : Int))) then
      bif ((L.get t3 t8.toNat).1 == (0 : Int)) then
        bif (decide (0 ≤ t8) && decide (t8 < (t4.len : Int))) then
          bif (!((L.get t4 t8.toNat).1 == (decide ((t6.len : Int) < (8 : Int))))) then
            some (.inr (.inl ((false, ()), ())))
          else
            bif (decide (0 ≤ t8) && decide (t8 < (t4.len : Int))) then
              bif (L.get t4 t8.toNat).1 then
                bif (decide (0 ≤ t8) && decide (t8 < (t3.len : Int))) then
                  bif (decide (t6.len + (L.of (Ty.zero (.int .u32)) [(L.get t3 t8.toNat).2.1]).len ≤ most)) then
                    some (.inl ((t3, (t4, ((L.app t6 (L.of (Ty.zero (.int .u32)) [(L.get t3 t8.toNat).2.1])), (t7, ((wI (t8 + (1 : Int))), ()))))), ()))
                  else
                    none
                else
                  none
              else
                some (.inl ((t3, (t4, (t6, (t7, ((wI (t8 + (1 : Int))), ()))))), ()))
            else
              none
        else
          none
      else
        bif ((L.get t3 t8.toNat).1 == (1 : Int)) then
          (fixO s9_L3 ((t3, (t4, (t6, (t7, (t8, (false, ())))))), ())).bind fun d5 => match d5 with
          | .inl y4 =>
            bif (decide (0 ≤ y4.1.2.2.2.2.1) && decide (y4.1.2.2.2.2.1 < (y4.1.2.1.len : Int))) then
              bif (!((L.get y4.1.2.1 y4.1.2.2.2.2.1.toNat).1 == y4.1.2.2.2.2.2.1)) then
                some (.inr (.inl ((false, ()), ())))
              else
                some (.inl ((y4.1.1, (y4.1.2.1, (y4.1.2.2.1, (y4.1.2.2.2.1, ((wI (y4.1.2.2.2.2.1 + (1 : Int))), ()))))), ()))
            else
              none
          | .inr e => nomatch e
        else
          bif ((t7.len : Int) == (0 : Int)) then
            bif (decide (0 ≤ t8) && decide (t8 < (t4.len : Int))) then
              bif ((L.get t4 t8.toNat).2.2.1 != (1 : Int)) then
                some (.inr (.inl ((false, ()), ())))
              else
                some (.inl ((t3, (t4, (t6, (t7, ((wI (t8 + (1 : Int))), ()))))), ()))
            else
              none
          else
            bif (decide (0 ≤ t8) && decide (t8 < (t4.len : Int))) then
              bif ((L.get t4 t8.toNat).2.2.1 != (0 : Int)) then
                some (.inr (.inl ((false, ()), ())))
              else
                bif (decide (0 ≤ t8) && decide (t8 < (t4.len : Int))) then
                  bif (decide ((0 : Int) < (t7.len : Int))) then
                    bif ((L.get t4 t8.toNat).2.1 != (L.get t7 (0 : Int).toNat)) then
                      some (.inr (.inl ((false, ()), ())))
                    else
                      bif (decide (0 ≤ (1 : Int)) && (decide ((1 : Int) ≤ (t7.len : Int)) && decide ((t7.len : Int) ≤ (t7.len : Int)))) then
                        some (.inl ((t3, (t4, (t6, ((L.cut t7 (1 : Int).toNat (t7.len : Int).toNat), ((wI (t8 + (1 : Int))), ()))))), ()))
                      else
                        none
                  else
                    none
                else
                  none
            else
              none
    else
      none
  else
    some (.inr (.inr (.inl ((), ()))))
noncomputable def s9_L0 (x : Ta56) : Option (Ta56 ⊕ (((Bool × Unit) × Unit) ⊕ ((Unit × Unit) ⊕ Empty))) := q9_L0 x.1.1 x.1.2.1 x.1.2.2.1 x.1.2.2.2.1 x.1.2.2.2.2.1
noncomputable def a9 : Nat → Option LoopAnn := fun c => bif Nat.beq c 3 then some (.fix h9_L3 e9_L3 s9_L3) else bif Nat.beq c 0 then some (.fix h9_L0 e9_L0 s9_L0) else none
noncomputable def g9 (x0 : (L Int)) : Option ((Bool × Unit) × Unit) :=
  bif (f37 x0) then
    some ((true, ()), ())
  else
    (g38 x0).bind fun y1 =>
      (g31 y1.1.1).bind fun y2 =>
        (g29 y1.1.1).bind fun y3 =>
          bif ((y2.1.1.len : Int) != (y3.1.1.len : Int)) then
            some ((false, ()), ())
          else
            (fixO s9_L0 ((y1.1.1, (y2.1.1, ((L.of (Ty.zero (.int .u32)) []), ((L.of (Ty.zero (.int .u32)) []), ((0 : Int), ()))))), ())).bind fun d7 => match d7 with
            | .inl y6 =>
              some ((y6.1.1, ()), ())
            | .inr (.inl y6) =>
              some ((true, ()), ())
            | .inr (.inr e) => nomatch e
noncomputable def c9 : Ctr := { ins := [.v (.sl (.int .u8))], out := [.bool], F := fun x => g9 x.1 }
noncomputable def l9 : List (Nat × Code) := loopsIn (Try.f9.body.getD .skip) 0
theorem w9_L3 (x : h9_L3.T) : runK Try.prog Γ t9 (inlN Try.prog Γ t9 3) a9 (l9.getD 1 (0, .skip)).2 3 (pkSh h9_L3 x) (loopCls (sh := h9_L3) (es := e9_L3)) = (s9_L3 x : Option _) := by kernel_rfl
theorem w9_L0 (x : h9_L0.T) : runK Try.prog Γ t9 (inlN Try.prog Γ t9 3) a9 (l9.getD 0 (0, .skip)).2 0 (pkSh h9_L0 x) (loopCls (sh := h9_L0) (es := e9_L0)) = (s9_L0 x : Option _) := by kernel_rfl
theorem v9 : LoopsOk Try.prog Γ t9 a9 (loopsIn (Try.f9.body.getD .skip) 0) := by
  have e : loopsIn (Try.f9.body.getD .skip) 0 = [(0, (l9.getD 0 (0, .skip)).2), (3, (l9.getD 1 (0, .skip)).2)] := by kernel_rfl
  rw [e]
  exact ⟨fun x d h => (w9_L0 x).trans h, fun x d h => (w9_L3 x).trans h, trivial⟩
theorem r9 (x : InsT c9.ins) : fnK Try.prog Γ t9 a9 Try.f9 c9 x = g9 x.1 := by kernel_rfl
theorem k9 : TblOk Try.prog t9 := tblOk_cons o37 (tblOk_cons o38 (tblOk_cons o31 (tblOk_cons o29 (tblOk_nil))))
theorem o9 : Holds Try.prog 9 c9 := fn_holds (code := Try.f9.body.getD .skip) (by kernel_rfl) gamOk k9 Try.func9 (by kernel_rfl) (by kernel_rfl) (by kernel_rfl) (by kernel_rfl) v9 (fun x _ h => (r9 x).trans h)
end Go.VE.VFnDevice
