import Derived.Test.YtnjlpdagdedbaaaVfZ
import Derived.Test.YtnjlpdagdedbaaaProg
/- What the functions do that laws.FnCyclic reaches, as plain functions, and that they do it. -/
set_option linter.unusedVariables false
set_option linter.unusedSimpArgs false
namespace Go.VE.VFnCyclic
open Go.Proofs Go.VE
abbrev Ta0 : Type := ((L Int) × (Int × Unit))
abbrev Ty1 : Ty := (.pair (.int .i64) .unit)
abbrev Ta2 : Type := (((L Int) × Unit) × Unit)
abbrev Ta3 : Type := (ByteArray × (Int × Unit))
abbrev Ta4 : Type := ((ByteArray × Unit) × Unit)
abbrev Ta5 : Type := (Int × (Int × (Int × Unit)))
abbrev Ta6 : Type := (Unit × (Int × (Int × Unit)))
abbrev Ta7 : Type := (Unit × (Unit × (Int × Unit)))
abbrev Ta8 : Type := (Int × (Unit × (Unit × Unit)))
abbrev Ta9 : Type := (Unit × (Bool × (Int × Unit)))
abbrev Ta10 : Type := (Bool × (Bool × (Bool × Unit)))
abbrev Ta11 : Type := ((L Int) × (Int × (Int × Unit)))
abbrev Ta12 : Type := (L Ta5)
abbrev Ta13 : Type := (Unit × Ta0)
abbrev Ta14 : Type := (ByteArray × (Int × (Int × Unit)))
abbrev Ta15 : Type := (Ta3 × Unit)
abbrev Ta16 : Type := (Int × Ta5)
abbrev Ta17 : Type := (Ta5 × Unit)
abbrev Ta18 : Type := ((Int × Unit) × (Int × (Int × Unit)))
abbrev Ta19 : Type := (Int × Ta6)
abbrev Ta20 : Type := (Unit × Ta6)
abbrev Ta21 : Type := (Int × Ta7)
abbrev Ta22 : Type := (Int × Ta9)
abbrev Ta23 : Type := (Unit × Ta8)
abbrev Ta24 : Type := (L Ta16)
abbrev Ta25 : Type := (Ta11 × Unit)
abbrev Ta26 : Type := (Ta12 × Unit)
abbrev Ta27 : Type := (Int × Ta13)
abbrev Ta28 : Type := (Ta14 × Unit)
abbrev Ta29 : Type := ((ByteArray × Unit) × (Int × (Int × Unit)))
abbrev Ta30 : Type := (Int × Ta16)
abbrev Ty31 : Ty := (.pair (.int .i64) Ty1)
abbrev Ta32 : Type := (Int × Ta19)
abbrev Ta33 : Type := (Int × Ta20)
abbrev Ta34 : Type := (Unit × Ta21)
abbrev Ta35 : Type := ((L Int) × Ta18)
abbrev Ta36 : Type := (Int × Ta27)
abbrev Ta37 : Type := (Ta12 × (Int × Unit))
abbrev Ta38 : Type := (Ta26 × Unit)
abbrev Ta39 : Type := (Int × Ta30)
abbrev Ta40 : Type := (Unit × Ta33)
abbrev Ta41 : Type := (Ta12 × (Int × (Int × Unit)))
abbrev Ta42 : Type := ((Int × Unit) × Ta25)
abbrev Ta43 : Type := (Ta35 × Unit)
abbrev Ta44 : Type := (Ta37 × Unit)
abbrev Ta45 : Type := (Int × Ta39)
abbrev Ta46 : Type := (Ta17 × (Int × (Int × Unit)))
abbrev Ty47 : Ty := (.pair (.int .i64) Ty31)
abbrev Ta48 : Type := (Int × Ta41)
abbrev Ta49 : Type := (Ta24 × (Int × (Int × Unit)))
abbrev Ta50 : Type := ((Int × (Int × Unit)) × Ta26)
abbrev Ta51 : Type := (Ta41 × Unit)
abbrev Ta52 : Type := (Ta45 × Unit)
abbrev Ty53 : Ty := (.pair (.sl (.int .u8)) Ty31)
abbrev Ty54 : Ty := (.sl Ty47)
abbrev Ta55 : Type := (Int × Ta48)
abbrev Ta56 : Type := (Int × Ta49)
abbrev Ta57 : Type := (Ta24 × Ta6)
abbrev Ta58 : Type := (Int × Ta50)
abbrev Ta59 : Type := (Ta12 × Ta18)
abbrev Ta60 : Type := (Unit × Ta48)
abbrev Ta61 : Type := (Ta48 × Unit)
abbrev Ta62 : Type := (Ta24 × Ta18)
abbrev Ta63 : Type := (Unit × Ta56)
abbrev Ta64 : Type := (Int × Ta60)
abbrev Ta65 : Type := (Ta59 × Unit)
abbrev Ty66 : Ty := (.pair (.int .i64) Ty47)
abbrev Ty67 : Ty := (.pair Ty54 .unit)
abbrev Ta68 : Type := (Ta24 × Ta26)
abbrev Ta69 : Type := (ByteArray × Ta58)
abbrev Ty70 : Ty := (.sl Ty66)
abbrev Ta71 : Type := (Ta62 × Unit)
abbrev Ta72 : Type := (L Ta69)
abbrev Ta73 : Type := ((Unit × (Int × Unit)) × Ta52)
abbrev Ta74 : Type := (Ta69 × Unit)
abbrev Ta75 : Type := ((L Int) × Ta68)
abbrev Ta76 : Type := (Ta12 × Ta46)
abbrev Ta77 : Type := (Ta6 × Ta52)
abbrev Ty78 : Ty := (.pair (.int .i64) Ty66)
abbrev Ta79 : Type := (Ta76 × Unit)
abbrev Ta80 : Type := (Ta72 × (Int × (Int × Unit)))
abbrev Ty81 : Ty := (.pair (.int .i64) Ty78)
abbrev Ty82 : Ty := (.pair Ty31 Ty67)
abbrev Ta83 : Type := (Ta72 × Ta29)
abbrev Ta84 : Type := (Ta22 × Ta74)
abbrev Ty85 : Ty := (.pair (.int .i64) Ty81)
abbrev Ta86 : Type := (Ta72 × Ta37)
abbrev Ta87 : Type := (Ta57 × Ta52)
abbrev Ta88 : Type := (Ta83 × Unit)
abbrev Ta89 : Type := (Ta12 × Ta80)
abbrev Ta90 : Type := (Ta86 × Unit)
abbrev Ta91 : Type := (Ta63 × Ta52)
abbrev Ty92 : Ty := (.pair (.int .i64) Ty82)
abbrev Ta93 : Type := (Unit × Ta89)
abbrev Ta94 : Type := (Ta72 × Ta55)
abbrev Ty95 : Ty := (.pair .str Ty92)
abbrev Ty96 : Ty := (.sl Ty95)
abbrev Ta97 : Type := (Unit × Ta94)
abbrev Ty98 : Ty := (.pair Ty70 Ty67)
abbrev Ta99 : Type := (Ta72 × Ta75)
abbrev Ta100 : Type := (Int × Ta99)
abbrev Ta101 : Type := (Int × Ta100)
abbrev Ty102 : Ty := (.pair (.sl (.int .i64)) Ty98)
abbrev Ta103 : Type := (Ta12 × Ta97)
abbrev Ta104 : Type := (Int × Ta101)
abbrev Ta105 : Type := (Unit × Ta103)
abbrev Ta106 : Type := (Int × Ta104)
abbrev Ta107 : Type := (Int × Ta106)
abbrev Ta108 : Type := (Int × Ta107)
abbrev Ta109 : Type := (Int × Ta108)
abbrev Ta110 : Type := (Int × Ta109)
abbrev Ta111 : Type := (Int × Ta110)
abbrev Ta112 : Type := (Int × Ta111)
abbrev Ta113 : Type := (Int × Ta112)
abbrev Ta114 : Type := (Ta45 × Ta104)
abbrev Ta115 : Type := (Int × Ta113)
abbrev Ta116 : Type := (Int × Ta114)
abbrev Ta117 : Type := (Int × Ta115)
abbrev Ta118 : Type := (Int × Ta117)
abbrev Ta119 : Type := (Int × Ta118)
abbrev Ta120 : Type := (Ta119 × Unit)
abbrev Ta121 : Type := (Ta5 × Ta116)
abbrev Ta122 : Type := (Int × Ta121)
abbrev Ta123 : Type := (Ta122 × Unit)
abbrev Ta124 : Type := ((Unit × Unit) × Ta123)
abbrev Ta125 : Type := ((Unit × (Int × Unit)) × Ta123)
abbrev Ta126 : Type := (Ta6 × Ta123)
abbrev Ta127 : Type := (Ta32 × Ta123)
abbrev Ta128 : Type := (Ta36 × Ta123)
abbrev Ty129 : Ty := (.pair Ty96 Ty102)
abbrev Ty130 : Ty := (.pair (.int .i64) Ty129)
abbrev Ta131 : Type := (Ta60 × Ta123)
abbrev Ta132 : Type := (Ta64 × Ta123)
abbrev Ta133 : Type := (Ta122 × Ta74)
abbrev Ty134 : Ty := (.pair (.int .i64) Ty130)
abbrev Ty135 : Ty := (.pair (.int .i64) Ty134)
abbrev Ta136 : Type := (Ta93 × Ta123)
abbrev Ty137 : Ty := (.pair Ty85 Ty135)
abbrev Ty138 : Ty := (.pair (.int .i64) Ty137)
abbrev Ta139 : Type := (Ta119 × Ta120)
abbrev Ta140 : Type := (Ta105 × Ta133)
abbrev Ta141 : Type := (Ta11 × Ta139)
abbrev Ty142 : Ty := (.pair Ty47 Ty138)
abbrev Ta143 : Type := (Ta23 × Ta141)
abbrev Ty144 : Ty := (.pair (.int .i64) Ty142)
abbrev Ta145 : Type := (Ta34 × Ta141)
abbrev Ta146 : Type := (Ta40 × Ta141)
def Γ : TypeId → Option Ty := fun e => bif Nat.beq e 3 then some (.int .i64) else bif Nat.beq e 5 then some (.int .u8) else bif Nat.beq e 9 then some .str else bif Nat.beq e 77 then some Ty47 else bif Nat.beq e 124 then some Ty66 else bif Nat.beq e 140 then some Ty95 else bif Nat.beq e 142 then some Ty47 else none
theorem gamOk : GamOk Try.prog Γ := gamOk_of [3, 5, 9, 77, 124, 140, 142] (fun e ty h => by
  simp only [Γ] at h
  cases h3 : Nat.beq e 3 with
  | true => simp [Nat.eq_of_beq_eq_true h3]
  | false =>
  simp only [h3, cond_false] at h
  cases h5 : Nat.beq e 5 with
  | true => simp [Nat.eq_of_beq_eq_true h5]
  | false =>
  simp only [h5, cond_false] at h
  cases h9 : Nat.beq e 9 with
  | true => simp [Nat.eq_of_beq_eq_true h9]
  | false =>
  simp only [h9, cond_false] at h
  cases h77 : Nat.beq e 77 with
  | true => simp [Nat.eq_of_beq_eq_true h77]
  | false =>
  simp only [h77, cond_false] at h
  cases h124 : Nat.beq e 124 with
  | true => simp [Nat.eq_of_beq_eq_true h124]
  | false =>
  simp only [h124, cond_false] at h
  cases h140 : Nat.beq e 140 with
  | true => simp [Nat.eq_of_beq_eq_true h140]
  | false =>
  simp only [h140, cond_false] at h
  cases h142 : Nat.beq e 142 with
  | true => simp [Nat.eq_of_beq_eq_true h142]
  | false =>
  simp only [h142, cond_false] at h
  cases h) (by kernel_rfl)
/-! ### 37: loop.example/g00076/laws.big -/
noncomputable def t37 : Tbl := []
noncomputable def a37 : Nat → Option LoopAnn := fun _ => none
noncomputable def g37 (x0 : (L Int)) : Option ((Bool × Unit) × Unit) :=
  some (((decide ((x0.len : Int) > (1048576 : Int))), ()), ())
noncomputable def f37 (x0 : (L Int)) : Bool :=
  (decide ((x0.len : Int) > (1048576 : Int)))
theorem n37 (x0 : (L Int)) : g37 x0 = some ((f37 x0, ()), ()) := by
  simp only [g37, f37, pull1]
noncomputable def c37 : Ctr := { ins := [.v (.sl (.int .u8))], out := [.bool], F := fun x => some ((f37 x.1, ()), ()) }
theorem v37 : LoopsOk Try.prog Γ t37 a37 (loopsIn (Try.f37.body.getD .skip) 0) := loopsOk_nil (by kernel_rfl)
theorem r37 (x : InsT c37.ins) : fnK Try.prog Γ t37 a37 Try.f37 c37 x = g37 x.1 := by kernel_rfl
theorem k37 : TblOk Try.prog t37 := tblOk_nil
theorem o37 : Holds Try.prog 37 c37 := fn_holds (code := Try.f37.body.getD .skip) (by kernel_rfl) gamOk k37 Try.func37 (by kernel_rfl) (by kernel_rfl) (by kernel_rfl) (by kernel_rfl) v37 (fun x _ h => (r37 x).trans ((n37 x.1).trans h))
/-! ### 82: loop.example/g00076/spec.l01New -/
noncomputable def t82 : Tbl := []
abbrev h82_L0 : Shape := { slots := [(0, .v (.sl (.int .u8))), (3, .v (.int .i64)), (4, .v (.int .i64))], boxes := [] }
abbrev e82_L0 : List (XT × Shape) := [(.exit 0, { slots := [(0, .v (.sl (.int .u8))), (3, .v (.int .i64))], boxes := [] })]
noncomputable def q82_L0 (t0 : (L Int)) (t3 : Int) (t4 : Int) : Option (Ta25 ⊕ ((Ta0 × Unit) ⊕ Empty)) :=
  bif (decide (t4 < (t0.len : Int))) then
    bif (decide (t4 < (4000 : Int))) then
      bif (decide (0 ≤ t4) && decide (t4 < (t0.len : Int))) then
        some (.inl ((t0, ((andOf .i64 (wI ((wI ((wI (t3 * (131 : Int))) + (wI ((L.get t0 t4.toNat))))) + (7 : Int))) (1073741823 : Int)), ((wI (t4 + (1 : Int))), ()))), ()))
      else
        none
    else
      some (.inr (.inl ((t0, (t3, ())), ())))
  else
    some (.inr (.inl ((t0, (t3, ())), ())))
noncomputable def s82_L0 (x : Ta25) : Option (Ta25 ⊕ ((Ta0 × Unit) ⊕ Empty)) := q82_L0 x.1.1 x.1.2.1 x.1.2.2.1
noncomputable def a82 : Nat → Option LoopAnn := fun c => bif Nat.beq c 0 then some (.fix h82_L0 e82_L0 s82_L0) else none
noncomputable def g82 (x0 : (L Int)) : Option (Ta25 × Unit) :=
  (fixO s82_L0 ((x0, ((wI ((76076 : Int) + (x0.len : Int))), ((0 : Int), ()))), ())).bind fun d2 => match d2 with
  | .inl y1 =>
    some (((y1.1.1, ((0 : Int), y1.1.2)), ()), ())
  | .inr e => nomatch e
noncomputable def c82 : Ctr := { ins := [.v (.sl (.int .u8))], out := [Ty53], F := fun x => g82 x.1, ptr := true }
noncomputable def l82 : List (Nat × Code) := loopsIn (Try.f82.body.getD .skip) 0
theorem w82_L0 (x : h82_L0.T) : runK Try.prog Γ t82 a82 (l82.getD 0 (0, .skip)).2 0 (pkSh h82_L0 x) (loopCls (sh := h82_L0) (es := e82_L0)) = (s82_L0 x : Option _) := by kernel_rfl
theorem v82 : LoopsOk Try.prog Γ t82 a82 (loopsIn (Try.f82.body.getD .skip) 0) := by
  have e : loopsIn (Try.f82.body.getD .skip) 0 = [(0, (l82.getD 0 (0, .skip)).2)] := by kernel_rfl
  rw [e]
  exact ⟨fun x d h => (w82_L0 x).trans h, trivial⟩
theorem r82 (x : InsT c82.ins) : fnK Try.prog Γ t82 a82 Try.f82 c82 x = g82 x.1 := by kernel_rfl
theorem k82 : TblOk Try.prog t82 := tblOk_nil
theorem o82 : Holds Try.prog 82 c82 := fn_holds (code := Try.f82.body.getD .skip) (by kernel_rfl) gamOk k82 Try.func82 (by kernel_rfl) (by kernel_rfl) (by kernel_rfl) (by kernel_rfl) v82 (fun x _ h => (r82 x).trans h)
/-! ### 112: loop.example/g00076/spec.l01Byte -/
noncomputable def t112 : Tbl := []
noncomputable def a112 : Nat → Option LoopAnn := fun _ => none
noncomputable def g112 (x0 : Ta11) : Option Ta42 :=
  bif (decide (x0.2.1 < (x0.1.len : Int))) then
    bif (decide (0 ≤ x0.2.1) && decide (x0.2.1 < (x0.1.len : Int))) then
      some (((andOf .i64 (wI ((andOf .i64 (xorOf .i64 (shrOf .i64 (wI ((wI (x0.2.2.1 * (6364136223846793005 : Int))) + (1442695040888963407 : Int))) (33 : Int)) (shrOf .i64 (wI ((wI (x0.2.2.1 * (6364136223846793005 : Int))) + (1442695040888963407 : Int))) (45 : Int))) (255 : Int)) + (wI ((L.get x0.1 x0.2.1.toNat))))) (255 : Int)), ()), ((x0.1, ((wI (x0.2.1 + (1 : Int))), ((wI ((wI (x0.2.2.1 * (6364136223846793005 : Int))) + (1442695040888963407 : Int))), ()))), ()))
    else
      none
  else
    some (((andOf .i64 (xorOf .i64 (shrOf .i64 (wI ((wI (x0.2.2.1 * (6364136223846793005 : Int))) + (1442695040888963407 : Int))) (33 : Int)) (shrOf .i64 (wI ((wI (x0.2.2.1 * (6364136223846793005 : Int))) + (1442695040888963407 : Int))) (45 : Int))) (255 : Int)), ()), ((x0.1, (x0.2.1, ((wI ((wI (x0.2.2.1 * (6364136223846793005 : Int))) + (1442695040888963407 : Int))), ()))), ()))
noncomputable def c112 : Ctr := { ins := [.pt Ty53], out := [(.int .i64)], F := fun x => g112 x.1 }
theorem v112 : LoopsOk Try.prog Γ t112 a112 (loopsIn (Try.f112.body.getD .skip) 0) := loopsOk_nil (by kernel_rfl)
theorem r112 (x : InsT c112.ins) : fnK Try.prog Γ t112 a112 Try.f112 c112 x = g112 x.1 := by kernel_rfl
theorem k112 : TblOk Try.prog t112 := tblOk_nil
theorem o112 : Holds Try.prog 112 c112 := fn_holds (code := Try.f112.body.getD .skip) (by kernel_rfl) gamOk k112 Try.func112 (by kernel_rfl) (by kernel_rfl) (by kernel_rfl) (by kernel_rfl) v112 (fun x _ h => (r112 x).trans h)
/-! ### 84: loop.example/g00076/spec.l01Below -/
noncomputable def t84 : Tbl := [(112, [], c112)]
noncomputable def a84 : Nat → Option LoopAnn := fun _ => none
noncomputable def g84 (x0 : Ta11) (x1 : Int) : Option Ta42 :=
  bif (decide (x1 ≤ (0 : Int))) then
    some (((0 : Int), ()), (x0, ()))
  else
    bif (decide (x1 ≤ (256 : Int))) then
      (g112 x0).bind fun y1 =>
        bif (!decide (x1 = 0)) then
          some (((Int.tmod y1.1.1 x1), ()), (y1.2.1, ()))
        else
          none
    else
      (g112 x0).bind fun y2 =>
        (g112 y2.2.1).bind fun y3 =>
          (g112 y3.2.1).bind fun y4 =>
            (g112 y4.2.1).bind fun y5 =>
              bif (!decide (x1 = 0)) then
                some (((Int.tmod (wI ((wI ((wI ((wI (y2.1.1 * (16777216 : Int))) + (wI (y3.1.1 * (65536 : Int))))) + (wI (y4.1.1 * (256 : Int))))) + y5.1.1)) x1), ()), (y5.2.1, ()))
              else
                none
noncomputable def c84 : Ctr := { ins := [.pt Ty53, .v (.int .i64)], out := [(.int .i64)], F := fun x => g84 x.1 x.2.1 }
theorem v84 : LoopsOk Try.prog Γ t84 a84 (loopsIn (Try.f84.body.getD .skip) 0) := loopsOk_nil (by kernel_rfl)
theorem r84 (x : InsT c84.ins) : fnK Try.prog Γ t84 a84 Try.f84 c84 x = g84 x.1 x.2.1 := by kernel_rfl
theorem k84 : TblOk Try.prog t84 := tblOk_cons o112 (tblOk_nil)
theorem o84 : Holds Try.prog 84 c84 := fn_holds (code := Try.f84.body.getD .skip) (by kernel_rfl) gamOk k84 Try.func84 (by kernel_rfl) (by kernel_rfl) (by kernel_rfl) (by kernel_rfl) v84 (fun x _ h => (r84 x).trans h)
/-! ### 87: loop.example/g00076/spec.l01PickInt -/
noncomputable def t87 : Tbl := [(84, [], c84)]
noncomputable def a87 : Nat → Option LoopAnn := fun _ => none
noncomputable def g87 (x0 : Ta11) (x1 : (L Int)) : Option Ta42 :=
  (g84 x0 (x1.len : Int)).bind fun y1 =>
    bif (decide (0 ≤ y1.1.1) && decide (y1.1.1 < (x1.len : Int))) then
      some (((L.get x1 y1.1.1.toNat), ()), (y1.2.1, ()))
    else
      none
noncomputable def c87 : Ctr := { ins := [.pt Ty53, .v (.sl (.int .i64))], out := [(.int .i64)], F := fun x => g87 x.1 x.2.1 }
theorem v87 : LoopsOk Try.prog Γ t87 a87 (loopsIn (Try.f87.body.getD .skip) 0) := loopsOk_nil (by kernel_rfl)
theorem r87 (x : InsT c87.ins) : fnK Try.prog Γ t87 a87 Try.f87 c87 x = g87 x.1 x.2.1 := by kernel_rfl
theorem k87 : TblOk Try.prog t87 := tblOk_cons o84 (tblOk_nil)
theorem o87 : Holds Try.prog 87 c87 := fn_holds (code := Try.f87.body.getD .skip) (by kernel_rfl) gamOk k87 Try.func87 (by kernel_rfl) (by kernel_rfl) (by kernel_rfl) (by kernel_rfl) v87 (fun x _ h => (r87 x).trans h)
/-! ### 113: loop.example/g00076/spec.l10Policy -/
noncomputable def t113 : Tbl := [(84, [], c84), (87, [], c87)]
noncomputable def a113 : Nat → Option LoopAnn := fun _ => none
noncomputable def g113 (x0 : Ta11) : Option (((Int × (Int × Unit)) × Unit) × Ta25) :=
  (g84 x0 (3 : Int)).bind fun y1 =>
    bif (y1.1.1 == (1 : Int)) then
      (g87 y1.2.1 (L.of (Ty.zero (.int .i64)) [(0 : Int), (1 : Int), (2 : Int), (3 : Int), (100 : Int)])).bind fun y2 =>
        some (((y1.1.1, y2.1), ()), (y2.2.1, ()))
    else
      some (((y1.1.1, ((0 : Int), ())), ()), (y1.2.1, ()))
noncomputable def c113 : Ctr := { ins := [.pt Ty53], out := [Ty31], F := fun x => g113 x.1 }
theorem v113 : LoopsOk Try.prog Γ t113 a113 (loopsIn (Try.f113.body.getD .skip) 0) := loopsOk_nil (by kernel_rfl)
theorem r113 (x : InsT c113.ins) : fnK Try.prog Γ t113 a113 Try.f113 c113 x = g113 x.1 := by kernel_rfl
theorem k113 : TblOk Try.prog t113 := tblOk_cons o84 (tblOk_cons o87 (tblOk_nil))
theorem o113 : Holds Try.prog 113 c113 := fn_holds (code := Try.f113.body.getD .skip) (by kernel_rfl) gamOk k113 Try.func113 (by kernel_rfl) (by kernel_rfl) (by kernel_rfl) (by kernel_rfl) v113 (fun x _ h => (r113 x).trans h)
/-! ### 86: loop.example/g00076/spec.l01Once -/
noncomputable def t86 : Tbl := [(84, [], c84)]
noncomputable def a86 : Nat → Option LoopAnn := fun _ => none
noncomputable def g86 (x0 : Ta11) (x1 : Int) : Option ((Bool × Unit) × Ta25) :=
  (g84 x0 x1).bind fun y1 =>
    some (((y1.1.1 == (0 : Int)), ()), (y1.2.1, ()))
noncomputable def c86 : Ctr := { ins := [.pt Ty53, .v (.int .i64)], out := [.bool], F := fun x => g86 x.1 x.2.1 }
theorem v86 : LoopsOk Try.prog Γ t86 a86 (loopsIn (Try.f86.body.getD .skip) 0) := loopsOk_nil (by kernel_rfl)
theorem r86 (x : InsT c86.ins) : fnK Try.prog Γ t86 a86 Try.f86 c86 x = g86 x.1 x.2.1 := by kernel_rfl
theorem k86 : TblOk Try.prog t86 := tblOk_cons o84 (tblOk_nil)
theorem o86 : Holds Try.prog 86 c86 := fn_holds (code := Try.f86.body.getD .skip) (by kernel_rfl) gamOk k86 Try.func86 (by kernel_rfl) (by kernel_rfl) (by kernel_rfl) (by kernel_rfl) v86 (fun x _ h => (r86 x).trans h)
/-! ### 114: loop.example/g00076/spec.l11Row -/
noncomputable def t114 : Tbl := [(84, [], c84), (86, [], c86)]
noncomputable def a114 : Nat → Option LoopAnn := fun _ => none
noncomputable def g114 (x0 : Ta11) (x1 : Int) : Option ((Ta16 × Unit) × Ta25) :=
  (g84 x0 (2 : Int)).bind fun y1 =>
    (g84 y1.2.1 x1).bind fun y2 =>
      (g84 y2.2.1 (wI (x1 - (1 : Int)))).bind fun y3 =>
        bif (!decide (x1 = 0)) then
          bif (y1.1.1 == (1 : Int)) then
            (g84 y3.2.1 (4 : Int)).bind fun y4 =>
              (g86 y4.2.1 (6 : Int)).bind fun y5 =>
                bif y5.1.1 then
                  some (((y1.1.1, (y2.1.1, ((Int.tmod (wI ((wI (y2.1.1 + (1 : Int))) + y3.1.1)) x1), ((8 : Int), ())))), ()), (y5.2.1, ()))
                else
                  some (((y1.1.1, (y2.1.1, ((Int.tmod (wI ((wI (y2.1.1 + (1 : Int))) + y3.1.1)) x1), ((wI ((1 : Int) + y4.1.1)), ())))), ()), (y5.2.1, ()))
          else
            some (((y1.1.1, (y2.1.1, ((Int.tmod (wI ((wI (y2.1.1 + (1 : Int))) + y3.1.1)) x1), ((0 : Int), ())))), ()), (y3.2.1, ()))
        else
          none
noncomputable def c114 : Ctr := { ins := [.pt Ty53, .v (.int .i64)], out := [Ty66], F := fun x => g114 x.1 x.2.1 }
theorem v114 : LoopsOk Try.prog Γ t114 a114 (loopsIn (Try.f114.body.getD .skip) 0) := loopsOk_nil (by kernel_rfl)
theorem r114 (x : InsT c114.ins) : fnK Try.prog Γ t114 a114 Try.f114 c114 x = g114 x.1 x.2.1 := by kernel_rfl
theorem k114 : TblOk Try.prog t114 := tblOk_cons o84 (tblOk_cons o86 (tblOk_nil))
theorem o114 : Holds Try.prog 114 c114 := fn_holds (code := Try.f114.body.getD .skip) (by kernel_rfl) gamOk k114 Try.func114 (by kernel_rfl) (by kernel_rfl) (by kernel_rfl) (by kernel_rfl) v114 (fun x _ h => (r114 x).trans h)
/-! ### 60: loop.example/g00076/spec.l01In -/
noncomputable def t60 : Tbl := []
noncomputable def a60 : Nat → Option LoopAnn := fun _ => none
noncomputable def g60 (x0 : Int) (x1 : Int) (x2 : Int) : Option ((Bool × Unit) × Unit) :=
  bif (decide (x0 ≥ x1)) then
    some (((decide (x0 ≤ x2)), ()), ())
  else
    some ((false, ()), ())
noncomputable def f60 (x0 : Int) (x1 : Int) (x2 : Int) : Bool :=
  bif (decide (x0 ≥ x1)) then
    (decide (x0 ≤ x2))
  else
    false
theorem n60 (x0 : Int) (x1 : Int) (x2 : Int) : g60 x0 x1 x2 = some ((f60 x0 x1 x2, ()), ()) := by
  simp only [g60, f60, pull1]
noncomputable def c60 : Ctr := { ins := [.v (.int .i64), .v (.int .i64), .v (.int .i64)], out := [.bool], F := fun x => some ((f60 x.1 x.2.1 x.2.2.1, ()), ()) }
theorem v60 : LoopsOk Try.prog Γ t60 a60 (loopsIn (Try.f60.body.getD .skip) 0) := loopsOk_nil (by kernel_rfl)
theorem r60 (x : InsT c60.ins) : fnK Try.prog Γ t60 a60 Try.f60 c60 x = g60 x.1 x.2.1 x.2.2.1 := by kernel_rfl
theorem k60 : TblOk Try.prog t60 := tblOk_nil
theorem o60 : Holds Try.prog 60 c60 := fn_holds (code := Try.f60.body.getD .skip) (by kernel_rfl) gamOk k60 Try.func60 (by kernel_rfl) (by kernel_rfl) (by kernel_rfl) (by kernel_rfl) v60 (fun x _ h => (r60 x).trans ((n60 x.1 x.2.1 x.2.2.1).trans h))
/-! ### 138: loop.example/g00076/spec.CostsOk -/
noncomputable def t138 : Tbl := [(60, [], c60)]
noncomputable def a138 : Nat → Option LoopAnn := fun _ => none
noncomputable def g138 (x0 : Ta45) : Option ((Bool × Unit) × Unit) :=
  bif (f60 x0.1 (1 : Int) (20 : Int)) then
    bif (f60 x0.2.1 (0 : Int) (50 : Int)) then
      bif (f60 x0.2.2.1 (0 : Int) (50 : Int)) then
        bif (f60 x0.2.2.2.1 (0 : Int) (50 : Int)) then
          bif (f60 x0.2.2.2.2.1 (0 : Int) (50 : Int)) then
            bif (f60 x0.2.2.2.2.2.1 (0 : Int) (50 : Int)) then
              some (((f60 x0.2.2.2.2.2.2.1 (0 : Int) (50 : Int)), ()), ())
            else
              some ((false, ()), ())
          else
            some ((false, ()), ())
        else
          some ((false, ()), ())
      else
        some ((false, ()), ())
    else
      some ((false, ()), ())
  else
    some ((false, ()), ())
noncomputable def f138 (x0 : Ta45) : Bool :=
  bif (f60 x0.1 (1 : Int) (20 : Int)) then
    bif (f60 x0.2.1 (0 : Int) (50 : Int)) then
      bif (f60 x0.2.2.1 (0 : Int) (50 : Int)) then
        bif (f60 x0.2.2.2.1 (0 : Int) (50 : Int)) then
          bif (f60 x0.2.2.2.2.1 (0 : Int) (50 : Int)) then
            bif (f60 x0.2.2.2.2.2.1 (0 : Int) (50 : Int)) then
              (f60 x0.2.2.2.2.2.2.1 (0 : Int) (50 : Int))
            else
              false
          else
            false
        else
          false
      else
        false
    else
      false
  else
    false
theorem n138 (x0 : Ta45) : g138 x0 = some ((f138 x0, ()), ()) := by
  simp only [g138, f138, pull1]
noncomputable def c138 : Ctr := { ins := [.v Ty85], out := [.bool], F := fun x => some ((f138 x.1, ()), ()) }
theorem v138 : LoopsOk Try.prog Γ t138 a138 (loopsIn (Try.f138.body.getD .skip) 0) := loopsOk_nil (by kernel_rfl)
theorem r138 (x : InsT c138.ins) : fnK Try.prog Γ t138 a138 Try.f138 c138 x = g138 x.1 := by kernel_rfl
theorem k138 : TblOk Try.prog t138 := tblOk_cons o60 (tblOk_nil)
theorem o138 : Holds Try.prog 138 c138 := fn_holds (code := Try.f138.body.getD .skip) (by kernel_rfl) gamOk k138 Try.func138 (by kernel_rfl) (by kernel_rfl) (by kernel_rfl) (by kernel_rfl) v138 (fun x _ h => (r138 x).trans ((n138 x.1).trans h))
/-! ### 175: loop.example/g00076/spec.l02Forms -/
noncomputable def t175 : Tbl := []
noncomputable def a175 : Nat → Option LoopAnn := fun _ => none
noncomputable def g175 : Option Ta2 :=
  some (((L.of (Ty.zero (.int .i64)) [(0 : Int), (7 : Int), (7 : Int), (7 : Int), (7 : Int), (7 : Int), (7 : Int), (7 : Int), (7 : Int), (7 : Int), (7 : Int), (7 : Int), (7 : Int), (11 : Int), (9 : Int), (11 : Int), (11 : Int), (11 : Int), (11 : Int), (11 : Int), (11 : Int), (11 : Int), (9 : Int), (10 : Int), (1 : Int), (11 : Int), (11 : Int), (11 : Int), (9 : Int), (9 : Int), (0 : Int), (0 : Int), (8 : Int)]), ()), ())
noncomputable def f175 : (L Int) :=
  (L.of (Ty.zero (.int .i64)) [(0 : Int), (7 : Int), (7 : Int), (7 : Int), (7 : Int), (7 : Int), (7 : Int), (7 : Int), (7 : Int), (7 : Int), (7 : Int), (7 : Int), (7 : Int), (11 : Int), (9 : Int), (11 : Int), (11 : Int), (11 : Int), (11 : Int), (11 : Int), (11 : Int), (11 : Int), (9 : Int), (10 : Int), (1 : Int), (11 : Int), (11 : Int), (11 : Int), (9 : Int), (9 : Int), (0 : Int), (0 : Int), (8 : Int)])
theorem n175 : g175 = some ((f175, ()), ()) := by
  simp only [g175, f175, pull1]
noncomputable def c175 : Ctr := { ins := [], out := [(.sl (.int .i64))], F := fun x => some ((f175, ()), ()) }
theorem v175 : LoopsOk Try.prog Γ t175 a175 (loopsIn (Try.f175.body.getD .skip) 0) := loopsOk_nil (by kernel_rfl)
theorem r175 (x : InsT c175.ins) : fnK Try.prog Γ t175 a175 Try.f175 c175 x = g175 := by kernel_rfl
theorem k175 : TblOk Try.prog t175 := tblOk_nil
theorem o175 : Holds Try.prog 175 c175 := fn_holds (code := Try.f175.body.getD .skip) (by kernel_rfl) gamOk k175 Try.func175 (by kernel_rfl) (by kernel_rfl) (by kernel_rfl) (by kernel_rfl) v175 (fun x _ h => (r175 x).trans ((n175).trans h))
/-! ### 165: loop.example/g00076/spec.FormOf -/
noncomputable def t165 : Tbl := [(60, [], c60), (175, [], c175)]
noncomputable def a165 : Nat → Option LoopAnn := fun _ => none
noncomputable def g165 (x0 : Int) : Option ((Int × Unit) × Unit) :=
  bif (!(f60 x0 (0 : Int) (32 : Int))) then
    some (((-1 : Int), ()), ())
  else
    bif (decide (0 ≤ x0) && decide (x0 < ((f175).len : Int))) then
      some (((L.get (f175) x0.toNat), ()), ())
    else
      none
noncomputable def c165 : Ctr := { ins := [.v (.int .i64)], out := [(.int .i64)], F := fun x => g165 x.1 }
theorem v165 : LoopsOk Try.prog Γ t165 a165 (loopsIn (Try.f165.body.getD .skip) 0) := loopsOk_nil (by kernel_rfl)
theorem r165 (x : InsT c165.ins) : fnK Try.prog Γ t165 a165 Try.f165 c165 x = g165 x.1 := by kernel_rfl
theorem k165 : TblOk Try.prog t165 := tblOk_cons o60 (tblOk_cons o175 (tblOk_nil))
theorem o165 : Holds Try.prog 165 c165 := fn_holds (code := Try.f165.body.getD .skip) (by kernel_rfl) gamOk k165 Try.func165 (by kernel_rfl) (by kernel_rfl) (by kernel_rfl) (by kernel_rfl) v165 (fun x _ h => (r165 x).trans h)
/-! ### 143: loop.example/g00076/spec.OpCost -/
noncomputable def t143 : Tbl := [(138, [], c138), (165, [], c165), (60, [], c60)]
noncomputable def a143 : Nat → Option LoopAnn := fun _ => none
noncomputable def g143 (x0 : Ta45) (x1 : Int) : Option ((Int × Unit) × Unit) :=
  bif (!(f138 x0)) then
    some (((-1 : Int), ()), ())
  else
    (g165 x1).bind fun y1 =>
      bif (decide (y1.1.1 < (0 : Int))) then
        some (((-1 : Int), ()), ())
      else
        bif (x1 == (9 : Int)) then
          some (((wI (x0.1 + x0.2.1)), ()), ())
        else
          bif (x1 == (10 : Int)) then
            some (((wI (x0.1 + x0.2.1)), ()), ())
          else
            bif (f60 x1 (15 : Int) (18 : Int)) then
              some (((wI (x0.1 + x0.2.2.1)), ()), ())
            else
              bif (decide (x1 ≥ (25 : Int))) then
                some (((wI (x0.1 + x0.2.2.2.2.2.1)), ()), ())
              else
                some ((x0.1, ()), ())
noncomputable def c143 : Ctr := { ins := [.v Ty85, .v (.int .i64)], out := [(.int .i64)], F := fun x => g143 x.1 x.2.1 }
theorem v143 : LoopsOk Try.prog Γ t143 a143 (loopsIn (Try.f143.body.getD .skip) 0) := loopsOk_nil (by kernel_rfl)
theorem r143 (x : InsT c143.ins) : fnK Try.prog Γ t143 a143 Try.f143 c143 x = g143 x.1 x.2.1 := by kernel_rfl
theorem k143 : TblOk Try.prog t143 := tblOk_cons o138 (tblOk_cons o165 (tblOk_cons o60 (tblOk_nil)))
theorem o143 : Holds Try.prog 143 c143 := fn_holds (code := Try.f143.body.getD .skip) (by kernel_rfl) gamOk k143 Try.func143 (by kernel_rfl) (by kernel_rfl) (by kernel_rfl) (by kernel_rfl) v143 (fun x _ h => (r143 x).trans h)
/-! ### 166: loop.example/g00076/spec.AccessCost -/
noncomputable def t166 : Tbl := [(138, [], c138)]
noncomputable def a166 : Nat → Option LoopAnn := fun _ => none
noncomputable def g166 (x0 : Ta45) (x1 : Ta10) : Option ((Int × Unit) × Unit) :=
  bif (!(f138 x0)) then
    some (((-1 : Int), ()), ())
  else
    bif (!x1.1) then
      bif (!x1.2.1) then
        bif x1.2.2.1 then
          some (((wI ((wI ((wI ((0 : Int) + x0.2.2.2.1)) + x0.2.2.2.2.1)) + x0.2.2.2.2.2.2.1)), ()), ())
        else
          some (((wI ((wI ((0 : Int) + x0.2.2.2.1)) + x0.2.2.2.2.1)), ()), ())
      else
        bif x1.2.2.1 then
          some (((wI ((wI ((0 : Int) + x0.2.2.2.1)) + x0.2.2.2.2.2.2.1)), ()), ())
        else
          some (((wI ((0 : Int) + x0.2.2.2.1)), ()), ())
    else
      bif (!x1.2.1) then
        bif x1.2.2.1 then
          some (((wI ((wI ((0 : Int) + x0.2.2.2.2.1)) + x0.2.2.2.2.2.2.1)), ()), ())
        else
          some (((wI ((0 : Int) + x0.2.2.2.2.1)), ()), ())
      else
        bif x1.2.2.1 then
          some (((wI ((0 : Int) + x0.2.2.2.2.2.2.1)), ()), ())
        else
          some (((0 : Int), ()), ())
noncomputable def f166 (x0 : Ta45) (x1 : Ta10) : Int :=
  bif (!(f138 x0)) then
    (-1 : Int)
  else
    bif (!x1.1) then
      bif (!x1.2.1) then
        bif x1.2.2.1 then
          (wI ((wI ((wI ((0 : Int) + x0.2.2.2.1)) + x0.2.2.2.2.1)) + x0.2.2.2.2.2.2.1))
        else
          (wI ((wI ((0 : Int) + x0.2.2.2.1)) + x0.2.2.2.2.1))
      else
        bif x1.2.2.1 then
          (wI ((wI ((0 : Int) + x0.2.2.2.1)) + x0.2.2.2.2.2.2.1))
        else
          (wI ((0 : Int) + x0.2.2.2.1))
    else
      bif (!x1.2.1) then
        bif x1.2.2.1 then
          (wI ((wI ((0 : Int) + x0.2.2.2.2.1)) + x0.2.2.2.2.2.2.1))
        else
          (wI ((0 : Int) + x0.2.2.2.2.1))
      else
        bif x1.2.2.1 then
          (wI ((0 : Int) + x0.2.2.2.2.2.2.1))
        else
          (0 : Int)
theorem n166 (x0 : Ta45) (x1 : Ta10) : g166 x0 x1 = some ((f166 x0 x1, ()), ()) := by
  simp only [g166, f166, pull1]
noncomputable def c166 : Ctr := { ins := [.v Ty85, .v (.pair .bool (.pair .bool (.pair .bool .unit)))], out := [(.int .i64)], F := fun x => some ((f166 x.1 x.2.1, ()), ()) }
theorem v166 : LoopsOk Try.prog Γ t166 a166 (loopsIn (Try.f166.body.getD .skip) 0) := loopsOk_nil (by kernel_rfl)
theorem r166 (x : InsT c166.ins) : fnK Try.prog Γ t166 a166 Try.f166 c166 x = g166 x.1 x.2.1 := by kernel_rfl
theorem k166 : TblOk Try.prog t166 := tblOk_cons o138 (tblOk_nil)
theorem o166 : Holds Try.prog 166 c166 := fn_holds (code := Try.f166.body.getD .skip) (by kernel_rfl) gamOk k166 Try.func166 (by kernel_rfl) (by kernel_rfl) (by kernel_rfl) (by kernel_rfl) v166 (fun x _ h => (r166 x).trans ((n166 x.1 x.2.1).trans h))
/-! ### 144: loop.example/g00076/spec.WorstAccess -/
noncomputable def t144 : Tbl := [(166, [], c166)]
abbrev h144_L0 : Shape := { slots := [(1, .bx 1 0), (3, .v (.int .i64)), (4, .v (.int .i64))], boxes := [(1, .typ Ty85)] }
abbrev e144_L0 : List (XT × Shape) := [(.exit 0, { slots := [(3, .v (.int .i64))], boxes := [] })]
noncomputable def q144_L0 (t3 : Int) (t4 : Int) (b1 : Ta45) : Option (Ta77 ⊕ (((Int × Unit) × Unit) ⊕ Empty)) :=
  bif (decide (t4 < (8 : Int))) then
    bif (decide ((f166 b1 (((Int.tmod t4 (2 : Int)) == (1 : Int)), (((Int.tmod (wI (Int.tdiv t4 (2 : Int))) (2 : Int)) == (1 : Int)), (((wI (Int.tdiv t4 (4 : Int))) == (1 : Int)), ())))) > t3)) then
      some (.inl (((), ((f166 b1 (((Int.tmod t4 (2 : Int)) == (1 : Int)), (((Int.tmod (wI (Int.tdiv t4 (2 : Int))) (2 : Int)) == (1 : Int)), (((wI (Int.tdiv t4 (4 : Int))) == (1 : Int)), ())))), ((wI (t4 + (1 : Int))), ()))), (b1, ())))
    else
      some (.inl (((), (t3, ((wI (t4 + (1 : Int))), ()))), (b1, ())))
  else
    some (.inr (.inl ((t3, ()), ())))
noncomputable def s144_L0 (x : Ta77) : Option (Ta77 ⊕ (((Int × Unit) × Unit) ⊕ Empty)) := q144_L0 x.1.2.1 x.1.2.2.1 x.2.1
noncomputable def a144 : Nat → Option LoopAnn := fun c => bif Nat.beq c 0 then some (.fix h144_L0 e144_L0 s144_L0) else none
noncomputable def g144 (x0 : Ta45) : Option ((Int × Unit) × Unit) :=
  (fixO s144_L0 (((), ((-1 : Int), ((0 : Int), ()))), (x0, ()))).bind fun d2 => match d2 with
  | .inl y1 =>
    some ((y1.1.1, ()), ())
  | .inr e => nomatch e
noncomputable def c144 : Ctr := { ins := [.v Ty85], out := [(.int .i64)], F := fun x => g144 x.1 }
noncomputable def l144 : List (Nat × Code) := loopsIn (Try.f144.body.getD .skip) 0
theorem w144_L0 (x : h144_L0.T) : runK Try.prog Γ t144 a144 (l144.getD 0 (0, .skip)).2 0 (pkSh h144_L0 x) (loopCls (sh := h144_L0) (es := e144_L0)) = (s144_L0 x : Option _) := by kernel_rfl
theorem v144 : LoopsOk Try.prog Γ t144 a144 (loopsIn (Try.f144.body.getD .skip) 0) := by
  have e : loopsIn (Try.f144.body.getD .skip) 0 = [(0, (l144.getD 0 (0, .skip)).2)] := by kernel_rfl
  rw [e]
  exact ⟨fun x d h => (w144_L0 x).trans h, trivial⟩
theorem r144 (x : InsT c144.ins) : fnK Try.prog Γ t144 a144 Try.f144 c144 x = g144 x.1 := by kernel_rfl
theorem k144 : TblOk Try.prog t144 := tblOk_cons o166 (tblOk_nil)
theorem o144 : Holds Try.prog 144 c144 := fn_holds (code := Try.f144.body.getD .skip) (by kernel_rfl) gamOk k144 Try.func144 (by kernel_rfl) (by kernel_rfl) (by kernel_rfl) (by kernel_rfl) v144 (fun x _ h => (r144 x).trans h)
/-! ### 115: loop.example/g00076/spec.WorstStep -/
noncomputable def t115 : Tbl := [(138, [], c138), (143, [], c143), (144, [], c144)]
abbrev h115_L0 : Shape := { slots := [(1, .bx 1 0), (3, .v (.int .i64)), (4, .v (.int .i64))], boxes := [(1, .typ Ty85)] }
abbrev e115_L0 : List (XT × Shape) := [(.exit 0, { slots := [(1, .bx 1 0), (3, .v (.int .i64))], boxes := [(1, .typ Ty85)] })]
noncomputable def q115_L0 (t3 : Int) (t4 : Int) (b1 : Ta45) : Option (Ta77 ⊕ (Ta73 ⊕ Empty)) :=
  bif (decide (t4 < (33 : Int))) then
    (g143 b1 t4).bind fun y1 =>
      bif (decide (y1.1.1 > t3)) then
        (g143 b1 t4).bind fun y2 =>
          some (.inl (((), (y2.1.1, ((wI (t4 + (1 : Int))), ()))), (b1, ())))
      else
        some (.inl (((), (t3, ((wI (t4 + (1 : Int))), ()))), (b1, ())))
  else
    some (.inr (.inl (((), (t3, ())), (b1, ()))))
noncomputable def s115_L0 (x : Ta77) : Option (Ta77 ⊕ (Ta73 ⊕ Empty)) := q115_L0 x.1.2.1 x.1.2.2.1 x.2.1
noncomputable def a115 : Nat → Option LoopAnn := fun c => bif Nat.beq c 0 then some (.fix h115_L0 e115_L0 s115_L0) else none
noncomputable def g115 (x0 : Ta45) : Option ((Int × Unit) × Unit) :=
  bif (!(f138 x0)) then
    some (((-1 : Int), ()), ())
  else
    (fixO s115_L0 (((), ((0 : Int), ((0 : Int), ()))), (x0, ()))).bind fun d5 => match d5 with
    | .inl y3 =>
      (g144 y3.2.1).bind fun y4 =>
        some (((wI ((wI (y3.1.2.1 + (wI ((2 : Int) * y4.1.1)))) + y3.2.1.2.2.2.2.2.1)), ()), ())
    | .inr e => nomatch e
noncomputable def c115 : Ctr := { ins := [.v Ty85], out := [(.int .i64)], F := fun x => g115 x.1 }
noncomputable def l115 : List (Nat × Code) := loopsIn (Try.f115.body.getD .skip) 0
theorem w115_L0 (x : h115_L0.T) : runK Try.prog Γ t115 a115 (l115.getD 0 (0, .skip)).2 0 (pkSh h115_L0 x) (loopCls (sh := h115_L0) (es := e115_L0)) = (s115_L0 x : Option _) := by kernel_rfl
theorem v115 : LoopsOk Try.prog Γ t115 a115 (loopsIn (Try.f115.body.getD .skip) 0) := by
  have e : loopsIn (Try.f115.body.getD .skip) 0 = [(0, (l115.getD 0 (0, .skip)).2)] := by kernel_rfl
  rw [e]
  exact ⟨fun x d h => (w115_L0 x).trans h, trivial⟩
theorem r115 (x : InsT c115.ins) : fnK Try.prog Γ t115 a115 Try.f115 c115 x = g115 x.1 := by kernel_rfl
theorem k115 : TblOk Try.prog t115 := tblOk_cons o138 (tblOk_cons o143 (tblOk_cons o144 (tblOk_nil)))
theorem o115 : Holds Try.prog 115 c115 := fn_holds (code := Try.f115.body.getD .skip) (by kernel_rfl) gamOk k115 Try.func115 (by kernel_rfl) (by kernel_rfl) (by kernel_rfl) (by kernel_rfl) v115 (fun x _ h => (r115 x).trans h)
/-! ### 105: loop.example/g00076/spec.ShapeOk -/
noncomputable def t105 : Tbl := [(60, [], c60)]
noncomputable def a105 : Nat → Option LoopAnn := fun _ => none
noncomputable def g105 (x0 : Ta5) : Option ((Bool × Unit) × Unit) :=
  bif (x0.1 == (1 : Int)) then
    bif (x0.2.2.1 == (4 : Int)) then
      some (((f60 x0.2.1 (1 : Int) (4 : Int)), ()), ())
    else
      bif (x0.2.2.1 == (8 : Int)) then
        some (((f60 x0.2.1 (1 : Int) (4 : Int)), ()), ())
      else
        bif (x0.2.2.1 == (16 : Int)) then
          some (((f60 x0.2.1 (1 : Int) (4 : Int)), ()), ())
        else
          bif (x0.2.2.1 == (32 : Int)) then
            some (((f60 x0.2.1 (1 : Int) (4 : Int)), ()), ())
          else
            some ((false, ()), ())
  else
    bif (x0.1 == (2 : Int)) then
      bif (x0.2.2.1 == (4 : Int)) then
        some (((f60 x0.2.1 (1 : Int) (4 : Int)), ()), ())
      else
        bif (x0.2.2.1 == (8 : Int)) then
          some (((f60 x0.2.1 (1 : Int) (4 : Int)), ()), ())
        else
          bif (x0.2.2.1 == (16 : Int)) then
            some (((f60 x0.2.1 (1 : Int) (4 : Int)), ()), ())
          else
            bif (x0.2.2.1 == (32 : Int)) then
              some (((f60 x0.2.1 (1 : Int) (4 : Int)), ()), ())
            else
              some ((false, ()), ())
    else
      bif (x0.1 == (4 : Int)) then
        bif (x0.2.2.1 == (4 : Int)) then
          some (((f60 x0.2.1 (1 : Int) (4 : Int)), ()), ())
        else
          bif (x0.2.2.1 == (8 : Int)) then
            some (((f60 x0.2.1 (1 : Int) (4 : Int)), ()), ())
          else
            bif (x0.2.2.1 == (16 : Int)) then
              some (((f60 x0.2.1 (1 : Int) (4 : Int)), ()), ())
            else
              bif (x0.2.2.1 == (32 : Int)) then
                some (((f60 x0.2.1 (1 : Int) (4 : Int)), ()), ())
              else
                some ((false, ()), ())
      else
        bif (x0.1 == (8 : Int)) then
          bif (x0.2.2.1 == (4 : Int)) then
            some (((f60 x0.2.1 (1 : Int) (4 : Int)), ()), ())
          else
            bif (x0.2.2.1 == (8 : Int)) then
              some (((f60 x0.2.1 (1 : Int) (4 : Int)), ()), ())
            else
              bif (x0.2.2.1 == (16 : Int)) then
                some (((f60 x0.2.1 (1 : Int) (4 : Int)), ()), ())
              else
                bif (x0.2.2.1 == (32 : Int)) then
                  some (((f60 x0.2.1 (1 : Int) (4 : Int)), ()), ())
                else
                  some ((false, ()), ())
        else
          bif (x0.2.2.1 == (4 : Int)) then
            bif (x0.1 == (16 : Int)) then
              some (((f60 x0.2.1 (1 : Int) (4 : Int)), ()), ())
            else
              some ((false, ()), ())
          else
            bif (x0.2.2.1 == (8 : Int)) then
              bif (x0.1 == (16 : Int)) then
                some (((f60 x0.2.1 (1 : Int) (4 : Int)), ()), ())
              else
                some ((false, ()), ())
            else
              bif (x0.2.2.1 == (16 : Int)) then
                bif (x0.1 == (16 : Int)) then
                  some (((f60 x0.2.1 (1 : Int) (4 : Int)), ()), ())
                else
                  some ((false, ()), ())
              else
                bif (x0.1 == (16 : Int)) then
                  bif (x0.2.2.1 == (32 : Int)) then
                    some (((f60 x0.2.1 (1 : Int) (4 : Int)), ()), ())
                  else
                    some ((false, ()), ())
                else
                  some ((false, ()), ())
noncomputable def f105 (x0 : Ta5) : Bool :=
  bif (x0.1 == (1 : Int)) then
    bif (x0.2.2.1 == (4 : Int)) then
      (f60 x0.2.1 (1 : Int) (4 : Int))
    else
      bif (x0.2.2.1 == (8 : Int)) then
        (f60 x0.2.1 (1 : Int) (4 : Int))
      else
        bif (x0.2.2.1 == (16 : Int)) then
          (f60 x0.2.1 (1 : Int) (4 : Int))
        else
          bif (x0.2.2.1 == (32 : Int)) then
            (f60 x0.2.1 (1 : Int) (4 : Int))
          else
            false
  else
    bif (x0.1 == (2 : Int)) then
      bif (x0.2.2.1 == (4 : Int)) then
        (f60 x0.2.1 (1 : Int) (4 : Int))
      else
        bif (x0.2.2.1 == (8 : Int)) then
          (f60 x0.2.1 (1 : Int) (4 : Int))
        else
          bif (x0.2.2.1 == (16 : Int)) then
            (f60 x0.2.1 (1 : Int) (4 : Int))
          else
            bif (x0.2.2.1 == (32 : Int)) then
              (f60 x0.2.1 (1 : Int) (4 : Int))
            else
              false
    else
      bif (x0.1 == (4 : Int)) then
        bif (x0.2.2.1 == (4 : Int)) then
          (f60 x0.2.1 (1 : Int) (4 : Int))
        else
          bif (x0.2.2.1 == (8 : Int)) then
            (f60 x0.2.1 (1 : Int) (4 : Int))
          else
            bif (x0.2.2.1 == (16 : Int)) then
              (f60 x0.2.1 (1 : Int) (4 : Int))
            else
              bif (x0.2.2.1 == (32 : Int)) then
                (f60 x0.2.1 (1 : Int) (4 : Int))
              else
                false
      else
        bif (x0.1 == (8 : Int)) then
          bif (x0.2.2.1 == (4 : Int)) then
            (f60 x0.2.1 (1 : Int) (4 : Int))
          else
            bif (x0.2.2.1 == (8 : Int)) then
              (f60 x0.2.1 (1 : Int) (4 : Int))
            else
              bif (x0.2.2.1 == (16 : Int)) then
                (f60 x0.2.1 (1 : Int) (4 : Int))
              else
                bif (x0.2.2.1 == (32 : Int)) then
                  (f60 x0.2.1 (1 : Int) (4 : Int))
                else
                  false
        else
          bif (x0.2.2.1 == (4 : Int)) then
            bif (x0.1 == (16 : Int)) then
              (f60 x0.2.1 (1 : Int) (4 : Int))
            else
              false
          else
            bif (x0.2.2.1 == (8 : Int)) then
              bif (x0.1 == (16 : Int)) then
                (f60 x0.2.1 (1 : Int) (4 : Int))
              else
                false
            else
              bif (x0.2.2.1 == (16 : Int)) then
                bif (x0.1 == (16 : Int)) then
                  (f60 x0.2.1 (1 : Int) (4 : Int))
                else
                  false
              else
                bif (x0.1 == (16 : Int)) then
                  bif (x0.2.2.1 == (32 : Int)) then
                    (f60 x0.2.1 (1 : Int) (4 : Int))
                  else
                    false
                else
                  false
theorem n105 (x0 : Ta5) : g105 x0 = some ((f105 x0, ()), ()) := by
  simp only [g105, f105, pull1]
noncomputable def c105 : Ctr := { ins := [.v Ty47], out := [.bool], F := fun x => some ((f105 x.1, ()), ()) }
theorem v105 : LoopsOk Try.prog Γ t105 a105 (loopsIn (Try.f105.body.getD .skip) 0) := loopsOk_nil (by kernel_rfl)
theorem r105 (x : InsT c105.ins) : fnK Try.prog Γ t105 a105 Try.f105 c105 x = g105 x.1 := by kernel_rfl
theorem k105 : TblOk Try.prog t105 := tblOk_cons o60 (tblOk_nil)
theorem o105 : Holds Try.prog 105 c105 := fn_holds (code := Try.f105.body.getD .skip) (by kernel_rfl) gamOk k105 Try.func105 (by kernel_rfl) (by kernel_rfl) (by kernel_rfl) (by kernel_rfl) v105 (fun x _ h => (r105 x).trans ((n105 x.1).trans h))
/-! ### 141: loop.example/g00076/spec.ChanOk -/
noncomputable def t141 : Tbl := [(60, [], c60)]
noncomputable def a141 : Nat → Option LoopAnn := fun _ => none
noncomputable def g141 (x0 : Ta16) : Option ((Bool × Unit) × Unit) :=
  bif (!(f60 x0.2.1 (0 : Int) (5 : Int))) then
    some ((false, ()), ())
  else
    bif (!(f60 x0.2.2.1 (0 : Int) (5 : Int))) then
      some ((false, ()), ())
    else
      bif (x0.2.1 == x0.2.2.1) then
        some ((false, ()), ())
      else
        bif (x0.1 == (0 : Int)) then
          bif (x0.2.2.2.1 == (0 : Int)) then
            some ((true, ()), ())
          else
            bif (x0.1 == (1 : Int)) then
              some (((f60 x0.2.2.2.1 (1 : Int) (8 : Int)), ()), ())
            else
              some ((false, ()), ())
        else
          bif (x0.1 == (1 : Int)) then
            some (((f60 x0.2.2.2.1 (1 : Int) (8 : Int)), ()), ())
          else
            some ((false, ()), ())
noncomputable def f141 (x0 : Ta16) : Bool :=
  bif (!(f60 x0.2.1 (0 : Int) (5 : Int))) then
    false
  else
    bif (!(f60 x0.2.2.1 (0 : Int) (5 : Int))) then
      false
    else
      bif (x0.2.1 == x0.2.2.1) then
        false
      else
        bif (x0.1 == (0 : Int)) then
          bif (x0.2.2.2.1 == (0 : Int)) then
            true
          else
            bif (x0.1 == (1 : Int)) then
              (f60 x0.2.2.2.1 (1 : Int) (8 : Int))
            else
              false
        else
          bif (x0.1 == (1 : Int)) then
            (f60 x0.2.2.2.1 (1 : Int) (8 : Int))
          else
            false
theorem n141 (x0 : Ta16) : g141 x0 = some ((f141 x0, ()), ()) := by
  simp only [g141, f141, pull1]
noncomputable def c141 : Ctr := { ins := [.v Ty66], out := [.bool], F := fun x => some ((f141 x.1, ()), ()) }
theorem v141 : LoopsOk Try.prog Γ t141 a141 (loopsIn (Try.f141.body.getD .skip) 0) := loopsOk_nil (by kernel_rfl)
theorem r141 (x : InsT c141.ins) : fnK Try.prog Γ t141 a141 Try.f141 c141 x = g141 x.1 := by kernel_rfl
theorem k141 : TblOk Try.prog t141 := tblOk_cons o60 (tblOk_nil)
theorem o141 : Holds Try.prog 141 c141 := fn_holds (code := Try.f141.body.getD .skip) (by kernel_rfl) gamOk k141 Try.func141 (by kernel_rfl) (by kernel_rfl) (by kernel_rfl) (by kernel_rfl) v141 (fun x _ h => (r141 x).trans ((n141 x.1).trans h))
/-! ### 116: loop.example/g00076/spec.WorstPad -/
noncomputable def t116 : Tbl := [(138, [], c138), (105, [], c105), (141, [], c141)]
abbrev h116_L0 : Shape := { slots := [(2, .v Ty70), (3, .bx 3 0), (7, .v (.int .i64)), (8, .v (.int .i64))], boxes := [(3, .typ Ty85)] }
abbrev e116_L0 : List (XT × Shape) := [(.ret, { slots := [(6, .v (.int .i64))], boxes := [] }), (.exit 0, { slots := [(7, .v (.int .i64))], boxes := [] })]
noncomputable def q116_L0 (t2 : Ta24) (t7 : Int) (t8 : Int) (b3 : Ta45) : Option (Ta87 ⊕ (((Int × Unit) × Unit) ⊕ (((Int × Unit) × Unit) ⊕ Empty))) :=
  bif (decide (t8 < (t2.len : Int))) then
    bif (decide (0 ≤ t8) && decide (t8 < (t2.len : Int))) then
      bif (!(f141 (L.get t2 t8.toNat))) then
        some (.inr (.inl (((-1 : Int), ()), ())))
      else
        bif (decide (0 ≤ t8) && decide (t8 < (t2.len : Int))) then
          bif ((L.get t2 t8.toNat).1 == (0 : Int)) then
            some (.inl ((t2, ((), ((wI (t7 + b3.1)), ((wI (t8 + (1 : Int))), ())))), (b3, ())))
          else
            bif (decide (0 ≤ t8) && decide (t8 < (t2.len : Int))) then
              some (.inl ((t2, ((), ((wI (t7 + (wI (b3.1 * (L.get t2 t8.toNat).2.2.2.1)))), ((wI (t8 + (1 : Int))), ())))), (b3, ())))
            else
              none
        else
          none
    else
      none
  else
    some (.inr (.inr (.inl ((t7, ()), ()))))
noncomputable def s116_L0 (x : Ta87) : Option (Ta87 ⊕ (((Int × Unit) × Unit) ⊕ (((Int × Unit) × Unit) ⊕ Empty))) := q116_L0 x.1.1 x.1.2.2.1 x.1.2.2.2.1 x.2.1
noncomputable def a116 : Nat → Option LoopAnn := fun c => bif Nat.beq c 0 then some (.fix h116_L0 e116_L0 s116_L0) else none
noncomputable def g116 (x0 : Ta45) (x1 : Ta5) (x2 : Ta24) : Option ((Int × Unit) × Unit) :=
  bif (!(f138 x0)) then
    some (((-1 : Int), ()), ())
  else
    bif (!(f105 x1)) then
      some (((-1 : Int), ()), ())
    else
      bif (decide ((x2.len : Int) > (8 : Int))) then
        some (((-1 : Int), ()), ())
      else
        (fixO s116_L0 ((x2, ((), ((wI ((wI ((16 : Int) * x0.1)) + (wI ((wI (x1.1 * x1.2.1)) * x0.2.2.2.2.2.2.1)))), ((0 : Int), ())))), (x0, ()))).bind fun d2 => match d2 with
        | .inl y1 =>
          some ((y1.1.1, ()), ())
        | .inr (.inl y1) =>
          some ((y1.1.1, ()), ())
        | .inr (.inr e) => nomatch e
noncomputable def c116 : Ctr := { ins := [.v Ty85, .v Ty47, .v Ty70], out := [(.int .i64)], F := fun x => g116 x.1 x.2.1 x.2.2.1 }
noncomputable def l116 : List (Nat × Code) := loopsIn (Try.f116.body.getD .skip) 0
theorem w116_L0 (x : h116_L0.T) : runK Try.prog Γ t116 a116 (l116.getD 0 (0, .skip)).2 0 (pkSh h116_L0 x) (loopCls (sh := h116_L0) (es := e116_L0)) = (s116_L0 x : Option _) := by kernel_rfl
theorem v116 : LoopsOk Try.prog Γ t116 a116 (loopsIn (Try.f116.body.getD .skip) 0) := by
  have e : loopsIn (Try.f116.body.getD .skip) 0 = [(0, (l116.getD 0 (0, .skip)).2)] := by kernel_rfl
  rw [e]
  exact ⟨fun x d h => (w116_L0 x).trans h, trivial⟩
theorem r116 (x : InsT c116.ins) : fnK Try.prog Γ t116 a116 Try.f116 c116 x = g116 x.1 x.2.1 x.2.2.1 := by kernel_rfl
theorem k116 : TblOk Try.prog t116 := tblOk_cons o138 (tblOk_cons o105 (tblOk_cons o141 (tblOk_nil)))
theorem o116 : Holds Try.prog 116 c116 := fn_holds (code := Try.f116.body.getD .skip) (by kernel_rfl) gamOk k116 Try.func116 (by kernel_rfl) (by kernel_rfl) (by kernel_rfl) (by kernel_rfl) v116 (fun x _ h => (r116 x).trans h)
/-! ### 88: loop.example/g00076/spec.l13Tables -/
noncomputable def t88 : Tbl := [(87, [], c87), (84, [], c84), (113, [], c113), (114, [], c114), (115, [], c115), (116, [], c116), (86, [], c86)]
abbrev h88_L0 : Shape := { slots := [(0, .bx 100000 0), (1, .v (.int .i64)), (4, .bx 4 0), (5, .bx 5 0), (6, .v (.int .i64)), (7, .v (.int .i64))], boxes := [(100000, .typ Ty53), (4, .cells [.v (.int .i64), .v (.int .i64), .v (.int .i64), .v (.int .i64), .v (.int .i64), .v (.int .i64), .v (.int .i64), .v (.int .i64), .v (.int .i64), .v (.int .i64), .v (.int .i64), .v (.int .i64), .v (.int .i64), .v (.int .i64), .v (.int .i64), .ext Ty95 60271, .ext (.int .i64) 60272, .ext Ty66 60273, .ext Ty47 60274]), (5, .cells [.v (.int .i64), .v (.int .i64), .v (.int .i64), .v (.int .i64), .v (.int .i64), .v (.int .i64), .v (.int .i64), .v (.int .i64), .v (.int .i64), .v (.int .i64), .v (.int .i64), .v (.int .i64), .v (.int .i64), .v (.int .i64), .v (.int .i64), .ext Ty95 60335, .ext (.int .i64) 60336, .ext Ty66 60337, .ext Ty47 60338])] }
abbrev e88_L0 : List (XT × Shape) := [(.exit 0, { slots := [(0, .bx 100000 0), (1, .v (.int .i64)), (4, .bx 4 0), (5, .bx 5 0), (6, .v (.int .i64))], boxes := [(100000, .typ Ty53), (4, .cells [.v (.int .i64), .v (.int .i64), .v (.int .i64), .v (.int .i64), .v (.int .i64), .v (.int .i64), .v (.int .i64), .v (.int .i64), .v (.int .i64), .v (.int .i64), .v (.int .i64), .v (.int .i64), .v (.int .i64), .v (.int .i64), .v (.int .i64), .ext Ty95 60271, .ext (.int .i64) 60272, .ext Ty66 60273, .ext Ty47 60274]), (5, .cells [.v (.int .i64), .v (.int .i64), .v (.int .i64), .v (.int .i64), .v (.int .i64), .v (.int .i64), .v (.int .i64), .v (.int .i64), .v (.int .i64), .v (.int .i64), .v (.int .i64), .v (.int .i64), .v (.int .i64), .v (.int .i64), .v (.int .i64), .ext Ty95 60335, .ext (.int .i64) 60336, .ext Ty66 60337, .ext Ty47 60338])] })]
noncomputable def q88_L0 (t1 : Int) (t6 : Int) (t7 : Int) (b100000 : Ta11) (b4_0 : Int) (b4_1 : Int) (b4_2 : Int) (b4_3 : Int) (b4_4 : Int) (b4_5 : Int) (b4_6 : Int) (b4_7 : Int) (b4_8 : Int) (b4_9 : Int) (b4_10 : Int) (b4_11 : Int) (b4_12 : Int) (b4_13 : Int) (b4_14 : Int) (b4_15 : Ta72) (b4_16 : (L Int)) (b4_17 : Ta24) (b4_18 : Ta12) (b5_0 : Int) (b5_1 : Int) (b5_2 : Int) (b5_3 : Int) (b5_4 : Int) (b5_5 : Int) (b5_6 : Int) (b5_7 : Int) (b5_8 : Int) (b5_9 : Int) (b5_10 : Int) (b5_11 : Int) (b5_12 : Int) (b5_13 : Int) (b5_14 : Int) (b5_15 : Ta72) (b5_16 : (L Int)) (b5_17 : Ta24) (b5_18 : Ta12) : Option (Ta146 ⊕ (Ta145 ⊕ Empty)) :=
  bif (decide (t7 < t1)) then
    bif (decide (0 ≤ t7) && decide (t7 < (6 : Int))) then
      (g113 b100000).bind fun y13 =>
        (g84 y13.2.1 (2 : Int)).bind fun y14 =>
          (g84 y14.2.1 (4 : Int)).bind fun y15 =>
            (g84 y15.2.1 (2 : Int)).bind fun y16 =>
              (g84 y16.2.1 (3 : Int)).bind fun y17 =>
                bif (decide (b5_15.len + (L.of (Ty.zero Ty95) [((L.get (L.of (Ty.zero .str) [(⟨#[97, 108, 112, 104, 97]⟩ : ByteArray), (⟨#[98, 101, 116, 97]⟩ : ByteArray), (⟨#[103, 97, 109, 109, 97]⟩ : ByteArray), (⟨#[100, 101, 108, 116, 97]⟩ : ByteArray), (⟨#[101, 112, 115]⟩ : ByteArray), (⟨#[122, 101, 116, 97]⟩ : ByteArray)]) t7.toNat), ((wI (t6 + (wI ((4 : Int) * y16.1.1)))), (y13.1.1, ((L.of (Ty.zero Ty47) [(t6, ((128 : Int), ((5 : Int), ()))), ((wI ((wI (t6 + (128 : Int))) + (wI ((4 : Int) * y14.1.1)))), ((wI ((32 : Int) + (wI ((4 : Int) * y15.1.1)))), ((3 : Int), ())))]), ()))))]).len ≤ most)) then
                  some (.inl (((), (t1, ((), ((), ((wI ((wI ((wI ((wI (t6 + (128 : Int))) + (wI ((4 : Int) * y14.1.1)))) + (wI ((32 : Int) + (wI ((4 : Int) * y15.1.1)))))) + (wI ((4 : Int) * y17.1.1)))), ((wI (t7 + (1 : Int))), ())))))), (y17.2.1, ((b4_0, (b4_1, (b4_2, (b4_3, (b4_4, (b4_5, (b4_6, (b4_7, (b4_8, (b4_9, (b4_10, (b4_11, (b4_12, (b4_13, (b4_14, (b4_15, (b4_16, (b4_17, (b4_18, ()))))))))))))))))))), ((b5_0, (b5_1, (b5_2, (b5_3, (b5_4, (b5_5, (b5_6, (b5_7, (b5_8, (b5_9, (b5_10, (b5_11, (b5_12, (b5_13, (b5_14, ((L.app b5_15 (L.of (Ty.zero Ty95) [((L.get (L.of (Ty.zero .str) [(⟨#[97, 108, 112, 104, 97]⟩ : ByteArray), (⟨#[98, 101, 116, 97]⟩ : ByteArray), (⟨#[103, 97, 109, 109, 97]⟩ : ByteArray), (⟨#[100, 101, 108, 116, 97]⟩ : ByteArray), (⟨#[101, 112, 115]⟩ : ByteArray), (⟨#[122, 101, 116, 97]⟩ : ByteArray)]) t7.toNat), ((wI (t6 + (wI ((4 : Int) * y16.1.1)))), (y13.1.1, ((L.of (Ty.zero Ty47) [(t6, ((128 : Int), ((5 : Int), ()))), ((wI ((wI (t6 + (128 : Int))) + (wI ((4 : Int) * y14.1.1)))), ((wI ((32 : Int) + (wI ((4 : Int) * y15.1.1)))), ((3 : Int), ())))]), ()))))])), (b5_16, (b5_17, (b5_18, ()))))))))))))))))))), ())))))
                else
                  none
    else
      none
  else
    some (.inr (.inl (((), (t1, ((), ((), (t6, ()))))), (b100000, ((b4_0, (b4_1, (b4_2, (b4_3, (b4_4, (b4_5, (b4_6, (b4_7, (b4_8, (b4_9, (b4_10, (b4_11, (b4_12, (b4_13, (b4_14, (b4_15, (b4_16, (b4_17, (b4_18, ()))))))))))))))))))), ((b5_0, (b5_1, (b5_2, (b5_3, (b5_4, (b5_5, (b5_6, (b5_7, (b5_8, (b5_9, (b5_10, (b5_11, (b5_12, (b5_13, (b5_14, (b5_15, (b5_16, (b5_17, (b5_18, ()))))))))))))))))))), ()))))))
noncomputable def s88_L0 (x : Ta146) : Option (Ta146 ⊕ (Ta145 ⊕ Empty)) := q88_L0 x.1.2.1 x.1.2.2.2.2.1 x.1.2.2.2.2.2.1 x.2.1 x.2.2.1.1 x.2.2.1.2.1 x.2.2.1.2.2.1 x.2.2.1.2.2.2.1 x.2.2.1.2.2.2.2.1 x.2.2.1.2.2.2.2.2.1 x.2.2.1.2.2.2.2.2.2.1 x.2.2.1.2.2.2.2.2.2.2.1 x.2.2.1.2.2.2.2.2.2.2.2.1 x.2.2.1.2.2.2.2.2.2.2.2.2.1 x.2.2.1.2.2.2.2.2.2.2.2.2.2.1 x.2.2.1.2.2.2.2.2.2.2.2.2.2.2.1 x.2.2.1.2.2.2.2.2.2.2.2.2.2.2.2.1 x.2.2.1.2.2.2.2.2.2.2.2.2.2.2.2.2.1 x.2.2.1.2.2.2.2.2.2.2.2.2.2.2.2.2.2.1 x.2.2.1.2.2.2.2.2.2.2.2.2.2.2.2.2.2.2.1 x.2.2.1.2.2.2.2.2.2.2.2.2.2.2.2.2.2.2.2.1 x.2.2.1.2.2.2.2.2.2.2.2.2.2.2.2.2.2.2.2.2.1 x.2.2.1.2.2.2.2.2.2.2.2.2.2.2.2.2.2.2.2.2.2.1 x.2.2.2.1.1 x.2.2.2.1.2.1 x.2.2.2.1.2.2.1 x.2.2.2.1.2.2.2.1 x.2.2.2.1.2.2.2.2.1 x.2.2.2.1.2.2.2.2.2.1 x.2.2.2.1.2.2.2.2.2.2.1 x.2.2.2.1.2.2.2.2.2.2.2.1 x.2.2.2.1.2.2.2.2.2.2.2.2.1 x.2.2.2.1.2.2.2.2.2.2.2.2.2.1 x.2.2.2.1.2.2.2.2.2.2.2.2.2.2.1 x.2.2.2.1.2.2.2.2.2.2.2.2.2.2.2.1 x.2.2.2.1.2.2.2.2.2.2.2.2.2.2.2.2.1 x.2.2.2.1.2.2.2.2.2.2.2.2.2.2.2.2.2.1 x.2.2.2.1.2.2.2.2.2.2.2.2.2.2.2.2.2.2.1 x.2.2.2.1.2.2.2.2.2.2.2.2.2.2.2.2.2.2.2.1 x.2.2.2.1.2.2.2.2.2.2.2.2.2.2.2.2.2.2.2.2.1 x.2.2.2.1.2.2.2.2.2.2.2.2.2.2.2.2.2.2.2.2.2.1 x.2.2.2.1.2.2.2.2.2.2.2.2.2.2.2.2.2.2.2.2.2.2.1
abbrev h88_L2 : Shape := { slots := [(0, .bx 100000 0), (1, .v (.int .i64)), (4, .bx 4 0), (5, .bx 5 0), (11, .v (.int .i64))], boxes := [(100000, .typ Ty53), (4, .cells [.v (.int .i64), .v (.int .i64), .v (.int .i64), .v (.int .i64), .v (.int .i64), .v (.int .i64), .v (.int .i64), .v (.int .i64), .v (.int .i64), .v (.int .i64), .v (.int .i64), .v (.int .i64), .v (.int .i64), .v (.int .i64), .v (.int .i64), .ext Ty95 60271, .ext (.int .i64) 60272, .ext Ty66 60273, .ext Ty47 60274]), (5, .cells [.v (.int .i64), .v (.int .i64), .v (.int .i64), .v (.int .i64), .v (.int .i64), .v (.int .i64), .v (.int .i64), .v (.int .i64), .v (.int .i64), .v (.int .i64), .v (.int .i64), .v (.int .i64), .v (.int .i64), .v (.int .i64), .v (.int .i64), .ext Ty95 60335, .ext (.int .i64) 60336, .ext Ty66 60337, .ext Ty47 60338])] }
abbrev e88_L2 : List (XT × Shape) := [(.exit 2, { slots := [(0, .bx 100000 0), (1, .v (.int .i64)), (4, .bx 4 0), (5, .bx 5 0)], boxes := [(100000, .typ Ty53), (4, .cells [.v (.int .i64), .v (.int .i64), .v (.int .i64), .v (.int .i64), .v (.int .i64), .v (.int .i64), .v (.int .i64), .v (.int .i64), .v (.int .i64), .v (.int .i64), .v (.int .i64), .v (.int .i64), .v (.int .i64), .v (.int .i64), .v (.int .i64), .ext Ty95 60271, .ext (.int .i64) 60272, .ext Ty66 60273, .ext Ty47 60274]), (5, .cells [.v (.int .i64), .v (.int .i64), .v (.int .i64), .v (.int .i64), .v (.int .i64), .v (.int .i64), .v (.int .i64), .v (.int .i64), .v (.int .i64), .v (.int .i64), .v (.int .i64), .v (.int .i64), .v (.int .i64), .v (.int .i64), .v (.int .i64), .ext Ty95 60335, .ext (.int .i64) 60336, .ext Ty66 60337, .ext Ty47 60338])] })]
noncomputable def q88_L2 (t1 : Int) (t11 : Int) (b100000 : Ta11) (b4_0 : Int) (b4_1 : Int) (b4_2 : Int) (b4_3 : Int) (b4_4 : Int) (b4_5 : Int) (b4_6 : Int) (b4_7 : Int) (b4_8 : Int) (b4_9 : Int) (b4_10 : Int) (b4_11 : Int) (b4_12 : Int) (b4_13 : Int) (b4_14 : Int) (b4_15 : Ta72) (b4_16 : (L Int)) (b4_17 : Ta24) (b4_18 : Ta12) (b5_0 : Int) (b5_1 : Int) (b5_2 : Int) (b5_3 : Int) (b5_4 : Int) (b5_5 : Int) (b5_6 : Int) (b5_7 : Int) (b5_8 : Int) (b5_9 : Int) (b5_10 : Int) (b5_11 : Int) (b5_12 : Int) (b5_13 : Int) (b5_14 : Int) (b5_15 : Ta72) (b5_16 : (L Int)) (b5_17 : Ta24) (b5_18 : Ta12) : Option (Ta145 ⊕ (Ta143 ⊕ Empty)) :=
  (g84 b100000 (4 : Int)).bind fun y19 =>
    bif (decide (t11 < y19.1.1)) then
      (g84 y19.2.1 t1).bind fun y20 =>
        bif (decide (b5_16.len + (L.of (Ty.zero (.int .i64)) [y20.1.1]).len ≤ most)) then
          some (.inl (((), (t1, ((), ((), ((wI (t11 + (1 : Int))), ()))))), (y20.2.1, ((b4_0, (b4_1, (b4_2, (b4_3, (b4_4, (b4_5, (b4_6, (b4_7, (b4_8, (b4_9, (b4_10, (b4_11, (b4_12, (b4_13, (b4_14, (b4_15, (b4_16, (b4_17, (b4_18, ()))))))))))))))))))), ((b5_0, (b5_1, (b5_2, (b5_3, (b5_4, (b5_5, (b5_6, (b5_7, (b5_8, (b5_9, (b5_10, (b5_11, (b5_12, (b5_13, (b5_14, (b5_15, ((L.app b5_16 (L.of (Ty.zero (.int .i64)) [y20.1.1])), (b5_17, (b5_18, ()))))))))))))))))))), ())))))
        else
          none
    else
      some (.inr (.inl (((), (t1, ((), ((), ())))), (y19.2.1, ((b4_0, (b4_1, (b4_2, (b4_3, (b4_4, (b4_5, (b4_6, (b4_7, (b4_8, (b4_9, (b4_10, (b4_11, (b4_12, (b4_13, (b4_14, (b4_15, (b4_16, (b4_17, (b4_18, ()))))))))))))))))))), ((b5_0, (b5_1, (b5_2, (b5_3, (b5_4, (b5_5, (b5_6, (b5_7, (b5_8, (b5_9, (b5_10, (b5_11, (b5_12, (b5_13, (b5_14, (b5_15, (b5_16, (b5_17, (b5_18, ()))))))))))))))))))), ()))))))
noncomputable def s88_L2 (x : Ta145) : Option (Ta145 ⊕ (Ta143 ⊕ Empty)) := q88_L2 x.1.2.1 x.1.2.2.2.2.1 x.2.1 x.2.2.1.1 x.2.2.1.2.1 x.2.2.1.2.2.1 x.2.2.1.2.2.2.1 x.2.2.1.2.2.2.2.1 x.2.2.1.2.2.2.2.2.1 x.2.2.1.2.2.2.2.2.2.1 x.2.2.1.2.2.2.2.2.2.2.1 x.2.2.1.2.2.2.2.2.2.2.2.1 x.2.2.1.2.2.2.2.2.2.2.2.2.1 x.2.2.1.2.2.2.2.2.2.2.2.2.2.1 x.2.2.1.2.2.2.2.2.2.2.2.2.2.2.1 x.2.2.1.2.2.2.2.2.2.2.2.2.2.2.2.1 x.2.2.1.2.2.2.2.2.2.2.2.2.2.2.2.2.1 x.2.2.1.2.2.2.2.2.2.2.2.2.2.2.2.2.2.1 x.2.2.1.2.2.2.2.2.2.2.2.2.2.2.2.2.2.2.1 x.2.2.1.2.2.2.2.2.2.2.2.2.2.2.2.2.2.2.2.1 x.2.2.1.2.2.2.2.2.2.2.2.2.2.2.2.2.2.2.2.2.1 x.2.2.1.2.2.2.2.2.2.2.2.2.2.2.2.2.2.2.2.2.2.1 x.2.2.2.1.1 x.2.2.2.1.2.1 x.2.2.2.1.2.2.1 x.2.2.2.1.2.2.2.1 x.2.2.2.1.2.2.2.2.1 x.2.2.2.1.2.2.2.2.2.1 x.2.2.2.1.2.2.2.2.2.2.1 x.2.2.2.1.2.2.2.2.2.2.2.1 x.2.2.2.1.2.2.2.2.2.2.2.2.1 x.2.2.2.1.2.2.2.2.2.2.2.2.2.1 x.2.2.2.1.2.2.2.2.2.2.2.2.2.2.1 x.2.2.2.1.2.2.2.2.2.2.2.2.2.2.2.1 x.2.2.2.1.2.2.2.2.2.2.2.2.2.2.2.2.1 x.2.2.2.1.2.2.2.2.2.2.2.2.2.2.2.2.2.1 x.2.2.2.1.2.2.2.2.2.2.2.2.2.2.2.2.2.2.1 x.2.2.2.1.2.2.2.2.2.2.2.2.2.2.2.2.2.2.2.1 x.2.2.2.1.2.2.2.2.2.2.2.2.2.2.2.2.2.2.2.2.1 x.2.2.2.1.2.2.2.2.2.2.2.2.2.2.2.2.2.2.2.2.2.1 x.2.2.2.1.2.2.2.2.2.2.2.2.2.2.2.2.2.2.2.2.2.2.1
abbrev h88_L4 : Shape := { slots := [(0, .bx 100000 0), (1, .v (.int .i64)), (4, .bx 4 0), (5, .bx 5 0), (12, .v (.int .i64))], boxes := [(100000, .typ Ty53), (4, .cells [.v (.int .i64), .v (.int .i64), .v (.int .i64), .v (.int .i64), .v (.int .i64), .v (.int .i64), .v (.int .i64), .v (.int .i64), .v (.int .i64), .v (.int .i64), .v (.int .i64), .v (.int .i64), .v (.int .i64), .v (.int .i64), .v (.int .i64), .ext Ty95 60271, .ext (.int .i64) 60272, .ext Ty66 60273, .ext Ty47 60274]), (5, .cells [.v (.int .i64), .v (.int .i64), .v (.int .i64), .v (.int .i64), .v (.int .i64), .v (.int .i64), .v (.int .i64), .v (.int .i64), .v (.int .i64), .v (.int .i64), .v (.int .i64), .v (.int .i64), .v (.int .i64), .v (.int .i64), .v (.int .i64), .ext Ty95 60335, .ext (.int .i64) 60336, .ext Ty66 60337, .ext Ty47 60338])] }
abbrev e88_L4 : List (XT × Shape) := [(.exit 4, { slots := [(0, .bx 100000 0), (1, .v (.int .i64)), (4, .bx 4 0), (5, .bx 5 0)], boxes := [(100000, .typ Ty53), (4, .cells [.v (.int .i64), .v (.int .i64), .v (.int .i64), .v (.int .i64), .v (.int .i64), .v (.int .i64), .v (.int .i64), .v (.int .i64), .v (.int .i64), .v (.int .i64), .v (.int .i64), .v (.int .i64), .v (.int .i64), .v (.int .i64), .v (.int .i64), .ext Ty95 60271, .ext (.int .i64) 60272, .ext Ty66 60273, .ext Ty47 60274]), (5, .cells [.v (.int .i64), .v (.int .i64), .v (.int .i64), .v (.int .i64), .v (.int .i64), .v (.int .i64), .v (.int .i64), .v (.int .i64), .v (.int .i64), .v (.int .i64), .v (.int .i64), .v (.int .i64), .v (.int .i64), .v (.int .i64), .v (.int .i64), .ext Ty95 60335, .ext (.int .i64) 60336, .ext Ty66 60337, .ext Ty47 60338])] })]
noncomputable def q88_L4 (t1 : Int) (t12 : Int) (b100000 : Ta11) (b4_0 : Int) (b4_1 : Int) (b4_2 : Int) (b4_3 : Int) (b4_4 : Int) (b4_5 : Int) (b4_6 : Int) (b4_7 : Int) (b4_8 : Int) (b4_9 : Int) (b4_10 : Int) (b4_11 : Int) (b4_12 : Int) (b4_13 : Int) (b4_14 : Int) (b4_15 : Ta72) (b4_16 : (L Int)) (b4_17 : Ta24) (b4_18 : Ta12) (b5_0 : Int) (b5_1 : Int) (b5_2 : Int) (b5_3 : Int) (b5_4 : Int) (b5_5 : Int) (b5_6 : Int) (b5_7 : Int) (b5_8 : Int) (b5_9 : Int) (b5_10 : Int) (b5_11 : Int) (b5_12 : Int) (b5_13 : Int) (b5_14 : Int) (b5_15 : Ta72) (b5_16 : (L Int)) (b5_17 : Ta24) (b5_18 : Ta12) : Option (Ta145 ⊕ (Ta143 ⊕ Empty)) :=
  (g84 b100000 (5 : Int)).bind fun y22 =>
    bif (decide (t12 < y22.1.1)) then
      (g114 y22.2.1 t1).bind fun y23 =>
        bif (decide (b5_17.len + (L.of (Ty.zero Ty66) [y23.1.1]).len ≤ most)) then
          some (.inl (((), (t1, ((), ((), ((wI (t12 + (1 : Int))), ()))))), (y23.2.1, ((b4_0, (b4_1, (b4_2, (b4_3, (b4_4, (b4_5, (b4_6, (b4_7, (b4_8, (b4_9, (b4_10, (b4_11, (b4_12, (b4_13, (b4_14, (b4_15, (b4_16, (b4_17, (b4_18, ()))))))))))))))))))), ((b5_0, (b5_1, (b5_2, (b5_3, (b5_4, (b5_5, (b5_6, (b5_7, (b5_8, (b5_9, (b5_10, (b5_11, (b5_12, (b5_13, (b5_14, (b5_15, (b5_16, ((L.app b5_17 (L.of (Ty.zero Ty66) [y23.1.1])), (b5_18, ()))))))))))))))))))), ())))))
        else
          none
    else
      some (.inr (.inl (((), (t1, ((), ((), ())))), (y22.2.1, ((b4_0, (b4_1, (b4_2, (b4_3, (b4_4, (b4_5, (b4_6, (b4_7, (b4_8, (b4_9, (b4_10, (b4_11, (b4_12, (b4_13, (b4_14, (b4_15, (b4_16, (b4_17, (b4_18, ()))))))))))))))))))), ((b5_0, (b5_1, (b5_2, (b5_3, (b5_4, (b5_5, (b5_6, (b5_7, (b5_8, (b5_9, (b5_10, (b5_11, (b5_12, (b5_13, (b5_14, (b5_15, (b5_16, (b5_17, (b5_18, ()))))))))))))))))))), ()))))))
noncomputable def s88_L4 (x : Ta145) : Option (Ta145 ⊕ (Ta143 ⊕ Empty)) := q88_L4 x.1.2.1 x.1.2.2.2.2.1 x.2.1 x.2.2.1.1 x.2.2.1.2.1 x.2.2.1.2.2.1 x.2.2.1.2.2.2.1 x.2.2.1.2.2.2.2.1 x.2.2.1.2.2.2.2.2.1 x.2.2.1.2.2.2.2.2.2.1 x.2.2.1.2.2.2.2.2.2.2.1 x.2.2.1.2.2.2.2.2.2.2.2.1 x.2.2.1.2.2.2.2.2.2.2.2.2.1 x.2.2.1.2.2.2.2.2.2.2.2.2.2.1 x.2.2.1.2.2.2.2.2.2.2.2.2.2.2.1 x.2.2.1.2.2.2.2.2.2.2.2.2.2.2.2.1 x.2.2.1.2.2.2.2.2.2.2.2.2.2.2.2.2.1 x.2.2.1.2.2.2.2.2.2.2.2.2.2.2.2.2.2.1 x.2.2.1.2.2.2.2.2.2.2.2.2.2.2.2.2.2.2.1 x.2.2.1.2.2.2.2.2.2.2.2.2.2.2.2.2.2.2.2.1 x.2.2.1.2.2.2.2.2.2.2.2.2.2.2.2.2.2.2.2.2.1 x.2.2.1.2.2.2.2.2.2.2.2.2.2.2.2.2.2.2.2.2.2.1 x.2.2.2.1.1 x.2.2.2.1.2.1 x.2.2.2.1.2.2.1 x.2.2.2.1.2.2.2.1 x.2.2.2.1.2.2.2.2.1 x.2.2.2.1.2.2.2.2.2.1 x.2.2.2.1.2.2.2.2.2.2.1 x.2.2.2.1.2.2.2.2.2.2.2.1 x.2.2.2.1.2.2.2.2.2.2.2.2.1 x.2.2.2.1.2.2.2.2.2.2.2.2.2.1 x.2.2.2.1.2.2.2.2.2.2.2.2.2.2.1 x.2.2.2.1.2.2.2.2.2.2.2.2.2.2.2.1 x.2.2.2.1.2.2.2.2.2.2.2.2.2.2.2.2.1 x.2.2.2.1.2.2.2.2.2.2.2.2.2.2.2.2.2.1 x.2.2.2.1.2.2.2.2.2.2.2.2.2.2.2.2.2.2.1 x.2.2.2.1.2.2.2.2.2.2.2.2.2.2.2.2.2.2.2.1 x.2.2.2.1.2.2.2.2.2.2.2.2.2.2.2.2.2.2.2.2.1 x.2.2.2.1.2.2.2.2.2.2.2.2.2.2.2.2.2.2.2.2.2.1 x.2.2.2.1.2.2.2.2.2.2.2.2.2.2.2.2.2.2.2.2.2.2.1
abbrev h88_L6 : Shape := { slots := [(0, .bx 100000 0), (1, .v (.int .i64)), (4, .bx 4 0), (5, .bx 5 0), (13, .v (.int .i64)), (14, .v (.int .i64))], boxes := [(100000, .typ Ty53), (4, .cells [.v (.int .i64), .v (.int .i64), .v (.int .i64), .v (.int .i64), .v (.int .i64), .v (.int .i64), .v (.int .i64), .v (.int .i64), .v (.int .i64), .v (.int .i64), .v (.int .i64), .v (.int .i64), .v (.int .i64), .v (.int .i64), .v (.int .i64), .ext Ty95 60271, .ext (.int .i64) 60272, .ext Ty66 60273, .ext Ty47 60274]), (5, .cells [.v (.int .i64), .v (.int .i64), .v (.int .i64), .v (.int .i64), .v (.int .i64), .v (.int .i64), .v (.int .i64), .v (.int .i64), .v (.int .i64), .v (.int .i64), .v (.int .i64), .v (.int .i64), .v (.int .i64), .v (.int .i64), .v (.int .i64), .ext Ty95 60335, .ext (.int .i64) 60336, .ext Ty66 60337, .ext Ty47 60338])] }
abbrev e88_L6 : List (XT × Shape) := [(.exit 6, { slots := [(0, .bx 100000 0), (4, .bx 4 0), (5, .bx 5 0)], boxes := [(100000, .typ Ty53), (4, .cells [.v (.int .i64), .v (.int .i64), .v (.int .i64), .v (.int .i64), .v (.int .i64), .v (.int .i64), .v (.int .i64), .v (.int .i64), .v (.int .i64), .v (.int .i64), .v (.int .i64), .v (.int .i64), .v (.int .i64), .v (.int .i64), .v (.int .i64), .ext Ty95 60271, .ext (.int .i64) 60272, .ext Ty66 60273, .ext Ty47 60274]), (5, .cells [.v (.int .i64), .v (.int .i64), .v (.int .i64), .v (.int .i64), .v (.int .i64), .v (.int .i64), .v (.int .i64), .v (.int .i64), .v (.int .i64), .v (.int .i64), .v (.int .i64), .v (.int .i64), .v (.int .i64), .v (.int .i64), .v (.int .i64), .ext Ty95 60335, .ext (.int .i64) 60336, .ext Ty66 60337, .ext Ty47 60338])] })]
noncomputable def q88_L6 (t1 : Int) (t13 : Int) (t14 : Int) (b100000 : Ta11) (b4_0 : Int) (b4_1 : Int) (b4_2 : Int) (b4_3 : Int) (b4_4 : Int) (b4_5 : Int) (b4_6 : Int) (b4_7 : Int) (b4_8 : Int) (b4_9 : Int) (b4_10 : Int) (b4_11 : Int) (b4_12 : Int) (b4_13 : Int) (b4_14 : Int) (b4_15 : Ta72) (b4_16 : (L Int)) (b4_17 : Ta24) (b4_18 : Ta12) (b5_0 : Int) (b5_1 : Int) (b5_2 : Int) (b5_3 : Int) (b5_4 : Int) (b5_5 : Int) (b5_6 : Int) (b5_7 : Int) (b5_8 : Int) (b5_9 : Int) (b5_10 : Int) (b5_11 : Int) (b5_12 : Int) (b5_13 : Int) (b5_14 : Int) (b5_15 : Ta72) (b5_16 : (L Int)) (b5_17 : Ta24) (b5_18 : Ta12) : Option (Ta146 ⊕ (((Unit × (Unit × (Unit × Unit))) × Ta141) ⊕ Empty)) :=
  (g84 b100000 (3 : Int)).bind fun y30 =>
    bif (decide (t14 < (wI (t1 + y30.1.1)))) then
      bif (!decide (t1 = 0)) then
        (g84 y30.2.1 (90 : Int)).bind fun y31 =>
          (g86 y31.2.1 (5 : Int)).bind fun y32 =>
            bif y32.1.1 then
              (g84 y32.2.1 t1).bind fun y33 =>
                bif (decide (b5_18.len + (L.of (Ty.zero Ty47) [(y33.1.1, (t13, ((wI ((wI ((wI (b5_12 + b5_13)) + (1 : Int))) + y31.1.1)), ())))]).len ≤ most)) then
                  (g87 y33.2.1 (L.of (Ty.zero (.int .i64)) [(0 : Int), (0 : Int), (3 : Int)])).bind fun y34 =>
                    some (.inl (((), (t1, ((), ((), ((wI ((wI (t13 + (wI ((wI ((wI (b5_12 + b5_13)) + (1 : Int))) + y31.1.1)))) + y34.1.1)), ((wI (t14 + (1 : Int))), ())))))), (y34.2.1, ((b4_0, (b4_1, (b4_2, (b4_3, (b4_4, (b4_5, (b4_6, (b4_7, (b4_8, (b4_9, (b4_10, (b4_11, (b4_12, (b4_13, (b4_14, (b4_15, (b4_16, (b4_17, (b4_18, ()))))))))))))))))))), ((b5_0, (b5_1, (b5_2, (b5_3, (b5_4, (b5_5, (b5_6, (b5_7, (b5_8, (b5_9, (b5_10, (b5_11, (b5_12, (b5_13, (b5_14, (b5_15, (b5_16, (b5_17, ((L.app b5_18 (L.of (Ty.zero Ty47) [(y33.1.1, (t13, ((wI ((wI ((wI (b5_12 + b5_13)) + (1 : Int))) + y31.1.1)), ())))])), ()))))))))))))))))))), ())))))
                else
                  none
            else
              bif (decide (b5_18.len + (L.of (Ty.zero Ty47) [((Int.tmod t14 t1), (t13, ((wI ((wI ((wI (b5_12 + b5_13)) + (1 : Int))) + y31.1.1)), ())))]).len ≤ most)) then
                (g87 y32.2.1 (L.of (Ty.zero (.int .i64)) [(0 : Int), (0 : Int), (3 : Int)])).bind fun y35 =>
                  some (.inl (((), (t1, ((), ((), ((wI ((wI (t13 + (wI ((wI ((wI (b5_12 + b5_13)) + (1 : Int))) + y31.1.1)))) + y35.1.1)), ((wI (t14 + (1 : Int))), ())))))), (y35.2.1, ((b4_0, (b4_1, (b4_2, (b4_3, (b4_4, (b4_5, (b4_6, (b4_7, (b4_8, (b4_9, (b4_10, (b4_11, (b4_12, (b4_13, (b4_14, (b4_15, (b4_16, (b4_17, (b4_18, ()))))))))))))))))))), ((b5_0, (b5_1, (b5_2, (b5_3, (b5_4, (b5_5, (b5_6, (b5_7, (b5_8, (b5_9, (b5_10, (b5_11, (b5_12, (b5_13, (b5_14, (b5_15, (b5_16, (b5_17, ((L.app b5_18 (L.of (Ty.zero Ty47) [((Int.tmod t14 t1), (t13, ((wI ((wI ((wI (b5_12 + b5_13)) + (1 : Int))) + y31.1.1)), ())))])), ()))))))))))))))))))), ())))))
              else
                none
      else
        none
    else
      some (.inr (.inl (((), ((), ((), ()))), (y30.2.1, ((b4_0, (b4_1, (b4_2, (b4_3, (b4_4, (b4_5, (b4_6, (b4_7, (b4_8, (b4_9, (b4_10, (b4_11, (b4_12, (b4_13, (b4_14, (b4_15, (b4_16, (b4_17, (b4_18, ()))))))))))))))))))), ((b5_0, (b5_1, (b5_2, (b5_3, (b5_4, (b5_5, (b5_6, (b5_7, (b5_8, (b5_9, (b5_10, (b5_11, (b5_12, (b5_13, (b5_14, (b5_15, (b5_16, (b5_17, (b5_18, ()))))))))))))))))))), ()))))))
noncomputable def s88_L6 (x : Ta146) : Option (Ta146 ⊕ (((Unit × (Unit × (Unit × Unit))) × Ta141) ⊕ Empty)) := q88_L6 x.1.2.1 x.1.2.2.2.2.1 x.1.2.2.2.2.2.1 x.2.1 x.2.2.1.1 x.2.2.1.2.1 x.2.2.1.2.2.1 x.2.2.1.2.2.2.1 x.2.2.1.2.2.2.2.1 x.2.2.1.2.2.2.2.2.1 x.2.2.1.2.2.2.2.2.2.1 x.2.2.1.2.2.2.2.2.2.2.1 x.2.2.1.2.2.2.2.2.2.2.2.1 x.2.2.1.2.2.2.2.2.2.2.2.2.1 x.2.2.1.2.2.2.2.2.2.2.2.2.2.1 x.2.2.1.2.2.2.2.2.2.2.2.2.2.2.1 x.2.2.1.2.2.2.2.2.2.2.2.2.2.2.2.1 x.2.2.1.2.2.2.2.2.2.2.2.2.2.2.2.2.1 x.2.2.1.2.2.2.2.2.2.2.2.2.2.2.2.2.2.1 x.2.2.1.2.2.2.2.2.2.2.2.2.2.2.2.2.2.2.1 x.2.2.1.2.2.2.2.2.2.2.2.2.2.2.2.2.2.2.2.1 x.2.2.1.2.2.2.2.2.2.2.2.2.2.2.2.2.2.2.2.2.1 x.2.2.1.2.2.2.2.2.2.2.2.2.2.2.2.2.2.2.2.2.2.1 x.2.2.2.1.1 x.2.2.2.1.2.1 x.2.2.2.1.2.2.1 x.2.2.2.1.2.2.2.1 x.2.2.2.1.2.2.2.2.1 x.2.2.2.1.2.2.2.2.2.1 x.2.2.2.1.2.2.2.2.2.2.1 x.2.2.2.1.2.2.2.2.2.2.2.1 x.2.2.2.1.2.2.2.2.2.2.2.2.1 x.2.2.2.1.2.2.2.2.2.2.2.2.2.1 x.2.2.2.1.2.2.2.2.2.2.2.2.2.2.1 x.2.2.2.1.2.2.2.2.2.2.2.2.2.2.2.1 x.2.2.2.1.2.2.2.2.2.2.2.2.2.2.2.2.1 x.2.2.2.1.2.2.2.2.2.2.2.2.2.2.2.2.2.1 x.2.2.2.1.2.2.2.2.2.2.2.2.2.2.2.2.2.2.1 x.2.2.2.1.2.2.2.2.2.2.2.2.2.2.2.2.2.2.2.1 x.2.2.2.1.2.2.2.2.2.2.2.2.2.2.2.2.2.2.2.2.1 x.2.2.2.1.2.2.2.2.2.2.2.2.2.2.2.2.2.2.2.2.2.1 x.2.2.2.1.2.2.2.2.2.2.2.2.2.2.2.2.2.2.2.2.2.2.1
noncomputable def a88 : Nat → Option LoopAnn := fun c => bif Nat.beq c 0 then some (.fix h88_L0 e88_L0 s88_L0) else bif Nat.beq c 2 then some (.fix h88_L2 e88_L2 s88_L2) else bif Nat.beq c 4 then some (.fix h88_L4 e88_L4 s88_L4) else bif Nat.beq c 6 then some (.fix h88_L6 e88_L6 s88_L6) else none
noncomputable def g88 (x0 : Ta11) (x1 : Int) : Option (Ta123 × Ta25) :=
  (g87 x0 (L.of (Ty.zero (.int .i64)) [(1 : Int), (2 : Int), (4 : Int)])).bind fun y1 =>
    (g84 y1.2.1 (2 : Int)).bind fun y2 =>
      (g87 y2.2.1 (L.of (Ty.zero (.int .i64)) [(4 : Int), (8 : Int), (16 : Int)])).bind fun y3 =>
        (g84 y3.2.1 (4 : Int)).bind fun y4 =>
          (g84 y4.2.1 (2 : Int)).bind fun y5 =>
            (g84 y5.2.1 (4 : Int)).bind fun y6 =>
              (g84 y6.2.1 (3 : Int)).bind fun y7 =>
                (g84 y7.2.1 (6 : Int)).bind fun y8 =>
                  (g84 y8.2.1 (4 : Int)).bind fun y9 =>
                    (g84 y9.2.1 (3 : Int)).bind fun y10 =>
                      (g84 y10.2.1 (3 : Int)).bind fun y11 =>
                        (g84 y11.2.1 (4 : Int)).bind fun y12 =>
                          (fixO s88_L0 (((), (x1, ((), ((), ((wI ((4 : Int) * y12.1.1)), ((0 : Int), ())))))), (y12.2.1, (((0 : Int), ((0 : Int), ((0 : Int), ((0 : Int), ((0 : Int), ((0 : Int), ((0 : Int), ((0 : Int), ((0 : Int), ((0 : Int), ((0 : Int), ((0 : Int), ((0 : Int), ((0 : Int), ((0 : Int), ((nilL Ty95), ((nilL (.int .i64)), ((nilL Ty66), ((nilL Ty47), ()))))))))))))))))))), (((0 : Int), (y1.1.1, ((wI ((1 : Int) + y2.1.1)), (y3.1.1, ((wI ((1 : Int) + y4.1.1)), ((wI ((1 : Int) + y5.1.1)), (y6.1.1, (y7.1.1, (y8.1.1, (y9.1.1, (y10.1.1, (y11.1.1, ((0 : Int), ((0 : Int), ((0 : Int), ((nilL Ty95), ((nilL (.int .i64)), ((nilL Ty66), ((nilL Ty47), ()))))))))))))))))))), ()))))).bind fun d41 => match d41 with
                          | .inl y18 =>
                            (fixO s88_L2 (((), (y18.1.2.1, ((), ((), ((0 : Int), ()))))), (y18.2.1, (y18.2.2.1, (((wI (y18.1.2.2.2.2.1 + (64 : Int))), y18.2.2.2.1.2), ()))))).bind fun d40 => match d40 with
                            | .inl y21 =>
                              (fixO s88_L4 (((), (y21.1.2.1, ((), ((), ((0 : Int), ()))))), y21.2)).bind fun d39 => match d39 with
                              | .inl y24 =>
                                (g115 (y24.2.2.2.1.2.2.2.2.2.1, (y24.2.2.2.1.2.2.2.2.2.2.1, (y24.2.2.2.1.2.2.2.2.2.2.2.1, (y24.2.2.2.1.2.2.2.2.2.2.2.2.1, (y24.2.2.2.1.2.2.2.2.2.2.2.2.2.1, (y24.2.2.2.1.2.2.2.2.2.2.2.2.2.2.1, (y24.2.2.2.1.2.2.2.2.2.2.2.2.2.2.2.1, ())))))))).bind fun y25 =>
                                  (g87 y24.2.1 (L.of (Ty.zero (.int .i64)) [(0 : Int), (0 : Int), (1 : Int), (5 : Int)])).bind fun y26 =>
                                    (g116 (y24.2.2.2.1.2.2.2.2.2.1, (y24.2.2.2.1.2.2.2.2.2.2.1, (y24.2.2.2.1.2.2.2.2.2.2.2.1, (y24.2.2.2.1.2.2.2.2.2.2.2.2.1, (y24.2.2.2.1.2.2.2.2.2.2.2.2.2.1, (y24.2.2.2.1.2.2.2.2.2.2.2.2.2.2.1, (y24.2.2.2.1.2.2.2.2.2.2.2.2.2.2.2.1, ()))))))) (y24.2.2.2.1.2.1, (y24.2.2.2.1.2.2.1, (y24.2.2.2.1.2.2.2.1, ()))) y24.2.2.2.1.2.2.2.2.2.2.2.2.2.2.2.2.2.2.2.2.2.1).bind fun y27 =>
                                      (g87 y26.2.1 (L.of (Ty.zero (.int .i64)) [(0 : Int), (0 : Int), (1 : Int), (7 : Int)])).bind fun y28 =>
                                        (g87 y28.2.1 (L.of (Ty.zero (.int .i64)) [(0 : Int), (0 : Int), (5 : Int)])).bind fun y29 =>
                                          (fixO s88_L6 (((), (y24.1.2.1, ((), ((), (y29.1.1, ((0 : Int), ())))))), (y29.2.1, (y24.2.2.1, ((y24.2.2.2.1.1, (y24.2.2.2.1.2.1, (y24.2.2.2.1.2.2.1, (y24.2.2.2.1.2.2.2.1, (y24.2.2.2.1.2.2.2.2.1, (y24.2.2.2.1.2.2.2.2.2.1, (y24.2.2.2.1.2.2.2.2.2.2.1, (y24.2.2.2.1.2.2.2.2.2.2.2.1, (y24.2.2.2.1.2.2.2.2.2.2.2.2.1, (y24.2.2.2.1.2.2.2.2.2.2.2.2.2.1, (y24.2.2.2.1.2.2.2.2.2.2.2.2.2.2.1, (y24.2.2.2.1.2.2.2.2.2.2.2.2.2.2.2.1, ((wI (y27.1.1 + y28.1.1)), ((wI (y25.1.1 + y26.1.1)), y24.2.2.2.1.2.2.2.2.2.2.2.2.2.2.2.2.2.2)))))))))))))), ()))))).bind fun d38 => match d38 with
                                          | .inl y36 =>
                                            bif (decide (0 ≤ (wI ((y36.2.2.2.1.2.2.2.2.2.2.2.2.2.2.2.2.2.2.2.2.2.2.1.len : Int) - (1 : Int)))) && decide ((wI ((y36.2.2.2.1.2.2.2.2.2.2.2.2.2.2.2.2.2.2.2.2.2.2.1.len : Int) - (1 : Int))) < (y36.2.2.2.1.2.2.2.2.2.2.2.2.2.2.2.2.2.2.2.2.2.2.1.len : Int))) then
                                              (g87 y36.2.1 (L.of (Ty.zero (.int .i64)) [(0 : Int), (0 : Int), (1 : Int), (20 : Int)])).bind fun y37 =>
                                                some (((y36.2.2.2.1.1, ((y36.2.2.2.1.2.1, (y36.2.2.2.1.2.2.1, (y36.2.2.2.1.2.2.2.1, ()))), (y36.2.2.2.1.2.2.2.2.1, ((y36.2.2.2.1.2.2.2.2.2.1, (y36.2.2.2.1.2.2.2.2.2.2.1, (y36.2.2.2.1.2.2.2.2.2.2.2.1, (y36.2.2.2.1.2.2.2.2.2.2.2.2.1, (y36.2.2.2.1.2.2.2.2.2.2.2.2.2.1, (y36.2.2.2.1.2.2.2.2.2.2.2.2.2.2.1, (y36.2.2.2.1.2.2.2.2.2.2.2.2.2.2.2.1, ()))))))), (y36.2.2.2.1.2.2.2.2.2.2.2.2.2.2.2.2.1, (y36.2.2.2.1.2.2.2.2.2.2.2.2.2.2.2.2.2.1, ((wI ((wI ((L.get y36.2.2.2.1.2.2.2.2.2.2.2.2.2.2.2.2.2.2.2.2.2.2.1 (wI ((y36.2.2.2.1.2.2.2.2.2.2.2.2.2.2.2.2.2.2.2.2.2.2.1.len : Int) - (1 : Int))).toNat).2.1 + (L.get y36.2.2.2.1.2.2.2.2.2.2.2.2.2.2.2.2.2.2.2.2.2.2.1 (wI ((y36.2.2.2.1.2.2.2.2.2.2.2.2.2.2.2.2.2.2.2.2.2.2.1.len : Int) - (1 : Int))).toNat).2.2.1)) + y37.1.1)), y36.2.2.2.1.2.2.2.2.2.2.2.2.2.2.2.2.2.2.2))))))), ()), (y37.2.1, ()))
                                            else
                                              none
                                          | .inr e => nomatch e
                              | .inr e => nomatch e
                            | .inr e => nomatch e
                          | .inr e => nomatch e
noncomputable def c88 : Ctr := { ins := [.pt Ty53, .v (.int .i64)], out := [Ty144], F := fun x => g88 x.1 x.2.1 }
noncomputable def l88 : List (Nat × Code) := loopsIn (Try.f88.body.getD .skip) 0
theorem w88_L0 (x : h88_L0.T) : runK Try.prog Γ t88 a88 (l88.getD 0 (0, .skip)).2 0 (pkSh h88_L0 x) (loopCls (sh := h88_L0) (es := e88_L0)) = (s88_L0 x : Option _) := by kernel_rfl
theorem w88_L2 (x : h88_L2.T) : runK Try.prog Γ t88 a88 (l88.getD 1 (0, .skip)).2 2 (pkSh h88_L2 x) (loopCls (sh := h88_L2) (es := e88_L2)) = (s88_L2 x : Option _) := by kernel_rfl
theorem w88_L4 (x : h88_L4.T) : runK Try.prog Γ t88 a88 (l88.getD 2 (0, .skip)).2 4 (pkSh h88_L4 x) (loopCls (sh := h88_L4) (es := e88_L4)) = (s88_L4 x : Option _) := by kernel_rfl
theorem w88_L6 (x : h88_L6.T) : runK Try.prog Γ t88 a88 (l88.getD 3 (0, .skip)).2 6 (pkSh h88_L6 x) (loopCls (sh := h88_L6) (es := e88_L6)) = (s88_L6 x : Option _) := by kernel_rfl
theorem v88 : LoopsOk Try.prog Γ t88 a88 (loopsIn (Try.f88.body.getD .skip) 0) := by
  have e : loopsIn (Try.f88.body.getD .skip) 0 = [(0, (l88.getD 0 (0, .skip)).2), (2, (l88.getD 1 (0, .skip)).2), (4, (l88.getD 2 (0, .skip)).2), (6, (l88.getD 3 (0, .skip)).2)] := by kernel_rfl
  rw [e]
  exact ⟨fun x d h => (w88_L0 x).trans h, fun x d h => (w88_L2 x).trans h, fun x d h => (w88_L4 x).trans h, fun x d h => (w88_L6 x).trans h, trivial⟩
theorem r88 (x : InsT c88.ins) : fnK Try.prog Γ t88 a88 Try.f88 c88 x = g88 x.1 x.2.1 := by kernel_rfl
theorem k88 : TblOk Try.prog t88 := tblOk_cons o87 (tblOk_cons o84 (tblOk_cons o113 (tblOk_cons o114 (tblOk_cons o115 (tblOk_cons o116 (tblOk_cons o86 (tblOk_nil)))))))
theorem o88 : Holds Try.prog 88 c88 := fn_holds (code := Try.f88.body.getD .skip) (by kernel_rfl) gamOk k88 Try.func88 (by kernel_rfl) (by kernel_rfl) (by kernel_rfl) (by kernel_rfl) v88 (fun x _ h => (r88 x).trans h)
/-! ### 39: loop.example/g00076/spec.DrawTables -/
noncomputable def t39 : Tbl := [(82, [], c82), (84, [], c84), (88, [], c88)]
noncomputable def a39 : Nat → Option LoopAnn := fun _ => none
noncomputable def g39 (x0 : (L Int)) : Option (Ta123 × Unit) :=
  (g82 x0).bind fun y1 =>
    (g84 y1.1.1 (3 : Int)).bind fun y2 =>
      (g88 y2.2.1 (wI ((2 : Int) + y2.1.1))).bind fun y3 =>
        some ((y3.1.1, ()), ())
noncomputable def c39 : Ctr := { ins := [.v (.sl (.int .u8))], out := [Ty144], F := fun x => g39 x.1 }
theorem v39 : LoopsOk Try.prog Γ t39 a39 (loopsIn (Try.f39.body.getD .skip) 0) := loopsOk_nil (by kernel_rfl)
theorem r39 (x : InsT c39.ins) : fnK Try.prog Γ t39 a39 Try.f39 c39 x = g39 x.1 := by kernel_rfl
theorem k39 : TblOk Try.prog t39 := tblOk_cons o82 (tblOk_cons o84 (tblOk_cons o88 (tblOk_nil)))
theorem o39 : Holds Try.prog 39 c39 := fn_holds (code := Try.f39.body.getD .skip) (by kernel_rfl) gamOk k39 Try.func39 (by kernel_rfl) (by kernel_rfl) (by kernel_rfl) (by kernel_rfl) v39 (fun x _ h => (r39 x).trans h)
/-! ### 42: loop.example/g00076/laws.at -/
noncomputable def t42 : Tbl := []
noncomputable def a42 : Nat → Option LoopAnn := fun _ => none
noncomputable def g42 (x0 : (L Int)) (x1 : Int) : Option ((Int × Unit) × Unit) :=
  bif (decide (x1 < (x0.len : Int))) then
    bif (decide (0 ≤ x1) && decide (x1 < (x0.len : Int))) then
      some (((wI ((L.get x0 x1.toNat))), ()), ())
    else
      none
  else
    some (((Int.tmod (wI ((wI (x1 * (7 : Int))) + (x0.len : Int))) (256 : Int)), ()), ())
noncomputable def c42 : Ctr := { ins := [.v (.sl (.int .u8)), .v (.int .i64)], out := [(.int .i64)], F := fun x => g42 x.1 x.2.1 }
theorem v42 : LoopsOk Try.prog Γ t42 a42 (loopsIn (Try.f42.body.getD .skip) 0) := loopsOk_nil (by kernel_rfl)
theorem r42 (x : InsT c42.ins) : fnK Try.prog Γ t42 a42 Try.f42 c42 x = g42 x.1 x.2.1 := by kernel_rfl
theorem k42 : TblOk Try.prog t42 := tblOk_nil
theorem o42 : Holds Try.prog 42 c42 := fn_holds (code := Try.f42.body.getD .skip) (by kernel_rfl) gamOk k42 Try.func42 (by kernel_rfl) (by kernel_rfl) (by kernel_rfl) (by kernel_rfl) v42 (fun x _ h => (r42 x).trans h)
/-! ### 61: loop.example/g00076/impl.within -/
noncomputable def t61 : Tbl := []
noncomputable def a61 : Nat → Option LoopAnn := fun _ => none
noncomputable def g61 (x0 : Int) (x1 : Int) (x2 : Int) : Option ((Bool × Unit) × Unit) :=
  bif (decide (x0 ≥ x1)) then
    some (((decide (x0 ≤ x2)), ()), ())
  else
    some ((false, ()), ())
noncomputable def f61 (x0 : Int) (x1 : Int) (x2 : Int) : Bool :=
  bif (decide (x0 ≥ x1)) then
    (decide (x0 ≤ x2))
  else
    false
theorem n61 (x0 : Int) (x1 : Int) (x2 : Int) : g61 x0 x1 x2 = some ((f61 x0 x1 x2, ()), ()) := by
  simp only [g61, f61, pull1]
noncomputable def c61 : Ctr := { ins := [.v (.int .i64), .v (.int .i64), .v (.int .i64)], out := [.bool], F := fun x => some ((f61 x.1 x.2.1 x.2.2.1, ()), ()) }
theorem v61 : LoopsOk Try.prog Γ t61 a61 (loopsIn (Try.f61.body.getD .skip) 0) := loopsOk_nil (by kernel_rfl)
theorem r61 (x : InsT c61.ins) : fnK Try.prog Γ t61 a61 Try.f61 c61 x = g61 x.1 x.2.1 x.2.2.1 := by kernel_rfl
theorem k61 : TblOk Try.prog t61 := tblOk_nil
theorem o61 : Holds Try.prog 61 c61 := fn_holds (code := Try.f61.body.getD .skip) (by kernel_rfl) gamOk k61 Try.func61 (by kernel_rfl) (by kernel_rfl) (by kernel_rfl) (by kernel_rfl) v61 (fun x _ h => (r61 x).trans ((n61 x.1 x.2.1 x.2.2.1).trans h))
/-! ### 117: loop.example/g00076/impl.isMem -/
noncomputable def t117 : Tbl := [(61, [], c61)]
noncomputable def a117 : Nat → Option LoopAnn := fun _ => none
noncomputable def g117 (x0 : Int) : Option ((Bool × Unit) × Unit) :=
  bif (f61 x0 (64 : Int) (2048 : Int)) then
    some ((((Int.tmod x0 (4 : Int)) == (0 : Int)), ()), ())
  else
    some ((false, ()), ())
noncomputable def f117 (x0 : Int) : Bool :=
  bif (f61 x0 (64 : Int) (2048 : Int)) then
    ((Int.tmod x0 (4 : Int)) == (0 : Int))
  else
    false
theorem n117 (x0 : Int) : g117 x0 = some ((f117 x0, ()), ()) := by
  simp only [g117, f117, pull1]
noncomputable def c117 : Ctr := { ins := [.v (.int .i64)], out := [.bool], F := fun x => some ((f117 x.1, ()), ()) }
theorem v117 : LoopsOk Try.prog Γ t117 a117 (loopsIn (Try.f117.body.getD .skip) 0) := loopsOk_nil (by kernel_rfl)
theorem r117 (x : InsT c117.ins) : fnK Try.prog Γ t117 a117 Try.f117 c117 x = g117 x.1 := by kernel_rfl
theorem k117 : TblOk Try.prog t117 := tblOk_cons o61 (tblOk_nil)
theorem o117 : Holds Try.prog 117 c117 := fn_holds (code := Try.f117.body.getD .skip) (by kernel_rfl) gamOk k117 Try.func117 (by kernel_rfl) (by kernel_rfl) (by kernel_rfl) (by kernel_rfl) v117 (fun x _ h => (r117 x).trans ((n117 x.1).trans h))
/-! ### 145: loop.example/g00076/impl.isPower -/
noncomputable def t145 : Tbl := []
noncomputable def a145 : Nat → Option LoopAnn := fun _ => none
noncomputable def g145 (x0 : Int) : Option ((Bool × Unit) × Unit) :=
  bif (decide (x0 > (0 : Int))) then
    some ((((andOf .i64 x0 (wI (x0 - (1 : Int)))) == (0 : Int)), ()), ())
  else
    some ((false, ()), ())
noncomputable def f145 (x0 : Int) : Bool :=
  bif (decide (x0 > (0 : Int))) then
    ((andOf .i64 x0 (wI (x0 - (1 : Int)))) == (0 : Int))
  else
    false
theorem n145 (x0 : Int) : g145 x0 = some ((f145 x0, ()), ()) := by
  simp only [g145, f145, pull1]
noncomputable def c145 : Ctr := { ins := [.v (.int .i64)], out := [.bool], F := fun x => some ((f145 x.1, ()), ()) }
theorem v145 : LoopsOk Try.prog Γ t145 a145 (loopsIn (Try.f145.body.getD .skip) 0) := loopsOk_nil (by kernel_rfl)
theorem r145 (x : InsT c145.ins) : fnK Try.prog Γ t145 a145 Try.f145 c145 x = g145 x.1 := by kernel_rfl
theorem k145 : TblOk Try.prog t145 := tblOk_nil
theorem o145 : Holds Try.prog 145 c145 := fn_holds (code := Try.f145.body.getD .skip) (by kernel_rfl) gamOk k145 Try.func145 (by kernel_rfl) (by kernel_rfl) (by kernel_rfl) (by kernel_rfl) v145 (fun x _ h => (r145 x).trans ((n145 x.1).trans h))
/-! ### 118: loop.example/g00076/impl.isShape -/
noncomputable def t118 : Tbl := [(61, [], c61), (145, [], c145)]
noncomputable def a118 : Nat → Option LoopAnn := fun _ => none
noncomputable def g118 (x0 : Ta5) : Option ((Bool × Unit) × Unit) :=
  bif (f61 x0.1 (1 : Int) (16 : Int)) then
    bif (f145 x0.1) then
      bif (f61 x0.2.1 (1 : Int) (4 : Int)) then
        bif (f61 x0.2.2.1 (4 : Int) (32 : Int)) then
          some (((f145 x0.2.2.1), ()), ())
        else
          some ((false, ()), ())
      else
        some ((false, ()), ())
    else
      some ((false, ()), ())
  else
    some ((false, ()), ())
noncomputable def f118 (x0 : Ta5) : Bool :=
  bif (f61 x0.1 (1 : Int) (16 : Int)) then
    bif (f145 x0.1) then
      bif (f61 x0.2.1 (1 : Int) (4 : Int)) then
        bif (f61 x0.2.2.1 (4 : Int) (32 : Int)) then
          (f145 x0.2.2.1)
        else
          false
      else
        false
    else
      false
  else
    false
theorem n118 (x0 : Ta5) : g118 x0 = some ((f118 x0, ()), ()) := by
  simp only [g118, f118, pull1]
noncomputable def c118 : Ctr := { ins := [.v Ty47], out := [.bool], F := fun x => some ((f118 x.1, ()), ()) }
theorem v118 : LoopsOk Try.prog Γ t118 a118 (loopsIn (Try.f118.body.getD .skip) 0) := loopsOk_nil (by kernel_rfl)
theorem r118 (x : InsT c118.ins) : fnK Try.prog Γ t118 a118 Try.f118 c118 x = g118 x.1 := by kernel_rfl
theorem k118 : TblOk Try.prog t118 := tblOk_cons o61 (tblOk_cons o145 (tblOk_nil))
theorem o118 : Holds Try.prog 118 c118 := fn_holds (code := Try.f118.body.getD .skip) (by kernel_rfl) gamOk k118 Try.func118 (by kernel_rfl) (by kernel_rfl) (by kernel_rfl) (by kernel_rfl) v118 (fun x _ h => (r118 x).trans ((n118 x.1).trans h))
/-! ### 119: loop.example/g00076/impl.areCosts -/
noncomputable def t119 : Tbl := [(61, [], c61)]
noncomputable def a119 : Nat → Option LoopAnn := fun c => bif Nat.beq c 0 then some (.unroll 7 [1, 17, 18] [1]) else none
noncomputable def g119 (x0 : Ta45) : Option ((Bool × Unit) × Unit) :=
  bif (!(f61 x0.2.1 (0 : Int) (50 : Int))) then
    some ((false, ()), ())
  else
    bif (!(f61 x0.2.2.1 (0 : Int) (50 : Int))) then
      some ((false, ()), ())
    else
      bif (!(f61 x0.2.2.2.1 (0 : Int) (50 : Int))) then
        some ((false, ()), ())
      else
        bif (!(f61 x0.2.2.2.2.1 (0 : Int) (50 : Int))) then
          some ((false, ()), ())
        else
          bif (!(f61 x0.2.2.2.2.2.1 (0 : Int) (50 : Int))) then
            some ((false, ()), ())
          else
            bif (!(f61 x0.2.2.2.2.2.2.1 (0 : Int) (50 : Int))) then
              some ((false, ()), ())
            else
              some (((f61 x0.1 (1 : Int) (20 : Int)), ()), ())
noncomputable def f119 (x0 : Ta45) : Bool :=
  bif (!(f61 x0.2.1 (0 : Int) (50 : Int))) then
    false
  else
    bif (!(f61 x0.2.2.1 (0 : Int) (50 : Int))) then
      false
    else
      bif (!(f61 x0.2.2.2.1 (0 : Int) (50 : Int))) then
        false
      else
        bif (!(f61 x0.2.2.2.2.1 (0 : Int) (50 : Int))) then
          false
        else
          bif (!(f61 x0.2.2.2.2.2.1 (0 : Int) (50 : Int))) then
            false
          else
            bif (!(f61 x0.2.2.2.2.2.2.1 (0 : Int) (50 : Int))) then
              false
            else
              (f61 x0.1 (1 : Int) (20 : Int))
theorem n119 (x0 : Ta45) : g119 x0 = some ((f119 x0, ()), ()) := by
  simp only [g119, f119, pull1]
noncomputable def c119 : Ctr := { ins := [.v Ty85], out := [.bool], F := fun x => some ((f119 x.1, ()), ()) }
noncomputable def l119 : List (Nat × Code) := loopsIn (Try.f119.body.getD .skip) 0
theorem v119 : LoopsOk Try.prog Γ t119 a119 (loopsIn (Try.f119.body.getD .skip) 0) := by
  have e : loopsIn (Try.f119.body.getD .skip) 0 = [(0, (l119.getD 0 (0, .skip)).2)] := by kernel_rfl
  rw [e]
  exact ⟨trivial, trivial⟩
theorem r119 (x : InsT c119.ins) : fnK Try.prog Γ t119 a119 Try.f119 c119 x = g119 x.1 := by kernel_rfl
theorem k119 : TblOk Try.prog t119 := tblOk_cons o61 (tblOk_nil)
theorem o119 : Holds Try.prog 119 c119 := fn_holds (code := Try.f119.body.getD .skip) (by kernel_rfl) gamOk k119 Try.func119 (by kernel_rfl) (by kernel_rfl) (by kernel_rfl) (by kernel_rfl) v119 (fun x _ h => (r119 x).trans ((n119 x.1).trans h))
/-! ### 120: loop.example/g00076/impl.isSpan -/
noncomputable def t120 : Tbl := [(61, [], c61)]
noncomputable def a120 : Nat → Option LoopAnn := fun _ => none
noncomputable def g120 (x0 : Int) : Option ((Bool × Unit) × Unit) :=
  some (((f61 x0 (1 : Int) (5000 : Int)), ()), ())
noncomputable def f120 (x0 : Int) : Bool :=
  (f61 x0 (1 : Int) (5000 : Int))
theorem n120 (x0 : Int) : g120 x0 = some ((f120 x0, ()), ()) := by
  simp only [g120, f120, pull1]
noncomputable def c120 : Ctr := { ins := [.v (.int .i64)], out := [.bool], F := fun x => some ((f120 x.1, ()), ()) }
theorem v120 : LoopsOk Try.prog Γ t120 a120 (loopsIn (Try.f120.body.getD .skip) 0) := loopsOk_nil (by kernel_rfl)
theorem r120 (x : InsT c120.ins) : fnK Try.prog Γ t120 a120 Try.f120 c120 x = g120 x.1 := by kernel_rfl
theorem k120 : TblOk Try.prog t120 := tblOk_cons o61 (tblOk_nil)
theorem o120 : Holds Try.prog 120 c120 := fn_holds (code := Try.f120.body.getD .skip) (by kernel_rfl) gamOk k120 Try.func120 (by kernel_rfl) (by kernel_rfl) (by kernel_rfl) (by kernel_rfl) v120 (fun x _ h => (r120 x).trans ((n120 x.1).trans h))
/-! ### 167: loop.example/g00076/impl.opCost -/
noncomputable def t167 : Tbl := [(61, [], c61)]
noncomputable def a167 : Nat → Option LoopAnn := fun _ => none
noncomputable def g167 (x0 : Ta45) (x1 : Int) : Option ((Int × Unit) × Unit) :=
  bif (x1 == (9 : Int)) then
    some (((wI (x0.1 + x0.2.1)), ()), ())
  else
    bif (x1 == (10 : Int)) then
      some (((wI (x0.1 + x0.2.1)), ()), ())
    else
      bif (f61 x1 (15 : Int) (18 : Int)) then
        some (((wI (x0.1 + x0.2.2.1)), ()), ())
      else
        bif (decide (x1 ≥ (25 : Int))) then
          some (((wI (x0.1 + x0.2.2.2.2.2.1)), ()), ())
        else
          some ((x0.1, ()), ())
noncomputable def f167 (x0 : Ta45) (x1 : Int) : Int :=
  bif (x1 == (9 : Int)) then
    (wI (x0.1 + x0.2.1))
  else
    bif (x1 == (10 : Int)) then
      (wI (x0.1 + x0.2.1))
    else
      bif (f61 x1 (15 : Int) (18 : Int)) then
        (wI (x0.1 + x0.2.2.1))
      else
        bif (decide (x1 ≥ (25 : Int))) then
          (wI (x0.1 + x0.2.2.2.2.2.1))
        else
          x0.1
theorem n167 (x0 : Ta45) (x1 : Int) : g167 x0 x1 = some ((f167 x0 x1, ()), ()) := by
  simp only [g167, f167, pull1]
noncomputable def c167 : Ctr := { ins := [.v Ty85, .v (.int .i64)], out := [(.int .i64)], F := fun x => some ((f167 x.1 x.2.1, ()), ()) }
theorem v167 : LoopsOk Try.prog Γ t167 a167 (loopsIn (Try.f167.body.getD .skip) 0) := loopsOk_nil (by kernel_rfl)
theorem r167 (x : InsT c167.ins) : fnK Try.prog Γ t167 a167 Try.f167 c167 x = g167 x.1 x.2.1 := by kernel_rfl
theorem k167 : TblOk Try.prog t167 := tblOk_cons o61 (tblOk_nil)
theorem o167 : Holds Try.prog 167 c167 := fn_holds (code := Try.f167.body.getD .skip) (by kernel_rfl) gamOk k167 Try.func167 (by kernel_rfl) (by kernel_rfl) (by kernel_rfl) (by kernel_rfl) v167 (fun x _ h => (r167 x).trans ((n167 x.1 x.2.1).trans h))
/-! ### 168: loop.example/g00076/impl.accessCost -/
noncomputable def t168 : Tbl := []
noncomputable def a168 : Nat → Option LoopAnn := fun _ => none
noncomputable def g168 (x0 : Ta45) (x1 : Ta10) : Option ((Int × Unit) × Unit) :=
  bif (!x1.1) then
    bif (!x1.2.1) then
      bif x1.2.2.1 then
        some (((wI ((wI ((wI ((0 : Int) + x0.2.2.2.1)) + x0.2.2.2.2.1)) + x0.2.2.2.2.2.2.1)), ()), ())
      else
        some (((wI ((wI ((0 : Int) + x0.2.2.2.1)) + x0.2.2.2.2.1)), ()), ())
    else
      bif x1.2.2.1 then
        some (((wI ((wI ((0 : Int) + x0.2.2.2.1)) + x0.2.2.2.2.2.2.1)), ()), ())
      else
        some (((wI ((0 : Int) + x0.2.2.2.1)), ()), ())
  else
    bif (!x1.2.1) then
      bif x1.2.2.1 then
        some (((wI ((wI ((0 : Int) + x0.2.2.2.2.1)) + x0.2.2.2.2.2.2.1)), ()), ())
      else
        some (((wI ((0 : Int) + x0.2.2.2.2.1)), ()), ())
    else
      bif x1.2.2.1 then
        some (((wI ((0 : Int) + x0.2.2.2.2.2.2.1)), ()), ())
      else
        some (((0 : Int), ()), ())
noncomputable def f168 (x0 : Ta45) (x1 : Ta10) : Int :=
  bif (!x1.1) then
    bif (!x1.2.1) then
      bif x1.2.2.1 then
        (wI ((wI ((wI ((0 : Int) + x0.2.2.2.1)) + x0.2.2.2.2.1)) + x0.2.2.2.2.2.2.1))
      else
        (wI ((wI ((0 : Int) + x0.2.2.2.1)) + x0.2.2.2.2.1))
    else
      bif x1.2.2.1 then
        (wI ((wI ((0 : Int) + x0.2.2.2.1)) + x0.2.2.2.2.2.2.1))
      else
        (wI ((0 : Int) + x0.2.2.2.1))
  else
    bif (!x1.2.1) then
      bif x1.2.2.1 then
        (wI ((wI ((0 : Int) + x0.2.2.2.2.1)) + x0.2.2.2.2.2.2.1))
      else
        (wI ((0 : Int) + x0.2.2.2.2.1))
    else
      bif x1.2.2.1 then
        (wI ((0 : Int) + x0.2.2.2.2.2.2.1))
      else
        (0 : Int)
theorem n168 (x0 : Ta45) (x1 : Ta10) : g168 x0 x1 = some ((f168 x0 x1, ()), ()) := by
  simp only [g168, f168, pull1]
noncomputable def c168 : Ctr := { ins := [.v Ty85, .v (.pair .bool (.pair .bool (.pair .bool .unit)))], out := [(.int .i64)], F := fun x => some ((f168 x.1 x.2.1, ()), ()) }
theorem v168 : LoopsOk Try.prog Γ t168 a168 (loopsIn (Try.f168.body.getD .skip) 0) := loopsOk_nil (by kernel_rfl)
theorem r168 (x : InsT c168.ins) : fnK Try.prog Γ t168 a168 Try.f168 c168 x = g168 x.1 x.2.1 := by kernel_rfl
theorem k168 : TblOk Try.prog t168 := tblOk_nil
theorem o168 : Holds Try.prog 168 c168 := fn_holds (code := Try.f168.body.getD .skip) (by kernel_rfl) gamOk k168 Try.func168 (by kernel_rfl) (by kernel_rfl) (by kernel_rfl) (by kernel_rfl) v168 (fun x _ h => (r168 x).trans ((n168 x.1 x.2.1).trans h))
/-! ### 146: loop.example/g00076/impl.WorstStep -/
noncomputable def t146 : Tbl := [(119, [], c119), (167, [], c167), (168, [], c168)]
abbrev h146_L0 : Shape := { slots := [(1, .bx 1 0), (3, .v (.int .i64)), (8, .v (.int .i64))], boxes := [(1, .typ Ty85)] }
abbrev e146_L0 : List (XT × Shape) := [(.exit 0, { slots := [(1, .bx 1 0), (3, .v (.int .i64))], boxes := [(1, .typ Ty85)] })]
noncomputable def q146_L0 (t3 : Int) (t8 : Int) (b1 : Ta45) : Option (Ta77 ⊕ (Ta73 ⊕ Empty)) :=
  bif (decide (t8 < (33 : Int))) then
    some (.inl (((), ((if (f167 b1 t8) > t3 then (f167 b1 t8) else t3), ((wI (t8 + (1 : Int))), ()))), (b1, ())))
  else
    some (.inr (.inl (((), (t3, ())), (b1, ()))))
noncomputable def s146_L0 (x : Ta77) : Option (Ta77 ⊕ (Ta73 ⊕ Empty)) := q146_L0 x.1.2.1 x.1.2.2.1 x.2.1
noncomputable def a146 : Nat → Option LoopAnn := fun c => bif Nat.beq c 0 then some (.fix h146_L0 e146_L0 s146_L0) else none
noncomputable def g146 (x0 : Ta45) : Option ((Int × Unit) × Unit) :=
  bif (!(f119 x0)) then
    some (((-1 : Int), ()), ())
  else
    (fixO s146_L0 (((), ((0 : Int), ((0 : Int), ()))), (x0, ()))).bind fun d2 => match d2 with
    | .inl y1 =>
      some (((wI ((wI (y1.1.2.1 + (wI ((2 : Int) * (f168 y1.2.1 (false, (false, (true, ())))))))) + y1.2.1.2.2.2.2.2.1)), ()), ())
    | .inr e => nomatch e
noncomputable def c146 : Ctr := { ins := [.v Ty85], out := [(.int .i64)], F := fun x => g146 x.1 }
noncomputable def l146 : List (Nat × Code) := loopsIn (Try.f146.body.getD .skip) 0
theorem w146_L0 (x : h146_L0.T) : runK Try.prog Γ t146 a146 (l146.getD 0 (0, .skip)).2 0 (pkSh h146_L0 x) (loopCls (sh := h146_L0) (es := e146_L0)) = (s146_L0 x : Option _) := by kernel_rfl
theorem v146 : LoopsOk Try.prog Γ t146 a146 (loopsIn (Try.f146.body.getD .skip) 0) := by
  have e : loopsIn (Try.f146.body.getD .skip) 0 = [(0, (l146.getD 0 (0, .skip)).2)] := by kernel_rfl
  rw [e]
  exact ⟨fun x d h => (w146_L0 x).trans h, trivial⟩
theorem r146 (x : InsT c146.ins) : fnK Try.prog Γ t146 a146 Try.f146 c146 x = g146 x.1 := by kernel_rfl
theorem k146 : TblOk Try.prog t146 := tblOk_cons o119 (tblOk_cons o167 (tblOk_cons o168 (tblOk_nil)))
theorem o146 : Holds Try.prog 146 c146 := fn_holds (code := Try.f146.body.getD .skip) (by kernel_rfl) gamOk k146 Try.func146 (by kernel_rfl) (by kernel_rfl) (by kernel_rfl) (by kernel_rfl) v146 (fun x _ h => (r146 x).trans h)
/-! ### 121: loop.example/g00076/impl.worstStep -/
noncomputable def t121 : Tbl := [(146, [], c146)]
noncomputable def a121 : Nat → Option LoopAnn := fun _ => none
noncomputable def g121 (x0 : Ta45) : Option ((Int × Unit) × Unit) :=
  (g146 x0).bind fun y1 =>
    some ((y1.1.1, ()), ())
noncomputable def c121 : Ctr := { ins := [.v Ty85], out := [(.int .i64)], F := fun x => g121 x.1 }
theorem v121 : LoopsOk Try.prog Γ t121 a121 (loopsIn (Try.f121.body.getD .skip) 0) := loopsOk_nil (by kernel_rfl)
theorem r121 (x : InsT c121.ins) : fnK Try.prog Γ t121 a121 Try.f121 c121 x = g121 x.1 := by kernel_rfl
theorem k121 : TblOk Try.prog t121 := tblOk_cons o146 (tblOk_nil)
theorem o121 : Holds Try.prog 121 c121 := fn_holds (code := Try.f121.body.getD .skip) (by kernel_rfl) gamOk k121 Try.func121 (by kernel_rfl) (by kernel_rfl) (by kernel_rfl) (by kernel_rfl) v121 (fun x _ h => (r121 x).trans h)
/-! ### 169: loop.example/g00076/impl.isLabel -/
noncomputable def t169 : Tbl := [(61, [], c61)]
abbrev h169_L0 : Shape := { slots := [(0, .v .str), (5, .v (.int .i64)), (6, .v (.int .i64))], boxes := [] }
abbrev e169_L0 : List (XT × Shape) := [(.ret, { slots := [(2, .v .bool)], boxes := [] }), (.exit 0, { slots := [(0, .v .str)], boxes := [] })]
noncomputable def q169_L0 (t0 : ByteArray) (t5 : Int) (t6 : Int) : Option (Ta28 ⊕ (((Bool × Unit) × Unit) ⊕ (Ta4 ⊕ Empty))) :=
  bif (decide (t6 < t5)) then
    bif (decide (0 ≤ t6) && decide (t6 < t0.size)) then
      bif (decide ((bt t0 t6) < (97 : Int))) then
        some (.inr (.inl ((false, ()), ())))
      else
        bif (decide (0 ≤ t6) && decide (t6 < t0.size)) then
          bif (decide ((bt t0 t6) > (122 : Int))) then
            some (.inr (.inl ((false, ()), ())))
          else
            some (.inl ((t0, (t5, ((wI (t6 + (1 : Int))), ()))), ()))
        else
          none
    else
      none
  else
    some (.inr (.inr (.inl ((t0, ()), ()))))
noncomputable def s169_L0 (x : Ta28) : Option (Ta28 ⊕ (((Bool × Unit) × Unit) ⊕ (Ta4 ⊕ Empty))) := q169_L0 x.1.1 x.1.2.1 x.1.2.2.1
noncomputable def a169 : Nat → Option LoopAnn := fun c => bif Nat.beq c 0 then some (.fix h169_L0 e169_L0 s169_L0) else none
noncomputable def g169 (x0 : ByteArray) : Option ((Bool × Unit) × Unit) :=
  (fixO s169_L0 ((x0, ((x0.size : Int), ((0 : Int), ()))), ())).bind fun d2 => match d2 with
  | .inl y1 =>
    some ((y1.1.1, ()), ())
  | .inr (.inl y1) =>
    some (((f61 (y1.1.1.size : Int) (1 : Int) (12 : Int)), ()), ())
  | .inr (.inr e) => nomatch e
noncomputable def c169 : Ctr := { ins := [.v .str], out := [.bool], F := fun x => g169 x.1 }
noncomputable def l169 : List (Nat × Code) := loopsIn (Try.f169.body.getD .skip) 0
theorem w169_L0 (x : h169_L0.T) : runK Try.prog Γ t169 a169 (l169.getD 0 (0, .skip)).2 0 (pkSh h169_L0 x) (loopCls (sh := h169_L0) (es := e169_L0)) = (s169_L0 x : Option _) := by kernel_rfl
theorem v169 : LoopsOk Try.prog Γ t169 a169 (loopsIn (Try.f169.body.getD .skip) 0) := by
  have e : loopsIn (Try.f169.body.getD .skip) 0 = [(0, (l169.getD 0 (0, .skip)).2)] := by kernel_rfl
  rw [e]
  exact ⟨fun x d h => (w169_L0 x).trans h, trivial⟩
theorem r169 (x : InsT c169.ins) : fnK Try.prog Γ t169 a169 Try.f169 c169 x = g169 x.1 := by kernel_rfl
theorem k169 : TblOk Try.prog t169 := tblOk_cons o61 (tblOk_nil)
theorem o169 : Holds Try.prog 169 c169 := fn_holds (code := Try.f169.body.getD .skip) (by kernel_rfl) gamOk k169 Try.func169 (by kernel_rfl) (by kernel_rfl) (by kernel_rfl) (by kernel_rfl) v169 (fun x _ h => (r169 x).trans h)
/-! ### 147: loop.example/g00076/impl.isName -/
noncomputable def t147 : Tbl := [(169, [], c169)]
noncomputable def a147 : Nat → Option LoopAnn := fun _ => none
noncomputable def g147 (x0 : ByteArray) : Option ((Bool × Unit) × Unit) :=
  (g169 x0).bind fun y1 =>
    bif y1.1.1 then
      some (((decide ((x0.size : Int) ≤ (8 : Int))), ()), ())
    else
      some ((false, ()), ())
noncomputable def c147 : Ctr := { ins := [.v .str], out := [.bool], F := fun x => g147 x.1 }
theorem v147 : LoopsOk Try.prog Γ t147 a147 (loopsIn (Try.f147.body.getD .skip) 0) := loopsOk_nil (by kernel_rfl)
theorem r147 (x : InsT c147.ins) : fnK Try.prog Γ t147 a147 Try.f147 c147 x = g147 x.1 := by kernel_rfl
theorem k147 : TblOk Try.prog t147 := tblOk_cons o169 (tblOk_nil)
theorem o147 : Holds Try.prog 147 c147 := fn_holds (code := Try.f147.body.getD .skip) (by kernel_rfl) gamOk k147 Try.func147 (by kernel_rfl) (by kernel_rfl) (by kernel_rfl) (by kernel_rfl) v147 (fun x _ h => (r147 x).trans h)
/-! ### 171: loop.example/g00076/impl.partNamed$1 -/
noncomputable def t171 : Tbl := []
noncomputable def a171 : Nat → Option LoopAnn := fun _ => none
noncomputable def g171 (x0 : Ta69) (x1 : ByteArray) : Option ((Bool × Unit) × Unit) :=
  some (((strEq x0.1 x1), ()), ())
noncomputable def f171 (x0 : Ta69) (x1 : ByteArray) : Bool :=
  (strEq x0.1 x1)
theorem n171 (x0 : Ta69) (x1 : ByteArray) : g171 x0 x1 = some ((f171 x0 x1, ()), ()) := by
  simp only [g171, f171, pull1]
noncomputable def c171 : Ctr := { ins := [.v Ty95, .rf .str], out := [.bool], F := fun x => some ((f171 x.1 x.2.1, ()), ()) }
theorem v171 : LoopsOk Try.prog Γ t171 a171 (loopsIn (Try.f171.body.getD .skip) 0) := loopsOk_nil (by kernel_rfl)
theorem r171 (x : InsT c171.ins) : fnK Try.prog Γ t171 a171 Try.f171 c171 x = g171 x.1 x.2.1 := by kernel_rfl
theorem k171 : TblOk Try.prog t171 := tblOk_nil
theorem o171 : Holds Try.prog 171 c171 := fn_holds (code := Try.f171.body.getD .skip) (by kernel_rfl) gamOk k171 Try.func171 (by kernel_rfl) (by kernel_rfl) (by kernel_rfl) (by kernel_rfl) v171 (fun x _ h => (r171 x).trans ((n171 x.1 x.2.1).trans h))
/-! ### 170: slices.IndexFunc[[]loop.example/g00076/impl.PartRow,loop.example/g00076/impl.PartRow] -/
noncomputable def t170_171 : Tbl := [(171, [], c171)]
abbrev h170_171_L0 : Shape := { slots := [(0, .v Ty96), (1, .clo 171 [.str]), (7, .v (.int .i64)), (8, .v (.int .i64))], boxes := [] }
abbrev e170_171_L0 : List (XT × Shape) := [(.ret, { slots := [(4, .v (.int .i64))], boxes := [] }), (.exit 0, { slots := [], boxes := [] })]
noncomputable def q170_171_L0 (t0 : Ta72) (t1 : (ByteArray × Unit)) (t7 : Int) (t8 : Int) : Option (Ta88 ⊕ (((Int × Unit) × Unit) ⊕ ((Unit × Unit) ⊕ Empty))) :=
  bif (decide (t8 < t7)) then
    bif (decide (0 ≤ t8) && decide (t8 < (t0.len : Int))) then
      bif (f171 (L.get t0 t8.toNat) t1.1) then
        some (.inr (.inl ((t8, ()), ())))
      else
        some (.inl ((t0, (t1, (t7, ((wI (t8 + (1 : Int))), ())))), ()))
    else
      none
  else
    some (.inr (.inr (.inl ((), ()))))
noncomputable def s170_171_L0 (x : Ta88) : Option (Ta88 ⊕ (((Int × Unit) × Unit) ⊕ ((Unit × Unit) ⊕ Empty))) := q170_171_L0 x.1.1 x.1.2.1 x.1.2.2.1 x.1.2.2.2.1
noncomputable def a170_171 : Nat → Option LoopAnn := fun c => bif Nat.beq c 0 then some (.fix h170_171_L0 e170_171_L0 s170_171_L0) else none
noncomputable def g170_171 (x0 : Ta72) (x1 : (ByteArray × Unit)) : Option ((Int × Unit) × Unit) :=
  (fixO s170_171_L0 ((x0, (x1, ((x0.len : Int), ((0 : Int), ())))), ())).bind fun d2 => match d2 with
  | .inl y1 =>
    some ((y1.1.1, ()), ())
  | .inr (.inl y1) =>
    some (((-1 : Int), ()), ())
  | .inr (.inr e) => nomatch e
noncomputable def c170_171 : Ctr := { ins := [.v Ty96, .clo 171 [.str]], out := [(.int .i64)], F := fun x => g170_171 x.1 x.2.1 }
noncomputable def l170_171 : List (Nat × Code) := loopsIn (Try.f170.body.getD .skip) 0
theorem w170_171_L0 (x : h170_171_L0.T) : runK Try.prog Γ t170_171 a170_171 (l170_171.getD 0 (0, .skip)).2 0 (pkSh h170_171_L0 x) (loopCls (sh := h170_171_L0) (es := e170_171_L0)) = (s170_171_L0 x : Option _) := by kernel_rfl
theorem v170_171 : LoopsOk Try.prog Γ t170_171 a170_171 (loopsIn (Try.f170.body.getD .skip) 0) := by
  have e : loopsIn (Try.f170.body.getD .skip) 0 = [(0, (l170_171.getD 0 (0, .skip)).2)] := by kernel_rfl
  rw [e]
  exact ⟨fun x d h => (w170_171_L0 x).trans h, trivial⟩
theorem r170_171 (x : InsT c170_171.ins) : fnK Try.prog Γ t170_171 a170_171 Try.f170 c170_171 x = g170_171 x.1 x.2.1 := by kernel_rfl
theorem k170_171 : TblOk Try.prog t170_171 := tblOk_cons o171 (tblOk_nil)
theorem o170_171 : Holds Try.prog 170 c170_171 := fn_holds (code := Try.f170.body.getD .skip) (by kernel_rfl) gamOk k170_171 Try.func170 (by kernel_rfl) (by kernel_rfl) (by kernel_rfl) (by kernel_rfl) v170_171 (fun x _ h => (r170_171 x).trans h)
/-! ### 148: loop.example/g00076/impl.partNamed -/
noncomputable def t148 : Tbl := [(170, [171], c170_171)]
noncomputable def a148 : Nat → Option LoopAnn := fun _ => none
noncomputable def g148 (x0 : Ta122) (x1 : ByteArray) : Option ((Int × Unit) × Unit) :=
  (g170_171 x0.2.2.2.2.2.2.2.1 (x1, ())).bind fun y1 =>
    some ((y1.1.1, ()), ())
noncomputable def c148 : Ctr := { ins := [.v Ty144, .v .str], out := [(.int .i64)], F := fun x => g148 x.1 x.2.1 }
theorem v148 : LoopsOk Try.prog Γ t148 a148 (loopsIn (Try.f148.body.getD .skip) 0) := loopsOk_nil (by kernel_rfl)
theorem r148 (x : InsT c148.ins) : fnK Try.prog Γ t148 a148 Try.f148 c148 x = g148 x.1 x.2.1 := by kernel_rfl
theorem k148 : TblOk Try.prog t148 := tblOk_cons o170_171 (tblOk_nil)
theorem o148 : Holds Try.prog 148 c148 := fn_holds (code := Try.f148.body.getD .skip) (by kernel_rfl) gamOk k148 Try.func148 (by kernel_rfl) (by kernel_rfl) (by kernel_rfl) (by kernel_rfl) v148 (fun x _ h => (r148 x).trans h)
/-! ### 149: loop.example/g00076/impl.isPolicy -/
noncomputable def t149 : Tbl := [(61, [], c61)]
noncomputable def a149 : Nat → Option LoopAnn := fun _ => none
noncomputable def g149 (x0 : (Int × (Int × Unit))) : Option ((Bool × Unit) × Unit) :=
  bif (x0.1 == (1 : Int)) then
    some (((f61 x0.2.1 (0 : Int) (100 : Int)), ()), ())
  else
    bif (x0.1 == (0 : Int)) then
      some (((x0.2.1 == (0 : Int)), ()), ())
    else
      bif (x0.1 == (2 : Int)) then
        some (((x0.2.1 == (0 : Int)), ()), ())
      else
        some ((false, ()), ())
noncomputable def f149 (x0 : (Int × (Int × Unit))) : Bool :=
  bif (x0.1 == (1 : Int)) then
    (f61 x0.2.1 (0 : Int) (100 : Int))
  else
    bif (x0.1 == (0 : Int)) then
      (x0.2.1 == (0 : Int))
    else
      bif (x0.1 == (2 : Int)) then
        (x0.2.1 == (0 : Int))
      else
        false
theorem n149 (x0 : (Int × (Int × Unit))) : g149 x0 = some ((f149 x0, ()), ()) := by
  simp only [g149, f149, pull1]
noncomputable def c149 : Ctr := { ins := [.v Ty31], out := [.bool], F := fun x => some ((f149 x.1, ()), ()) }
theorem v149 : LoopsOk Try.prog Γ t149 a149 (loopsIn (Try.f149.body.getD .skip) 0) := loopsOk_nil (by kernel_rfl)
theorem r149 (x : InsT c149.ins) : fnK Try.prog Γ t149 a149 Try.f149 c149 x = g149 x.1 := by kernel_rfl
theorem k149 : TblOk Try.prog t149 := tblOk_cons o61 (tblOk_nil)
theorem o149 : Holds Try.prog 149 c149 := fn_holds (code := Try.f149.body.getD .skip) (by kernel_rfl) gamOk k149 Try.func149 (by kernel_rfl) (by kernel_rfl) (by kernel_rfl) (by kernel_rfl) v149 (fun x _ h => (r149 x).trans ((n149 x.1).trans h))
/-! ### 150: loop.example/g00076/impl.isWindow -/
noncomputable def t150 : Tbl := [(61, [], c61)]
noncomputable def a150 : Nat → Option LoopAnn := fun _ => none
noncomputable def g150 (x0 : Ta5) : Option ((Bool × Unit) × Unit) :=
  bif (f61 x0.2.1 (4 : Int) (2048 : Int)) then
    bif ((Int.tmod x0.2.1 (4 : Int)) == (0 : Int)) then
      bif (f61 x0.1 (0 : Int) (wI ((2048 : Int) - x0.2.1))) then
        bif ((Int.tmod x0.1 (4 : Int)) == (0 : Int)) then
          some (((f61 x0.2.2.1 (1 : Int) (7 : Int)), ()), ())
        else
          some ((false, ()), ())
      else
        some ((false, ()), ())
    else
      some ((false, ()), ())
  else
    some ((false, ()), ())
noncomputable def f150 (x0 : Ta5) : Bool :=
  bif (f61 x0.2.1 (4 : Int) (2048 : Int)) then
    bif ((Int.tmod x0.2.1 (4 : Int)) == (0 : Int)) then
      bif (f61 x0.1 (0 : Int) (wI ((2048 : Int) - x0.2.1))) then
        bif ((Int.tmod x0.1 (4 : Int)) == (0 : Int)) then
          (f61 x0.2.2.1 (1 : Int) (7 : Int))
        else
          false
      else
        false
    else
      false
  else
    false
theorem n150 (x0 : Ta5) : g150 x0 = some ((f150 x0, ()), ()) := by
  simp only [g150, f150, pull1]
noncomputable def c150 : Ctr := { ins := [.v Ty47], out := [.bool], F := fun x => some ((f150 x.1, ()), ()) }
theorem v150 : LoopsOk Try.prog Γ t150 a150 (loopsIn (Try.f150.body.getD .skip) 0) := loopsOk_nil (by kernel_rfl)
theorem r150 (x : InsT c150.ins) : fnK Try.prog Γ t150 a150 Try.f150 c150 x = g150 x.1 := by kernel_rfl
theorem k150 : TblOk Try.prog t150 := tblOk_cons o61 (tblOk_nil)
theorem o150 : Holds Try.prog 150 c150 := fn_holds (code := Try.f150.body.getD .skip) (by kernel_rfl) gamOk k150 Try.func150 (by kernel_rfl) (by kernel_rfl) (by kernel_rfl) (by kernel_rfl) v150 (fun x _ h => (r150 x).trans ((n150 x.1).trans h))
/-! ### 153: loop.example/g00076/impl.areApart -/
noncomputable def t153 : Tbl := []
noncomputable def a153 : Nat → Option LoopAnn := fun _ => none
noncomputable def g153 (x0 : Ta5) (x1 : Ta5) : Option ((Bool × Unit) × Unit) :=
  bif (decide ((wI (x0.1 + x0.2.1)) ≤ x1.1)) then
    some ((true, ()), ())
  else
    some (((decide ((wI (x1.1 + x1.2.1)) ≤ x0.1)), ()), ())
noncomputable def f153 (x0 : Ta5) (x1 : Ta5) : Bool :=
  bif (decide ((wI (x0.1 + x0.2.1)) ≤ x1.1)) then
    true
  else
    (decide ((wI (x1.1 + x1.2.1)) ≤ x0.1))
theorem n153 (x0 : Ta5) (x1 : Ta5) : g153 x0 x1 = some ((f153 x0 x1, ()), ()) := by
  simp only [g153, f153, pull1]
noncomputable def c153 : Ctr := { ins := [.v Ty47, .v Ty47], out := [.bool], F := fun x => some ((f153 x.1 x.2.1, ()), ()) }
theorem v153 : LoopsOk Try.prog Γ t153 a153 (loopsIn (Try.f153.body.getD .skip) 0) := loopsOk_nil (by kernel_rfl)
theorem r153 (x : InsT c153.ins) : fnK Try.prog Γ t153 a153 Try.f153 c153 x = g153 x.1 x.2.1 := by kernel_rfl
theorem k153 : TblOk Try.prog t153 := tblOk_nil
theorem o153 : Holds Try.prog 153 c153 := fn_holds (code := Try.f153.body.getD .skip) (by kernel_rfl) gamOk k153 Try.func153 (by kernel_rfl) (by kernel_rfl) (by kernel_rfl) (by kernel_rfl) v153 (fun x _ h => (r153 x).trans ((n153 x.1 x.2.1).trans h))
/-! ### 152: loop.example/g00076/impl.areParts$1 -/
noncomputable def t152 : Tbl := [(153, [], c153)]
noncomputable def a152 : Nat → Option LoopAnn := fun _ => none
noncomputable def g152 (x0 : Ta5) (x1 : Ta5) : Option ((Bool × Unit) × Unit) :=
  some (((!(f153 x0 x1)), ()), ())
noncomputable def f152 (x0 : Ta5) (x1 : Ta5) : Bool :=
  (!(f153 x0 x1))
theorem n152 (x0 : Ta5) (x1 : Ta5) : g152 x0 x1 = some ((f152 x0 x1, ()), ()) := by
  simp only [g152, f152, pull1]
noncomputable def c152 : Ctr := { ins := [.v Ty47, .rf Ty47], out := [.bool], F := fun x => some ((f152 x.1 x.2.1, ()), ()) }
theorem v152 : LoopsOk Try.prog Γ t152 a152 (loopsIn (Try.f152.body.getD .skip) 0) := loopsOk_nil (by kernel_rfl)
theorem r152 (x : InsT c152.ins) : fnK Try.prog Γ t152 a152 Try.f152 c152 x = g152 x.1 x.2.1 := by kernel_rfl
theorem k152 : TblOk Try.prog t152 := tblOk_cons o153 (tblOk_nil)
theorem o152 : Holds Try.prog 152 c152 := fn_holds (code := Try.f152.body.getD .skip) (by kernel_rfl) gamOk k152 Try.func152 (by kernel_rfl) (by kernel_rfl) (by kernel_rfl) (by kernel_rfl) v152 (fun x _ h => (r152 x).trans ((n152 x.1 x.2.1).trans h))
/-! ### 172: slices.IndexFunc[[]loop.example/g00076/impl.Window,loop.example/g00076/impl.Window] -/
noncomputable def t172_152 : Tbl := [(152, [], c152)]
abbrev h172_152_L0 : Shape := { slots := [(0, .v Ty54), (1, .clo 152 [Ty47]), (7, .v (.int .i64)), (8, .v (.int .i64))], boxes := [] }
abbrev e172_152_L0 : List (XT × Shape) := [(.ret, { slots := [(4, .v (.int .i64))], boxes := [] }), (.exit 0, { slots := [], boxes := [] })]
noncomputable def q172_152_L0 (t0 : Ta12) (t1 : Ta17) (t7 : Int) (t8 : Int) : Option (Ta79 ⊕ (((Int × Unit) × Unit) ⊕ ((Unit × Unit) ⊕ Empty))) :=
  bif (decide (t8 < t7)) then
    bif (decide (0 ≤ t8) && decide (t8 < (t0.len : Int))) then
      bif (f152 (L.get t0 t8.toNat) t1.1) then
        some (.inr (.inl ((t8, ()), ())))
      else
        some (.inl ((t0, (t1, (t7, ((wI (t8 + (1 : Int))), ())))), ()))
    else
      none
  else
    some (.inr (.inr (.inl ((), ()))))
noncomputable def s172_152_L0 (x : Ta79) : Option (Ta79 ⊕ (((Int × Unit) × Unit) ⊕ ((Unit × Unit) ⊕ Empty))) := q172_152_L0 x.1.1 x.1.2.1 x.1.2.2.1 x.1.2.2.2.1
noncomputable def a172_152 : Nat → Option LoopAnn := fun c => bif Nat.beq c 0 then some (.fix h172_152_L0 e172_152_L0 s172_152_L0) else none
noncomputable def g172_152 (x0 : Ta12) (x1 : Ta17) : Option ((Int × Unit) × Unit) :=
  (fixO s172_152_L0 ((x0, (x1, ((x0.len : Int), ((0 : Int), ())))), ())).bind fun d2 => match d2 with
  | .inl y1 =>
    some ((y1.1.1, ()), ())
  | .inr (.inl y1) =>
    some (((-1 : Int), ()), ())
  | .inr (.inr e) => nomatch e
noncomputable def c172_152 : Ctr := { ins := [.v Ty54, .clo 152 [Ty47]], out := [(.int .i64)], F := fun x => g172_152 x.1 x.2.1 }
noncomputable def l172_152 : List (Nat × Code) := loopsIn (Try.f172.body.getD .skip) 0
theorem w172_152_L0 (x : h172_152_L0.T) : runK Try.prog Γ t172_152 a172_152 (l172_152.getD 0 (0, .skip)).2 0 (pkSh h172_152_L0 x) (loopCls (sh := h172_152_L0) (es := e172_152_L0)) = (s172_152_L0 x : Option _) := by kernel_rfl
theorem v172_152 : LoopsOk Try.prog Γ t172_152 a172_152 (loopsIn (Try.f172.body.getD .skip) 0) := by
  have e : loopsIn (Try.f172.body.getD .skip) 0 = [(0, (l172_152.getD 0 (0, .skip)).2)] := by kernel_rfl
  rw [e]
  exact ⟨fun x d h => (w172_152_L0 x).trans h, trivial⟩
theorem r172_152 (x : InsT c172_152.ins) : fnK Try.prog Γ t172_152 a172_152 Try.f172 c172_152 x = g172_152 x.1 x.2.1 := by kernel_rfl
theorem k172_152 : TblOk Try.prog t172_152 := tblOk_cons o152 (tblOk_nil)
theorem o172_152 : Holds Try.prog 172 c172_152 := fn_holds (code := Try.f172.body.getD .skip) (by kernel_rfl) gamOk k172_152 Try.func172 (by kernel_rfl) (by kernel_rfl) (by kernel_rfl) (by kernel_rfl) v172_152 (fun x _ h => (r172_152 x).trans h)
/-! ### 151: slices.ContainsFunc[[]loop.example/g00076/impl.Window,loop.example/g00076/impl.Window] -/
noncomputable def t151_152 : Tbl := [(172, [152], c172_152)]
noncomputable def a151_152 : Nat → Option LoopAnn := fun _ => none
noncomputable def g151_152 (x0 : Ta12) (x1 : Ta17) : Option ((Bool × Unit) × Unit) :=
  (g172_152 x0 x1).bind fun y1 =>
    some (((decide (y1.1.1 ≥ (0 : Int))), ()), ())
noncomputable def c151_152 : Ctr := { ins := [.v Ty54, .clo 152 [Ty47]], out := [.bool], F := fun x => g151_152 x.1 x.2.1 }
theorem v151_152 : LoopsOk Try.prog Γ t151_152 a151_152 (loopsIn (Try.f151.body.getD .skip) 0) := loopsOk_nil (by kernel_rfl)
theorem r151_152 (x : InsT c151_152.ins) : fnK Try.prog Γ t151_152 a151_152 Try.f151 c151_152 x = g151_152 x.1 x.2.1 := by kernel_rfl
theorem k151_152 : TblOk Try.prog t151_152 := tblOk_cons o172_152 (tblOk_nil)
theorem o151_152 : Holds Try.prog 151 c151_152 := fn_holds (code := Try.f151.body.getD .skip) (by kernel_rfl) gamOk k151_152 Try.func151 (by kernel_rfl) (by kernel_rfl) (by kernel_rfl) (by kernel_rfl) v151_152 (fun x _ h => (r151_152 x).trans h)
/-! ### 176: loop.example/g00076/impl.windowAt$1 -/
noncomputable def t176 : Tbl := []
noncomputable def a176 : Nat → Option LoopAnn := fun _ => none
noncomputable def g176 (x0 : Ta5) (x1 : Int) : Option ((Bool × Unit) × Unit) :=
  bif (decide (x0.1 ≤ x1)) then
    some (((decide (x1 < (wI (x0.1 + x0.2.1)))), ()), ())
  else
    some ((false, ()), ())
noncomputable def f176 (x0 : Ta5) (x1 : Int) : Bool :=
  bif (decide (x0.1 ≤ x1)) then
    (decide (x1 < (wI (x0.1 + x0.2.1))))
  else
    false
theorem n176 (x0 : Ta5) (x1 : Int) : g176 x0 x1 = some ((f176 x0 x1, ()), ()) := by
  simp only [g176, f176, pull1]
noncomputable def c176 : Ctr := { ins := [.v Ty47, .rf (.int .i64)], out := [.bool], F := fun x => some ((f176 x.1 x.2.1, ()), ()) }
theorem v176 : LoopsOk Try.prog Γ t176 a176 (loopsIn (Try.f176.body.getD .skip) 0) := loopsOk_nil (by kernel_rfl)
theorem r176 (x : InsT c176.ins) : fnK Try.prog Γ t176 a176 Try.f176 c176 x = g176 x.1 x.2.1 := by kernel_rfl
theorem k176 : TblOk Try.prog t176 := tblOk_nil
theorem o176 : Holds Try.prog 176 c176 := fn_holds (code := Try.f176.body.getD .skip) (by kernel_rfl) gamOk k176 Try.func176 (by kernel_rfl) (by kernel_rfl) (by kernel_rfl) (by kernel_rfl) v176 (fun x _ h => (r176 x).trans ((n176 x.1 x.2.1).trans h))
/-! ### 172: slices.IndexFunc[[]loop.example/g00076/impl.Window,loop.example/g00076/impl.Window] -/
noncomputable def t172_176 : Tbl := [(176, [], c176)]
abbrev h172_176_L0 : Shape := { slots := [(0, .v Ty54), (1, .clo 176 [(.int .i64)]), (7, .v (.int .i64)), (8, .v (.int .i64))], boxes := [] }
abbrev e172_176_L0 : List (XT × Shape) := [(.ret, { slots := [(4, .v (.int .i64))], boxes := [] }), (.exit 0, { slots := [], boxes := [] })]
noncomputable def q172_176_L0 (t0 : Ta12) (t1 : (Int × Unit)) (t7 : Int) (t8 : Int) : Option (Ta65 ⊕ (((Int × Unit) × Unit) ⊕ ((Unit × Unit) ⊕ Empty))) :=
  bif (decide (t8 < t7)) then
    bif (decide (0 ≤ t8) && decide (t8 < (t0.len : Int))) then
      bif (f176 (L.get t0 t8.toNat) t1.1) then
        some (.inr (.inl ((t8, ()), ())))
      else
        some (.inl ((t0, (t1, (t7, ((wI (t8 + (1 : Int))), ())))), ()))
    else
      none
  else
    some (.inr (.inr (.inl ((), ()))))
noncomputable def s172_176_L0 (x : Ta65) : Option (Ta65 ⊕ (((Int × Unit) × Unit) ⊕ ((Unit × Unit) ⊕ Empty))) := q172_176_L0 x.1.1 x.1.2.1 x.1.2.2.1 x.1.2.2.2.1
noncomputable def a172_176 : Nat → Option LoopAnn := fun c => bif Nat.beq c 0 then some (.fix h172_176_L0 e172_176_L0 s172_176_L0) else none
noncomputable def g172_176 (x0 : Ta12) (x1 : (Int × Unit)) : Option ((Int × Unit) × Unit) :=
  (fixO s172_176_L0 ((x0, (x1, ((x0.len : Int), ((0 : Int), ())))), ())).bind fun d2 => match d2 with
  | .inl y1 =>
    some ((y1.1.1, ()), ())
  | .inr (.inl y1) =>
    some (((-1 : Int), ()), ())
  | .inr (.inr e) => nomatch e
noncomputable def c172_176 : Ctr := { ins := [.v Ty54, .clo 176 [(.int .i64)]], out := [(.int .i64)], F := fun x => g172_176 x.1 x.2.1 }
noncomputable def l172_176 : List (Nat × Code) := loopsIn (Try.f172.body.getD .skip) 0
theorem w172_176_L0 (x : h172_176_L0.T) : runK Try.prog Γ t172_176 a172_176 (l172_176.getD 0 (0, .skip)).2 0 (pkSh h172_176_L0 x) (loopCls (sh := h172_176_L0) (es := e172_176_L0)) = (s172_176_L0 x : Option _) := by kernel_rfl
theorem v172_176 : LoopsOk Try.prog Γ t172_176 a172_176 (loopsIn (Try.f172.body.getD .skip) 0) := by
  have e : loopsIn (Try.f172.body.getD .skip) 0 = [(0, (l172_176.getD 0 (0, .skip)).2)] := by kernel_rfl
  rw [e]
  exact ⟨fun x d h => (w172_176_L0 x).trans h, trivial⟩
theorem r172_176 (x : InsT c172_176.ins) : fnK Try.prog Γ t172_176 a172_176 Try.f172 c172_176 x = g172_176 x.1 x.2.1 := by kernel_rfl
theorem k172_176 : TblOk Try.prog t172_176 := tblOk_cons o176 (tblOk_nil)
theorem o172_176 : Holds Try.prog 172 c172_176 := fn_holds (code := Try.f172.body.getD .skip) (by kernel_rfl) gamOk k172_176 Try.func172 (by kernel_rfl) (by kernel_rfl) (by kernel_rfl) (by kernel_rfl) v172_176 (fun x _ h => (r172_176 x).trans h)
/-! ### 173: loop.example/g00076/impl.windowAt -/
noncomputable def t173 : Tbl := [(172, [176], c172_176)]
noncomputable def a173 : Nat → Option LoopAnn := fun _ => none
noncomputable def g173 (x0 : Ta12) (x1 : Int) : Option ((Int × Unit) × Unit) :=
  (g172_176 x0 (x1, ())).bind fun y1 =>
    some ((y1.1.1, ()), ())
noncomputable def c173 : Ctr := { ins := [.v Ty54, .v (.int .i64)], out := [(.int .i64)], F := fun x => g173 x.1 x.2.1 }
theorem v173 : LoopsOk Try.prog Γ t173 a173 (loopsIn (Try.f173.body.getD .skip) 0) := loopsOk_nil (by kernel_rfl)
theorem r173 (x : InsT c173.ins) : fnK Try.prog Γ t173 a173 Try.f173 c173 x = g173 x.1 x.2.1 := by kernel_rfl
theorem k173 : TblOk Try.prog t173 := tblOk_cons o172_176 (tblOk_nil)
theorem o173 : Holds Try.prog 173 c173 := fn_holds (code := Try.f173.body.getD .skip) (by kernel_rfl) gamOk k173 Try.func173 (by kernel_rfl) (by kernel_rfl) (by kernel_rfl) (by kernel_rfl) v173 (fun x _ h => (r173 x).trans h)
/-! ### 154: loop.example/g00076/impl.runsAt -/
noncomputable def t154 : Tbl := [(173, [], c173)]
noncomputable def a154 : Nat → Option LoopAnn := fun _ => none
noncomputable def g154 (x0 : Ta69) (x1 : Int) : Option ((Bool × Unit) × Unit) :=
  (g173 x0.2.2.2.1 x1).bind fun y1 =>
    bif (decide (y1.1.1 ≥ (0 : Int))) then
      bif (decide (0 ≤ y1.1.1) && decide (y1.1.1 < (x0.2.2.2.1.len : Int))) then
        some ((((andOf .i64 (L.get x0.2.2.2.1 y1.1.1.toNat).2.2.1 (4 : Int)) != (0 : Int)), ()), ())
      else
        none
    else
      some ((false, ()), ())
noncomputable def c154 : Ctr := { ins := [.v Ty95, .v (.int .i64)], out := [.bool], F := fun x => g154 x.1 x.2.1 }
theorem v154 : LoopsOk Try.prog Γ t154 a154 (loopsIn (Try.f154.body.getD .skip) 0) := loopsOk_nil (by kernel_rfl)
theorem r154 (x : InsT c154.ins) : fnK Try.prog Γ t154 a154 Try.f154 c154 x = g154 x.1 x.2.1 := by kernel_rfl
theorem k154 : TblOk Try.prog t154 := tblOk_cons o173 (tblOk_nil)
theorem o154 : Holds Try.prog 154 c154 := fn_holds (code := Try.f154.body.getD .skip) (by kernel_rfl) gamOk k154 Try.func154 (by kernel_rfl) (by kernel_rfl) (by kernel_rfl) (by kernel_rfl) v154 (fun x _ h => (r154 x).trans h)
/-! ### 122: loop.example/g00076/impl.areParts -/
noncomputable def t122 : Tbl := [(147, [], c147), (148, [], c148), (149, [], c149), (61, [], c61), (150, [], c150), (151, [152], c151_152), (154, [], c154)]
abbrev h122_L2 : Shape := { slots := [(1, .bx 1 0), (3, .ext Ty47 50003), (5, .bx 5 0), (9, .v Ty96), (10, .v (.int .i64)), (11, .v (.int .i64)), (42, .v Ty54), (43, .v (.int .i64)), (44, .v (.int .i64))], boxes := [(1, .typ Ty144), (5, .typ Ty95)] }
abbrev e122_L2 : List (XT × Shape) := [(.ret, { slots := [(2, .v .bool)], boxes := [] }), (.exit 2, { slots := [(1, .bx 1 0), (3, .ext Ty47 50003), (5, .bx 5 0), (9, .v Ty96), (10, .v (.int .i64)), (11, .v (.int .i64))], boxes := [(1, .typ Ty144), (5, .typ Ty95)] })]
noncomputable def q122_L2 (t3 : Ta12) (t9 : Ta72) (t10 : Int) (t11 : Int) (t42 : Ta12) (t43 : Int) (t44 : Int) (b1 : Ta122) (b5 : Ta69) : Option (Ta140 ⊕ (((Bool × Unit) × Unit) ⊕ (((Unit × (Ta12 × (Unit × Ta80))) × Ta133) ⊕ Empty))) :=
  bif (decide (t44 < t43)) then
    bif (decide (0 ≤ t44) && decide (t44 < (t42.len : Int))) then
      bif (!(f150 (L.get t42 t44.toNat))) then
        some (.inr (.inl ((false, ()), ())))
      else
        bif (decide ((wI ((L.get t42 t44.toNat).1 + (L.get t42 t44.toNat).2.1)) > b1.1)) then
          some (.inr (.inl ((false, ()), ())))
        else
          (g151_152 t3 ((L.get t42 t44.toNat), ())).bind fun y3 =>
            bif y3.1.1 then
              some (.inr (.inl ((false, ()), ())))
            else
              bif (decide (t3.len + (L.of (Ty.zero Ty47) [(L.get t42 t44.toNat)]).len ≤ most)) then
                some (.inl (((), ((L.app t3 (L.of (Ty.zero Ty47) [(L.get t42 t44.toNat)])), ((), (t9, (t10, (t11, (t42, (t43, ((wI (t44 + (1 : Int))), ()))))))))), (b1, (b5, ()))))
              else
                none
    else
      none
  else
    some (.inr (.inr (.inl (((), (t3, ((), (t9, (t10, (t11, ())))))), (b1, (b5, ()))))))
noncomputable def s122_L2 (x : Ta140) : Option (Ta140 ⊕ (((Bool × Unit) × Unit) ⊕ (((Unit × (Ta12 × (Unit × Ta80))) × Ta133) ⊕ Empty))) := q122_L2 x.1.2.1 x.1.2.2.2.1 x.1.2.2.2.2.1 x.1.2.2.2.2.2.1 x.1.2.2.2.2.2.2.1 x.1.2.2.2.2.2.2.2.1 x.1.2.2.2.2.2.2.2.2.1 x.2.1 x.2.2.1
abbrev h122_L0 : Shape := { slots := [(1, .bx 1 0), (3, .ext Ty47 50003), (9, .v Ty96), (10, .v (.int .i64)), (11, .v (.int .i64))], boxes := [(1, .typ Ty144)] }
abbrev e122_L0 : List (XT × Shape) := [(.ret, { slots := [(2, .v .bool)], boxes := [] }), (.exit 0, { slots := [], boxes := [] })]
noncomputable def q122_L0 (t3 : Ta12) (t9 : Ta72) (t10 : Int) (t11 : Int) (b1 : Ta122) : Option (Ta136 ⊕ (((Bool × Unit) × Unit) ⊕ ((Unit × Unit) ⊕ Empty))) :=
  bif (decide (t11 < t10)) then
    bif (decide (0 ≤ t11) && decide (t11 < (t9.len : Int))) then
      (g147 (L.get t9 t11.toNat).1).bind fun y1 =>
        bif (!y1.1.1) then
          some (.inr (.inl ((false, ()), ())))
        else
          (g148 b1 (L.get t9 t11.toNat).1).bind fun y2 =>
            bif (decide (y2.1.1 < t11)) then
              some (.inr (.inl ((false, ()), ())))
            else
              bif (!(f149 (L.get t9 t11.toNat).2.2.1)) then
                some (.inr (.inl ((false, ()), ())))
              else
                bif (!(f61 ((L.get t9 t11.toNat).2.2.2.1.len : Int) (1 : Int) (4 : Int))) then
                  some (.inr (.inl ((false, ()), ())))
                else
                  (fixO s122_L2 (((), (t3, ((), (t9, (t10, (t11, ((L.get t9 t11.toNat).2.2.2.1, (((L.get t9 t11.toNat).2.2.2.1.len : Int), ((0 : Int), ()))))))))), (b1, ((L.get t9 t11.toNat), ())))).bind fun d6 => match d6 with
                  | .inl y4 =>
                    some (.inr (.inl y4))
                  | .inr (.inl y4) =>
                    bif ((Int.tmod y4.2.2.1.2.1 (4 : Int)) != (0 : Int)) then
                      some (.inr (.inl ((false, ()), ())))
                    else
                      (g154 y4.2.2.1 y4.2.2.1.2.1).bind fun y5 =>
                        bif (!y5.1.1) then
                          some (.inr (.inl ((false, ()), ())))
                        else
                          some (.inl (((), (y4.1.2.1, (y4.1.2.2.2.1, (y4.1.2.2.2.2.1, ((wI (y4.1.2.2.2.2.2.1 + (1 : Int))), ()))))), (y4.2.1, ())))
                  | .inr (.inr e) => nomatch e
    else
      none
  else
    some (.inr (.inr (.inl ((), ()))))
noncomputable def s122_L0 (x : Ta136) : Option (Ta136 ⊕ (((Bool × Unit) × Unit) ⊕ ((Unit × Unit) ⊕ Empty))) := q122_L0 x.1.2.1 x.1.2.2.1 x.1.2.2.2.1 x.1.2.2.2.2.1 x.2.1
noncomputable def a122 : Nat → Option LoopAnn := fun c => bif Nat.beq c 2 then some (.fix h122_L2 e122_L2 s122_L2) else bif Nat.beq c 0 then some (.fix h122_L0 e122_L0 s122_L0) else none
noncomputable def g122 (x0 : Ta122) : Option ((Bool × Unit) × Unit) :=
  (fixO s122_L0 (((), ((nilL Ty47), (x0.2.2.2.2.2.2.2.1, ((x0.2.2.2.2.2.2.2.1.len : Int), ((0 : Int), ()))))), (x0, ()))).bind fun d8 => match d8 with
  | .inl y7 =>
    some ((y7.1.1, ()), ())
  | .inr (.inl y7) =>
    some ((true, ()), ())
  | .inr (.inr e) => nomatch e
noncomputable def c122 : Ctr := { ins := [.v Ty144], out := [.bool], F := fun x => g122 x.1 }
noncomputable def l122 : List (Nat × Code) := loopsIn (Try.f122.body.getD .skip) 0
theorem w122_L2 (x : h122_L2.T) : runK Try.prog Γ t122 a122 (l122.getD 1 (0, .skip)).2 2 (pkSh h122_L2 x) (loopCls (sh := h122_L2) (es := e122_L2)) = (s122_L2 x : Option _) := by kernel_rfl
theorem w122_L0 (x : h122_L0.T) : runK Try.prog Γ t122 a122 (l122.getD 0 (0, .skip)).2 0 (pkSh h122_L0 x) (loopCls (sh := h122_L0) (es := e122_L0)) = (s122_L0 x : Option _) := by kernel_rfl
theorem v122 : LoopsOk Try.prog Γ t122 a122 (loopsIn (Try.f122.body.getD .skip) 0) := by
  have e : loopsIn (Try.f122.body.getD .skip) 0 = [(0, (l122.getD 0 (0, .skip)).2), (2, (l122.getD 1 (0, .skip)).2)] := by kernel_rfl
  rw [e]
  exact ⟨fun x d h => (w122_L0 x).trans h, fun x d h => (w122_L2 x).trans h, trivial⟩
theorem r122 (x : InsT c122.ins) : fnK Try.prog Γ t122 a122 Try.f122 c122 x = g122 x.1 := by kernel_rfl
theorem k122 : TblOk Try.prog t122 := tblOk_cons o147 (tblOk_cons o148 (tblOk_cons o149 (tblOk_cons o61 (tblOk_cons o150 (tblOk_cons o151_152 (tblOk_cons o154 (tblOk_nil)))))))
theorem o122 : Holds Try.prog 122 c122 := fn_holds (code := Try.f122.body.getD .skip) (by kernel_rfl) gamOk k122 Try.func122 (by kernel_rfl) (by kernel_rfl) (by kernel_rfl) (by kernel_rfl) v122 (fun x _ h => (r122 x).trans h)
/-! ### 124: loop.example/g00076/impl.isSound$1 -/
noncomputable def t124 : Tbl := [(61, [], c61)]
noncomputable def a124 : Nat → Option LoopAnn := fun _ => none
noncomputable def g124 (x0 : Int) (x1 : Int) : Option ((Bool × Unit) × Unit) :=
  some (((!(f61 x0 (0 : Int) (wI (x1 - (1 : Int))))), ()), ())
noncomputable def f124 (x0 : Int) (x1 : Int) : Bool :=
  (!(f61 x0 (0 : Int) (wI (x1 - (1 : Int)))))
theorem n124 (x0 : Int) (x1 : Int) : g124 x0 x1 = some ((f124 x0 x1, ()), ()) := by
  simp only [g124, f124, pull1]
noncomputable def c124 : Ctr := { ins := [.v (.int .i64), .rf (.int .i64)], out := [.bool], F := fun x => some ((f124 x.1 x.2.1, ()), ()) }
theorem v124 : LoopsOk Try.prog Γ t124 a124 (loopsIn (Try.f124.body.getD .skip) 0) := loopsOk_nil (by kernel_rfl)
theorem r124 (x : InsT c124.ins) : fnK Try.prog Γ t124 a124 Try.f124 c124 x = g124 x.1 x.2.1 := by kernel_rfl
theorem k124 : TblOk Try.prog t124 := tblOk_cons o61 (tblOk_nil)
theorem o124 : Holds Try.prog 124 c124 := fn_holds (code := Try.f124.body.getD .skip) (by kernel_rfl) gamOk k124 Try.func124 (by kernel_rfl) (by kernel_rfl) (by kernel_rfl) (by kernel_rfl) v124 (fun x _ h => (r124 x).trans ((n124 x.1 x.2.1).trans h))
/-! ### 155: slices.IndexFunc[[]int,int] -/
noncomputable def t155_124 : Tbl := [(124, [], c124)]
abbrev h155_124_L0 : Shape := { slots := [(0, .v (.sl (.int .i64))), (1, .clo 124 [(.int .i64)]), (7, .v (.int .i64)), (8, .v (.int .i64))], boxes := [] }
abbrev e155_124_L0 : List (XT × Shape) := [(.ret, { slots := [(4, .v (.int .i64))], boxes := [] }), (.exit 0, { slots := [], boxes := [] })]
noncomputable def q155_124_L0 (t0 : (L Int)) (t1 : (Int × Unit)) (t7 : Int) (t8 : Int) : Option (Ta43 ⊕ (((Int × Unit) × Unit) ⊕ ((Unit × Unit) ⊕ Empty))) :=
  bif (decide (t8 < t7)) then
    bif (decide (0 ≤ t8) && decide (t8 < (t0.len : Int))) then
      bif (f124 (L.get t0 t8.toNat) t1.1) then
        some (.inr (.inl ((t8, ()), ())))
      else
        some (.inl ((t0, (t1, (t7, ((wI (t8 + (1 : Int))), ())))), ()))
    else
      none
  else
    some (.inr (.inr (.inl ((), ()))))
noncomputable def s155_124_L0 (x : Ta43) : Option (Ta43 ⊕ (((Int × Unit) × Unit) ⊕ ((Unit × Unit) ⊕ Empty))) := q155_124_L0 x.1.1 x.1.2.1 x.1.2.2.1 x.1.2.2.2.1
noncomputable def a155_124 : Nat → Option LoopAnn := fun c => bif Nat.beq c 0 then some (.fix h155_124_L0 e155_124_L0 s155_124_L0) else none
noncomputable def g155_124 (x0 : (L Int)) (x1 : (Int × Unit)) : Option ((Int × Unit) × Unit) :=
  (fixO s155_124_L0 ((x0, (x1, ((x0.len : Int), ((0 : Int), ())))), ())).bind fun d2 => match d2 with
  | .inl y1 =>
    some ((y1.1.1, ()), ())
  | .inr (.inl y1) =>
    some (((-1 : Int), ()), ())
  | .inr (.inr e) => nomatch e
noncomputable def c155_124 : Ctr := { ins := [.v (.sl (.int .i64)), .clo 124 [(.int .i64)]], out := [(.int .i64)], F := fun x => g155_124 x.1 x.2.1 }
noncomputable def l155_124 : List (Nat × Code) := loopsIn (Try.f155.body.getD .skip) 0
theorem w155_124_L0 (x : h155_124_L0.T) : runK Try.prog Γ t155_124 a155_124 (l155_124.getD 0 (0, .skip)).2 0 (pkSh h155_124_L0 x) (loopCls (sh := h155_124_L0) (es := e155_124_L0)) = (s155_124_L0 x : Option _) := by kernel_rfl
theorem v155_124 : LoopsOk Try.prog Γ t155_124 a155_124 (loopsIn (Try.f155.body.getD .skip) 0) := by
  have e : loopsIn (Try.f155.body.getD .skip) 0 = [(0, (l155_124.getD 0 (0, .skip)).2)] := by kernel_rfl
  rw [e]
  exact ⟨fun x d h => (w155_124_L0 x).trans h, trivial⟩
theorem r155_124 (x : InsT c155_124.ins) : fnK Try.prog Γ t155_124 a155_124 Try.f155 c155_124 x = g155_124 x.1 x.2.1 := by kernel_rfl
theorem k155_124 : TblOk Try.prog t155_124 := tblOk_cons o124 (tblOk_nil)
theorem o155_124 : Holds Try.prog 155 c155_124 := fn_holds (code := Try.f155.body.getD .skip) (by kernel_rfl) gamOk k155_124 Try.func155 (by kernel_rfl) (by kernel_rfl) (by kernel_rfl) (by kernel_rfl) v155_124 (fun x _ h => (r155_124 x).trans h)
/-! ### 123: slices.ContainsFunc[[]int,int] -/
noncomputable def t123_124 : Tbl := [(155, [124], c155_124)]
noncomputable def a123_124 : Nat → Option LoopAnn := fun _ => none
noncomputable def g123_124 (x0 : (L Int)) (x1 : (Int × Unit)) : Option ((Bool × Unit) × Unit) :=
  (g155_124 x0 x1).bind fun y1 =>
    some (((decide (y1.1.1 ≥ (0 : Int))), ()), ())
noncomputable def c123_124 : Ctr := { ins := [.v (.sl (.int .i64)), .clo 124 [(.int .i64)]], out := [.bool], F := fun x => g123_124 x.1 x.2.1 }
theorem v123_124 : LoopsOk Try.prog Γ t123_124 a123_124 (loopsIn (Try.f123.body.getD .skip) 0) := loopsOk_nil (by kernel_rfl)
theorem r123_124 (x : InsT c123_124.ins) : fnK Try.prog Γ t123_124 a123_124 Try.f123 c123_124 x = g123_124 x.1 x.2.1 := by kernel_rfl
theorem k123_124 : TblOk Try.prog t123_124 := tblOk_cons o155_124 (tblOk_nil)
theorem o123_124 : Holds Try.prog 123 c123_124 := fn_holds (code := Try.f123.body.getD .skip) (by kernel_rfl) gamOk k123_124 Try.func123 (by kernel_rfl) (by kernel_rfl) (by kernel_rfl) (by kernel_rfl) v123_124 (fun x _ h => (r123_124 x).trans h)
/-! ### 127: loop.example/g00076/impl.isChan -/
noncomputable def t127 : Tbl := [(61, [], c61)]
noncomputable def a127 : Nat → Option LoopAnn := fun _ => none
noncomputable def g127 (x0 : Ta16) : Option ((Bool × Unit) × Unit) :=
  bif (!(f61 x0.2.1 (0 : Int) (5 : Int))) then
    some ((false, ()), ())
  else
    bif (!(f61 x0.2.2.1 (0 : Int) (5 : Int))) then
      some ((false, ()), ())
    else
      bif (x0.2.1 == x0.2.2.1) then
        some ((false, ()), ())
      else
        bif (x0.1 == (0 : Int)) then
          bif (x0.2.2.2.1 == (0 : Int)) then
            some ((true, ()), ())
          else
            bif (x0.1 == (1 : Int)) then
              some (((f61 x0.2.2.2.1 (1 : Int) (8 : Int)), ()), ())
            else
              some ((false, ()), ())
        else
          bif (x0.1 == (1 : Int)) then
            some (((f61 x0.2.2.2.1 (1 : Int) (8 : Int)), ()), ())
          else
            some ((false, ()), ())
noncomputable def f127 (x0 : Ta16) : Bool :=
  bif (!(f61 x0.2.1 (0 : Int) (5 : Int))) then
    false
  else
    bif (!(f61 x0.2.2.1 (0 : Int) (5 : Int))) then
      false
    else
      bif (x0.2.1 == x0.2.2.1) then
        false
      else
        bif (x0.1 == (0 : Int)) then
          bif (x0.2.2.2.1 == (0 : Int)) then
            true
          else
            bif (x0.1 == (1 : Int)) then
              (f61 x0.2.2.2.1 (1 : Int) (8 : Int))
            else
              false
        else
          bif (x0.1 == (1 : Int)) then
            (f61 x0.2.2.2.1 (1 : Int) (8 : Int))
          else
            false
theorem n127 (x0 : Ta16) : g127 x0 = some ((f127 x0, ()), ()) := by
  simp only [g127, f127, pull1]
noncomputable def c127 : Ctr := { ins := [.v Ty66], out := [.bool], F := fun x => some ((f127 x.1, ()), ()) }
theorem v127 : LoopsOk Try.prog Γ t127 a127 (loopsIn (Try.f127.body.getD .skip) 0) := loopsOk_nil (by kernel_rfl)
theorem r127 (x : InsT c127.ins) : fnK Try.prog Γ t127 a127 Try.f127 c127 x = g127 x.1 := by kernel_rfl
theorem k127 : TblOk Try.prog t127 := tblOk_cons o61 (tblOk_nil)
theorem o127 : Holds Try.prog 127 c127 := fn_holds (code := Try.f127.body.getD .skip) (by kernel_rfl) gamOk k127 Try.func127 (by kernel_rfl) (by kernel_rfl) (by kernel_rfl) (by kernel_rfl) v127 (fun x _ h => (r127 x).trans ((n127 x.1).trans h))
/-! ### 126: loop.example/g00076/impl.isSound$2 -/
noncomputable def t126 : Tbl := [(127, [], c127)]
noncomputable def a126 : Nat → Option LoopAnn := fun _ => none
noncomputable def g126 (x0 : Ta16) (x1 : Int) : Option ((Bool × Unit) × Unit) :=
  bif (!(f127 x0)) then
    some ((true, ()), ())
  else
    bif (decide (x0.2.1 ≥ x1)) then
      some ((true, ()), ())
    else
      some (((decide (x0.2.2.1 ≥ x1)), ()), ())
noncomputable def f126 (x0 : Ta16) (x1 : Int) : Bool :=
  bif (!(f127 x0)) then
    true
  else
    bif (decide (x0.2.1 ≥ x1)) then
      true
    else
      (decide (x0.2.2.1 ≥ x1))
theorem n126 (x0 : Ta16) (x1 : Int) : g126 x0 x1 = some ((f126 x0 x1, ()), ()) := by
  simp only [g126, f126, pull1]
noncomputable def c126 : Ctr := { ins := [.v Ty66, .rf (.int .i64)], out := [.bool], F := fun x => some ((f126 x.1 x.2.1, ()), ()) }
theorem v126 : LoopsOk Try.prog Γ t126 a126 (loopsIn (Try.f126.body.getD .skip) 0) := loopsOk_nil (by kernel_rfl)
theorem r126 (x : InsT c126.ins) : fnK Try.prog Γ t126 a126 Try.f126 c126 x = g126 x.1 x.2.1 := by kernel_rfl
theorem k126 : TblOk Try.prog t126 := tblOk_cons o127 (tblOk_nil)
theorem o126 : Holds Try.prog 126 c126 := fn_holds (code := Try.f126.body.getD .skip) (by kernel_rfl) gamOk k126 Try.func126 (by kernel_rfl) (by kernel_rfl) (by kernel_rfl) (by kernel_rfl) v126 (fun x _ h => (r126 x).trans ((n126 x.1 x.2.1).trans h))
/-! ### 156: slices.IndexFunc[[]loop.example/g00076/impl.ChanRow,loop.example/g00076/impl.ChanRow] -/
noncomputable def t156_126 : Tbl := [(126, [], c126)]
abbrev h156_126_L0 : Shape := { slots := [(0, .v Ty70), (1, .clo 126 [(.int .i64)]), (7, .v (.int .i64)), (8, .v (.int .i64))], boxes := [] }
abbrev e156_126_L0 : List (XT × Shape) := [(.ret, { slots := [(4, .v (.int .i64))], boxes := [] }), (.exit 0, { slots := [], boxes := [] })]
noncomputable def q156_126_L0 (t0 : Ta24) (t1 : (Int × Unit)) (t7 : Int) (t8 : Int) : Option (Ta71 ⊕ (((Int × Unit) × Unit) ⊕ ((Unit × Unit) ⊕ Empty))) :=
  bif (decide (t8 < t7)) then
    bif (decide (0 ≤ t8) && decide (t8 < (t0.len : Int))) then
      bif (f126 (L.get t0 t8.toNat) t1.1) then
        some (.inr (.inl ((t8, ()), ())))
      else
        some (.inl ((t0, (t1, (t7, ((wI (t8 + (1 : Int))), ())))), ()))
    else
      none
  else
    some (.inr (.inr (.inl ((), ()))))
noncomputable def s156_126_L0 (x : Ta71) : Option (Ta71 ⊕ (((Int × Unit) × Unit) ⊕ ((Unit × Unit) ⊕ Empty))) := q156_126_L0 x.1.1 x.1.2.1 x.1.2.2.1 x.1.2.2.2.1
noncomputable def a156_126 : Nat → Option LoopAnn := fun c => bif Nat.beq c 0 then some (.fix h156_126_L0 e156_126_L0 s156_126_L0) else none
noncomputable def g156_126 (x0 : Ta24) (x1 : (Int × Unit)) : Option ((Int × Unit) × Unit) :=
  (fixO s156_126_L0 ((x0, (x1, ((x0.len : Int), ((0 : Int), ())))), ())).bind fun d2 => match d2 with
  | .inl y1 =>
    some ((y1.1.1, ()), ())
  | .inr (.inl y1) =>
    some (((-1 : Int), ()), ())
  | .inr (.inr e) => nomatch e
noncomputable def c156_126 : Ctr := { ins := [.v Ty70, .clo 126 [(.int .i64)]], out := [(.int .i64)], F := fun x => g156_126 x.1 x.2.1 }
noncomputable def l156_126 : List (Nat × Code) := loopsIn (Try.f156.body.getD .skip) 0
theorem w156_126_L0 (x : h156_126_L0.T) : runK Try.prog Γ t156_126 a156_126 (l156_126.getD 0 (0, .skip)).2 0 (pkSh h156_126_L0 x) (loopCls (sh := h156_126_L0) (es := e156_126_L0)) = (s156_126_L0 x : Option _) := by kernel_rfl
theorem v156_126 : LoopsOk Try.prog Γ t156_126 a156_126 (loopsIn (Try.f156.body.getD .skip) 0) := by
  have e : loopsIn (Try.f156.body.getD .skip) 0 = [(0, (l156_126.getD 0 (0, .skip)).2)] := by kernel_rfl
  rw [e]
  exact ⟨fun x d h => (w156_126_L0 x).trans h, trivial⟩
theorem r156_126 (x : InsT c156_126.ins) : fnK Try.prog Γ t156_126 a156_126 Try.f156 c156_126 x = g156_126 x.1 x.2.1 := by kernel_rfl
theorem k156_126 : TblOk Try.prog t156_126 := tblOk_cons o126 (tblOk_nil)
theorem o156_126 : Holds Try.prog 156 c156_126 := fn_holds (code := Try.f156.body.getD .skip) (by kernel_rfl) gamOk k156_126 Try.func156 (by kernel_rfl) (by kernel_rfl) (by kernel_rfl) (by kernel_rfl) v156_126 (fun x _ h => (r156_126 x).trans h)
/-! ### 125: slices.ContainsFunc[[]loop.example/g00076/impl.ChanRow,loop.example/g00076/impl.ChanRow] -/
noncomputable def t125_126 : Tbl := [(156, [126], c156_126)]
noncomputable def a125_126 : Nat → Option LoopAnn := fun _ => none
noncomputable def g125_126 (x0 : Ta24) (x1 : (Int × Unit)) : Option ((Bool × Unit) × Unit) :=
  (g156_126 x0 x1).bind fun y1 =>
    some (((decide (y1.1.1 ≥ (0 : Int))), ()), ())
noncomputable def c125_126 : Ctr := { ins := [.v Ty70, .clo 126 [(.int .i64)]], out := [.bool], F := fun x => g125_126 x.1 x.2.1 }
theorem v125_126 : LoopsOk Try.prog Γ t125_126 a125_126 (loopsIn (Try.f125.body.getD .skip) 0) := loopsOk_nil (by kernel_rfl)
theorem r125_126 (x : InsT c125_126.ins) : fnK Try.prog Γ t125_126 a125_126 Try.f125 c125_126 x = g125_126 x.1 x.2.1 := by kernel_rfl
theorem k125_126 : TblOk Try.prog t125_126 := tblOk_cons o156_126 (tblOk_nil)
theorem o125_126 : Holds Try.prog 125 c125_126 := fn_holds (code := Try.f125.body.getD .skip) (by kernel_rfl) gamOk k125_126 Try.func125 (by kernel_rfl) (by kernel_rfl) (by kernel_rfl) (by kernel_rfl) v125_126 (fun x _ h => (r125_126 x).trans h)
/-! ### 136: loop.example/g00076/impl.depthOf -/
noncomputable def t136 : Tbl := []
noncomputable def a136 : Nat → Option LoopAnn := fun _ => none
noncomputable def g136 (x0 : Ta16) : Option ((Int × Unit) × Unit) :=
  some (((if x0.2.2.2.1 > (1 : Int) then x0.2.2.2.1 else (1 : Int)), ()), ())
noncomputable def f136 (x0 : Ta16) : Int :=
  (if x0.2.2.2.1 > (1 : Int) then x0.2.2.2.1 else (1 : Int))
theorem n136 (x0 : Ta16) : g136 x0 = some ((f136 x0, ()), ()) := by
  simp only [g136, f136, pull1]
noncomputable def c136 : Ctr := { ins := [.v Ty66], out := [(.int .i64)], F := fun x => some ((f136 x.1, ()), ()) }
theorem v136 : LoopsOk Try.prog Γ t136 a136 (loopsIn (Try.f136.body.getD .skip) 0) := loopsOk_nil (by kernel_rfl)
theorem r136 (x : InsT c136.ins) : fnK Try.prog Γ t136 a136 Try.f136 c136 x = g136 x.1 := by kernel_rfl
theorem k136 : TblOk Try.prog t136 := tblOk_nil
theorem o136 : Holds Try.prog 136 c136 := fn_holds (code := Try.f136.body.getD .skip) (by kernel_rfl) gamOk k136 Try.func136 (by kernel_rfl) (by kernel_rfl) (by kernel_rfl) (by kernel_rfl) v136 (fun x _ h => (r136 x).trans ((n136 x.1).trans h))
/-! ### 107: loop.example/g00076/impl.worstPad -/
noncomputable def t107 : Tbl := [(136, [], c136)]
abbrev h107_L0 : Shape := { slots := [(3, .bx 3 0), (7, .v (.int .i64)), (22, .v Ty70), (23, .v (.int .i64)), (24, .v (.int .i64))], boxes := [(3, .typ Ty85)] }
abbrev e107_L0 : List (XT × Shape) := [(.exit 0, { slots := [(7, .v (.int .i64))], boxes := [] })]
noncomputable def q107_L0 (t7 : Int) (t22 : Ta24) (t23 : Int) (t24 : Int) (b3 : Ta45) : Option (Ta91 ⊕ (((Int × Unit) × Unit) ⊕ Empty)) :=
  bif (decide (t24 < t23)) then
    bif (decide (0 ≤ t24) && decide (t24 < (t22.len : Int))) then
      some (.inl (((), ((wI (t7 + (wI (b3.1 * (f136 (L.get t22 t24.toNat)))))), (t22, (t23, ((wI (t24 + (1 : Int))), ()))))), (b3, ())))
    else
      none
  else
    some (.inr (.inl ((t7, ()), ())))
noncomputable def s107_L0 (x : Ta91) : Option (Ta91 ⊕ (((Int × Unit) × Unit) ⊕ Empty)) := q107_L0 x.1.2.1 x.1.2.2.1 x.1.2.2.2.1 x.1.2.2.2.2.1 x.2.1
noncomputable def a107 : Nat → Option LoopAnn := fun c => bif Nat.beq c 0 then some (.fix h107_L0 e107_L0 s107_L0) else none
noncomputable def g107 (x0 : Ta45) (x1 : Ta5) (x2 : Ta24) : Option ((Int × Unit) × Unit) :=
  (fixO s107_L0 (((), ((wI ((wI ((16 : Int) * x0.1)) + (wI ((wI (x1.1 * x1.2.1)) * x0.2.2.2.2.2.2.1)))), (x2, ((x2.len : Int), ((0 : Int), ()))))), (x0, ()))).bind fun d2 => match d2 with
  | .inl y1 =>
    some ((y1.1.1, ()), ())
  | .inr e => nomatch e
noncomputable def c107 : Ctr := { ins := [.v Ty85, .v Ty47, .v Ty70], out := [(.int .i64)], F := fun x => g107 x.1 x.2.1 x.2.2.1 }
noncomputable def l107 : List (Nat × Code) := loopsIn (Try.f107.body.getD .skip) 0
theorem w107_L0 (x : h107_L0.T) : runK Try.prog Γ t107 a107 (l107.getD 0 (0, .skip)).2 0 (pkSh h107_L0 x) (loopCls (sh := h107_L0) (es := e107_L0)) = (s107_L0 x : Option _) := by kernel_rfl
theorem v107 : LoopsOk Try.prog Γ t107 a107 (loopsIn (Try.f107.body.getD .skip) 0) := by
  have e : loopsIn (Try.f107.body.getD .skip) 0 = [(0, (l107.getD 0 (0, .skip)).2)] := by kernel_rfl
  rw [e]
  exact ⟨fun x d h => (w107_L0 x).trans h, trivial⟩
theorem r107 (x : InsT c107.ins) : fnK Try.prog Γ t107 a107 Try.f107 c107 x = g107 x.1 x.2.1 x.2.2.1 := by kernel_rfl
theorem k107 : TblOk Try.prog t107 := tblOk_cons o136 (tblOk_nil)
theorem o107 : Holds Try.prog 107 c107 := fn_holds (code := Try.f107.body.getD .skip) (by kernel_rfl) gamOk k107 Try.func107 (by kernel_rfl) (by kernel_rfl) (by kernel_rfl) (by kernel_rfl) v107 (fun x _ h => (r107 x).trans h)
/-! ### 157: loop.example/g00076/impl.isSlotAt -/
noncomputable def t157 : Tbl := []
noncomputable def a157 : Nat → Option LoopAnn := fun _ => none
noncomputable def g157 (x0 : Ta122) (x1 : Ta5) (x2 : Int) : Option ((Bool × Unit) × Unit) :=
  bif (decide (x1.2.2.1 > (wI (x0.2.2.2.2.1 + x0.2.2.2.2.2.1)))) then
    bif (decide (x1.2.2.1 ≤ x0.2.2.2.2.2.2.1)) then
      bif (decide (x1.2.1 ≥ x2)) then
        some (((decide (x1.2.1 ≤ (wI (x0.2.2.2.2.2.2.1 - x1.2.2.1)))), ()), ())
      else
        some ((false, ()), ())
    else
      some ((false, ()), ())
  else
    some ((false, ()), ())
noncomputable def f157 (x0 : Ta122) (x1 : Ta5) (x2 : Int) : Bool :=
  bif (decide (x1.2.2.1 > (wI (x0.2.2.2.2.1 + x0.2.2.2.2.2.1)))) then
    bif (decide (x1.2.2.1 ≤ x0.2.2.2.2.2.2.1)) then
      bif (decide (x1.2.1 ≥ x2)) then
        (decide (x1.2.1 ≤ (wI (x0.2.2.2.2.2.2.1 - x1.2.2.1))))
      else
        false
    else
      false
  else
    false
theorem n157 (x0 : Ta122) (x1 : Ta5) (x2 : Int) : g157 x0 x1 x2 = some ((f157 x0 x1 x2, ()), ()) := by
  simp only [g157, f157, pull1]
noncomputable def c157 : Ctr := { ins := [.v Ty144, .v Ty47, .v (.int .i64)], out := [.bool], F := fun x => some ((f157 x.1 x.2.1 x.2.2.1, ()), ()) }
theorem v157 : LoopsOk Try.prog Γ t157 a157 (loopsIn (Try.f157.body.getD .skip) 0) := loopsOk_nil (by kernel_rfl)
theorem r157 (x : InsT c157.ins) : fnK Try.prog Γ t157 a157 Try.f157 c157 x = g157 x.1 x.2.1 x.2.2.1 := by kernel_rfl
theorem k157 : TblOk Try.prog t157 := tblOk_nil
theorem o157 : Holds Try.prog 157 c157 := fn_holds (code := Try.f157.body.getD .skip) (by kernel_rfl) gamOk k157 Try.func157 (by kernel_rfl) (by kernel_rfl) (by kernel_rfl) (by kernel_rfl) v157 (fun x _ h => (r157 x).trans ((n157 x.1 x.2.1 x.2.2.1).trans h))
/-! ### 128: loop.example/g00076/impl.areSlots -/
noncomputable def t128 : Tbl := [(61, [], c61), (157, [], c157)]
abbrev h128_L0 : Shape := { slots := [(1, .bx 1 0), (3, .v (.int .i64)), (7, .v Ty54), (8, .v (.int .i64)), (9, .v (.int .i64))], boxes := [(1, .typ Ty144)] }
abbrev e128_L0 : List (XT × Shape) := [(.ret, { slots := [(2, .v .bool)], boxes := [] }), (.exit 0, { slots := [(1, .bx 1 0)], boxes := [(1, .typ Ty144)] })]
noncomputable def q128_L0 (t3 : Int) (t7 : Ta12) (t8 : Int) (t9 : Int) (b1 : Ta122) : Option (Ta131 ⊕ (((Bool × Unit) × Unit) ⊕ (Ta124 ⊕ Empty))) :=
  bif (decide (t9 < t8)) then
    bif (decide (0 ≤ t9) && decide (t9 < (t7.len : Int))) then
      bif (!(f61 (L.get t7 t9.toNat).1 (0 : Int) (wI ((b1.2.2.2.2.2.2.2.1.len : Int) - (1 : Int))))) then
        some (.inr (.inl ((false, ()), ())))
      else
        bif (!(f157 b1 (L.get t7 t9.toNat) t3)) then
          some (.inr (.inl ((false, ()), ())))
        else
          some (.inl (((), ((wI ((L.get t7 t9.toNat).2.1 + (L.get t7 t9.toNat).2.2.1)), (t7, (t8, ((wI (t9 + (1 : Int))), ()))))), (b1, ())))
    else
      none
  else
    some (.inr (.inr (.inl (((), ()), (b1, ())))))
noncomputable def s128_L0 (x : Ta131) : Option (Ta131 ⊕ (((Bool × Unit) × Unit) ⊕ (Ta124 ⊕ Empty))) := q128_L0 x.1.2.1 x.1.2.2.1 x.1.2.2.2.1 x.1.2.2.2.2.1 x.2.1
noncomputable def a128 : Nat → Option LoopAnn := fun c => bif Nat.beq c 0 then some (.fix h128_L0 e128_L0 s128_L0) else none
noncomputable def g128 (x0 : Ta122) : Option ((Bool × Unit) × Unit) :=
  (fixO s128_L0 (((), ((0 : Int), (x0.2.2.2.2.2.2.2.2.2.2.1, ((x0.2.2.2.2.2.2.2.2.2.2.1.len : Int), ((0 : Int), ()))))), (x0, ()))).bind fun d2 => match d2 with
  | .inl y1 =>
    some ((y1.1.1, ()), ())
  | .inr (.inl y1) =>
    some (((f61 (y1.2.1.2.2.2.2.2.2.2.2.2.2.1.len : Int) (1 : Int) (16 : Int)), ()), ())
  | .inr (.inr e) => nomatch e
noncomputable def c128 : Ctr := { ins := [.v Ty144], out := [.bool], F := fun x => g128 x.1 }
noncomputable def l128 : List (Nat × Code) := loopsIn (Try.f128.body.getD .skip) 0
theorem w128_L0 (x : h128_L0.T) : runK Try.prog Γ t128 a128 (l128.getD 0 (0, .skip)).2 0 (pkSh h128_L0 x) (loopCls (sh := h128_L0) (es := e128_L0)) = (s128_L0 x : Option _) := by kernel_rfl
theorem v128 : LoopsOk Try.prog Γ t128 a128 (loopsIn (Try.f128.body.getD .skip) 0) := by
  have e : loopsIn (Try.f128.body.getD .skip) 0 = [(0, (l128.getD 0 (0, .skip)).2)] := by kernel_rfl
  rw [e]
  exact ⟨fun x d h => (w128_L0 x).trans h, trivial⟩
theorem r128 (x : InsT c128.ins) : fnK Try.prog Γ t128 a128 Try.f128 c128 x = g128 x.1 := by kernel_rfl
theorem k128 : TblOk Try.prog t128 := tblOk_cons o61 (tblOk_cons o157 (tblOk_nil))
theorem o128 : Holds Try.prog 128 c128 := fn_holds (code := Try.f128.body.getD .skip) (by kernel_rfl) gamOk k128 Try.func128 (by kernel_rfl) (by kernel_rfl) (by kernel_rfl) (by kernel_rfl) v128 (fun x _ h => (r128 x).trans h)
/-! ### 89: loop.example/g00076/impl.isSound -/
noncomputable def t89 : Tbl := [(117, [], c117), (118, [], c118), (61, [], c61), (119, [], c119), (120, [], c120), (121, [], c121), (122, [], c122), (123, [124], c123_124), (125, [126], c125_126), (107, [], c107), (128, [], c128)]
noncomputable def a89 : Nat → Option LoopAnn := fun _ => none
noncomputable def g89 (x0 : Ta122) : Option ((Bool × Unit) × Unit) :=
  bif (!(f117 x0.1)) then
    some ((false, ()), ())
  else
    bif (!(f118 x0.2.1)) then
      some ((false, ()), ())
    else
      bif (!(f61 x0.2.2.1 (1 : Int) (8 : Int))) then
        some ((false, ()), ())
      else
        bif (!(f119 x0.2.2.2.1)) then
          some ((false, ()), ())
        else
          bif (!(f120 x0.2.2.2.2.1)) then
            some ((false, ()), ())
          else
            bif (!(f120 x0.2.2.2.2.2.1)) then
              some ((false, ()), ())
            else
              bif (!(f120 x0.2.2.2.2.2.2.1)) then
                some ((false, ()), ())
              else
                (g121 x0.2.2.2.1).bind fun y1 =>
                  bif (decide (x0.2.2.2.2.2.1 < y1.1.1)) then
                    some ((false, ()), ())
                  else
                    bif (!(f61 (x0.2.2.2.2.2.2.2.1.len : Int) (1 : Int) (6 : Int))) then
                      some ((false, ()), ())
                    else
                      (g122 x0).bind fun y2 =>
                        bif (!y2.1.1) then
                          some ((false, ()), ())
                        else
                          bif (decide ((x0.2.2.2.2.2.2.2.2.1.len : Int) > (8 : Int))) then
                            some ((false, ()), ())
                          else
                            (g123_124 x0.2.2.2.2.2.2.2.2.1 ((x0.2.2.2.2.2.2.2.1.len : Int), ())).bind fun y3 =>
                              bif y3.1.1 then
                                some ((false, ()), ())
                              else
                                bif (decide ((x0.2.2.2.2.2.2.2.2.2.1.len : Int) > (8 : Int))) then
                                  some ((false, ()), ())
                                else
                                  (g125_126 x0.2.2.2.2.2.2.2.2.2.1 ((x0.2.2.2.2.2.2.2.1.len : Int), ())).bind fun y4 =>
                                    bif y4.1.1 then
                                      some ((false, ()), ())
                                    else
                                      (g107 x0.2.2.2.1 x0.2.1 x0.2.2.2.2.2.2.2.2.2.1).bind fun y5 =>
                                        bif (decide (x0.2.2.2.2.1 < y5.1.1)) then
                                          some ((false, ()), ())
                                        else
                                          (g128 x0).bind fun y6 =>
                                            some ((y6.1.1, ()), ())
noncomputable def c89 : Ctr := { ins := [.v Ty144], out := [.bool], F := fun x => g89 x.1 }
theorem v89 : LoopsOk Try.prog Γ t89 a89 (loopsIn (Try.f89.body.getD .skip) 0) := loopsOk_nil (by kernel_rfl)
theorem r89 (x : InsT c89.ins) : fnK Try.prog Γ t89 a89 Try.f89 c89 x = g89 x.1 := by kernel_rfl
theorem k89 : TblOk Try.prog t89 := tblOk_cons o117 (tblOk_cons o118 (tblOk_cons o61 (tblOk_cons o119 (tblOk_cons o120 (tblOk_cons o121 (tblOk_cons o122 (tblOk_cons o123_124 (tblOk_cons o125_126 (tblOk_cons o107 (tblOk_cons o128 (tblOk_nil)))))))))))
theorem o89 : Holds Try.prog 89 c89 := fn_holds (code := Try.f89.body.getD .skip) (by kernel_rfl) gamOk k89 Try.func89 (by kernel_rfl) (by kernel_rfl) (by kernel_rfl) (by kernel_rfl) v89 (fun x _ h => (r89 x).trans h)
/-! ### 90: loop.example/g00076/impl.isCycle -/
noncomputable def t90 : Tbl := [(61, [], c61)]
noncomputable def a90 : Nat → Option LoopAnn := fun _ => none
noncomputable def g90 (x0 : Int) : Option ((Bool × Unit) × Unit) :=
  some (((f61 x0 (0 : Int) (50000 : Int)), ()), ())
noncomputable def f90 (x0 : Int) : Bool :=
  (f61 x0 (0 : Int) (50000 : Int))
theorem n90 (x0 : Int) : g90 x0 = some ((f90 x0, ()), ()) := by
  simp only [g90, f90, pull1]
noncomputable def c90 : Ctr := { ins := [.v (.int .i64)], out := [.bool], F := fun x => some ((f90 x.1, ()), ()) }
theorem v90 : LoopsOk Try.prog Γ t90 a90 (loopsIn (Try.f90.body.getD .skip) 0) := loopsOk_nil (by kernel_rfl)
theorem r90 (x : InsT c90.ins) : fnK Try.prog Γ t90 a90 Try.f90 c90 x = g90 x.1 := by kernel_rfl
theorem k90 : TblOk Try.prog t90 := tblOk_cons o61 (tblOk_nil)
theorem o90 : Holds Try.prog 90 c90 := fn_holds (code := Try.f90.body.getD .skip) (by kernel_rfl) gamOk k90 Try.func90 (by kernel_rfl) (by kernel_rfl) (by kernel_rfl) (by kernel_rfl) v90 (fun x _ h => (r90 x).trans ((n90 x.1).trans h))
/-! ### 130: loop.example/g00076/impl.slotAt$1 -/
noncomputable def t130 : Tbl := []
noncomputable def a130 : Nat → Option LoopAnn := fun _ => none
noncomputable def g130 (x0 : Ta5) (x1 : Int) : Option ((Bool × Unit) × Unit) :=
  bif (decide (x0.2.1 ≤ x1)) then
    some (((decide (x1 < (wI (x0.2.1 + x0.2.2.1)))), ()), ())
  else
    some ((false, ()), ())
noncomputable def f130 (x0 : Ta5) (x1 : Int) : Bool :=
  bif (decide (x0.2.1 ≤ x1)) then
    (decide (x1 < (wI (x0.2.1 + x0.2.2.1))))
  else
    false
theorem n130 (x0 : Ta5) (x1 : Int) : g130 x0 x1 = some ((f130 x0 x1, ()), ()) := by
  simp only [g130, f130, pull1]
noncomputable def c130 : Ctr := { ins := [.v Ty47, .rf (.int .i64)], out := [.bool], F := fun x => some ((f130 x.1 x.2.1, ()), ()) }
theorem v130 : LoopsOk Try.prog Γ t130 a130 (loopsIn (Try.f130.body.getD .skip) 0) := loopsOk_nil (by kernel_rfl)
theorem r130 (x : InsT c130.ins) : fnK Try.prog Γ t130 a130 Try.f130 c130 x = g130 x.1 x.2.1 := by kernel_rfl
theorem k130 : TblOk Try.prog t130 := tblOk_nil
theorem o130 : Holds Try.prog 130 c130 := fn_holds (code := Try.f130.body.getD .skip) (by kernel_rfl) gamOk k130 Try.func130 (by kernel_rfl) (by kernel_rfl) (by kernel_rfl) (by kernel_rfl) v130 (fun x _ h => (r130 x).trans ((n130 x.1 x.2.1).trans h))
/-! ### 129: slices.IndexFunc[[]loop.example/g00076/impl.Slot,loop.example/g00076/impl.Slot] -/
noncomputable def t129_130 : Tbl := [(130, [], c130)]
abbrev h129_130_L0 : Shape := { slots := [(0, .v Ty54), (1, .clo 130 [(.int .i64)]), (7, .v (.int .i64)), (8, .v (.int .i64))], boxes := [] }
abbrev e129_130_L0 : List (XT × Shape) := [(.ret, { slots := [(4, .v (.int .i64))], boxes := [] }), (.exit 0, { slots := [], boxes := [] })]
noncomputable def q129_130_L0 (t0 : Ta12) (t1 : (Int × Unit)) (t7 : Int) (t8 : Int) : Option (Ta65 ⊕ (((Int × Unit) × Unit) ⊕ ((Unit × Unit) ⊕ Empty))) :=
  bif (decide (t8 < t7)) then
    bif (decide (0 ≤ t8) && decide (t8 < (t0.len : Int))) then
      bif (f130 (L.get t0 t8.toNat) t1.1) then
        some (.inr (.inl ((t8, ()), ())))
      else
        some (.inl ((t0, (t1, (t7, ((wI (t8 + (1 : Int))), ())))), ()))
    else
      none
  else
    some (.inr (.inr (.inl ((), ()))))
noncomputable def s129_130_L0 (x : Ta65) : Option (Ta65 ⊕ (((Int × Unit) × Unit) ⊕ ((Unit × Unit) ⊕ Empty))) := q129_130_L0 x.1.1 x.1.2.1 x.1.2.2.1 x.1.2.2.2.1
noncomputable def a129_130 : Nat → Option LoopAnn := fun c => bif Nat.beq c 0 then some (.fix h129_130_L0 e129_130_L0 s129_130_L0) else none
noncomputable def g129_130 (x0 : Ta12) (x1 : (Int × Unit)) : Option ((Int × Unit) × Unit) :=
  (fixO s129_130_L0 ((x0, (x1, ((x0.len : Int), ((0 : Int), ())))), ())).bind fun d2 => match d2 with
  | .inl y1 =>
    some ((y1.1.1, ()), ())
  | .inr (.inl y1) =>
    some (((-1 : Int), ()), ())
  | .inr (.inr e) => nomatch e
noncomputable def c129_130 : Ctr := { ins := [.v Ty54, .clo 130 [(.int .i64)]], out := [(.int .i64)], F := fun x => g129_130 x.1 x.2.1 }
noncomputable def l129_130 : List (Nat × Code) := loopsIn (Try.f129.body.getD .skip) 0
theorem w129_130_L0 (x : h129_130_L0.T) : runK Try.prog Γ t129_130 a129_130 (l129_130.getD 0 (0, .skip)).2 0 (pkSh h129_130_L0 x) (loopCls (sh := h129_130_L0) (es := e129_130_L0)) = (s129_130_L0 x : Option _) := by kernel_rfl
theorem v129_130 : LoopsOk Try.prog Γ t129_130 a129_130 (loopsIn (Try.f129.body.getD .skip) 0) := by
  have e : loopsIn (Try.f129.body.getD .skip) 0 = [(0, (l129_130.getD 0 (0, .skip)).2)] := by kernel_rfl
  rw [e]
  exact ⟨fun x d h => (w129_130_L0 x).trans h, trivial⟩
theorem r129_130 (x : InsT c129_130.ins) : fnK Try.prog Γ t129_130 a129_130 Try.f129 c129_130 x = g129_130 x.1 x.2.1 := by kernel_rfl
theorem k129_130 : TblOk Try.prog t129_130 := tblOk_cons o130 (tblOk_nil)
theorem o129_130 : Holds Try.prog 129 c129_130 := fn_holds (code := Try.f129.body.getD .skip) (by kernel_rfl) gamOk k129_130 Try.func129 (by kernel_rfl) (by kernel_rfl) (by kernel_rfl) (by kernel_rfl) v129_130 (fun x _ h => (r129_130 x).trans h)
/-! ### 92: loop.example/g00076/impl.slotAt -/
noncomputable def t92 : Tbl := [(129, [130], c129_130)]
noncomputable def a92 : Nat → Option LoopAnn := fun _ => none
noncomputable def g92 (x0 : Ta122) (x1 : Int) : Option ((Int × Unit) × Unit) :=
  bif (!decide (x0.2.2.2.2.2.2.1 = 0)) then
    (g129_130 x0.2.2.2.2.2.2.2.2.2.2.1 ((Int.tmod x1 x0.2.2.2.2.2.2.1), ())).bind fun y1 =>
      some ((y1.1.1, ()), ())
  else
    none
noncomputable def c92 : Ctr := { ins := [.v Ty144, .v (.int .i64)], out := [(.int .i64)], F := fun x => g92 x.1 x.2.1 }
theorem v92 : LoopsOk Try.prog Γ t92 a92 (loopsIn (Try.f92.body.getD .skip) 0) := loopsOk_nil (by kernel_rfl)
theorem r92 (x : InsT c92.ins) : fnK Try.prog Γ t92 a92 Try.f92 c92 x = g92 x.1 x.2.1 := by kernel_rfl
theorem k92 : TblOk Try.prog t92 := tblOk_cons o129_130 (tblOk_nil)
theorem o92 : Holds Try.prog 92 c92 := fn_holds (code := Try.f92.body.getD .skip) (by kernel_rfl) gamOk k92 Try.func92 (by kernel_rfl) (by kernel_rfl) (by kernel_rfl) (by kernel_rfl) v92 (fun x _ h => (r92 x).trans h)
/-! ### 93: loop.example/g00076/impl.phaseAt -/
noncomputable def t93 : Tbl := [(92, [], c92)]
noncomputable def a93 : Nat → Option LoopAnn := fun _ => none
noncomputable def g93 (x0 : Ta122) (x1 : Int) : Option ((Int × (Int × Unit)) × Unit) :=
  (g92 x0 x1).bind fun y1 =>
    bif (decide (y1.1.1 < (0 : Int))) then
      some (((0 : Int), (-1 : Int), ()), ())
    else
      bif (decide (0 ≤ y1.1.1) && decide (y1.1.1 < (x0.2.2.2.2.2.2.2.2.2.2.1.len : Int))) then
        bif (!decide (x0.2.2.2.2.2.2.1 = 0)) then
          bif (decide ((wI ((Int.tmod x1 x0.2.2.2.2.2.2.1) - (L.get x0.2.2.2.2.2.2.2.2.2.2.1 y1.1.1.toNat).2.1)) < x0.2.2.2.2.1)) then
            some (((1 : Int), (L.get x0.2.2.2.2.2.2.2.2.2.2.1 y1.1.1.toNat).1, ()), ())
          else
            bif (decide ((wI ((Int.tmod x1 x0.2.2.2.2.2.2.1) - (L.get x0.2.2.2.2.2.2.2.2.2.2.1 y1.1.1.toNat).2.1)) ≥ (wI ((L.get x0.2.2.2.2.2.2.2.2.2.2.1 y1.1.1.toNat).2.2.1 - x0.2.2.2.2.2.1)))) then
              some (((3 : Int), (L.get x0.2.2.2.2.2.2.2.2.2.2.1 y1.1.1.toNat).1, ()), ())
            else
              some (((2 : Int), (L.get x0.2.2.2.2.2.2.2.2.2.2.1 y1.1.1.toNat).1, ()), ())
        else
          none
      else
        none
noncomputable def c93 : Ctr := { ins := [.v Ty144, .v (.int .i64)], out := [(.int .i64), (.int .i64)], F := fun x => g93 x.1 x.2.1 }
theorem v93 : LoopsOk Try.prog Γ t93 a93 (loopsIn (Try.f93.body.getD .skip) 0) := loopsOk_nil (by kernel_rfl)
theorem r93 (x : InsT c93.ins) : fnK Try.prog Γ t93 a93 Try.f93 c93 x = g93 x.1 x.2.1 := by kernel_rfl
theorem k93 : TblOk Try.prog t93 := tblOk_cons o92 (tblOk_nil)
theorem o93 : Holds Try.prog 93 c93 := fn_holds (code := Try.f93.body.getD .skip) (by kernel_rfl) gamOk k93 Try.func93 (by kernel_rfl) (by kernel_rfl) (by kernel_rfl) (by kernel_rfl) v93 (fun x _ h => (r93 x).trans h)
/-! ### 45: loop.example/g00076/impl.PhaseAt -/
noncomputable def t45 : Tbl := [(89, [], c89), (90, [], c90), (93, [], c93)]
noncomputable def a45 : Nat → Option LoopAnn := fun _ => none
noncomputable def g45 (x0 : Ta122) (x1 : Int) : Option ((Int × Unit) × Unit) :=
  (g89 x0).bind fun y1 =>
    bif (!y1.1.1) then
      some (((-1 : Int), ()), ())
    else
      bif (!(f90 x1)) then
        some (((-1 : Int), ()), ())
      else
        (g93 x0 x1).bind fun y2 =>
          some ((y2.1.1, ()), ())
noncomputable def c45 : Ctr := { ins := [.v Ty144, .v (.int .i64)], out := [(.int .i64)], F := fun x => g45 x.1 x.2.1 }
theorem v45 : LoopsOk Try.prog Γ t45 a45 (loopsIn (Try.f45.body.getD .skip) 0) := loopsOk_nil (by kernel_rfl)
theorem r45 (x : InsT c45.ins) : fnK Try.prog Γ t45 a45 Try.f45 c45 x = g45 x.1 x.2.1 := by kernel_rfl
theorem k45 : TblOk Try.prog t45 := tblOk_cons o89 (tblOk_cons o90 (tblOk_cons o93 (tblOk_nil)))
theorem o45 : Holds Try.prog 45 c45 := fn_holds (code := Try.f45.body.getD .skip) (by kernel_rfl) gamOk k45 Try.func45 (by kernel_rfl) (by kernel_rfl) (by kernel_rfl) (by kernel_rfl) v45 (fun x _ h => (r45 x).trans h)
/-! ### 46: loop.example/g00076/impl.SlotAt -/
noncomputable def t46 : Tbl := [(89, [], c89), (90, [], c90), (92, [], c92)]
noncomputable def a46 : Nat → Option LoopAnn := fun _ => none
noncomputable def g46 (x0 : Ta122) (x1 : Int) : Option ((Int × Unit) × Unit) :=
  (g89 x0).bind fun y1 =>
    bif (!y1.1.1) then
      some (((-1 : Int), ()), ())
    else
      bif (!(f90 x1)) then
        some (((-1 : Int), ()), ())
      else
        (g92 x0 x1).bind fun y2 =>
          some ((y2.1.1, ()), ())
noncomputable def c46 : Ctr := { ins := [.v Ty144, .v (.int .i64)], out := [(.int .i64)], F := fun x => g46 x.1 x.2.1 }
theorem v46 : LoopsOk Try.prog Γ t46 a46 (loopsIn (Try.f46.body.getD .skip) 0) := loopsOk_nil (by kernel_rfl)
theorem r46 (x : InsT c46.ins) : fnK Try.prog Γ t46 a46 Try.f46 c46 x = g46 x.1 x.2.1 := by kernel_rfl
theorem k46 : TblOk Try.prog t46 := tblOk_cons o89 (tblOk_cons o90 (tblOk_cons o92 (tblOk_nil)))
theorem o46 : Holds Try.prog 46 c46 := fn_holds (code := Try.f46.body.getD .skip) (by kernel_rfl) gamOk k46 Try.func46 (by kernel_rfl) (by kernel_rfl) (by kernel_rfl) (by kernel_rfl) v46 (fun x _ h => (r46 x).trans h)
/-! ### 47: loop.example/g00076/impl.FrameOf -/
noncomputable def t47 : Tbl := [(89, [], c89), (90, [], c90)]
noncomputable def a47 : Nat → Option LoopAnn := fun _ => none
noncomputable def g47 (x0 : Ta122) (x1 : Int) : Option ((Int × Unit) × Unit) :=
  (g89 x0).bind fun y1 =>
    bif (!y1.1.1) then
      some (((-1 : Int), ()), ())
    else
      bif (!(f90 x1)) then
        some (((-1 : Int), ()), ())
      else
        bif (!decide (x0.2.2.2.2.2.2.1 = 0)) then
          some (((wI (Int.tdiv x1 x0.2.2.2.2.2.2.1)), ()), ())
        else
          none
noncomputable def c47 : Ctr := { ins := [.v Ty144, .v (.int .i64)], out := [(.int .i64)], F := fun x => g47 x.1 x.2.1 }
theorem v47 : LoopsOk Try.prog Γ t47 a47 (loopsIn (Try.f47.body.getD .skip) 0) := loopsOk_nil (by kernel_rfl)
theorem r47 (x : InsT c47.ins) : fnK Try.prog Γ t47 a47 Try.f47 c47 x = g47 x.1 x.2.1 := by kernel_rfl
theorem k47 : TblOk Try.prog t47 := tblOk_cons o89 (tblOk_cons o90 (tblOk_nil))
theorem o47 : Holds Try.prog 47 c47 := fn_holds (code := Try.f47.body.getD .skip) (by kernel_rfl) gamOk k47 Try.func47 (by kernel_rfl) (by kernel_rfl) (by kernel_rfl) (by kernel_rfl) v47 (fun x _ h => (r47 x).trans h)
/-! ### 48: loop.example/g00076/impl.HolderAt -/
noncomputable def t48 : Tbl := [(89, [], c89), (90, [], c90), (93, [], c93)]
noncomputable def a48 : Nat → Option LoopAnn := fun _ => none
noncomputable def g48 (x0 : Ta122) (x1 : Int) : Option ((Int × Unit) × Unit) :=
  (g89 x0).bind fun y1 =>
    bif (!y1.1.1) then
      some (((-1 : Int), ()), ())
    else
      bif (!(f90 x1)) then
        some (((-1 : Int), ()), ())
      else
        (g93 x0 x1).bind fun y2 =>
          bif (y2.1.1 == (2 : Int)) then
            some ((y2.1.2.1, ()), ())
          else
            bif (y2.1.1 == (3 : Int)) then
              some ((y2.1.2.1, ()), ())
            else
              some (((-1 : Int), ()), ())
noncomputable def c48 : Ctr := { ins := [.v Ty144, .v (.int .i64)], out := [(.int .i64)], F := fun x => g48 x.1 x.2.1 }
theorem v48 : LoopsOk Try.prog Γ t48 a48 (loopsIn (Try.f48.body.getD .skip) 0) := loopsOk_nil (by kernel_rfl)
theorem r48 (x : InsT c48.ins) : fnK Try.prog Γ t48 a48 Try.f48 c48 x = g48 x.1 x.2.1 := by kernel_rfl
theorem k48 : TblOk Try.prog t48 := tblOk_cons o89 (tblOk_cons o90 (tblOk_cons o93 (tblOk_nil)))
theorem o48 : Holds Try.prog 48 c48 := fn_holds (code := Try.f48.body.getD .skip) (by kernel_rfl) gamOk k48 Try.func48 (by kernel_rfl) (by kernel_rfl) (by kernel_rfl) (by kernel_rfl) v48 (fun x _ h => (r48 x).trans h)
/-! ### 91: loop.example/g00076/impl.mayBegin -/
noncomputable def t91 : Tbl := [(93, [], c93)]
noncomputable def a91 : Nat → Option LoopAnn := fun _ => none
noncomputable def g91 (x0 : Ta122) (x1 : Int) : Option ((Int × Unit) × Unit) :=
  (g93 x0 x1).bind fun y1 =>
    bif (y1.1.1 == (2 : Int)) then
      some ((y1.1.2.1, ()), ())
    else
      some (((-1 : Int), ()), ())
noncomputable def c91 : Ctr := { ins := [.v Ty144, .v (.int .i64)], out := [(.int .i64)], F := fun x => g91 x.1 x.2.1 }
theorem v91 : LoopsOk Try.prog Γ t91 a91 (loopsIn (Try.f91.body.getD .skip) 0) := loopsOk_nil (by kernel_rfl)
theorem r91 (x : InsT c91.ins) : fnK Try.prog Γ t91 a91 Try.f91 c91 x = g91 x.1 x.2.1 := by kernel_rfl
theorem k91 : TblOk Try.prog t91 := tblOk_cons o93 (tblOk_nil)
theorem o91 : Holds Try.prog 91 c91 := fn_holds (code := Try.f91.body.getD .skip) (by kernel_rfl) gamOk k91 Try.func91 (by kernel_rfl) (by kernel_rfl) (by kernel_rfl) (by kernel_rfl) v91 (fun x _ h => (r91 x).trans h)
/-! ### 49: loop.example/g00076/impl.MayBegin -/
noncomputable def t49 : Tbl := [(89, [], c89), (90, [], c90), (91, [], c91)]
noncomputable def a49 : Nat → Option LoopAnn := fun _ => none
noncomputable def g49 (x0 : Ta122) (x1 : Int) : Option ((Int × Unit) × Unit) :=
  (g89 x0).bind fun y1 =>
    bif (!y1.1.1) then
      some (((-1 : Int), ()), ())
    else
      bif (!(f90 x1)) then
        some (((-1 : Int), ()), ())
      else
        (g91 x0 x1).bind fun y2 =>
          some ((y2.1.1, ()), ())
noncomputable def c49 : Ctr := { ins := [.v Ty144, .v (.int .i64)], out := [(.int .i64)], F := fun x => g49 x.1 x.2.1 }
theorem v49 : LoopsOk Try.prog Γ t49 a49 (loopsIn (Try.f49.body.getD .skip) 0) := loopsOk_nil (by kernel_rfl)
theorem r49 (x : InsT c49.ins) : fnK Try.prog Γ t49 a49 Try.f49 c49 x = g49 x.1 x.2.1 := by kernel_rfl
theorem k49 : TblOk Try.prog t49 := tblOk_cons o89 (tblOk_cons o90 (tblOk_cons o91 (tblOk_nil)))
theorem o49 : Holds Try.prog 49 c49 := fn_holds (code := Try.f49.body.getD .skip) (by kernel_rfl) gamOk k49 Try.func49 (by kernel_rfl) (by kernel_rfl) (by kernel_rfl) (by kernel_rfl) v49 (fun x _ h => (r49 x).trans h)
/-! ### 94: loop.example/g00076/impl.nextSwitch -/
noncomputable def t94 : Tbl := []
abbrev h94_L0 : Shape := { slots := [(1, .v (.int .i64)), (2, .bx 2 0), (5, .v (.int .i64)), (15, .v Ty54), (16, .v (.int .i64)), (17, .v (.int .i64))], boxes := [(2, .typ Ty144)] }
abbrev e94_L0 : List (XT × Shape) := [(.ret, { slots := [(4, .v (.int .i64))], boxes := [] }), (.exit 0, { slots := [(2, .bx 2 0), (5, .v (.int .i64))], boxes := [(2, .typ Ty144)] })]
noncomputable def q94_L0 (t1 : Int) (t5 : Int) (t15 : Ta12) (t16 : Int) (t17 : Int) (b2 : Ta122) : Option (Ta132 ⊕ (((Int × Unit) × Unit) ⊕ (Ta125 ⊕ Empty))) :=
  bif (decide (t17 < t16)) then
    bif (decide (0 ≤ t17) && decide (t17 < (t15.len : Int))) then
      bif (decide ((wI (t5 + (L.get t15 t17.toNat).2.1)) ≥ t1)) then
        some (.inr (.inl (((wI (t5 + (L.get t15 t17.toNat).2.1)), ()), ())))
      else
        some (.inl ((t1, ((), (t5, (t15, (t16, ((wI (t17 + (1 : Int))), ())))))), (b2, ())))
    else
      none
  else
    some (.inr (.inr (.inl (((), (t5, ())), (b2, ())))))
noncomputable def s94_L0 (x : Ta132) : Option (Ta132 ⊕ (((Int × Unit) × Unit) ⊕ (Ta125 ⊕ Empty))) := q94_L0 x.1.1 x.1.2.2.1 x.1.2.2.2.1 x.1.2.2.2.2.1 x.1.2.2.2.2.2.1 x.2.1
noncomputable def a94 : Nat → Option LoopAnn := fun c => bif Nat.beq c 0 then some (.fix h94_L0 e94_L0 s94_L0) else none
noncomputable def g94 (x0 : Ta122) (x1 : Int) : Option ((Int × Unit) × Unit) :=
  bif (!decide (x0.2.2.2.2.2.2.1 = 0)) then
    (fixO s94_L0 ((x1, ((), ((wI (x1 - (Int.tmod x1 x0.2.2.2.2.2.2.1))), (x0.2.2.2.2.2.2.2.2.2.2.1, ((x0.2.2.2.2.2.2.2.2.2.2.1.len : Int), ((0 : Int), ())))))), (x0, ()))).bind fun d2 => match d2 with
    | .inl y1 =>
      some ((y1.1.1, ()), ())
    | .inr (.inl y1) =>
      bif (decide ((0 : Int) < (y1.2.1.2.2.2.2.2.2.2.2.2.2.1.len : Int))) then
        some (((wI ((wI (y1.1.2.1 + y1.2.1.2.2.2.2.2.2.1)) + (L.get y1.2.1.2.2.2.2.2.2.2.2.2.2.1 (0 : Int).toNat).2.1)), ()), ())
      else
        none
    | .inr (.inr e) => nomatch e
  else
    none
noncomputable def c94 : Ctr := { ins := [.v Ty144, .v (.int .i64)], out := [(.int .i64)], F := fun x => g94 x.1 x.2.1 }
noncomputable def l94 : List (Nat × Code) := loopsIn (Try.f94.body.getD .skip) 0
theorem w94_L0 (x : h94_L0.T) : runK Try.prog Γ t94 a94 (l94.getD 0 (0, .skip)).2 0 (pkSh h94_L0 x) (loopCls (sh := h94_L0) (es := e94_L0)) = (s94_L0 x : Option _) := by kernel_rfl
theorem v94 : LoopsOk Try.prog Γ t94 a94 (loopsIn (Try.f94.body.getD .skip) 0) := by
  have e : loopsIn (Try.f94.body.getD .skip) 0 = [(0, (l94.getD 0 (0, .skip)).2)] := by kernel_rfl
  rw [e]
  exact ⟨fun x d h => (w94_L0 x).trans h, trivial⟩
theorem r94 (x : InsT c94.ins) : fnK Try.prog Γ t94 a94 Try.f94 c94 x = g94 x.1 x.2.1 := by kernel_rfl
theorem k94 : TblOk Try.prog t94 := tblOk_nil
theorem o94 : Holds Try.prog 94 c94 := fn_holds (code := Try.f94.body.getD .skip) (by kernel_rfl) gamOk k94 Try.func94 (by kernel_rfl) (by kernel_rfl) (by kernel_rfl) (by kernel_rfl) v94 (fun x _ h => (r94 x).trans h)
/-! ### 50: loop.example/g00076/impl.NextSwitch -/
noncomputable def t50 : Tbl := [(89, [], c89), (90, [], c90), (94, [], c94)]
noncomputable def a50 : Nat → Option LoopAnn := fun _ => none
noncomputable def g50 (x0 : Ta122) (x1 : Int) : Option ((Int × Unit) × Unit) :=
  (g89 x0).bind fun y1 =>
    bif (!y1.1.1) then
      some (((-1 : Int), ()), ())
    else
      bif (!(f90 x1)) then
        some (((-1 : Int), ()), ())
      else
        (g94 x0 x1).bind fun y2 =>
          some ((y2.1.1, ()), ())
noncomputable def c50 : Ctr := { ins := [.v Ty144, .v (.int .i64)], out := [(.int .i64)], F := fun x => g50 x.1 x.2.1 }
theorem v50 : LoopsOk Try.prog Γ t50 a50 (loopsIn (Try.f50.body.getD .skip) 0) := loopsOk_nil (by kernel_rfl)
theorem r50 (x : InsT c50.ins) : fnK Try.prog Γ t50 a50 Try.f50 c50 x = g50 x.1 x.2.1 := by kernel_rfl
theorem k50 : TblOk Try.prog t50 := tblOk_cons o89 (tblOk_cons o90 (tblOk_cons o94 (tblOk_nil)))
theorem o50 : Holds Try.prog 50 c50 := fn_holds (code := Try.f50.body.getD .skip) (by kernel_rfl) gamOk k50 Try.func50 (by kernel_rfl) (by kernel_rfl) (by kernel_rfl) (by kernel_rfl) v50 (fun x _ h => (r50 x).trans h)
/-! ### 44: loop.example/g00076/impl.SlotStarts -/
noncomputable def t44 : Tbl := [(89, [], c89), (90, [], c90), (92, [], c92)]
abbrev h44_L0 : Shape := { slots := [(1, .v (.int .i64)), (3, .v (.int .i64)), (4, .bx 4 0), (9, .ext (.int .i64) 50009), (10, .v (.int .i64))], boxes := [(4, .typ Ty144)] }
abbrev e44_L0 : List (XT × Shape) := [(.exit 0, { slots := [(9, .ext (.int .i64) 50009)], boxes := [] })]
noncomputable def q44_L0 (t1 : Int) (t3 : Int) (t9 : (L Int)) (t10 : Int) (b4 : Ta122) : Option (Ta128 ⊕ (Ta2 ⊕ Empty)) :=
  bif (decide (t10 < t3)) then
    (g92 b4 t10).bind fun y2 =>
      bif (decide (y2.1.1 ≥ (0 : Int))) then
        bif (decide (0 ≤ y2.1.1) && decide (y2.1.1 < (b4.2.2.2.2.2.2.2.2.2.2.1.len : Int))) then
          bif ((L.get b4.2.2.2.2.2.2.2.2.2.2.1 y2.1.1.toNat).1 == t1) then
            bif (decide (0 ≤ y2.1.1) && decide (y2.1.1 < (b4.2.2.2.2.2.2.2.2.2.2.1.len : Int))) then
              bif (!decide (b4.2.2.2.2.2.2.1 = 0)) then
                bif ((L.get b4.2.2.2.2.2.2.2.2.2.2.1 y2.1.1.toNat).2.1 == (Int.tmod t10 b4.2.2.2.2.2.2.1)) then
                  bif (decide (t9.len + (L.of (Ty.zero (.int .i64)) [t10]).len ≤ most)) then
                    some (.inl ((t1, (t3, ((), ((L.app t9 (L.of (Ty.zero (.int .i64)) [t10])), ((wI (t10 + (1 : Int))), ()))))), (b4, ())))
                  else
                    none
                else
                  some (.inl ((t1, (t3, ((), (t9, ((wI (t10 + (1 : Int))), ()))))), (b4, ())))
              else
                none
            else
              none
          else
            some (.inl ((t1, (t3, ((), (t9, ((wI (t10 + (1 : Int))), ()))))), (b4, ())))
        else
          none
      else
        some (.inl ((t1, (t3, ((), (t9, ((wI (t10 + (1 : Int))), ()))))), (b4, ())))
  else
    some (.inr (.inl ((t9, ()), ())))
noncomputable def s44_L0 (x : Ta128) : Option (Ta128 ⊕ (Ta2 ⊕ Empty)) := q44_L0 x.1.1 x.1.2.1 x.1.2.2.2.1 x.1.2.2.2.2.1 x.2.1
noncomputable def a44 : Nat → Option LoopAnn := fun c => bif Nat.beq c 0 then some (.fix h44_L0 e44_L0 s44_L0) else none
noncomputable def g44 (x0 : Ta122) (x1 : Int) (x2 : Int) (x3 : Int) : Option Ta2 :=
  (g89 x0).bind fun y1 =>
    bif (!y1.1.1) then
      some (((nilL (.int .i64)), ()), ())
    else
      bif (!(f90 x2)) then
        some (((nilL (.int .i64)), ()), ())
      else
        bif (!(f90 x3)) then
          some (((nilL (.int .i64)), ()), ())
        else
          (fixO s44_L0 ((x1, (x3, ((), ((nilL (.int .i64)), (x2, ()))))), (x0, ()))).bind fun d4 => match d4 with
          | .inl y3 =>
            some ((y3.1.1, ()), ())
          | .inr e => nomatch e
noncomputable def c44 : Ctr := { ins := [.v Ty144, .v (.int .i64), .v (.int .i64), .v (.int .i64)], out := [(.sl (.int .i64))], F := fun x => g44 x.1 x.2.1 x.2.2.1 x.2.2.2.1 }
noncomputable def l44 : List (Nat × Code) := loopsIn (Try.f44.body.getD .skip) 0
theorem w44_L0 (x : h44_L0.T) : runK Try.prog Γ t44 a44 (l44.getD 0 (0, .skip)).2 0 (pkSh h44_L0 x) (loopCls (sh := h44_L0) (es := e44_L0)) = (s44_L0 x : Option _) := by kernel_rfl
theorem v44 : LoopsOk Try.prog Γ t44 a44 (loopsIn (Try.f44.body.getD .skip) 0) := by
  have e : loopsIn (Try.f44.body.getD .skip) 0 = [(0, (l44.getD 0 (0, .skip)).2)] := by kernel_rfl
  rw [e]
  exact ⟨fun x d h => (w44_L0 x).trans h, trivial⟩
theorem r44 (x : InsT c44.ins) : fnK Try.prog Γ t44 a44 Try.f44 c44 x = g44 x.1 x.2.1 x.2.2.1 x.2.2.2.1 := by kernel_rfl
theorem k44 : TblOk Try.prog t44 := tblOk_cons o89 (tblOk_cons o90 (tblOk_cons o92 (tblOk_nil)))
theorem o44 : Holds Try.prog 44 c44 := fn_holds (code := Try.f44.body.getD .skip) (by kernel_rfl) gamOk k44 Try.func44 (by kernel_rfl) (by kernel_rfl) (by kernel_rfl) (by kernel_rfl) v44 (fun x _ h => (r44 x).trans h)
/-! ### 11: loop.example/g00076/laws.FnCyclic -/
noncomputable def t11 : Tbl := [(37, [], c37), (39, [], c39), (42, [], c42), (45, [], c45), (46, [], c46), (47, [], c47), (48, [], c48), (49, [], c49), (50, [], c50), (44, [], c44)]
noncomputable def a11 : Nat → Option LoopAnn := fun _ => none
noncomputable def g11 (x0 : (L Int)) : Option ((Bool × Unit) × Unit) :=
  bif (f37 x0) then
    some ((true, ()), ())
  else
    (g39 x0).bind fun y1 =>
      (g42 x0 (1 : Int)).bind fun y2 =>
        (g42 x0 (2 : Int)).bind fun y3 =>
          (g45 y1.1.1 (wI ((wI (y2.1.1 * (40 : Int))) + y3.1.1))).bind fun y4 =>
            (g45 y1.1.1 (wI ((wI ((wI (y2.1.1 * (40 : Int))) + y3.1.1)) + y1.1.1.2.2.2.2.2.2.1))).bind fun y5 =>
              bif (y4.1.1 != y5.1.1) then
                some ((false, ()), ())
              else
                (g46 y1.1.1 (wI ((wI (y2.1.1 * (40 : Int))) + y3.1.1))).bind fun y6 =>
                  (g46 y1.1.1 (wI ((wI ((wI (y2.1.1 * (40 : Int))) + y3.1.1)) + y1.1.1.2.2.2.2.2.2.1))).bind fun y7 =>
                    bif (y6.1.1 != y7.1.1) then
                      some ((false, ()), ())
                    else
                      (g47 y1.1.1 (wI ((wI ((wI (y2.1.1 * (40 : Int))) + y3.1.1)) + y1.1.1.2.2.2.2.2.2.1))).bind fun y8 =>
                        (g47 y1.1.1 (wI ((wI (y2.1.1 * (40 : Int))) + y3.1.1))).bind fun y9 =>
                          bif (y8.1.1 != (wI (y9.1.1 + (1 : Int)))) then
                            some ((false, ()), ())
                          else
                            (g45 y1.1.1 (wI ((wI (y2.1.1 * (40 : Int))) + y3.1.1))).bind fun y10 =>
                              (g46 y1.1.1 (wI ((wI (y2.1.1 * (40 : Int))) + y3.1.1))).bind fun y11 =>
                                bif (decide (y10.1.1 < (0 : Int))) then
                                  some ((false, ()), ())
                                else
                                  bif (decide (y10.1.1 > (3 : Int))) then
                                    some ((false, ()), ())
                                  else
                                    bif (!((y11.1.1 == (-1 : Int)) == (y10.1.1 == (0 : Int)))) then
                                      some ((false, ()), ())
                                    else
                                      (g48 y1.1.1 (wI ((wI (y2.1.1 * (40 : Int))) + y3.1.1))).bind fun y12 =>
                                        bif (y10.1.1 == (2 : Int)) then
                                          bif (!((decide (y12.1.1 ≥ (0 : Int))) == true)) then
                                            some ((false, ()), ())
                                          else
                                            (g49 y1.1.1 (wI ((wI (y2.1.1 * (40 : Int))) + y3.1.1))).bind fun y13 =>
                                              bif (!((decide (y13.1.1 ≥ (0 : Int))) == (y10.1.1 == (2 : Int)))) then
                                                some ((false, ()), ())
                                              else
                                                bif (decide (y11.1.1 ≥ (0 : Int))) then
                                                  (g48 y1.1.1 (wI ((wI (y2.1.1 * (40 : Int))) + y3.1.1))).bind fun y14 =>
                                                    bif (decide (y14.1.1 ≥ (0 : Int))) then
                                                      (g48 y1.1.1 (wI ((wI (y2.1.1 * (40 : Int))) + y3.1.1))).bind fun y15 =>
                                                        bif (decide (0 ≤ y11.1.1) && decide (y11.1.1 < (y1.1.1.2.2.2.2.2.2.2.2.2.2.1.len : Int))) then
                                                          bif (y15.1.1 != (L.get y1.1.1.2.2.2.2.2.2.2.2.2.2.1 y11.1.1.toNat).1) then
                                                            some ((false, ()), ())
                                                          else
                                                            (g50 y1.1.1 (wI ((wI (y2.1.1 * (40 : Int))) + y3.1.1))).bind fun y16 =>
                                                              (g46 y1.1.1 y16.1.1).bind fun y17 =>
                                                                bif (decide (y16.1.1 < (wI ((wI (y2.1.1 * (40 : Int))) + y3.1.1)))) then
                                                                  some ((false, ()), ())
                                                                else
                                                                  bif (decide (y16.1.1 > (wI ((wI ((wI (y2.1.1 * (40 : Int))) + y3.1.1)) + y1.1.1.2.2.2.2.2.2.1)))) then
                                                                    some ((false, ()), ())
                                                                  else
                                                                    bif (decide (y17.1.1 < (0 : Int))) then
                                                                      some ((false, ()), ())
                                                                    else
                                                                      bif (!decide (y1.1.1.2.2.2.2.2.2.1 = 0)) then
                                                                        bif (decide (0 ≤ y17.1.1) && decide (y17.1.1 < (y1.1.1.2.2.2.2.2.2.2.2.2.2.1.len : Int))) then
                                                                          bif ((Int.tmod y16.1.1 y1.1.1.2.2.2.2.2.2.1) != (L.get y1.1.1.2.2.2.2.2.2.2.2.2.2.1 y17.1.1.toNat).2.1) then
                                                                            some ((false, ()), ())
                                                                          else
                                                                            (g45 y1.1.1 y16.1.1).bind fun y18 =>
                                                                              bif (y18.1.1 != (1 : Int)) then
                                                                                some ((false, ()), ())
                                                                              else
                                                                                (g50 y1.1.1 y16.1.1).bind fun y19 =>
                                                                                  bif (y19.1.1 == y16.1.1) then
                                                                                    bif (decide (0 ≤ y17.1.1) && decide (y17.1.1 < (y1.1.1.2.2.2.2.2.2.2.2.2.2.1.len : Int))) then
                                                                                      (g44 y1.1.1 (L.get y1.1.1.2.2.2.2.2.2.2.2.2.2.1 y17.1.1.toNat).1 (wI ((wI (y2.1.1 * (40 : Int))) + y3.1.1)) (wI (y16.1.1 + (1 : Int)))).bind fun y20 =>
                                                                                        some ((((y20.1.1.len : Int) == (1 : Int)), ()), ())
                                                                                    else
                                                                                      none
                                                                                  else
                                                                                    some ((false, ()), ())
                                                                        else
                                                                          none
                                                                      else
                                                                        none
                                                        else
                                                          none
                                                    else
                                                      (g50 y1.1.1 (wI ((wI (y2.1.1 * (40 : Int))) + y3.1.1))).bind fun y21 =>
                                                        (g46 y1.1.1 y21.1.1).bind fun y22 =>
                                                          bif (decide (y21.1.1 < (wI ((wI (y2.1.1 * (40 : Int))) + y3.1.1)))) then
                                                            some ((false, ()), ())
                                                          else
                                                            bif (decide (y21.1.1 > (wI ((wI ((wI (y2.1.1 * (40 : Int))) + y3.1.1)) + y1.1.1.2.2.2.2.2.2.1)))) then
                                                              some ((false, ()), ())
                                                            else
                                                              bif (decide (y22.1.1 < (0 : Int))) then
                                                                some ((false, ()), ())
                                                              else
                                                                bif (!decide (y1.1.1.2.2.2.2.2.2.1 = 0)) then
                                                                  bif (decide (0 ≤ y22.1.1) && decide (y22.1.1 < (y1.1.1.2.2.2.2.2.2.2.2.2.2.1.len : Int))) then
                                                                    bif ((Int.tmod y21.1.1 y1.1.1.2.2.2.2.2.2.1) != (L.get y1.1.1.2.2.2.2.2.2.2.2.2.2.1 y22.1.1.toNat).2.1) then
                                                                      some ((false, ()), ())
                                                                    else
                                                                      (g45 y1.1.1 y21.1.1).bind fun y23 =>
                                                                        bif (y23.1.1 != (1 : Int)) then
                                                                          some ((false, ()), ())
                                                                        else
                                                                          (g50 y1.1.1 y21.1.1).bind fun y24 =>
                                                                            bif (y24.1.1 == y21.1.1) then
                                                                              bif (decide (0 ≤ y22.1.1) && decide (y22.1.1 < (y1.1.1.2.2.2.2.2.2.2.2.2.2.1.len : Int))) then
                                                                                (g44 y1.1.1 (L.get y1.1.1.2.2.2.2.2.2.2.2.2.2.1 y22.1.1.toNat).1 (wI ((wI (y2.1.1 * (40 : Int))) + y3.1.1)) (wI (y21.1.1 + (1 : Int)))).bind fun y25 =>
                                                                                  some ((((y25.1.1.len : Int) == (1 : Int)), ()), ())
                                                                              else
                                                                                none
                                                                            else
                                                                              some ((false, ()), ())
                                                                  else
                                                                    none
                                                                else
                                                                  none
                                                else
                                                  (g50 y1.1.1 (wI ((wI (y2.1.1 * (40 : Int))) + y3.1.1))).bind fun y26 =>
                                                    (g46 y1.1.1 y26.1.1).bind fun y27 =>
                                                      bif (decide (y26.1.1 < (wI ((wI (y2.1.1 * (40 : Int))) + y3.1.1)))) then
                                                        some ((false, ()), ())
                                                      else
                                                        bif (decide (y26.1.1 > (wI ((wI ((wI (y2.1.1 * (40 : Int))) + y3.1.1)) + y1.1.1.2.2.2.2.2.2.1)))) then
                                                          some ((false, ()), ())
                                                        else
                                                          bif (decide (y27.1.1 < (0 : Int))) then
                                                            some ((false, ()), ())
                                                          else
                                                            bif (!decide (y1.1.1.2.2.2.2.2.2.1 = 0)) then
                                                              bif (decide (0 ≤ y27.1.1) && decide (y27.1.1 < (y1.1.1.2.2.2.2.2.2.2.2.2.2.1.len : Int))) then
                                                                bif ((Int.tmod y26.1.1 y1.1.1.2.2.2.2.2.2.1) != (L.get y1.1.1.2.2.2.2.2.2.2.2.2.2.1 y27.1.1.toNat).2.1) then
                                                                  some ((false, ()), ())
                                                                else
                                                                  (g45 y1.1.1 y26.1.1).bind fun y28 =>
                                                                    bif (y28.1.1 != (1 : Int)) then
                                                                      some ((false, ()), ())
                                                                    else
                                                                      (g50 y1.1.1 y26.1.1).bind fun y29 =>
                                                                        bif (y29.1.1 == y26.1.1) then
                                                                          bif (decide (0 ≤ y27.1.1) && decide (y27.1.1 < (y1.1.1.2.2.2.2.2.2.2.2.2.2.1.len : Int))) then
                                                                            (g44 y1.1.1 (L.get y1.1.1.2.2.2.2.2.2.2.2.2.2.1 y27.1.1.toNat).1 (wI ((wI (y2.1.1 * (40 : Int))) + y3.1.1)) (wI (y26.1.1 + (1 : Int)))).bind fun y30 =>
                                                                              some ((((y30.1.1.len : Int) == (1 : Int)), ()), ())
                                                                          else
                                                                            none
                                                                        else
                                                                          some ((false, ()), ())
                                                              else
                                                                none
                                                            else
                                                              none
                                        else
                                          bif (!((decide (y12.1.1 ≥ (0 : Int))) == (y10.1.1 == (3 : Int)))) then
                                            some ((false, ()), ())
                                          else
                                            (g49 y1.1.1 (wI ((wI (y2.1.1 * (40 : Int))) + y3.1.1))).bind fun y31 =>
                                              bif (!((decide (y31.1.1 ≥ (0 : Int))) == (y10.1.1 == (2 : Int)))) then
                                                some ((false, ()), ())
                                              else
                                                bif (decide (y11.1.1 ≥ (0 : Int))) then
                                                  (g48 y1.1.1 (wI ((wI (y2.1.1 * (40 : Int))) + y3.1.1))).bind fun y32 =>
                                                    bif (decide (y32.1.1 ≥ (0 : Int))) then
                                                      (g48 y1.1.1 (wI ((wI (y2.1.1 * (40 : Int))) + y3.1.1))).bind fun y33 =>
                                                        bif (decide (0 ≤ y11.1.1) && decide (y11.1.1 < (y1.1.1.2.2.2.2.2.2.2.2.2.2.1.len : Int))) then
                                                          bif (y33.1.1 != (L.get y1.1.1.2.2.2.2.2.2.2.2.2.2.1 y11.1.1.toNat).1) then
                                                            some ((false, ()), ())
                                                          else
                                                            (g50 y1.1.1 (wI ((wI (y2.1.1 * (40 : Int))) + y3.1.1))).bind fun y34 =>
                                                              (g46 y1.1.1 y34.1.1).bind fun y35 =>
                                                                bif (decide (y34.1.1 < (wI ((wI (y2.1.1 * (40 : Int))) + y3.1.1)))) then
                                                                  some ((false, ()), ())
                                                                else
                                                                  bif (decide (y34.1.1 > (wI ((wI ((wI (y2.1.1 * (40 : Int))) + y3.1.1)) + y1.1.1.2.2.2.2.2.2.1)))) then
                                                                    some ((false, ()), ())
                                                                  else
                                                                    bif (decide (y35.1.1 < (0 : Int))) then
                                                                      some ((false, ()), ())
                                                                    else
                                                                      bif (!decide (y1.1.1.2.2.2.2.2.2.1 = 0)) then
                                                                        bif (decide (0 ≤ y35.1.1) && decide (y35.1.1 < (y1.1.1.2.2.2.2.2.2.2.2.2.2.1.len : Int))) then
                                                                          bif ((Int.tmod y34.1.1 y1.1.1.2.2.2.2.2.2.1) != (L.get y1.1.1.2.2.2.2.2.2.2.2.2.2.1 y35.1.1.toNat).2.1) then
                                                                            some ((false, ()), ())
                                                                          else
                                                                            (g45 y1.1.1 y34.1.1).bind fun y36 =>
                                                                              bif (y36.1.1 != (1 : Int)) then
                                                                                some ((false, ()), ())
                                                                              else
                                                                                (g50 y1.1.1 y34.1.1).bind fun y37 =>
                                                                                  bif (y37.1.1 == y34.1.1) then
                                                                                    bif (decide (0 ≤ y35.1.1) && decide (y35.1.1 < (y1.1.1.2.2.2.2.2.2.2.2.2.2.1.len : Int))) then
                                                                                      (g44 y1.1.1 (L.get y1.1.1.2.2.2.2.2.2.2.2.2.2.1 y35.1.1.toNat).1 (wI ((wI (y2.1.1 * (40 : Int))) + y3.1.1)) (wI (y34.1.1 + (1 : Int)))).bind fun y38 =>
                                                                                        some ((((y38.1.1.len : Int) == (1 : Int)), ()), ())
                                                                                    else
                                                                                      none
                                                                                  else
                                                                                    some ((false, ()), ())
                                                                        else
                                                                          none
                                                                      else
                                                                        none
                                                        else
                                                          none
                                                    else
                                                      (g50 y1.1.1 (wI ((wI (y2.1.1 * (40 : Int))) + y3.1.1))).bind fun y39 =>
                                                        (g46 y1.1.1 y39.1.1).bind fun y40 =>
                                                          bif (decide (y39.1.1 < (wI ((wI (y2.1.1 * (40 : Int))) + y3.1.1)))) then
                                                            some ((false, ()), ())
                                                          else
                                                            bif (decide (y39.1.1 > (wI ((wI ((wI (y2.1.1 * (40 : Int))) + y3.1.1)) + y1.1.1.2.2.2.2.2.2.1)))) then
                                                              some ((false, ()), ())
                                                            else
                                                              bif (decide (y40.1.1 < (0 : Int))) then
                                                                some ((false, ()), ())
                                                              else
                                                                bif (!decide (y1.1.1.2.2.2.2.2.2.1 = 0)) then
                                                                  bif (decide (0 ≤ y40.1.1) && decide (y40.1.1 < (y1.1.1.2.2.2.2.2.2.2.2.2.2.1.len : Int))) then
                                                                    bif ((Int.tmod y39.1.1 y1.1.1.2.2.2.2.2.2.1) != (L.get y1.1.1.2.2.2.2.2.2.2.2.2.2.1 y40.1.1.toNat).2.1) then
                                                                      some ((false, ()), ())
                                                                    else
                                                                      (g45 y1.1.1 y39.1.1).bind fun y41 =>
                                                                        bif (y41.1.1 != (1 : Int)) then
                                                                          some ((false, ()), ())
                                                                        else
                                                                          (g50 y1.1.1 y39.1.1).bind fun y42 =>
                                                                            bif (y42.1.1 == y39.1.1) then
                                                                              bif (decide (0 ≤ y40.1.1) && decide (y40.1.1 < (y1.1.1.2.2.2.2.2.2.2.2.2.2.1.len : Int))) then
                                                                                (g44 y1.1.1 (L.get y1.1.1.2.2.2.2.2.2.2.2.2.2.1 y40.1.1.toNat).1 (wI ((wI (y2.1.1 * (40 : Int))) + y3.1.1)) (wI (y39.1.1 + (1 : Int)))).bind fun y43 =>
                                                                                  some ((((y43.1.1.len : Int) == (1 : Int)), ()), ())
                                                                              else
                                                                                none
                                                                            else
                                                                              some ((false, ()), ())
                                                                  else
                                                                    none
                                                                else
                                                                  none
                                                else
                                                  (g50 y1.1.1 (wI ((wI (y2.1.1 * (40 : Int))) + y3.1.1))).bind fun y44 =>
                                                    (g46 y1.1.1 y44.1.1).bind fun y45 =>
                                                      bif (decide (y44.1.1 < (wI ((wI (y2.1.1 * (40 : Int))) + y3.1.1)))) then
                                                        some ((false, ()), ())
                                                      else
                                                        bif (decide (y44.1.1 > (wI ((wI ((wI (y2.1.1 * (40 : Int))) + y3.1.1)) + y1.1.1.2.2.2.2.2.2.1)))) then
                                                          some ((false, ()), ())
                                                        else
                                                          bif (decide (y45.1.1 < (0 : Int))) then
                                                            some ((false, ()), ())
                                                          else
                                                            bif (!decide (y1.1.1.2.2.2.2.2.2.1 = 0)) then
                                                              bif (decide (0 ≤ y45.1.1) && decide (y45.1.1 < (y1.1.1.2.2.2.2.2.2.2.2.2.2.1.len : Int))) then
                                                                bif ((Int.tmod y44.1.1 y1.1.1.2.2.2.2.2.2.1) != (L.get y1.1.1.2.2.2.2.2.2.2.2.2.2.1 y45.1.1.toNat).2.1) then
                                                                  some ((false, ()), ())
                                                                else
                                                                  (g45 y1.1.1 y44.1.1).bind fun y46 =>
                                                                    bif (y46.1.1 != (1 : Int)) then
                                                                      some ((false, ()), ())
                                                                    else
                                                                      (g50 y1.1.1 y44.1.1).bind fun y47 =>
                                                                        bif (y47.1.1 == y44.1.1) then
                                                                          bif (decide (0 ≤ y45.1.1) && decide (y45.1.1 < (y1.1.1.2.2.2.2.2.2.2.2.2.2.1.len : Int))) then
                                                                            (g44 y1.1.1 (L.get y1.1.1.2.2.2.2.2.2.2.2.2.2.1 y45.1.1.toNat).1 (wI ((wI (y2.1.1 * (40 : Int))) + y3.1.1)) (wI (y44.1.1 + (1 : Int)))).bind fun y48 =>
                                                                              some ((((y48.1.1.len : Int) == (1 : Int)), ()), ())
                                                                          else
                                                                            none
                                                                        else
                                                                          some ((false, ()), ())
                                                              else
                                                                none
                                                            else
                                                              none
noncomputable def c11 : Ctr := { ins := [.v (.sl (.int .u8))], out := [.bool], F := fun x => g11 x.1 }
theorem v11 : LoopsOk Try.prog Γ t11 a11 (loopsIn (Try.f11.body.getD .skip) 0) := loopsOk_nil (by kernel_rfl)
theorem r11 (x : InsT c11.ins) : fnK Try.prog Γ t11 a11 Try.f11 c11 x = g11 x.1 := by kernel_rfl
theorem k11 : TblOk Try.prog t11 := tblOk_cons o37 (tblOk_cons o39 (tblOk_cons o42 (tblOk_cons o45 (tblOk_cons o46 (tblOk_cons o47 (tblOk_cons o48 (tblOk_cons o49 (tblOk_cons o50 (tblOk_cons o44 (tblOk_nil))))))))))
theorem o11 : Holds Try.prog 11 c11 := fn_holds (code := Try.f11.body.getD .skip) (by kernel_rfl) gamOk k11 Try.func11 (by kernel_rfl) (by kernel_rfl) (by kernel_rfl) (by kernel_rfl) v11 (fun x _ h => (r11 x).trans h)
/-! ### 101: loop.example/g00076/spec.l13Head -/
noncomputable def t101 : Tbl := [(60, [], c60), (105, [], c105), (138, [], c138), (115, [], c115)]
noncomputable def a101 : Nat → Option LoopAnn := fun _ => none
noncomputable def g101 (x0 : Ta122) : Option ((Bool × Unit) × Unit) :=
  bif (!(f60 x0.1 (64 : Int) (2048 : Int))) then
    some ((false, ()), ())
  else
    bif ((Int.tmod x0.1 (4 : Int)) != (0 : Int)) then
      some ((false, ()), ())
    else
      bif (!(f105 x0.2.1)) then
        some ((false, ()), ())
      else
        bif (!(f60 x0.2.2.1 (1 : Int) (8 : Int))) then
          some ((false, ()), ())
        else
          bif (!(f138 x0.2.2.2.1)) then
            some ((false, ()), ())
          else
            bif (f60 x0.2.2.2.2.1 (1 : Int) (5000 : Int)) then
              bif (f60 x0.2.2.2.2.2.1 (1 : Int) (5000 : Int)) then
                bif (f60 x0.2.2.2.2.2.2.1 (1 : Int) (5000 : Int)) then
                  (g115 x0.2.2.2.1).bind fun y1 =>
                    some (((decide (x0.2.2.2.2.2.1 ≥ y1.1.1)), ()), ())
                else
                  some ((false, ()), ())
              else
                some ((false, ()), ())
            else
              some ((false, ()), ())
noncomputable def c101 : Ctr := { ins := [.v Ty144], out := [.bool], F := fun x => g101 x.1 }
theorem v101 : LoopsOk Try.prog Γ t101 a101 (loopsIn (Try.f101.body.getD .skip) 0) := loopsOk_nil (by kernel_rfl)
theorem r101 (x : InsT c101.ins) : fnK Try.prog Γ t101 a101 Try.f101 c101 x = g101 x.1 := by kernel_rfl
theorem k101 : TblOk Try.prog t101 := tblOk_cons o60 (tblOk_cons o105 (tblOk_cons o138 (tblOk_cons o115 (tblOk_nil))))
theorem o101 : Holds Try.prog 101 c101 := fn_holds (code := Try.f101.body.getD .skip) (by kernel_rfl) gamOk k101 Try.func101 (by kernel_rfl) (by kernel_rfl) (by kernel_rfl) (by kernel_rfl) v101 (fun x _ h => (r101 x).trans h)
/-! ### 174: loop.example/g00076/spec.LabelOk -/
noncomputable def t174 : Tbl := [(60, [], c60)]
abbrev h174_L0 : Shape := { slots := [(0, .v .str), (3, .v (.int .i64))], boxes := [] }
abbrev e174_L0 : List (XT × Shape) := [(.ret, { slots := [(2, .v .bool)], boxes := [] }), (.exit 0, { slots := [(0, .v .str)], boxes := [] })]
noncomputable def q174_L0 (t0 : ByteArray) (t3 : Int) : Option (Ta15 ⊕ (((Bool × Unit) × Unit) ⊕ (Ta4 ⊕ Empty))) :=
  bif (decide (t3 < (t0.size : Int))) then
    bif (decide (t3 < (13 : Int))) then
      bif (decide (0 ≤ t3) && decide (t3 < t0.size)) then
        bif (!(f60 (wI ((bt t0 t3))) (97 : Int) (122 : Int))) then
          some (.inr (.inl ((false, ()), ())))
        else
          some (.inl ((t0, ((wI (t3 + (1 : Int))), ())), ()))
      else
        none
    else
      some (.inr (.inr (.inl ((t0, ()), ()))))
  else
    some (.inr (.inr (.inl ((t0, ()), ()))))
noncomputable def s174_L0 (x : Ta15) : Option (Ta15 ⊕ (((Bool × Unit) × Unit) ⊕ (Ta4 ⊕ Empty))) := q174_L0 x.1.1 x.1.2.1
noncomputable def a174 : Nat → Option LoopAnn := fun c => bif Nat.beq c 0 then some (.fix h174_L0 e174_L0 s174_L0) else none
noncomputable def g174 (x0 : ByteArray) : Option ((Bool × Unit) × Unit) :=
  (fixO s174_L0 ((x0, ((0 : Int), ())), ())).bind fun d2 => match d2 with
  | .inl y1 =>
    some ((y1.1.1, ()), ())
  | .inr (.inl y1) =>
    some (((f60 (y1.1.1.size : Int) (1 : Int) (12 : Int)), ()), ())
  | .inr (.inr e) => nomatch e
noncomputable def c174 : Ctr := { ins := [.v .str], out := [.bool], F := fun x => g174 x.1 }
noncomputable def l174 : List (Nat × Code) := loopsIn (Try.f174.body.getD .skip) 0
theorem w174_L0 (x : h174_L0.T) : runK Try.prog Γ t174 a174 (l174.getD 0 (0, .skip)).2 0 (pkSh h174_L0 x) (loopCls (sh := h174_L0) (es := e174_L0)) = (s174_L0 x : Option _) := by kernel_rfl
theorem v174 : LoopsOk Try.prog Γ t174 a174 (loopsIn (Try.f174.body.getD .skip) 0) := by
  have e : loopsIn (Try.f174.body.getD .skip) 0 = [(0, (l174.getD 0 (0, .skip)).2)] := by kernel_rfl
  rw [e]
  exact ⟨fun x d h => (w174_L0 x).trans h, trivial⟩
theorem r174 (x : InsT c174.ins) : fnK Try.prog Γ t174 a174 Try.f174 c174 x = g174 x.1 := by kernel_rfl
theorem k174 : TblOk Try.prog t174 := tblOk_cons o60 (tblOk_nil)
theorem o174 : Holds Try.prog 174 c174 := fn_holds (code := Try.f174.body.getD .skip) (by kernel_rfl) gamOk k174 Try.func174 (by kernel_rfl) (by kernel_rfl) (by kernel_rfl) (by kernel_rfl) v174 (fun x _ h => (r174 x).trans h)
/-! ### 161: loop.example/g00076/spec.NameOk -/
noncomputable def t161 : Tbl := [(174, [], c174)]
noncomputable def a161 : Nat → Option LoopAnn := fun _ => none
noncomputable def g161 (x0 : ByteArray) : Option ((Bool × Unit) × Unit) :=
  bif (decide ((x0.size : Int) ≤ (8 : Int))) then
    (g174 x0).bind fun y1 =>
      some ((y1.1.1, ()), ())
  else
    some ((false, ()), ())
noncomputable def c161 : Ctr := { ins := [.v .str], out := [.bool], F := fun x => g161 x.1 }
theorem v161 : LoopsOk Try.prog Γ t161 a161 (loopsIn (Try.f161.body.getD .skip) 0) := loopsOk_nil (by kernel_rfl)
theorem r161 (x : InsT c161.ins) : fnK Try.prog Γ t161 a161 Try.f161 c161 x = g161 x.1 := by kernel_rfl
theorem k161 : TblOk Try.prog t161 := tblOk_cons o174 (tblOk_nil)
theorem o161 : Holds Try.prog 161 c161 := fn_holds (code := Try.f161.body.getD .skip) (by kernel_rfl) gamOk k161 Try.func161 (by kernel_rfl) (by kernel_rfl) (by kernel_rfl) (by kernel_rfl) v161 (fun x _ h => (r161 x).trans h)
/-! ### 162: loop.example/g00076/spec.PolicyOk -/
noncomputable def t162 : Tbl := [(60, [], c60)]
noncomputable def a162 : Nat → Option LoopAnn := fun _ => none
noncomputable def g162 (x0 : (Int × (Int × Unit))) : Option ((Bool × Unit) × Unit) :=
  bif (x0.1 == (1 : Int)) then
    some (((f60 x0.2.1 (0 : Int) (100 : Int)), ()), ())
  else
    bif (x0.1 == (0 : Int)) then
      some (((x0.2.1 == (0 : Int)), ()), ())
    else
      bif (x0.1 == (2 : Int)) then
        some (((x0.2.1 == (0 : Int)), ()), ())
      else
        some ((false, ()), ())
noncomputable def f162 (x0 : (Int × (Int × Unit))) : Bool :=
  bif (x0.1 == (1 : Int)) then
    (f60 x0.2.1 (0 : Int) (100 : Int))
  else
    bif (x0.1 == (0 : Int)) then
      (x0.2.1 == (0 : Int))
    else
      bif (x0.1 == (2 : Int)) then
        (x0.2.1 == (0 : Int))
      else
        false
theorem n162 (x0 : (Int × (Int × Unit))) : g162 x0 = some ((f162 x0, ()), ()) := by
  simp only [g162, f162, pull1]
noncomputable def c162 : Ctr := { ins := [.v Ty31], out := [.bool], F := fun x => some ((f162 x.1, ()), ()) }
theorem v162 : LoopsOk Try.prog Γ t162 a162 (loopsIn (Try.f162.body.getD .skip) 0) := loopsOk_nil (by kernel_rfl)
theorem r162 (x : InsT c162.ins) : fnK Try.prog Γ t162 a162 Try.f162 c162 x = g162 x.1 := by kernel_rfl
theorem k162 : TblOk Try.prog t162 := tblOk_cons o60 (tblOk_nil)
theorem o162 : Holds Try.prog 162 c162 := fn_holds (code := Try.f162.body.getD .skip) (by kernel_rfl) gamOk k162 Try.func162 (by kernel_rfl) (by kernel_rfl) (by kernel_rfl) (by kernel_rfl) v162 (fun x _ h => (r162 x).trans ((n162 x.1).trans h))
/-! ### 163: loop.example/g00076/spec.WindowOk -/
noncomputable def t163 : Tbl := [(60, [], c60)]
noncomputable def a163 : Nat → Option LoopAnn := fun _ => none
noncomputable def g163 (x0 : Ta5) : Option ((Bool × Unit) × Unit) :=
  bif (f60 x0.1 (0 : Int) (2048 : Int)) then
    bif (f60 x0.2.1 (4 : Int) (2048 : Int)) then
      bif ((Int.tmod x0.1 (4 : Int)) == (0 : Int)) then
        bif ((Int.tmod x0.2.1 (4 : Int)) == (0 : Int)) then
          bif (decide ((wI (x0.1 + x0.2.1)) ≤ (2048 : Int))) then
            some (((f60 x0.2.2.1 (1 : Int) (7 : Int)), ()), ())
          else
            some ((false, ()), ())
        else
          some ((false, ()), ())
      else
        some ((false, ()), ())
    else
      some ((false, ()), ())
  else
    some ((false, ()), ())
noncomputable def f163 (x0 : Ta5) : Bool :=
  bif (f60 x0.1 (0 : Int) (2048 : Int)) then
    bif (f60 x0.2.1 (4 : Int) (2048 : Int)) then
      bif ((Int.tmod x0.1 (4 : Int)) == (0 : Int)) then
        bif ((Int.tmod x0.2.1 (4 : Int)) == (0 : Int)) then
          bif (decide ((wI (x0.1 + x0.2.1)) ≤ (2048 : Int))) then
            (f60 x0.2.2.1 (1 : Int) (7 : Int))
          else
            false
        else
          false
      else
        false
    else
      false
  else
    false
theorem n163 (x0 : Ta5) : g163 x0 = some ((f163 x0, ()), ()) := by
  simp only [g163, f163, pull1]
noncomputable def c163 : Ctr := { ins := [.v Ty47], out := [.bool], F := fun x => some ((f163 x.1, ()), ()) }
theorem v163 : LoopsOk Try.prog Γ t163 a163 (loopsIn (Try.f163.body.getD .skip) 0) := loopsOk_nil (by kernel_rfl)
theorem r163 (x : InsT c163.ins) : fnK Try.prog Γ t163 a163 Try.f163 c163 x = g163 x.1 := by kernel_rfl
theorem k163 : TblOk Try.prog t163 := tblOk_cons o60 (tblOk_nil)
theorem o163 : Holds Try.prog 163 c163 := fn_holds (code := Try.f163.body.getD .skip) (by kernel_rfl) gamOk k163 Try.func163 (by kernel_rfl) (by kernel_rfl) (by kernel_rfl) (by kernel_rfl) v163 (fun x _ h => (r163 x).trans ((n163 x.1).trans h))
/-! ### 164: loop.example/g00076/spec.l07Has -/
noncomputable def t164 : Tbl := []
noncomputable def a164 : Nat → Option LoopAnn := fun _ => none
noncomputable def g164 (x0 : Ta5) (x1 : Int) : Option ((Bool × Unit) × Unit) :=
  bif (decide (x1 ≥ x0.1)) then
    some (((decide (x1 < (wI (x0.1 + x0.2.1)))), ()), ())
  else
    some ((false, ()), ())
noncomputable def f164 (x0 : Ta5) (x1 : Int) : Bool :=
  bif (decide (x1 ≥ x0.1)) then
    (decide (x1 < (wI (x0.1 + x0.2.1))))
  else
    false
theorem n164 (x0 : Ta5) (x1 : Int) : g164 x0 x1 = some ((f164 x0 x1, ()), ()) := by
  simp only [g164, f164, pull1]
noncomputable def c164 : Ctr := { ins := [.v Ty47, .v (.int .i64)], out := [.bool], F := fun x => some ((f164 x.1 x.2.1, ()), ()) }
theorem v164 : LoopsOk Try.prog Γ t164 a164 (loopsIn (Try.f164.body.getD .skip) 0) := loopsOk_nil (by kernel_rfl)
theorem r164 (x : InsT c164.ins) : fnK Try.prog Γ t164 a164 Try.f164 c164 x = g164 x.1 x.2.1 := by kernel_rfl
theorem k164 : TblOk Try.prog t164 := tblOk_nil
theorem o164 : Holds Try.prog 164 c164 := fn_holds (code := Try.f164.body.getD .skip) (by kernel_rfl) gamOk k164 Try.func164 (by kernel_rfl) (by kernel_rfl) (by kernel_rfl) (by kernel_rfl) v164 (fun x _ h => (r164 x).trans ((n164 x.1 x.2.1).trans h))
/-! ### 139: loop.example/g00076/spec.l13PartOk -/
noncomputable def t139 : Tbl := [(161, [], c161), (162, [], c162), (60, [], c60), (163, [], c163), (164, [], c164)]
abbrev h139_L0 : Shape := { slots := [(1, .v (.int .i64)), (2, .bx 2 0), (5, .v .bool), (6, .v (.int .i64))], boxes := [(2, .typ Ty95)] }
abbrev e139_L0 : List (XT × Shape) := [(.ret, { slots := [(4, .v .bool)], boxes := [] }), (.exit 0, { slots := [(2, .bx 2 0), (5, .v .bool)], boxes := [(2, .typ Ty95)] })]
noncomputable def q139_L0 (t1 : Int) (t5 : Bool) (t6 : Int) (b2 : Ta69) : Option (Ta84 ⊕ (((Bool × Unit) × Unit) ⊕ (((Unit × (Bool × Unit)) × Ta74) ⊕ Empty))) :=
  bif (decide (t6 < (b2.2.2.2.1.len : Int))) then
    bif (decide (0 ≤ t6) && decide (t6 < (b2.2.2.2.1.len : Int))) then
      bif (!(f163 (L.get b2.2.2.2.1 t6.toNat))) then
        some (.inr (.inl ((false, ()), ())))
      else
        bif (decide ((wI ((L.get b2.2.2.2.1 t6.toNat).1 + (L.get b2.2.2.2.1 t6.toNat).2.1)) > t1)) then
          some (.inr (.inl ((false, ()), ())))
        else
          bif (f164 (L.get b2.2.2.2.1 t6.toNat) b2.2.1) then
            bif ((wI (Int.tdiv (L.get b2.2.2.2.1 t6.toNat).2.2.1 (4 : Int))) == (1 : Int)) then
              some (.inl ((t1, ((), (true, ((wI (t6 + (1 : Int))), ())))), (b2, ())))
            else
              some (.inl ((t1, ((), (t5, ((wI (t6 + (1 : Int))), ())))), (b2, ())))
          else
            some (.inl ((t1, ((), (t5, ((wI (t6 + (1 : Int))), ())))), (b2, ())))
    else
      none
  else
    some (.inr (.inr (.inl (((), (t5, ())), (b2, ())))))
noncomputable def s139_L0 (x : Ta84) : Option (Ta84 ⊕ (((Bool × Unit) × Unit) ⊕ (((Unit × (Bool × Unit)) × Ta74) ⊕ Empty))) := q139_L0 x.1.1 x.1.2.2.1 x.1.2.2.2.1 x.2.1
noncomputable def a139 : Nat → Option LoopAnn := fun c => bif Nat.beq c 0 then some (.fix h139_L0 e139_L0 s139_L0) else none
noncomputable def g139 (x0 : Ta69) (x1 : Int) : Option ((Bool × Unit) × Unit) :=
  (g161 x0.1).bind fun y1 =>
    bif (!y1.1.1) then
      some ((false, ()), ())
    else
      bif (!(f162 x0.2.2.1)) then
        some ((false, ()), ())
      else
        bif (!(f60 (x0.2.2.2.1.len : Int) (1 : Int) (4 : Int))) then
          some ((false, ()), ())
        else
          (fixO s139_L0 ((x1, ((), (false, ((0 : Int), ())))), (x0, ()))).bind fun d3 => match d3 with
          | .inl y2 =>
            some ((y2.1.1, ()), ())
          | .inr (.inl y2) =>
            bif y2.1.2.1 then
              some ((((Int.tmod y2.2.1.2.1 (4 : Int)) == (0 : Int)), ()), ())
            else
              some ((false, ()), ())
          | .inr (.inr e) => nomatch e
noncomputable def c139 : Ctr := { ins := [.v Ty95, .v (.int .i64)], out := [.bool], F := fun x => g139 x.1 x.2.1 }
noncomputable def l139 : List (Nat × Code) := loopsIn (Try.f139.body.getD .skip) 0
theorem w139_L0 (x : h139_L0.T) : runK Try.prog Γ t139 a139 (l139.getD 0 (0, .skip)).2 0 (pkSh h139_L0 x) (loopCls (sh := h139_L0) (es := e139_L0)) = (s139_L0 x : Option _) := by kernel_rfl
theorem v139 : LoopsOk Try.prog Γ t139 a139 (loopsIn (Try.f139.body.getD .skip) 0) := by
  have e : loopsIn (Try.f139.body.getD .skip) 0 = [(0, (l139.getD 0 (0, .skip)).2)] := by kernel_rfl
  rw [e]
  exact ⟨fun x d h => (w139_L0 x).trans h, trivial⟩
theorem r139 (x : InsT c139.ins) : fnK Try.prog Γ t139 a139 Try.f139 c139 x = g139 x.1 x.2.1 := by kernel_rfl
theorem k139 : TblOk Try.prog t139 := tblOk_cons o161 (tblOk_cons o162 (tblOk_cons o60 (tblOk_cons o163 (tblOk_cons o164 (tblOk_nil)))))
theorem o139 : Holds Try.prog 139 c139 := fn_holds (code := Try.f139.body.getD .skip) (by kernel_rfl) gamOk k139 Try.func139 (by kernel_rfl) (by kernel_rfl) (by kernel_rfl) (by kernel_rfl) v139 (fun x _ h => (r139 x).trans h)
/-! ### 140: loop.example/g00076/spec.l13Windows -/
noncomputable def t140 : Tbl := []
abbrev h140_L0 : Shape := { slots := [(0, .v Ty96), (3, .ext Ty47 50003), (4, .v (.int .i64))], boxes := [] }
abbrev e140_L0 : List (XT × Shape) := [(.exit 0, { slots := [(3, .ext Ty47 50003)], boxes := [] })]
noncomputable def q140_L0 (t0 : Ta72) (t3 : Ta12) (t4 : Int) : Option (Ta90 ⊕ (Ta38 ⊕ Empty)) :=
  bif (decide (t4 < (t0.len : Int))) then
    bif (decide (0 ≤ t4) && decide (t4 < (t0.len : Int))) then
      bif (decide (t3.len + (L.get t0 t4.toNat).2.2.2.1.len ≤ most)) then
        some (.inl ((t0, ((L.app t3 (L.get t0 t4.toNat).2.2.2.1), ((wI (t4 + (1 : Int))), ()))), ()))
      else
        none
    else
      none
  else
    some (.inr (.inl ((t3, ()), ())))
noncomputable def s140_L0 (x : Ta90) : Option (Ta90 ⊕ (Ta38 ⊕ Empty)) := q140_L0 x.1.1 x.1.2.1 x.1.2.2.1
noncomputable def a140 : Nat → Option LoopAnn := fun c => bif Nat.beq c 0 then some (.fix h140_L0 e140_L0 s140_L0) else none
noncomputable def g140 (x0 : Ta72) : Option Ta38 :=
  (fixO s140_L0 ((x0, ((L.of (Ty.zero Ty47) []), ((0 : Int), ()))), ())).bind fun d2 => match d2 with
  | .inl y1 =>
    some ((y1.1.1, ()), ())
  | .inr e => nomatch e
noncomputable def c140 : Ctr := { ins := [.v Ty96], out := [Ty54], F := fun x => g140 x.1 }
noncomputable def l140 : List (Nat × Code) := loopsIn (Try.f140.body.getD .skip) 0
theorem w140_L0 (x : h140_L0.T) : runK Try.prog Γ t140 a140 (l140.getD 0 (0, .skip)).2 0 (pkSh h140_L0 x) (loopCls (sh := h140_L0) (es := e140_L0)) = (s140_L0 x : Option _) := by kernel_rfl
theorem v140 : LoopsOk Try.prog Γ t140 a140 (loopsIn (Try.f140.body.getD .skip) 0) := by
  have e : loopsIn (Try.f140.body.getD .skip) 0 = [(0, (l140.getD 0 (0, .skip)).2)] := by kernel_rfl
  rw [e]
  exact ⟨fun x d h => (w140_L0 x).trans h, trivial⟩
theorem r140 (x : InsT c140.ins) : fnK Try.prog Γ t140 a140 Try.f140 c140 x = g140 x.1 := by kernel_rfl
theorem k140 : TblOk Try.prog t140 := tblOk_nil
theorem o140 : Holds Try.prog 140 c140 := fn_holds (code := Try.f140.body.getD .skip) (by kernel_rfl) gamOk k140 Try.func140 (by kernel_rfl) (by kernel_rfl) (by kernel_rfl) (by kernel_rfl) v140 (fun x _ h => (r140 x).trans h)
/-! ### 102: loop.example/g00076/spec.l13Parts -/
noncomputable def t102 : Tbl := [(60, [], c60), (139, [], c139), (140, [], c140)]
abbrev h102_L2 : Shape := { slots := [(1, .bx 1 0), (3, .v (.int .i64)), (4, .v (.int .i64))], boxes := [(1, .typ Ty144)] }
abbrev e102_L2 : List (XT × Shape) := [(.ret, { slots := [(2, .v .bool)], boxes := [] }), (.exit 2, { slots := [(1, .bx 1 0), (3, .v (.int .i64))], boxes := [(1, .typ Ty144)] })]
noncomputable def q102_L2 (t3 : Int) (t4 : Int) (b1 : Ta122) : Option (Ta126 ⊕ (((Bool × Unit) × Unit) ⊕ (Ta125 ⊕ Empty))) :=
  bif (decide (t4 < t3)) then
    bif (decide (0 ≤ t4) && decide (t4 < (b1.2.2.2.2.2.2.2.1.len : Int))) then
      bif (decide (0 ≤ t3) && decide (t3 < (b1.2.2.2.2.2.2.2.1.len : Int))) then
        bif (strEq (L.get b1.2.2.2.2.2.2.2.1 t4.toNat).1 (L.get b1.2.2.2.2.2.2.2.1 t3.toNat).1) then
          some (.inr (.inl ((false, ()), ())))
        else
          some (.inl (((), (t3, ((wI (t4 + (1 : Int))), ()))), (b1, ())))
      else
        none
    else
      none
  else
    some (.inr (.inr (.inl (((), (t3, ())), (b1, ())))))
noncomputable def s102_L2 (x : Ta126) : Option (Ta126 ⊕ (((Bool × Unit) × Unit) ⊕ (Ta125 ⊕ Empty))) := q102_L2 x.1.2.1 x.1.2.2.1 x.2.1
abbrev h102_L0 : Shape := { slots := [(1, .bx 1 0), (3, .v (.int .i64))], boxes := [(1, .typ Ty144)] }
abbrev e102_L0 : List (XT × Shape) := [(.ret, { slots := [(2, .v .bool)], boxes := [] }), (.exit 0, { slots := [(1, .bx 1 0)], boxes := [(1, .typ Ty144)] })]
noncomputable def q102_L0 (t3 : Int) (b1 : Ta122) : Option (Ta125 ⊕ (((Bool × Unit) × Unit) ⊕ (Ta124 ⊕ Empty))) :=
  bif (decide (t3 < (b1.2.2.2.2.2.2.2.1.len : Int))) then
    bif (decide (0 ≤ t3) && decide (t3 < (b1.2.2.2.2.2.2.2.1.len : Int))) then
      (g139 (L.get b1.2.2.2.2.2.2.2.1 t3.toNat) b1.1).bind fun y1 =>
        bif (!y1.1.1) then
          some (.inr (.inl ((false, ()), ())))
        else
          (fixO s102_L2 (((), (t3, ((0 : Int), ()))), (b1, ()))).bind fun d3 => match d3 with
          | .inl y2 =>
            some (.inr (.inl y2))
          | .inr (.inl y2) =>
            some (.inl (((), ((wI (y2.1.2.1 + (1 : Int))), ())), y2.2))
          | .inr (.inr e) => nomatch e
    else
      none
  else
    some (.inr (.inr (.inl (((), ()), (b1, ())))))
noncomputable def s102_L0 (x : Ta125) : Option (Ta125 ⊕ (((Bool × Unit) × Unit) ⊕ (Ta124 ⊕ Empty))) := q102_L0 x.1.2.1 x.2.1
abbrev h102_L6 : Shape := { slots := [(5, .v Ty54), (6, .v (.int .i64)), (7, .v (.int .i64))], boxes := [] }
abbrev e102_L6 : List (XT × Shape) := [(.ret, { slots := [(2, .v .bool)], boxes := [] }), (.exit 6, { slots := [(5, .v Ty54), (6, .v (.int .i64))], boxes := [] })]
noncomputable def q102_L6 (t5 : Ta12) (t6 : Int) (t7 : Int) : Option (Ta51 ⊕ (((Bool × Unit) × Unit) ⊕ (Ta44 ⊕ Empty))) :=
  bif (decide (t7 < t6)) then
    bif (decide (0 ≤ t7) && decide (t7 < (t5.len : Int))) then
      bif (decide (0 ≤ t6) && decide (t6 < (t5.len : Int))) then
        bif (decide (0 ≤ t6) && decide (t6 < (t5.len : Int))) then
          bif (decide ((L.get t5 t7.toNat).1 < (wI ((L.get t5 t6.toNat).1 + (L.get t5 t6.toNat).2.1)))) then
            bif (decide (0 ≤ t6) && decide (t6 < (t5.len : Int))) then
              bif (decide (0 ≤ t7) && decide (t7 < (t5.len : Int))) then
                bif (decide (0 ≤ t7) && decide (t7 < (t5.len : Int))) then
                  bif (decide ((L.get t5 t6.toNat).1 < (wI ((L.get t5 t7.toNat).1 + (L.get t5 t7.toNat).2.1)))) then
                    some (.inr (.inl ((false, ()), ())))
                  else
                    some (.inl ((t5, (t6, ((wI (t7 + (1 : Int))), ()))), ()))
                else
                  none
              else
                none
            else
              none
          else
            some (.inl ((t5, (t6, ((wI (t7 + (1 : Int))), ()))), ()))
        else
          none
      else
        none
    else
      none
  else
    some (.inr (.inr (.inl ((t5, (t6, ())), ()))))
noncomputable def s102_L6 (x : Ta51) : Option (Ta51 ⊕ (((Bool × Unit) × Unit) ⊕ (Ta44 ⊕ Empty))) := q102_L6 x.1.1 x.1.2.1 x.1.2.2.1
abbrev h102_L4 : Shape := { slots := [(5, .v Ty54), (6, .v (.int .i64))], boxes := [] }
abbrev e102_L4 : List (XT × Shape) := [(.ret, { slots := [(2, .v .bool)], boxes := [] }), (.exit 4, { slots := [], boxes := [] })]
noncomputable def q102_L4 (t5 : Ta12) (t6 : Int) : Option (Ta44 ⊕ (((Bool × Unit) × Unit) ⊕ ((Unit × Unit) ⊕ Empty))) :=
  bif (decide (t6 < (t5.len : Int))) then
    (fixO s102_L6 ((t5, (t6, ((0 : Int), ()))), ())).bind fun d7 => match d7 with
    | .inl y6 =>
      some (.inr (.inl y6))
    | .inr (.inl y6) =>
      some (.inl ((y6.1.1, ((wI (y6.1.2.1 + (1 : Int))), ())), ()))
    | .inr (.inr e) => nomatch e
  else
    some (.inr (.inr (.inl ((), ()))))
noncomputable def s102_L4 (x : Ta44) : Option (Ta44 ⊕ (((Bool × Unit) × Unit) ⊕ ((Unit × Unit) ⊕ Empty))) := q102_L4 x.1.1 x.1.2.1
noncomputable def a102 : Nat → Option LoopAnn := fun c => bif Nat.beq c 2 then some (.fix h102_L2 e102_L2 s102_L2) else bif Nat.beq c 0 then some (.fix h102_L0 e102_L0 s102_L0) else bif Nat.beq c 6 then some (.fix h102_L6 e102_L6 s102_L6) else bif Nat.beq c 4 then some (.fix h102_L4 e102_L4 s102_L4) else none
noncomputable def g102 (x0 : Ta122) : Option ((Bool × Unit) × Unit) :=
  bif (!(f60 (x0.2.2.2.2.2.2.2.1.len : Int) (1 : Int) (6 : Int))) then
    some ((false, ()), ())
  else
    (fixO s102_L0 (((), ((0 : Int), ())), (x0, ()))).bind fun d10 => match d10 with
    | .inl y4 =>
      some ((y4.1.1, ()), ())
    | .inr (.inl y4) =>
      (g140 y4.2.1.2.2.2.2.2.2.2.1).bind fun y5 =>
        (fixO s102_L4 ((y5.1.1, ((0 : Int), ())), ())).bind fun d9 => match d9 with
        | .inl y8 =>
          some ((y8.1.1, ()), ())
        | .inr (.inl y8) =>
          some ((true, ()), ())
        | .inr (.inr e) => nomatch e
    | .inr (.inr e) => nomatch e
noncomputable def c102 : Ctr := { ins := [.v Ty144], out := [.bool], F := fun x => g102 x.1 }
noncomputable def l102 : List (Nat × Code) := loopsIn (Try.f102.body.getD .skip) 0
theorem w102_L2 (x : h102_L2.T) : runK Try.prog Γ t102 a102 (l102.getD 1 (0, .skip)).2 2 (pkSh h102_L2 x) (loopCls (sh := h102_L2) (es := e102_L2)) = (s102_L2 x : Option _) := by kernel_rfl
theorem w102_L0 (x : h102_L0.T) : runK Try.prog Γ t102 a102 (l102.getD 0 (0, .skip)).2 0 (pkSh h102_L0 x) (loopCls (sh := h102_L0) (es := e102_L0)) = (s102_L0 x : Option _) := by kernel_rfl
theorem w102_L6 (x : h102_L6.T) : runK Try.prog Γ t102 a102 (l102.getD 3 (0, .skip)).2 6 (pkSh h102_L6 x) (loopCls (sh := h102_L6) (es := e102_L6)) = (s102_L6 x : Option _) := by kernel_rfl
theorem w102_L4 (x : h102_L4.T) : runK Try.prog Γ t102 a102 (l102.getD 2 (0, .skip)).2 4 (pkSh h102_L4 x) (loopCls (sh := h102_L4) (es := e102_L4)) = (s102_L4 x : Option _) := by kernel_rfl
theorem v102 : LoopsOk Try.prog Γ t102 a102 (loopsIn (Try.f102.body.getD .skip) 0) := by
  have e : loopsIn (Try.f102.body.getD .skip) 0 = [(0, (l102.getD 0 (0, .skip)).2), (2, (l102.getD 1 (0, .skip)).2), (4, (l102.getD 2 (0, .skip)).2), (6, (l102.getD 3 (0, .skip)).2)] := by kernel_rfl
  rw [e]
  exact ⟨fun x d h => (w102_L0 x).trans h, fun x d h => (w102_L2 x).trans h, fun x d h => (w102_L4 x).trans h, fun x d h => (w102_L6 x).trans h, trivial⟩
theorem r102 (x : InsT c102.ins) : fnK Try.prog Γ t102 a102 Try.f102 c102 x = g102 x.1 := by kernel_rfl
theorem k102 : TblOk Try.prog t102 := tblOk_cons o60 (tblOk_cons o139 (tblOk_cons o140 (tblOk_nil)))
theorem o102 : Holds Try.prog 102 c102 := fn_holds (code := Try.f102.body.getD .skip) (by kernel_rfl) gamOk k102 Try.func102 (by kernel_rfl) (by kernel_rfl) (by kernel_rfl) (by kernel_rfl) v102 (fun x _ h => (r102 x).trans h)
/-! ### 103: loop.example/g00076/spec.l13Chans -/
noncomputable def t103 : Tbl := [(60, [], c60), (141, [], c141), (116, [], c116)]
abbrev h103_L0 : Shape := { slots := [(1, .bx 1 0), (3, .v (.int .i64))], boxes := [(1, .typ Ty144)] }
abbrev e103_L0 : List (XT × Shape) := [(.ret, { slots := [(2, .v .bool)], boxes := [] }), (.exit 0, { slots := [(1, .bx 1 0)], boxes := [(1, .typ Ty144)] })]
noncomputable def q103_L0 (t3 : Int) (b1 : Ta122) : Option (Ta125 ⊕ (((Bool × Unit) × Unit) ⊕ (Ta124 ⊕ Empty))) :=
  bif (decide (t3 < (b1.2.2.2.2.2.2.2.2.1.len : Int))) then
    bif (decide (0 ≤ t3) && decide (t3 < (b1.2.2.2.2.2.2.2.2.1.len : Int))) then
      bif (!(f60 (L.get b1.2.2.2.2.2.2.2.2.1 t3.toNat) (0 : Int) (wI ((b1.2.2.2.2.2.2.2.1.len : Int) - (1 : Int))))) then
        some (.inr (.inl ((false, ()), ())))
      else
        some (.inl (((), ((wI (t3 + (1 : Int))), ())), (b1, ())))
    else
      none
  else
    some (.inr (.inr (.inl (((), ()), (b1, ())))))
noncomputable def s103_L0 (x : Ta125) : Option (Ta125 ⊕ (((Bool × Unit) × Unit) ⊕ (Ta124 ⊕ Empty))) := q103_L0 x.1.2.1 x.2.1
abbrev h103_L2 : Shape := { slots := [(1, .bx 1 0), (4, .v (.int .i64))], boxes := [(1, .typ Ty144)] }
abbrev e103_L2 : List (XT × Shape) := [(.ret, { slots := [(2, .v .bool)], boxes := [] }), (.exit 2, { slots := [(1, .bx 1 0)], boxes := [(1, .typ Ty144)] })]
noncomputable def q103_L2 (t4 : Int) (b1 : Ta122) : Option (Ta125 ⊕ (((Bool × Unit) × Unit) ⊕ (Ta124 ⊕ Empty))) :=
  bif (decide (t4 < (b1.2.2.2.2.2.2.2.2.2.1.len : Int))) then
    bif (decide (0 ≤ t4) && decide (t4 < (b1.2.2.2.2.2.2.2.2.2.1.len : Int))) then
      bif (!(f141 (L.get b1.2.2.2.2.2.2.2.2.2.1 t4.toNat))) then
        some (.inr (.inl ((false, ()), ())))
      else
        bif (decide (0 ≤ t4) && decide (t4 < (b1.2.2.2.2.2.2.2.2.2.1.len : Int))) then
          bif (decide ((L.get b1.2.2.2.2.2.2.2.2.2.1 t4.toNat).2.1 ≥ (b1.2.2.2.2.2.2.2.1.len : Int))) then
            some (.inr (.inl ((false, ()), ())))
          else
            bif (decide (0 ≤ t4) && decide (t4 < (b1.2.2.2.2.2.2.2.2.2.1.len : Int))) then
              bif (decide ((L.get b1.2.2.2.2.2.2.2.2.2.1 t4.toNat).2.2.1 ≥ (b1.2.2.2.2.2.2.2.1.len : Int))) then
                some (.inr (.inl ((false, ()), ())))
              else
                some (.inl (((), ((wI (t4 + (1 : Int))), ())), (b1, ())))
            else
              none
        else
          none
    else
      none
  else
    some (.inr (.inr (.inl (((), ()), (b1, ())))))
noncomputable def s103_L2 (x : Ta125) : Option (Ta125 ⊕ (((Bool × Unit) × Unit) ⊕ (Ta124 ⊕ Empty))) := q103_L2 x.1.2.1 x.2.1
noncomputable def a103 : Nat → Option LoopAnn := fun c => bif Nat.beq c 0 then some (.fix h103_L0 e103_L0 s103_L0) else bif Nat.beq c 2 then some (.fix h103_L2 e103_L2 s103_L2) else none
noncomputable def g103 (x0 : Ta122) : Option ((Bool × Unit) × Unit) :=
  bif (decide ((x0.2.2.2.2.2.2.2.2.1.len : Int) > (8 : Int))) then
    some ((false, ()), ())
  else
    bif (decide ((x0.2.2.2.2.2.2.2.2.2.1.len : Int) > (8 : Int))) then
      some ((false, ()), ())
    else
      (fixO s103_L0 (((), ((0 : Int), ())), (x0, ()))).bind fun d5 => match d5 with
      | .inl y1 =>
        some ((y1.1.1, ()), ())
      | .inr (.inl y1) =>
        (fixO s103_L2 (((), ((0 : Int), ())), y1.2)).bind fun d4 => match d4 with
        | .inl y2 =>
          some ((y2.1.1, ()), ())
        | .inr (.inl y2) =>
          (g116 y2.2.1.2.2.2.1 y2.2.1.2.1 y2.2.1.2.2.2.2.2.2.2.2.2.1).bind fun y3 =>
            some (((decide (y2.2.1.2.2.2.2.1 ≥ y3.1.1)), ()), ())
        | .inr (.inr e) => nomatch e
      | .inr (.inr e) => nomatch e
noncomputable def c103 : Ctr := { ins := [.v Ty144], out := [.bool], F := fun x => g103 x.1 }
noncomputable def l103 : List (Nat × Code) := loopsIn (Try.f103.body.getD .skip) 0
theorem w103_L0 (x : h103_L0.T) : runK Try.prog Γ t103 a103 (l103.getD 0 (0, .skip)).2 0 (pkSh h103_L0 x) (loopCls (sh := h103_L0) (es := e103_L0)) = (s103_L0 x : Option _) := by kernel_rfl
theorem w103_L2 (x : h103_L2.T) : runK Try.prog Γ t103 a103 (l103.getD 1 (0, .skip)).2 2 (pkSh h103_L2 x) (loopCls (sh := h103_L2) (es := e103_L2)) = (s103_L2 x : Option _) := by kernel_rfl
theorem v103 : LoopsOk Try.prog Γ t103 a103 (loopsIn (Try.f103.body.getD .skip) 0) := by
  have e : loopsIn (Try.f103.body.getD .skip) 0 = [(0, (l103.getD 0 (0, .skip)).2), (2, (l103.getD 1 (0, .skip)).2)] := by kernel_rfl
  rw [e]
  exact ⟨fun x d h => (w103_L0 x).trans h, fun x d h => (w103_L2 x).trans h, trivial⟩
theorem r103 (x : InsT c103.ins) : fnK Try.prog Γ t103 a103 Try.f103 c103 x = g103 x.1 := by kernel_rfl
theorem k103 : TblOk Try.prog t103 := tblOk_cons o60 (tblOk_cons o141 (tblOk_cons o116 (tblOk_nil)))
theorem o103 : Holds Try.prog 103 c103 := fn_holds (code := Try.f103.body.getD .skip) (by kernel_rfl) gamOk k103 Try.func103 (by kernel_rfl) (by kernel_rfl) (by kernel_rfl) (by kernel_rfl) v103 (fun x _ h => (r103 x).trans h)
/-! ### 104: loop.example/g00076/spec.l13Slots -/
noncomputable def t104 : Tbl := [(60, [], c60)]
abbrev h104_L0 : Shape := { slots := [(1, .bx 1 0), (3, .v (.int .i64)), (4, .v (.int .i64))], boxes := [(1, .typ Ty144)] }
abbrev e104_L0 : List (XT × Shape) := [(.ret, { slots := [(2, .v .bool)], boxes := [] }), (.exit 0, { slots := [], boxes := [] })]
noncomputable def q104_L0 (t3 : Int) (t4 : Int) (b1 : Ta122) : Option (Ta126 ⊕ (((Bool × Unit) × Unit) ⊕ ((Unit × Unit) ⊕ Empty))) :=
  bif (decide (t4 < (b1.2.2.2.2.2.2.2.2.2.2.1.len : Int))) then
    bif (decide (0 ≤ t4) && decide (t4 < (b1.2.2.2.2.2.2.2.2.2.2.1.len : Int))) then
      bif (!(f60 (L.get b1.2.2.2.2.2.2.2.2.2.2.1 t4.toNat).1 (0 : Int) (wI ((b1.2.2.2.2.2.2.2.1.len : Int) - (1 : Int))))) then
        some (.inr (.inl ((false, ()), ())))
      else
        bif (!(f60 (L.get b1.2.2.2.2.2.2.2.2.2.2.1 t4.toNat).2.1 t3 (5000 : Int))) then
          some (.inr (.inl ((false, ()), ())))
        else
          bif (!(f60 (L.get b1.2.2.2.2.2.2.2.2.2.2.1 t4.toNat).2.2.1 (wI ((wI (b1.2.2.2.2.1 + b1.2.2.2.2.2.1)) + (1 : Int))) (5000 : Int))) then
            some (.inr (.inl ((false, ()), ())))
          else
            bif (decide ((wI ((L.get b1.2.2.2.2.2.2.2.2.2.2.1 t4.toNat).2.1 + (L.get b1.2.2.2.2.2.2.2.2.2.2.1 t4.toNat).2.2.1)) > b1.2.2.2.2.2.2.1)) then
              some (.inr (.inl ((false, ()), ())))
            else
              some (.inl (((), ((wI ((L.get b1.2.2.2.2.2.2.2.2.2.2.1 t4.toNat).2.1 + (L.get b1.2.2.2.2.2.2.2.2.2.2.1 t4.toNat).2.2.1)), ((wI (t4 + (1 : Int))), ()))), (b1, ())))
    else
      none
  else
    some (.inr (.inr (.inl ((), ()))))
noncomputable def s104_L0 (x : Ta126) : Option (Ta126 ⊕ (((Bool × Unit) × Unit) ⊕ ((Unit × Unit) ⊕ Empty))) := q104_L0 x.1.2.1 x.1.2.2.1 x.2.1
noncomputable def a104 : Nat → Option LoopAnn := fun c => bif Nat.beq c 0 then some (.fix h104_L0 e104_L0 s104_L0) else none
noncomputable def g104 (x0 : Ta122) : Option ((Bool × Unit) × Unit) :=
  bif (!(f60 (x0.2.2.2.2.2.2.2.2.2.2.1.len : Int) (1 : Int) (16 : Int))) then
    some ((false, ()), ())
  else
    (fixO s104_L0 (((), ((0 : Int), ((0 : Int), ()))), (x0, ()))).bind fun d2 => match d2 with
    | .inl y1 =>
      some ((y1.1.1, ()), ())
    | .inr (.inl y1) =>
      some ((true, ()), ())
    | .inr (.inr e) => nomatch e
noncomputable def c104 : Ctr := { ins := [.v Ty144], out := [.bool], F := fun x => g104 x.1 }
noncomputable def l104 : List (Nat × Code) := loopsIn (Try.f104.body.getD .skip) 0
theorem w104_L0 (x : h104_L0.T) : runK Try.prog Γ t104 a104 (l104.getD 0 (0, .skip)).2 0 (pkSh h104_L0 x) (loopCls (sh := h104_L0) (es := e104_L0)) = (s104_L0 x : Option _) := by kernel_rfl
theorem v104 : LoopsOk Try.prog Γ t104 a104 (loopsIn (Try.f104.body.getD .skip) 0) := by
  have e : loopsIn (Try.f104.body.getD .skip) 0 = [(0, (l104.getD 0 (0, .skip)).2)] := by kernel_rfl
  rw [e]
  exact ⟨fun x d h => (w104_L0 x).trans h, trivial⟩
theorem r104 (x : InsT c104.ins) : fnK Try.prog Γ t104 a104 Try.f104 c104 x = g104 x.1 := by kernel_rfl
theorem k104 : TblOk Try.prog t104 := tblOk_cons o60 (tblOk_nil)
theorem o104 : Holds Try.prog 104 c104 := fn_holds (code := Try.f104.body.getD .skip) (by kernel_rfl) gamOk k104 Try.func104 (by kernel_rfl) (by kernel_rfl) (by kernel_rfl) (by kernel_rfl) v104 (fun x _ h => (r104 x).trans h)
/-! ### 53: loop.example/g00076/spec.Sound -/
noncomputable def t53 : Tbl := [(101, [], c101), (102, [], c102), (103, [], c103), (104, [], c104)]
noncomputable def a53 : Nat → Option LoopAnn := fun _ => none
noncomputable def g53 (x0 : Ta122) : Option ((Bool × Unit) × Unit) :=
  (g101 x0).bind fun y1 =>
    bif y1.1.1 then
      (g102 x0).bind fun y2 =>
        bif y2.1.1 then
          (g103 x0).bind fun y3 =>
            bif y3.1.1 then
              (g104 x0).bind fun y4 =>
                some ((y4.1.1, ()), ())
            else
              some ((false, ()), ())
        else
          some ((false, ()), ())
    else
      some ((false, ()), ())
noncomputable def c53 : Ctr := { ins := [.v Ty144], out := [.bool], F := fun x => g53 x.1 }
theorem v53 : LoopsOk Try.prog Γ t53 a53 (loopsIn (Try.f53.body.getD .skip) 0) := loopsOk_nil (by kernel_rfl)
theorem r53 (x : InsT c53.ins) : fnK Try.prog Γ t53 a53 Try.f53 c53 x = g53 x.1 := by kernel_rfl
theorem k53 : TblOk Try.prog t53 := tblOk_cons o101 (tblOk_cons o102 (tblOk_cons o103 (tblOk_cons o104 (tblOk_nil))))
theorem o53 : Holds Try.prog 53 c53 := fn_holds (code := Try.f53.body.getD .skip) (by kernel_rfl) gamOk k53 Try.func53 (by kernel_rfl) (by kernel_rfl) (by kernel_rfl) (by kernel_rfl) v53 (fun x _ h => (r53 x).trans h)
/-! ### 40: loop.example/g00076/impl.GapOf -/
noncomputable def t40 : Tbl := [(89, [], c89)]
abbrev h40_L0 : Shape := { slots := [(3, .v (.int .i64)), (12, .v Ty54), (13, .v (.int .i64)), (14, .v (.int .i64))], boxes := [] }
abbrev e40_L0 : List (XT × Shape) := [(.exit 0, { slots := [(3, .v (.int .i64))], boxes := [] })]
noncomputable def q40_L0 (t3 : Int) (t12 : Ta12) (t13 : Int) (t14 : Int) : Option (Ta61 ⊕ (((Int × Unit) × Unit) ⊕ Empty)) :=
  bif (decide (t14 < t13)) then
    bif (decide (0 ≤ t14) && decide (t14 < (t12.len : Int))) then
      some (.inl (((wI (t3 - (L.get t12 t14.toNat).2.2.1)), (t12, (t13, ((wI (t14 + (1 : Int))), ())))), ()))
    else
      none
  else
    some (.inr (.inl ((t3, ()), ())))
noncomputable def s40_L0 (x : Ta61) : Option (Ta61 ⊕ (((Int × Unit) × Unit) ⊕ Empty)) := q40_L0 x.1.1 x.1.2.1 x.1.2.2.1 x.1.2.2.2.1
noncomputable def a40 : Nat → Option LoopAnn := fun c => bif Nat.beq c 0 then some (.fix h40_L0 e40_L0 s40_L0) else none
noncomputable def g40 (x0 : Ta122) : Option ((Int × Unit) × Unit) :=
  (g89 x0).bind fun y1 =>
    bif (!y1.1.1) then
      some (((0 : Int), ()), ())
    else
      (fixO s40_L0 ((x0.2.2.2.2.2.2.1, (x0.2.2.2.2.2.2.2.2.2.2.1, ((x0.2.2.2.2.2.2.2.2.2.2.1.len : Int), ((0 : Int), ())))), ())).bind fun d3 => match d3 with
      | .inl y2 =>
        some ((y2.1.1, ()), ())
      | .inr e => nomatch e
noncomputable def c40 : Ctr := { ins := [.v Ty144], out := [(.int .i64)], F := fun x => g40 x.1 }
noncomputable def l40 : List (Nat × Code) := loopsIn (Try.f40.body.getD .skip) 0
theorem w40_L0 (x : h40_L0.T) : runK Try.prog Γ t40 a40 (l40.getD 0 (0, .skip)).2 0 (pkSh h40_L0 x) (loopCls (sh := h40_L0) (es := e40_L0)) = (s40_L0 x : Option _) := by kernel_rfl
theorem v40 : LoopsOk Try.prog Γ t40 a40 (loopsIn (Try.f40.body.getD .skip) 0) := by
  have e : loopsIn (Try.f40.body.getD .skip) 0 = [(0, (l40.getD 0 (0, .skip)).2)] := by kernel_rfl
  rw [e]
  exact ⟨fun x d h => (w40_L0 x).trans h, trivial⟩
theorem r40 (x : InsT c40.ins) : fnK Try.prog Γ t40 a40 Try.f40 c40 x = g40 x.1 := by kernel_rfl
theorem k40 : TblOk Try.prog t40 := tblOk_cons o89 (tblOk_nil)
theorem o40 : Holds Try.prog 40 c40 := fn_holds (code := Try.f40.body.getD .skip) (by kernel_rfl) gamOk k40 Try.func40 (by kernel_rfl) (by kernel_rfl) (by kernel_rfl) (by kernel_rfl) v40 (fun x _ h => (r40 x).trans h)
/-! ### 41: loop.example/g00076/impl.ShareOf -/
noncomputable def t41 : Tbl := [(89, [], c89)]
abbrev h41_L0 : Shape := { slots := [(1, .v (.int .i64)), (2, .bx 2 0), (5, .v (.int .i64)), (12, .v Ty54), (13, .v (.int .i64)), (14, .v (.int .i64))], boxes := [(2, .typ Ty144)] }
abbrev e41_L0 : List (XT × Shape) := [(.exit 0, { slots := [(5, .v (.int .i64))], boxes := [] })]
noncomputable def q41_L0 (t1 : Int) (t5 : Int) (t12 : Ta12) (t13 : Int) (t14 : Int) (b2 : Ta122) : Option (Ta132 ⊕ (((Int × Unit) × Unit) ⊕ Empty)) :=
  bif (decide (t14 < t13)) then
    bif (decide (0 ≤ t14) && decide (t14 < (t12.len : Int))) then
      bif ((L.get t12 t14.toNat).1 == t1) then
        some (.inl ((t1, ((), ((wI (t5 + (wI ((wI ((L.get t12 t14.toNat).2.2.1 - b2.2.2.2.2.1)) - b2.2.2.2.2.2.1)))), (t12, (t13, ((wI (t14 + (1 : Int))), ())))))), (b2, ())))
      else
        some (.inl ((t1, ((), (t5, (t12, (t13, ((wI (t14 + (1 : Int))), ())))))), (b2, ())))
    else
      none
  else
    some (.inr (.inl ((t5, ()), ())))
noncomputable def s41_L0 (x : Ta132) : Option (Ta132 ⊕ (((Int × Unit) × Unit) ⊕ Empty)) := q41_L0 x.1.1 x.1.2.2.1 x.1.2.2.2.1 x.1.2.2.2.2.1 x.1.2.2.2.2.2.1 x.2.1
noncomputable def a41 : Nat → Option LoopAnn := fun c => bif Nat.beq c 0 then some (.fix h41_L0 e41_L0 s41_L0) else none
noncomputable def g41 (x0 : Ta122) (x1 : Int) : Option ((Int × Unit) × Unit) :=
  (g89 x0).bind fun y1 =>
    bif (!y1.1.1) then
      some (((0 : Int), ()), ())
    else
      (fixO s41_L0 ((x1, ((), ((0 : Int), (x0.2.2.2.2.2.2.2.2.2.2.1, ((x0.2.2.2.2.2.2.2.2.2.2.1.len : Int), ((0 : Int), ())))))), (x0, ()))).bind fun d3 => match d3 with
      | .inl y2 =>
        some ((y2.1.1, ()), ())
      | .inr e => nomatch e
noncomputable def c41 : Ctr := { ins := [.v Ty144, .v (.int .i64)], out := [(.int .i64)], F := fun x => g41 x.1 x.2.1 }
noncomputable def l41 : List (Nat × Code) := loopsIn (Try.f41.body.getD .skip) 0
theorem w41_L0 (x : h41_L0.T) : runK Try.prog Γ t41 a41 (l41.getD 0 (0, .skip)).2 0 (pkSh h41_L0 x) (loopCls (sh := h41_L0) (es := e41_L0)) = (s41_L0 x : Option _) := by kernel_rfl
theorem v41 : LoopsOk Try.prog Γ t41 a41 (loopsIn (Try.f41.body.getD .skip) 0) := by
  have e : loopsIn (Try.f41.body.getD .skip) 0 = [(0, (l41.getD 0 (0, .skip)).2)] := by kernel_rfl
  rw [e]
  exact ⟨fun x d h => (w41_L0 x).trans h, trivial⟩
theorem r41 (x : InsT c41.ins) : fnK Try.prog Γ t41 a41 Try.f41 c41 x = g41 x.1 x.2.1 := by kernel_rfl
theorem k41 : TblOk Try.prog t41 := tblOk_cons o89 (tblOk_nil)
theorem o41 : Holds Try.prog 41 c41 := fn_holds (code := Try.f41.body.getD .skip) (by kernel_rfl) gamOk k41 Try.func41 (by kernel_rfl) (by kernel_rfl) (by kernel_rfl) (by kernel_rfl) v41 (fun x _ h => (r41 x).trans h)
/-! ### 43: loop.example/g00076/impl.CyclesOf -/
noncomputable def t43 : Tbl := [(89, [], c89), (90, [], c90), (91, [], c91)]
abbrev h43_L0 : Shape := { slots := [(1, .v (.int .i64)), (3, .v (.int .i64)), (4, .bx 4 0), (9, .v (.int .i64)), (10, .v (.int .i64))], boxes := [(4, .typ Ty144)] }
abbrev e43_L0 : List (XT × Shape) := [(.exit 0, { slots := [(9, .v (.int .i64))], boxes := [] })]
noncomputable def q43_L0 (t1 : Int) (t3 : Int) (t9 : Int) (t10 : Int) (b4 : Ta122) : Option (Ta127 ⊕ (((Int × Unit) × Unit) ⊕ Empty)) :=
  bif (decide (t10 < t3)) then
    bif (decide (t1 ≥ (0 : Int))) then
      (g91 b4 t10).bind fun y2 =>
        bif (y2.1.1 == t1) then
          some (.inl ((t1, (t3, ((), ((wI (t9 + (1 : Int))), ((wI (t10 + (1 : Int))), ()))))), (b4, ())))
        else
          some (.inl ((t1, (t3, ((), (t9, ((wI (t10 + (1 : Int))), ()))))), (b4, ())))
    else
      some (.inl ((t1, (t3, ((), (t9, ((wI (t10 + (1 : Int))), ()))))), (b4, ())))
  else
    some (.inr (.inl ((t9, ()), ())))
noncomputable def s43_L0 (x : Ta127) : Option (Ta127 ⊕ (((Int × Unit) × Unit) ⊕ Empty)) := q43_L0 x.1.1 x.1.2.1 x.1.2.2.2.1 x.1.2.2.2.2.1 x.2.1
noncomputable def a43 : Nat → Option LoopAnn := fun c => bif Nat.beq c 0 then some (.fix h43_L0 e43_L0 s43_L0) else none
noncomputable def g43 (x0 : Ta122) (x1 : Int) (x2 : Int) (x3 : Int) : Option ((Int × Unit) × Unit) :=
  (g89 x0).bind fun y1 =>
    bif (!y1.1.1) then
      some (((0 : Int), ()), ())
    else
      bif (!(f90 x2)) then
        some (((0 : Int), ()), ())
      else
        bif (!(f90 x3)) then
          some (((0 : Int), ()), ())
        else
          (fixO s43_L0 ((x1, (x3, ((), ((0 : Int), (x2, ()))))), (x0, ()))).bind fun d4 => match d4 with
          | .inl y3 =>
            some ((y3.1.1, ()), ())
          | .inr e => nomatch e
noncomputable def c43 : Ctr := { ins := [.v Ty144, .v (.int .i64), .v (.int .i64), .v (.int .i64)], out := [(.int .i64)], F := fun x => g43 x.1 x.2.1 x.2.2.1 x.2.2.2.1 }
noncomputable def l43 : List (Nat × Code) := loopsIn (Try.f43.body.getD .skip) 0
theorem w43_L0 (x : h43_L0.T) : runK Try.prog Γ t43 a43 (l43.getD 0 (0, .skip)).2 0 (pkSh h43_L0 x) (loopCls (sh := h43_L0) (es := e43_L0)) = (s43_L0 x : Option _) := by kernel_rfl
theorem v43 : LoopsOk Try.prog Γ t43 a43 (loopsIn (Try.f43.body.getD .skip) 0) := by
  have e : loopsIn (Try.f43.body.getD .skip) 0 = [(0, (l43.getD 0 (0, .skip)).2)] := by kernel_rfl
  rw [e]
  exact ⟨fun x d h => (w43_L0 x).trans h, trivial⟩
theorem r43 (x : InsT c43.ins) : fnK Try.prog Γ t43 a43 Try.f43 c43 x = g43 x.1 x.2.1 x.2.2.1 x.2.2.2.1 := by kernel_rfl
theorem k43 : TblOk Try.prog t43 := tblOk_cons o89 (tblOk_cons o90 (tblOk_cons o91 (tblOk_nil)))
theorem o43 : Holds Try.prog 43 c43 := fn_holds (code := Try.f43.body.getD .skip) (by kernel_rfl) gamOk k43 Try.func43 (by kernel_rfl) (by kernel_rfl) (by kernel_rfl) (by kernel_rfl) v43 (fun x _ h => (r43 x).trans h)
end Go.VE.VFnCyclic
