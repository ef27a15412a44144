import Derived.Test.YtnjlpdagdedbaaaGreatViZ
import Derived.Test.YtnjlpdagdedbaaaGreatProg
/- What the functions do that laws.FnExactSlotStarts reaches, as plain functions, and that they do it. -/
set_option linter.unusedVariables false
set_option linter.unusedSimpArgs false
namespace Go.VE.VFnExactSlotStarts
open Go.Proofs Go.VE
abbrev Ta0 : Type := ((L Int) × (Int × Unit))
abbrev Ty1 : Ty := (.pair (.int .i64) .unit)
abbrev Ta2 : Type := (((L Int) × Unit) × Unit)
abbrev Ta3 : Type := (ByteArray × (Int × Unit))
abbrev Ta4 : Type := (Int × (ByteArray × Unit))
abbrev Ta5 : Type := ((ByteArray × Unit) × Unit)
abbrev Ta6 : Type := (Int × (Int × (Int × Unit)))
abbrev Ta7 : Type := (Unit × (Int × (Int × Unit)))
abbrev Ta8 : Type := (Int × (Unit × (Int × Unit)))
abbrev Ta9 : Type := (Unit × (Bool × (Int × Unit)))
abbrev Ta10 : Type := (Bool × (Bool × (Bool × Unit)))
abbrev Ta11 : Type := (L Ta6)
abbrev Ta12 : Type := ((L Int) × (Int × (Int × Unit)))
abbrev Ta13 : Type := ((L Int) × (Unit × (Int × Unit)))
abbrev Ta14 : Type := (Unit × Ta0)
abbrev Ta15 : Type := ((Int × Unit) × ((L Int) × Unit))
abbrev Ta16 : Type := (ByteArray × (Int × (Int × Unit)))
abbrev Ta17 : Type := (Ta3 × Unit)
abbrev Ta18 : Type := (Ta4 × Unit)
abbrev Ta19 : Type := (Int × Ta6)
abbrev Ta20 : Type := ((L Int) × Ta0)
abbrev Ta21 : Type := (Ta6 × Unit)
abbrev Ta22 : Type := ((Int × Unit) × (Int × (Int × Unit)))
abbrev Ta23 : Type := (Int × Ta9)
abbrev Ta24 : Type := (L Ta19)
abbrev Ta25 : Type := (Ta11 × Unit)
abbrev Ta26 : Type := (Int × Ta14)
abbrev Ta27 : Type := (Ta12 × Unit)
abbrev Ta28 : Type := (Ta16 × Unit)
abbrev Ta29 : Type := ((ByteArray × Unit) × (Int × (Int × Unit)))
abbrev Ta30 : Type := (Int × Ta19)
abbrev Ty31 : Ty := (.pair (.int .i64) Ty1)
abbrev Ta32 : Type := (Ta20 × Unit)
abbrev Ta33 : Type := (Ta21 × Unit)
abbrev Ta34 : Type := (Ta11 × (Int × Unit))
abbrev Ta35 : Type := ((L Int) × Ta22)
abbrev Ta36 : Type := (Ta24 × Unit)
abbrev Ta37 : Type := (Int × Ta26)
abbrev Ta38 : Type := (Ta25 × Unit)
abbrev Ta39 : Type := (Ta7 × ((L Int) × Unit))
abbrev Ta40 : Type := (Int × Ta30)
abbrev Ta41 : Type := (Ta13 × ((L Int) × Unit))
abbrev Ta42 : Type := (Ta11 × (Int × (Int × Unit)))
abbrev Ta43 : Type := (Ta24 × (Int × Unit))
abbrev Ta44 : Type := (Ta34 × Unit)
abbrev Ta45 : Type := (Ta35 × Unit)
abbrev Ta46 : Type := ((Int × Unit) × Ta25)
abbrev Ta47 : Type := (Ta11 × (Unit × (Int × Unit)))
abbrev Ta48 : Type := ((Unit × Unit) × Ta25)
abbrev Ta49 : Type := (Int × Ta40)
abbrev Ta50 : Type := (Ta21 × (Int × (Int × Unit)))
abbrev Ty51 : Ty := (.pair (.int .i64) Ty31)
abbrev Ta52 : Type := (Int × Ta42)
abbrev Ta53 : Type := (Ta24 × (Int × (Int × Unit)))
abbrev Ta54 : Type := ((Int × (Int × Unit)) × Ta25)
abbrev Ta55 : Type := (Ta42 × Unit)
abbrev Ta56 : Type := (Ta24 × (Unit × (Int × Unit)))
abbrev Ta57 : Type := ((Int × Unit) × Ta36)
abbrev Ta58 : Type := (Ta49 × Unit)
abbrev Ty59 : Ty := (.sl Ty51)
abbrev Ta60 : Type := (Int × Ta52)
abbrev Ta61 : Type := (Int × Ta53)
abbrev Ta62 : Type := (Int × Ta54)
abbrev Ta63 : Type := (Ta24 × Ta7)
abbrev Ta64 : Type := (Ta11 × Ta22)
abbrev Ta65 : Type := (Unit × Ta52)
abbrev Ta66 : Type := (Ta7 × Ta25)
abbrev Ta67 : Type := (Ta24 × Ta22)
abbrev Ta68 : Type := (Unit × Ta61)
abbrev Ta69 : Type := (Ta64 × Unit)
abbrev Ta70 : Type := (Ta7 × Ta36)
abbrev Ty71 : Ty := (.pair Ty59 .unit)
abbrev Ty72 : Ty := (.pair (.int .i64) Ty51)
abbrev Ta73 : Type := (Ta24 × Ta25)
abbrev Ta74 : Type := (Ta11 × Ta34)
abbrev Ta75 : Type := (ByteArray × Ta62)
abbrev Ty76 : Ty := (.sl Ty72)
abbrev Ta77 : Type := (Ta67 × Unit)
abbrev Ta78 : Type := (L Ta75)
abbrev Ta79 : Type := ((Unit × (Int × Unit)) × Ta58)
abbrev Ta80 : Type := (Ta74 × Unit)
abbrev Ta81 : Type := (Ta75 × Unit)
abbrev Ta82 : Type := ((L Int) × Ta73)
abbrev Ta83 : Type := (Ta11 × Ta50)
abbrev Ta84 : Type := (Ta78 × Unit)
abbrev Ta85 : Type := (Ta24 × Ta43)
abbrev Ta86 : Type := (Ta7 × Ta58)
abbrev Ta87 : Type := (Ta47 × Ta25)
abbrev Ty88 : Ty := (.pair (.int .i64) Ty72)
abbrev Ta89 : Type := (Ta83 × Unit)
abbrev Ta90 : Type := (Ta78 × (Int × Unit))
abbrev Ta91 : Type := (Ta85 × Unit)
abbrev Ta92 : Type := (Ta78 × (Int × (Int × Unit)))
abbrev Ta93 : Type := ((Int × Unit) × Ta84)
abbrev Ta94 : Type := (Ta78 × (Unit × (Int × Unit)))
abbrev Ta95 : Type := (Ta56 × Ta36)
abbrev Ty96 : Ty := (.pair (.int .i64) Ty88)
abbrev Ta97 : Type := (Ta92 × Unit)
abbrev Ta98 : Type := (Ta7 × Ta84)
abbrev Ty99 : Ty := (.pair Ty31 Ty71)
abbrev Ta100 : Type := (Ta23 × Ta81)
abbrev Ta101 : Type := (Ta78 × Ta29)
abbrev Ty102 : Ty := (.pair (.int .i64) Ty96)
abbrev Ta103 : Type := (Ta78 × Ta34)
abbrev Ta104 : Type := (Ta63 × Ta58)
abbrev Ta105 : Type := (Ta101 × Unit)
abbrev Ta106 : Type := (Ta11 × Ta92)
abbrev Ta107 : Type := (Ta103 × Unit)
abbrev Ta108 : Type := (Ta68 × Ta58)
abbrev Ty109 : Ty := (.pair (.int .i64) Ty99)
abbrev Ta110 : Type := (Unit × Ta106)
abbrev Ta111 : Type := (Ta78 × Ta60)
abbrev Ty112 : Ty := (.pair .str Ty109)
abbrev Ty113 : Ty := (.sl Ty112)
abbrev Ta114 : Type := (Unit × Ta111)
abbrev Ty115 : Ty := (.pair Ty76 Ty71)
abbrev Ta116 : Type := (Ta78 × Ta82)
abbrev Ta117 : Type := (Int × Ta116)
abbrev Ta118 : Type := (Ta78 × Ta90)
abbrev Ta119 : Type := (Int × Ta117)
abbrev Ty120 : Ty := (.pair (.sl (.int .i64)) Ty115)
abbrev Ta121 : Type := (Ta118 × Unit)
abbrev Ta122 : Type := (Ta11 × Ta114)
abbrev Ta123 : Type := (Int × Ta119)
abbrev Ta124 : Type := (Ta94 × Ta84)
abbrev Ta125 : Type := (Unit × Ta122)
abbrev Ta126 : Type := (Ta49 × Ta123)
abbrev Ta127 : Type := (Int × Ta126)
abbrev Ta128 : Type := (Ta6 × Ta127)
abbrev Ta129 : Type := (Int × Ta128)
abbrev Ta130 : Type := (Ta129 × Unit)
abbrev Ta131 : Type := ((Unit × Unit) × Ta130)
abbrev Ta132 : Type := ((Unit × (Int × Unit)) × Ta130)
abbrev Ta133 : Type := (Ta7 × Ta130)
abbrev Ta134 : Type := (Ta8 × Ta130)
abbrev Ta135 : Type := (Ta37 × Ta130)
abbrev Ty136 : Ty := (.pair Ty113 Ty120)
abbrev Ty137 : Ty := (.pair (.int .i64) Ty136)
abbrev Ta138 : Type := (Ta65 × Ta130)
abbrev Ta139 : Type := (Ta129 × Ta81)
abbrev Ty140 : Ty := (.pair (.int .i64) Ty137)
abbrev Ty141 : Ty := (.pair (.int .i64) Ty140)
abbrev Ta142 : Type := (Ta110 × Ta130)
abbrev Ty143 : Ty := (.pair Ty102 Ty141)
abbrev Ty144 : Ty := (.pair (.int .i64) Ty143)
abbrev Ta145 : Type := (Ta125 × Ta139)
abbrev Ty146 : Ty := (.pair Ty51 Ty144)
abbrev Ty147 : Ty := (.pair (.int .i64) Ty146)
def Γ : TypeId → Option Ty := fun e => bif Nat.beq e 3 then some (.int .i64) else bif Nat.beq e 5 then some (.int .u8) else bif Nat.beq e 61 then some Ty51 else bif Nat.beq e 75 then some Ty112 else bif Nat.beq e 79 then some Ty112 else bif Nat.beq e 82 then some Ty72 else bif Nat.beq e 84 then some Ty72 else bif Nat.beq e 86 then some Ty51 else bif Nat.beq e 109 then some Ty51 else bif Nat.beq e 123 then some Ty51 else none
theorem gamOk : GamOk Tryz.prog Γ := gamOk_of [3, 5, 61, 75, 79, 82, 84, 86, 109, 123] (fun e ty h => by
  simp only [Γ] at h
  cases h3 : Nat.beq e 3 with
  | true => simp [Nat.eq_of_beq_eq_true h3]
  | false =>
  simp only [h3, cond_false] at h
  cases h5 : Nat.beq e 5 with
  | true => simp [Nat.eq_of_beq_eq_true h5]
  | false =>
  simp only [h5, cond_false] at h
  cases h61 : Nat.beq e 61 with
  | true => simp [Nat.eq_of_beq_eq_true h61]
  | false =>
  simp only [h61, cond_false] at h
  cases h75 : Nat.beq e 75 with
  | true => simp [Nat.eq_of_beq_eq_true h75]
  | false =>
  simp only [h75, cond_false] at h
  cases h79 : Nat.beq e 79 with
  | true => simp [Nat.eq_of_beq_eq_true h79]
  | false =>
  simp only [h79, cond_false] at h
  cases h82 : Nat.beq e 82 with
  | true => simp [Nat.eq_of_beq_eq_true h82]
  | false =>
  simp only [h82, cond_false] at h
  cases h84 : Nat.beq e 84 with
  | true => simp [Nat.eq_of_beq_eq_true h84]
  | false =>
  simp only [h84, cond_false] at h
  cases h86 : Nat.beq e 86 with
  | true => simp [Nat.eq_of_beq_eq_true h86]
  | false =>
  simp only [h86, cond_false] at h
  cases h109 : Nat.beq e 109 with
  | true => simp [Nat.eq_of_beq_eq_true h109]
  | false =>
  simp only [h109, cond_false] at h
  cases h123 : Nat.beq e 123 with
  | true => simp [Nat.eq_of_beq_eq_true h123]
  | false =>
  simp only [h123, cond_false] at h
  cases h) (by kernel_rfl)
/-! ### 63: loop.example/g00076/laws.szWindowS -/
noncomputable def t63 : Tbl := []
noncomputable def a63 : Nat → Option LoopAnn := fun _ => none
noncomputable def g63 (x0 : Ta11) (x1 : Int) : Option ((Int × Unit) × Unit) :=
  bif (decide ((wI (x1 - (x0.len : Int))) < (0 : Int))) then
    some (((-1 : Int), ()), ())
  else
    some (((wI (x1 - (x0.len : Int))), ()), ())
noncomputable def f63 (x0 : Ta11) (x1 : Int) : Int :=
  bif (decide ((wI (x1 - (x0.len : Int))) < (0 : Int))) then
    (-1 : Int)
  else
    (wI (x1 - (x0.len : Int)))
theorem n63 (x0 : Ta11) (x1 : Int) : g63 x0 x1 = some ((f63 x0 x1, ()), ()) := by
  simp only [g63, f63, pull1]
noncomputable def c63 : Ctr := { ins := [.v Ty59, .v (.int .i64)], out := [(.int .i64)], F := fun x => some ((f63 x.1 x.2.1, ()), ()) }
theorem v63 : LoopsOk Tryz.prog Γ t63 a63 (loopsIn (Tryz.f63.body.getD .skip) 0) := loopsOk_nil (by kernel_rfl)
theorem r63 (x : InsT c63.ins) : fnK Tryz.prog Γ t63 a63 Tryz.f63 c63 x = g63 x.1 x.2.1 := by kernel_rfl
theorem k63 : TblOk Tryz.prog t63 := tblOk_nil
theorem o63 : Holds Tryz.prog 63 c63 := fn_holds (code := Tryz.f63.body.getD .skip) (by kernel_rfl) gamOk k63 Tryz.func63 (by kernel_rfl) (by kernel_rfl) (by kernel_rfl) (by kernel_rfl) v63 (fun x _ h => (r63 x).trans ((n63 x.1 x.2.1).trans h))
/-! ### 37: loop.example/g00076/laws.szPartRow -/
noncomputable def t37 : Tbl := [(63, [], c63)]
noncomputable def a37 : Nat → Option LoopAnn := fun _ => none
noncomputable def g37 (x0 : Ta75) (x1 : Int) : Option ((Int × Unit) × Unit) :=
  bif (decide ((wI (x1 - (x0.1.size : Int))) < (0 : Int))) then
    some (((-1 : Int), ()), ())
  else
    bif (decide ((f63 x0.2.2.2.1 (wI (x1 - (x0.1.size : Int)))) < (0 : Int))) then
      some (((-1 : Int), ()), ())
    else
      some (((f63 x0.2.2.2.1 (wI (x1 - (x0.1.size : Int)))), ()), ())
noncomputable def f37 (x0 : Ta75) (x1 : Int) : Int :=
  bif (decide ((wI (x1 - (x0.1.size : Int))) < (0 : Int))) then
    (-1 : Int)
  else
    bif (decide ((f63 x0.2.2.2.1 (wI (x1 - (x0.1.size : Int)))) < (0 : Int))) then
      (-1 : Int)
    else
      (f63 x0.2.2.2.1 (wI (x1 - (x0.1.size : Int))))
theorem n37 (x0 : Ta75) (x1 : Int) : g37 x0 x1 = some ((f37 x0 x1, ()), ()) := by
  simp only [g37, f37, pull1]
noncomputable def c37 : Ctr := { ins := [.v Ty112, .v (.int .i64)], out := [(.int .i64)], F := fun x => some ((f37 x.1 x.2.1, ()), ()) }
theorem v37 : LoopsOk Tryz.prog Γ t37 a37 (loopsIn (Tryz.f37.body.getD .skip) 0) := loopsOk_nil (by kernel_rfl)
theorem r37 (x : InsT c37.ins) : fnK Tryz.prog Γ t37 a37 Tryz.f37 c37 x = g37 x.1 x.2.1 := by kernel_rfl
theorem k37 : TblOk Tryz.prog t37 := tblOk_cons o63 (tblOk_nil)
theorem o37 : Holds Tryz.prog 37 c37 := fn_holds (code := Tryz.f37.body.getD .skip) (by kernel_rfl) gamOk k37 Tryz.func37 (by kernel_rfl) (by kernel_rfl) (by kernel_rfl) (by kernel_rfl) v37 (fun x _ h => (r37 x).trans ((n37 x.1 x.2.1).trans h))
/-! ### 13: loop.example/g00076/laws.szPartRowS -/
noncomputable def t13 : Tbl := [(37, [], c37)]
abbrev h13_L0 : Shape := { slots := [(0, .v Ty113), (1, .v (.int .i64)), (5, .v (.int .i64))], boxes := [] }
abbrev e13_L0 : List (XT × Shape) := [(.ret, { slots := [(4, .v (.int .i64))], boxes := [] }), (.exit 0, { slots := [(1, .v (.int .i64))], boxes := [] })]
noncomputable def q13_L0 (t0 : Ta78) (t1 : Int) (t5 : Int) : Option (Ta97 ⊕ (((Int × Unit) × Unit) ⊕ (((Int × Unit) × Unit) ⊕ Empty))) :=
  bif (decide (t5 < (t0.len : Int))) then
    bif (decide (0 ≤ t5) && decide (t5 < (t0.len : Int))) then
      bif (decide ((f37 (L.get t0 t5.toNat) t1) < (0 : Int))) then
        some (.inr (.inl (((-1 : Int), ()), ())))
      else
        some (.inl ((t0, ((f37 (L.get t0 t5.toNat) t1), ((wI (t5 + (1 : Int))), ()))), ()))
    else
      none
  else
    some (.inr (.inr (.inl ((t1, ()), ()))))
noncomputable def s13_L0 (x : Ta97) : Option (Ta97 ⊕ (((Int × Unit) × Unit) ⊕ (((Int × Unit) × Unit) ⊕ Empty))) := q13_L0 x.1.1 x.1.2.1 x.1.2.2.1
noncomputable def a13 : Nat → Option LoopAnn := fun c => bif Nat.beq c 0 then some (.fix h13_L0 e13_L0 s13_L0) else none
noncomputable def g13 (x0 : Ta78) (x1 : Int) : Option ((Int × Unit) × Unit) :=
  bif (decide ((wI (x1 - (x0.len : Int))) < (0 : Int))) then
    some (((-1 : Int), ()), ())
  else
    (fixO s13_L0 ((x0, ((wI (x1 - (x0.len : Int))), ((0 : Int), ()))), ())).bind fun d2 => match d2 with
    | .inl y1 =>
      some ((y1.1.1, ()), ())
    | .inr (.inl y1) =>
      some ((y1.1.1, ()), ())
    | .inr (.inr e) => nomatch e
noncomputable def c13 : Ctr := { ins := [.v Ty113, .v (.int .i64)], out := [(.int .i64)], F := fun x => g13 x.1 x.2.1 }
noncomputable def l13 : List (Nat × Code) := loopsIn (Tryz.f13.body.getD .skip) 0
theorem w13_L0 (x : h13_L0.T) : runK Tryz.prog Γ t13 (inlN Tryz.prog Γ t13 3) a13 (l13.getD 0 (0, .skip)).2 0 (pkSh h13_L0 x) (loopCls (sh := h13_L0) (es := e13_L0)) = (s13_L0 x : Option _) := by kernel_rfl
theorem v13 : LoopsOk Tryz.prog Γ t13 a13 (loopsIn (Tryz.f13.body.getD .skip) 0) := by
  have e : loopsIn (Tryz.f13.body.getD .skip) 0 = [(0, (l13.getD 0 (0, .skip)).2)] := by kernel_rfl
  rw [e]
  exact ⟨fun x d h => (w13_L0 x).trans h, trivial⟩
theorem r13 (x : InsT c13.ins) : fnK Tryz.prog Γ t13 a13 Tryz.f13 c13 x = g13 x.1 x.2.1 := by kernel_rfl
theorem k13 : TblOk Tryz.prog t13 := tblOk_cons o37 (tblOk_nil)
theorem o13 : Holds Tryz.prog 13 c13 := fn_holds (code := Tryz.f13.body.getD .skip) (by kernel_rfl) gamOk k13 Tryz.func13 (by kernel_rfl) (by kernel_rfl) (by kernel_rfl) (by kernel_rfl) v13 (fun x _ h => (r13 x).trans h)
/-! ### 14: loop.example/g00076/laws.szIntS -/
noncomputable def t14 : Tbl := []
noncomputable def a14 : Nat → Option LoopAnn := fun _ => none
noncomputable def g14 (x0 : (L Int)) (x1 : Int) : Option ((Int × Unit) × Unit) :=
  bif (decide ((wI (x1 - (x0.len : Int))) < (0 : Int))) then
    some (((-1 : Int), ()), ())
  else
    some (((wI (x1 - (x0.len : Int))), ()), ())
noncomputable def f14 (x0 : (L Int)) (x1 : Int) : Int :=
  bif (decide ((wI (x1 - (x0.len : Int))) < (0 : Int))) then
    (-1 : Int)
  else
    (wI (x1 - (x0.len : Int)))
theorem n14 (x0 : (L Int)) (x1 : Int) : g14 x0 x1 = some ((f14 x0 x1, ()), ()) := by
  simp only [g14, f14, pull1]
noncomputable def c14 : Ctr := { ins := [.v (.sl (.int .i64)), .v (.int .i64)], out := [(.int .i64)], F := fun x => some ((f14 x.1 x.2.1, ()), ()) }
theorem v14 : LoopsOk Tryz.prog Γ t14 a14 (loopsIn (Tryz.f14.body.getD .skip) 0) := loopsOk_nil (by kernel_rfl)
theorem r14 (x : InsT c14.ins) : fnK Tryz.prog Γ t14 a14 Tryz.f14 c14 x = g14 x.1 x.2.1 := by kernel_rfl
theorem k14 : TblOk Tryz.prog t14 := tblOk_nil
theorem o14 : Holds Tryz.prog 14 c14 := fn_holds (code := Tryz.f14.body.getD .skip) (by kernel_rfl) gamOk k14 Tryz.func14 (by kernel_rfl) (by kernel_rfl) (by kernel_rfl) (by kernel_rfl) v14 (fun x _ h => (r14 x).trans ((n14 x.1 x.2.1).trans h))
/-! ### 15: loop.example/g00076/laws.szChanRowS -/
noncomputable def t15 : Tbl := []
noncomputable def a15 : Nat → Option LoopAnn := fun _ => none
noncomputable def g15 (x0 : Ta24) (x1 : Int) : Option ((Int × Unit) × Unit) :=
  bif (decide ((wI (x1 - (x0.len : Int))) < (0 : Int))) then
    some (((-1 : Int), ()), ())
  else
    some (((wI (x1 - (x0.len : Int))), ()), ())
noncomputable def f15 (x0 : Ta24) (x1 : Int) : Int :=
  bif (decide ((wI (x1 - (x0.len : Int))) < (0 : Int))) then
    (-1 : Int)
  else
    (wI (x1 - (x0.len : Int)))
theorem n15 (x0 : Ta24) (x1 : Int) : g15 x0 x1 = some ((f15 x0 x1, ()), ()) := by
  simp only [g15, f15, pull1]
noncomputable def c15 : Ctr := { ins := [.v Ty76, .v (.int .i64)], out := [(.int .i64)], F := fun x => some ((f15 x.1 x.2.1, ()), ()) }
theorem v15 : LoopsOk Tryz.prog Γ t15 a15 (loopsIn (Tryz.f15.body.getD .skip) 0) := loopsOk_nil (by kernel_rfl)
theorem r15 (x : InsT c15.ins) : fnK Tryz.prog Γ t15 a15 Tryz.f15 c15 x = g15 x.1 x.2.1 := by kernel_rfl
theorem k15 : TblOk Tryz.prog t15 := tblOk_nil
theorem o15 : Holds Tryz.prog 15 c15 := fn_holds (code := Tryz.f15.body.getD .skip) (by kernel_rfl) gamOk k15 Tryz.func15 (by kernel_rfl) (by kernel_rfl) (by kernel_rfl) (by kernel_rfl) v15 (fun x _ h => (r15 x).trans ((n15 x.1 x.2.1).trans h))
/-! ### 16: loop.example/g00076/laws.szSlotS -/
noncomputable def t16 : Tbl := []
noncomputable def a16 : Nat → Option LoopAnn := fun _ => none
noncomputable def g16 (x0 : Ta11) (x1 : Int) : Option ((Int × Unit) × Unit) :=
  bif (decide ((wI (x1 - (x0.len : Int))) < (0 : Int))) then
    some (((-1 : Int), ()), ())
  else
    some (((wI (x1 - (x0.len : Int))), ()), ())
noncomputable def f16 (x0 : Ta11) (x1 : Int) : Int :=
  bif (decide ((wI (x1 - (x0.len : Int))) < (0 : Int))) then
    (-1 : Int)
  else
    (wI (x1 - (x0.len : Int)))
theorem n16 (x0 : Ta11) (x1 : Int) : g16 x0 x1 = some ((f16 x0 x1, ()), ()) := by
  simp only [g16, f16, pull1]
noncomputable def c16 : Ctr := { ins := [.v Ty59, .v (.int .i64)], out := [(.int .i64)], F := fun x => some ((f16 x.1 x.2.1, ()), ()) }
theorem v16 : LoopsOk Tryz.prog Γ t16 a16 (loopsIn (Tryz.f16.body.getD .skip) 0) := loopsOk_nil (by kernel_rfl)
theorem r16 (x : InsT c16.ins) : fnK Tryz.prog Γ t16 a16 Tryz.f16 c16 x = g16 x.1 x.2.1 := by kernel_rfl
theorem k16 : TblOk Tryz.prog t16 := tblOk_nil
theorem o16 : Holds Tryz.prog 16 c16 := fn_holds (code := Tryz.f16.body.getD .skip) (by kernel_rfl) gamOk k16 Tryz.func16 (by kernel_rfl) (by kernel_rfl) (by kernel_rfl) (by kernel_rfl) v16 (fun x _ h => (r16 x).trans ((n16 x.1 x.2.1).trans h))
/-! ### 4: loop.example/g00076/laws.szTables -/
noncomputable def t4 : Tbl := [(13, [], c13), (14, [], c14), (15, [], c15), (16, [], c16)]
noncomputable def a4 : Nat → Option LoopAnn := fun _ => none
noncomputable def g4 (x0 : Ta129) (x1 : Int) : Option ((Int × Unit) × Unit) :=
  (g13 x0.2.2.2.2.2.2.2.1 x1).bind fun y1 =>
    bif (decide (y1.1.1 < (0 : Int))) then
      some (((-1 : Int), ()), ())
    else
      bif (decide ((f14 x0.2.2.2.2.2.2.2.2.1 y1.1.1) < (0 : Int))) then
        some (((-1 : Int), ()), ())
      else
        bif (decide ((f15 x0.2.2.2.2.2.2.2.2.2.1 (f14 x0.2.2.2.2.2.2.2.2.1 y1.1.1)) < (0 : Int))) then
          some (((-1 : Int), ()), ())
        else
          bif (decide ((f16 x0.2.2.2.2.2.2.2.2.2.2.1 (f15 x0.2.2.2.2.2.2.2.2.2.1 (f14 x0.2.2.2.2.2.2.2.2.1 y1.1.1))) < (0 : Int))) then
            some (((-1 : Int), ()), ())
          else
            some (((f16 x0.2.2.2.2.2.2.2.2.2.2.1 (f15 x0.2.2.2.2.2.2.2.2.2.1 (f14 x0.2.2.2.2.2.2.2.2.1 y1.1.1))), ()), ())
noncomputable def c4 : Ctr := { ins := [.v Ty147, .v (.int .i64)], out := [(.int .i64)], F := fun x => g4 x.1 x.2.1 }
theorem v4 : LoopsOk Tryz.prog Γ t4 a4 (loopsIn (Tryz.f4.body.getD .skip) 0) := loopsOk_nil (by kernel_rfl)
theorem r4 (x : InsT c4.ins) : fnK Tryz.prog Γ t4 a4 Tryz.f4 c4 x = g4 x.1 x.2.1 := by kernel_rfl
theorem k4 : TblOk Tryz.prog t4 := tblOk_cons o13 (tblOk_cons o14 (tblOk_cons o15 (tblOk_cons o16 (tblOk_nil))))
theorem o4 : Holds Tryz.prog 4 c4 := fn_holds (code := Tryz.f4.body.getD .skip) (by kernel_rfl) gamOk k4 Tryz.func4 (by kernel_rfl) (by kernel_rfl) (by kernel_rfl) (by kernel_rfl) v4 (fun x _ h => (r4 x).trans h)
/-! ### 20: loop.example/g00076/laws.toShape -/
noncomputable def t20 : Tbl := []
noncomputable def a20 : Nat → Option LoopAnn := fun _ => none
noncomputable def g20 (x0 : Ta6) : Option Ta33 :=
  some ((x0, ()), ())
noncomputable def f20 (x0 : Ta6) : Ta6 :=
  x0
theorem n20 (x0 : Ta6) : g20 x0 = some ((f20 x0, ()), ()) := by
  simp only [g20, f20, pull1]
noncomputable def c20 : Ctr := { ins := [.v Ty51], out := [Ty51], F := fun x => some ((f20 x.1, ()), ()) }
theorem v20 : LoopsOk Tryz.prog Γ t20 a20 (loopsIn (Tryz.f20.body.getD .skip) 0) := loopsOk_nil (by kernel_rfl)
theorem r20 (x : InsT c20.ins) : fnK Tryz.prog Γ t20 a20 Tryz.f20 c20 x = g20 x.1 := by kernel_rfl
theorem k20 : TblOk Tryz.prog t20 := tblOk_nil
theorem o20 : Holds Tryz.prog 20 c20 := fn_holds (code := Tryz.f20.body.getD .skip) (by kernel_rfl) gamOk k20 Tryz.func20 (by kernel_rfl) (by kernel_rfl) (by kernel_rfl) (by kernel_rfl) v20 (fun x _ h => (r20 x).trans ((n20 x.1).trans h))
/-! ### 21: loop.example/g00076/laws.toCosts -/
noncomputable def t21 : Tbl := []
noncomputable def a21 : Nat → Option LoopAnn := fun _ => none
noncomputable def g21 (x0 : Ta49) : Option (Ta58 × Unit) :=
  some ((x0, ()), ())
noncomputable def f21 (x0 : Ta49) : Ta49 :=
  x0
theorem n21 (x0 : Ta49) : g21 x0 = some ((f21 x0, ()), ()) := by
  simp only [g21, f21, pull1]
noncomputable def c21 : Ctr := { ins := [.v Ty102], out := [Ty102], F := fun x => some ((f21 x.1, ()), ()) }
theorem v21 : LoopsOk Tryz.prog Γ t21 a21 (loopsIn (Tryz.f21.body.getD .skip) 0) := loopsOk_nil (by kernel_rfl)
theorem r21 (x : InsT c21.ins) : fnK Tryz.prog Γ t21 a21 Tryz.f21 c21 x = g21 x.1 := by kernel_rfl
theorem k21 : TblOk Tryz.prog t21 := tblOk_nil
theorem o21 : Holds Tryz.prog 21 c21 := fn_holds (code := Tryz.f21.body.getD .skip) (by kernel_rfl) gamOk k21 Tryz.func21 (by kernel_rfl) (by kernel_rfl) (by kernel_rfl) (by kernel_rfl) v21 (fun x _ h => (r21 x).trans ((n21 x.1).trans h))
/-! ### 68: loop.example/g00076/laws.toPolicy -/
noncomputable def t68 : Tbl := []
noncomputable def a68 : Nat → Option LoopAnn := fun _ => none
noncomputable def g68 (x0 : (Int × (Int × Unit))) : Option (((Int × (Int × Unit)) × Unit) × Unit) :=
  some ((x0, ()), ())
noncomputable def f68 (x0 : (Int × (Int × Unit))) : (Int × (Int × Unit)) :=
  x0
theorem n68 (x0 : (Int × (Int × Unit))) : g68 x0 = some ((f68 x0, ()), ()) := by
  simp only [g68, f68, pull1]
noncomputable def c68 : Ctr := { ins := [.v Ty31], out := [Ty31], F := fun x => some ((f68 x.1, ()), ()) }
theorem v68 : LoopsOk Tryz.prog Γ t68 a68 (loopsIn (Tryz.f68.body.getD .skip) 0) := loopsOk_nil (by kernel_rfl)
theorem r68 (x : InsT c68.ins) : fnK Tryz.prog Γ t68 a68 Tryz.f68 c68 x = g68 x.1 := by kernel_rfl
theorem k68 : TblOk Tryz.prog t68 := tblOk_nil
theorem o68 : Holds Tryz.prog 68 c68 := fn_holds (code := Tryz.f68.body.getD .skip) (by kernel_rfl) gamOk k68 Tryz.func68 (by kernel_rfl) (by kernel_rfl) (by kernel_rfl) (by kernel_rfl) v68 (fun x _ h => (r68 x).trans ((n68 x.1).trans h))
/-! ### 93: loop.example/g00076/laws.toWindow -/
noncomputable def t93 : Tbl := []
noncomputable def a93 : Nat → Option LoopAnn := fun _ => none
noncomputable def g93 (x0 : Ta6) : Option Ta33 :=
  some ((x0, ()), ())
noncomputable def f93 (x0 : Ta6) : Ta6 :=
  x0
theorem n93 (x0 : Ta6) : g93 x0 = some ((f93 x0, ()), ()) := by
  simp only [g93, f93, pull1]
noncomputable def c93 : Ctr := { ins := [.v Ty51], out := [Ty51], F := fun x => some ((f93 x.1, ()), ()) }
theorem v93 : LoopsOk Tryz.prog Γ t93 a93 (loopsIn (Tryz.f93.body.getD .skip) 0) := loopsOk_nil (by kernel_rfl)
theorem r93 (x : InsT c93.ins) : fnK Tryz.prog Γ t93 a93 Tryz.f93 c93 x = g93 x.1 := by kernel_rfl
theorem k93 : TblOk Tryz.prog t93 := tblOk_nil
theorem o93 : Holds Tryz.prog 93 c93 := fn_holds (code := Tryz.f93.body.getD .skip) (by kernel_rfl) gamOk k93 Tryz.func93 (by kernel_rfl) (by kernel_rfl) (by kernel_rfl) (by kernel_rfl) v93 (fun x _ h => (r93 x).trans ((n93 x.1).trans h))
/-! ### 40: loop.example/g00076/laws.toChanRow -/
noncomputable def t40 : Tbl := []
noncomputable def a40 : Nat → Option LoopAnn := fun _ => none
noncomputable def g40 (x0 : Ta19) : Option ((Ta19 × Unit) × Unit) :=
  some ((x0, ()), ())
noncomputable def f40 (x0 : Ta19) : Ta19 :=
  x0
theorem n40 (x0 : Ta19) : g40 x0 = some ((f40 x0, ()), ()) := by
  simp only [g40, f40, pull1]
noncomputable def c40 : Ctr := { ins := [.v Ty72], out := [Ty72], F := fun x => some ((f40 x.1, ()), ()) }
theorem v40 : LoopsOk Tryz.prog Γ t40 a40 (loopsIn (Tryz.f40.body.getD .skip) 0) := loopsOk_nil (by kernel_rfl)
theorem r40 (x : InsT c40.ins) : fnK Tryz.prog Γ t40 a40 Tryz.f40 c40 x = g40 x.1 := by kernel_rfl
theorem k40 : TblOk Tryz.prog t40 := tblOk_nil
theorem o40 : Holds Tryz.prog 40 c40 := fn_holds (code := Tryz.f40.body.getD .skip) (by kernel_rfl) gamOk k40 Tryz.func40 (by kernel_rfl) (by kernel_rfl) (by kernel_rfl) (by kernel_rfl) v40 (fun x _ h => (r40 x).trans ((n40 x.1).trans h))
/-! ### 41: loop.example/g00076/laws.toSlot -/
noncomputable def t41 : Tbl := []
noncomputable def a41 : Nat → Option LoopAnn := fun _ => none
noncomputable def g41 (x0 : Ta6) : Option Ta33 :=
  some ((x0, ()), ())
noncomputable def f41 (x0 : Ta6) : Ta6 :=
  x0
theorem n41 (x0 : Ta6) : g41 x0 = some ((f41 x0, ()), ()) := by
  simp only [g41, f41, pull1]
noncomputable def c41 : Ctr := { ins := [.v Ty51], out := [Ty51], F := fun x => some ((f41 x.1, ()), ()) }
theorem v41 : LoopsOk Tryz.prog Γ t41 a41 (loopsIn (Tryz.f41.body.getD .skip) 0) := loopsOk_nil (by kernel_rfl)
theorem r41 (x : InsT c41.ins) : fnK Tryz.prog Γ t41 a41 Tryz.f41 c41 x = g41 x.1 := by kernel_rfl
theorem k41 : TblOk Tryz.prog t41 := tblOk_nil
theorem o41 : Holds Tryz.prog 41 c41 := fn_holds (code := Tryz.f41.body.getD .skip) (by kernel_rfl) gamOk k41 Tryz.func41 (by kernel_rfl) (by kernel_rfl) (by kernel_rfl) (by kernel_rfl) v41 (fun x _ h => (r41 x).trans ((n41 x.1).trans h))
/-! ### 18: loop.example/g00076/spec.l01In -/
noncomputable def t18 : Tbl := []
noncomputable def a18 : Nat → Option LoopAnn := fun _ => none
noncomputable def g18 (x0 : Int) (x1 : Int) (x2 : Int) : Option ((Bool × Unit) × Unit) :=
  bif (decide (x0 ≥ x1)) then
    some (((decide (x0 ≤ x2)), ()), ())
  else
    some ((false, ()), ())
noncomputable def f18 (x0 : Int) (x1 : Int) (x2 : Int) : Bool :=
  bif (decide (x0 ≥ x1)) then
    (decide (x0 ≤ x2))
  else
    false
theorem n18 (x0 : Int) (x1 : Int) (x2 : Int) : g18 x0 x1 x2 = some ((f18 x0 x1 x2, ()), ()) := by
  simp only [g18, f18, pull1]
noncomputable def c18 : Ctr := { ins := [.v (.int .i64), .v (.int .i64), .v (.int .i64)], out := [.bool], F := fun x => some ((f18 x.1 x.2.1 x.2.2.1, ()), ()) }
theorem v18 : LoopsOk Tryz.prog Γ t18 a18 (loopsIn (Tryz.f18.body.getD .skip) 0) := loopsOk_nil (by kernel_rfl)
theorem r18 (x : InsT c18.ins) : fnK Tryz.prog Γ t18 a18 Tryz.f18 c18 x = g18 x.1 x.2.1 x.2.2.1 := by kernel_rfl
theorem k18 : TblOk Tryz.prog t18 := tblOk_nil
theorem o18 : Holds Tryz.prog 18 c18 := fn_holds (code := Tryz.f18.body.getD .skip) (by kernel_rfl) gamOk k18 Tryz.func18 (by kernel_rfl) (by kernel_rfl) (by kernel_rfl) (by kernel_rfl) v18 (fun x _ h => (r18 x).trans ((n18 x.1 x.2.1 x.2.2.1).trans h))
/-! ### 86: loop.example/g00076/spec.ShapeOk -/
noncomputable def t86 : Tbl := [(18, [], c18)]
noncomputable def a86 : Nat → Option LoopAnn := fun _ => none
noncomputable def g86 (x0 : Ta6) : Option ((Bool × Unit) × Unit) :=
  bif (x0.1 == (1 : Int)) then
    bif (x0.2.2.1 == (4 : Int)) then
      some (((f18 x0.2.1 (1 : Int) (4 : Int)), ()), ())
    else
      bif (x0.2.2.1 == (8 : Int)) then
        some (((f18 x0.2.1 (1 : Int) (4 : Int)), ()), ())
      else
        bif (x0.2.2.1 == (16 : Int)) then
          some (((f18 x0.2.1 (1 : Int) (4 : Int)), ()), ())
        else
          bif (x0.2.2.1 == (32 : Int)) then
            some (((f18 x0.2.1 (1 : Int) (4 : Int)), ()), ())
          else
            some ((false, ()), ())
  else
    bif (x0.1 == (2 : Int)) then
      bif (x0.2.2.1 == (4 : Int)) then
        some (((f18 x0.2.1 (1 : Int) (4 : Int)), ()), ())
      else
        bif (x0.2.2.1 == (8 : Int)) then
          some (((f18 x0.2.1 (1 : Int) (4 : Int)), ()), ())
        else
          bif (x0.2.2.1 == (16 : Int)) then
            some (((f18 x0.2.1 (1 : Int) (4 : Int)), ()), ())
          else
            bif (x0.2.2.1 == (32 : Int)) then
              some (((f18 x0.2.1 (1 : Int) (4 : Int)), ()), ())
            else
              some ((false, ()), ())
    else
      bif (x0.1 == (4 : Int)) then
        bif (x0.2.2.1 == (4 : Int)) then
          some (((f18 x0.2.1 (1 : Int) (4 : Int)), ()), ())
        else
          bif (x0.2.2.1 == (8 : Int)) then
            some (((f18 x0.2.1 (1 : Int) (4 : Int)), ()), ())
          else
            bif (x0.2.2.1 == (16 : Int)) then
              some (((f18 x0.2.1 (1 : Int) (4 : Int)), ()), ())
            else
              bif (x0.2.2.1 == (32 : Int)) then
                some (((f18 x0.2.1 (1 : Int) (4 : Int)), ()), ())
              else
                some ((false, ()), ())
      else
        bif (x0.1 == (8 : Int)) then
          bif (x0.2.2.1 == (4 : Int)) then
            some (((f18 x0.2.1 (1 : Int) (4 : Int)), ()), ())
          else
            bif (x0.2.2.1 == (8 : Int)) then
              some (((f18 x0.2.1 (1 : Int) (4 : Int)), ()), ())
            else
              bif (x0.2.2.1 == (16 : Int)) then
                some (((f18 x0.2.1 (1 : Int) (4 : Int)), ()), ())
              else
                bif (x0.2.2.1 == (32 : Int)) then
                  some (((f18 x0.2.1 (1 : Int) (4 : Int)), ()), ())
                else
                  some ((false, ()), ())
        else
          bif (x0.2.2.1 == (4 : Int)) then
            bif (x0.1 == (16 : Int)) then
              some (((f18 x0.2.1 (1 : Int) (4 : Int)), ()), ())
            else
              some ((false, ()), ())
          else
            bif (x0.2.2.1 == (8 : Int)) then
              bif (x0.1 == (16 : Int)) then
                some (((f18 x0.2.1 (1 : Int) (4 : Int)), ()), ())
              else
                some ((false, ()), ())
            else
              bif (x0.2.2.1 == (16 : Int)) then
                bif (x0.1 == (16 : Int)) then
                  some (((f18 x0.2.1 (1 : Int) (4 : Int)), ()), ())
                else
                  some ((false, ()), ())
              else
                bif (x0.1 == (16 : Int)) then
                  bif (x0.2.2.1 == (32 : Int)) then
                    some (((f18 x0.2.1 (1 : Int) (4 : Int)), ()), ())
                  else
                    some ((false, ()), ())
                else
                  some ((false, ()), ())
noncomputable def f86 (x0 : Ta6) : Bool :=
  bif (x0.1 == (1 : Int)) then
    bif (x0.2.2.1 == (4 : Int)) then
      (f18 x0.2.1 (1 : Int) (4 : Int))
    else
      bif (x0.2.2.1 == (8 : Int)) then
        (f18 x0.2.1 (1 : Int) (4 : Int))
      else
        bif (x0.2.2.1 == (16 : Int)) then
          (f18 x0.2.1 (1 : Int) (4 : Int))
        else
          bif (x0.2.2.1 == (32 : Int)) then
            (f18 x0.2.1 (1 : Int) (4 : Int))
          else
            false
  else
    bif (x0.1 == (2 : Int)) then
      bif (x0.2.2.1 == (4 : Int)) then
        (f18 x0.2.1 (1 : Int) (4 : Int))
      else
        bif (x0.2.2.1 == (8 : Int)) then
          (f18 x0.2.1 (1 : Int) (4 : Int))
        else
          bif (x0.2.2.1 == (16 : Int)) then
            (f18 x0.2.1 (1 : Int) (4 : Int))
          else
            bif (x0.2.2.1 == (32 : Int)) then
              (f18 x0.2.1 (1 : Int) (4 : Int))
            else
              false
    else
      bif (x0.1 == (4 : Int)) then
        bif (x0.2.2.1 == (4 : Int)) then
          (f18 x0.2.1 (1 : Int) (4 : Int))
        else
          bif (x0.2.2.1 == (8 : Int)) then
            (f18 x0.2.1 (1 : Int) (4 : Int))
          else
            bif (x0.2.2.1 == (16 : Int)) then
              (f18 x0.2.1 (1 : Int) (4 : Int))
            else
              bif (x0.2.2.1 == (32 : Int)) then
                (f18 x0.2.1 (1 : Int) (4 : Int))
              else
                false
      else
        bif (x0.1 == (8 : Int)) then
          bif (x0.2.2.1 == (4 : Int)) then
            (f18 x0.2.1 (1 : Int) (4 : Int))
          else
            bif (x0.2.2.1 == (8 : Int)) then
              (f18 x0.2.1 (1 : Int) (4 : Int))
            else
              bif (x0.2.2.1 == (16 : Int)) then
                (f18 x0.2.1 (1 : Int) (4 : Int))
              else
                bif (x0.2.2.1 == (32 : Int)) then
                  (f18 x0.2.1 (1 : Int) (4 : Int))
                else
                  false
        else
          bif (x0.2.2.1 == (4 : Int)) then
            bif (x0.1 == (16 : Int)) then
              (f18 x0.2.1 (1 : Int) (4 : Int))
            else
              false
          else
            bif (x0.2.2.1 == (8 : Int)) then
              bif (x0.1 == (16 : Int)) then
                (f18 x0.2.1 (1 : Int) (4 : Int))
              else
                false
            else
              bif (x0.2.2.1 == (16 : Int)) then
                bif (x0.1 == (16 : Int)) then
                  (f18 x0.2.1 (1 : Int) (4 : Int))
                else
                  false
              else
                bif (x0.1 == (16 : Int)) then
                  bif (x0.2.2.1 == (32 : Int)) then
                    (f18 x0.2.1 (1 : Int) (4 : Int))
                  else
                    false
                else
                  false
theorem n86 (x0 : Ta6) : g86 x0 = some ((f86 x0, ()), ()) := by
  simp only [g86, f86, pull1]
noncomputable def c86 : Ctr := { ins := [.v Ty51], out := [.bool], F := fun x => some ((f86 x.1, ()), ()) }
theorem v86 : LoopsOk Tryz.prog Γ t86 a86 (loopsIn (Tryz.f86.body.getD .skip) 0) := loopsOk_nil (by kernel_rfl)
theorem r86 (x : InsT c86.ins) : fnK Tryz.prog Γ t86 a86 Tryz.f86 c86 x = g86 x.1 := by kernel_rfl
theorem k86 : TblOk Tryz.prog t86 := tblOk_cons o18 (tblOk_nil)
theorem o86 : Holds Tryz.prog 86 c86 := fn_holds (code := Tryz.f86.body.getD .skip) (by kernel_rfl) gamOk k86 Tryz.func86 (by kernel_rfl) (by kernel_rfl) (by kernel_rfl) (by kernel_rfl) v86 (fun x _ h => (r86 x).trans ((n86 x.1).trans h))
/-! ### 87: loop.example/g00076/spec.CostsOk -/
noncomputable def t87 : Tbl := [(18, [], c18)]
noncomputable def a87 : Nat → Option LoopAnn := fun _ => none
noncomputable def g87 (x0 : Ta49) : Option ((Bool × Unit) × Unit) :=
  bif (f18 x0.1 (1 : Int) (20 : Int)) then
    bif (f18 x0.2.1 (0 : Int) (50 : Int)) then
      bif (f18 x0.2.2.1 (0 : Int) (50 : Int)) then
        bif (f18 x0.2.2.2.1 (0 : Int) (50 : Int)) then
          bif (f18 x0.2.2.2.2.1 (0 : Int) (50 : Int)) then
            bif (f18 x0.2.2.2.2.2.1 (0 : Int) (50 : Int)) then
              some (((f18 x0.2.2.2.2.2.2.1 (0 : Int) (50 : Int)), ()), ())
            else
              some ((false, ()), ())
          else
            some ((false, ()), ())
        else
          some ((false, ()), ())
      else
        some ((false, ()), ())
    else
      some ((false, ()), ())
  else
    some ((false, ()), ())
noncomputable def f87 (x0 : Ta49) : Bool :=
  bif (f18 x0.1 (1 : Int) (20 : Int)) then
    bif (f18 x0.2.1 (0 : Int) (50 : Int)) then
      bif (f18 x0.2.2.1 (0 : Int) (50 : Int)) then
        bif (f18 x0.2.2.2.1 (0 : Int) (50 : Int)) then
          bif (f18 x0.2.2.2.2.1 (0 : Int) (50 : Int)) then
            bif (f18 x0.2.2.2.2.2.1 (0 : Int) (50 : Int)) then
              (f18 x0.2.2.2.2.2.2.1 (0 : Int) (50 : Int))
            else
              false
          else
            false
        else
          false
      else
        false
    else
      false
  else
    false
theorem n87 (x0 : Ta49) : g87 x0 = some ((f87 x0, ()), ()) := by
  simp only [g87, f87, pull1]
noncomputable def c87 : Ctr := { ins := [.v Ty102], out := [.bool], F := fun x => some ((f87 x.1, ()), ()) }
theorem v87 : LoopsOk Tryz.prog Γ t87 a87 (loopsIn (Tryz.f87.body.getD .skip) 0) := loopsOk_nil (by kernel_rfl)
theorem r87 (x : InsT c87.ins) : fnK Tryz.prog Γ t87 a87 Tryz.f87 c87 x = g87 x.1 := by kernel_rfl
theorem k87 : TblOk Tryz.prog t87 := tblOk_cons o18 (tblOk_nil)
theorem o87 : Holds Tryz.prog 87 c87 := fn_holds (code := Tryz.f87.body.getD .skip) (by kernel_rfl) gamOk k87 Tryz.func87 (by kernel_rfl) (by kernel_rfl) (by kernel_rfl) (by kernel_rfl) v87 (fun x _ h => (r87 x).trans ((n87 x.1).trans h))
/-! ### 112: loop.example/g00076/spec.l02Forms -/
noncomputable def t112 : Tbl := []
noncomputable def a112 : Nat → Option LoopAnn := fun _ => none
noncomputable def g112 : Option Ta2 :=
  some (((L.of (Ty.zero (.int .i64)) [(0 : Int), (7 : Int), (7 : Int), (7 : Int), (7 : Int), (7 : Int), (7 : Int), (7 : Int), (7 : Int), (7 : Int), (7 : Int), (7 : Int), (7 : Int), (11 : Int), (9 : Int), (11 : Int), (11 : Int), (11 : Int), (11 : Int), (11 : Int), (11 : Int), (11 : Int), (9 : Int), (10 : Int), (1 : Int), (11 : Int), (11 : Int), (11 : Int), (9 : Int), (9 : Int), (0 : Int), (0 : Int), (8 : Int)]), ()), ())
noncomputable def f112 : (L Int) :=
  (L.of (Ty.zero (.int .i64)) [(0 : Int), (7 : Int), (7 : Int), (7 : Int), (7 : Int), (7 : Int), (7 : Int), (7 : Int), (7 : Int), (7 : Int), (7 : Int), (7 : Int), (7 : Int), (11 : Int), (9 : Int), (11 : Int), (11 : Int), (11 : Int), (11 : Int), (11 : Int), (11 : Int), (11 : Int), (9 : Int), (10 : Int), (1 : Int), (11 : Int), (11 : Int), (11 : Int), (9 : Int), (9 : Int), (0 : Int), (0 : Int), (8 : Int)])
theorem n112 : g112 = some ((f112, ()), ()) := by
  simp only [g112, f112, pull1]
noncomputable def c112 : Ctr := { ins := [], out := [(.sl (.int .i64))], F := fun x => some ((f112, ()), ()) }
theorem v112 : LoopsOk Tryz.prog Γ t112 a112 (loopsIn (Tryz.f112.body.getD .skip) 0) := loopsOk_nil (by kernel_rfl)
theorem r112 (x : InsT c112.ins) : fnK Tryz.prog Γ t112 a112 Tryz.f112 c112 x = g112 := by kernel_rfl
theorem k112 : TblOk Tryz.prog t112 := tblOk_nil
theorem o112 : Holds Tryz.prog 112 c112 := fn_holds (code := Tryz.f112.body.getD .skip) (by kernel_rfl) gamOk k112 Tryz.func112 (by kernel_rfl) (by kernel_rfl) (by kernel_rfl) (by kernel_rfl) v112 (fun x _ h => (r112 x).trans ((n112).trans h))
/-! ### 109: loop.example/g00076/spec.FormOf -/
noncomputable def t109 : Tbl := [(18, [], c18), (112, [], c112)]
noncomputable def a109 : Nat → Option LoopAnn := fun _ => none
noncomputable def g109 (x0 : Int) : Option ((Int × Unit) × Unit) :=
  bif (!(f18 x0 (0 : Int) (32 : Int))) then
    some (((-1 : Int), ()), ())
  else
    bif (decide (0 ≤ x0) && decide (x0 < ((f112).len : Int))) then
      some (((L.get (f112) x0.toNat), ()), ())
    else
      none
noncomputable def c109 : Ctr := { ins := [.v (.int .i64)], out := [(.int .i64)], F := fun x => g109 x.1 }
theorem v109 : LoopsOk Tryz.prog Γ t109 a109 (loopsIn (Tryz.f109.body.getD .skip) 0) := loopsOk_nil (by kernel_rfl)
theorem r109 (x : InsT c109.ins) : fnK Tryz.prog Γ t109 a109 Tryz.f109 c109 x = g109 x.1 := by kernel_rfl
theorem k109 : TblOk Tryz.prog t109 := tblOk_cons o18 (tblOk_cons o112 (tblOk_nil))
theorem o109 : Holds Tryz.prog 109 c109 := fn_holds (code := Tryz.f109.body.getD .skip) (by kernel_rfl) gamOk k109 Tryz.func109 (by kernel_rfl) (by kernel_rfl) (by kernel_rfl) (by kernel_rfl) v109 (fun x _ h => (r109 x).trans h)
/-! ### 102: loop.example/g00076/spec.OpCost -/
noncomputable def t102 : Tbl := [(87, [], c87), (109, [], c109), (18, [], c18)]
noncomputable def a102 : Nat → Option LoopAnn := fun _ => none
noncomputable def g102 (x0 : Ta49) (x1 : Int) : Option ((Int × Unit) × Unit) :=
  bif (!(f87 x0)) then
    some (((-1 : Int), ()), ())
  else
    (g109 x1).bind fun y1 =>
      bif (decide (y1.1.1 < (0 : Int))) then
        some (((-1 : Int), ()), ())
      else
        bif (x1 == (9 : Int)) then
          some (((wI (x0.1 + x0.2.1)), ()), ())
        else
          bif (x1 == (10 : Int)) then
            some (((wI (x0.1 + x0.2.1)), ()), ())
          else
            bif (f18 x1 (15 : Int) (18 : Int)) then
              some (((wI (x0.1 + x0.2.2.1)), ()), ())
            else
              bif (decide (x1 ≥ (25 : Int))) then
                some (((wI (x0.1 + x0.2.2.2.2.2.1)), ()), ())
              else
                some ((x0.1, ()), ())
noncomputable def c102 : Ctr := { ins := [.v Ty102, .v (.int .i64)], out := [(.int .i64)], F := fun x => g102 x.1 x.2.1 }
theorem v102 : LoopsOk Tryz.prog Γ t102 a102 (loopsIn (Tryz.f102.body.getD .skip) 0) := loopsOk_nil (by kernel_rfl)
theorem r102 (x : InsT c102.ins) : fnK Tryz.prog Γ t102 a102 Tryz.f102 c102 x = g102 x.1 x.2.1 := by kernel_rfl
theorem k102 : TblOk Tryz.prog t102 := tblOk_cons o87 (tblOk_cons o109 (tblOk_cons o18 (tblOk_nil)))
theorem o102 : Holds Tryz.prog 102 c102 := fn_holds (code := Tryz.f102.body.getD .skip) (by kernel_rfl) gamOk k102 Tryz.func102 (by kernel_rfl) (by kernel_rfl) (by kernel_rfl) (by kernel_rfl) v102 (fun x _ h => (r102 x).trans h)
/-! ### 110: loop.example/g00076/spec.AccessCost -/
noncomputable def t110 : Tbl := [(87, [], c87)]
noncomputable def a110 : Nat → Option LoopAnn := fun _ => none
noncomputable def g110 (x0 : Ta49) (x1 : Ta10) : Option ((Int × Unit) × Unit) :=
  bif (!(f87 x0)) then
    some (((-1 : Int), ()), ())
  else
    bif (!x1.1) then
      bif (!x1.2.1) then
        bif x1.2.2.1 then
          some (((wI ((wI ((wI ((0 : Int) + x0.2.2.2.1)) + x0.2.2.2.2.1)) + x0.2.2.2.2.2.2.1)), ()), ())
        else
          some (((wI ((wI ((0 : Int) + x0.2.2.2.1)) + x0.2.2.2.2.1)), ()), ())
      else
        bif x1.2.2.1 then
          some (((wI ((wI ((0 : Int) + x0.2.2.2.1)) + x0.2.2.2.2.2.2.1)), ()), ())
        else
          some (((wI ((0 : Int) + x0.2.2.2.1)), ()), ())
    else
      bif (!x1.2.1) then
        bif x1.2.2.1 then
          some (((wI ((wI ((0 : Int) + x0.2.2.2.2.1)) + x0.2.2.2.2.2.2.1)), ()), ())
        else
          some (((wI ((0 : Int) + x0.2.2.2.2.1)), ()), ())
      else
        bif x1.2.2.1 then
          some (((wI ((0 : Int) + x0.2.2.2.2.2.2.1)), ()), ())
        else
          some (((0 : Int), ()), ())
noncomputable def f110 (x0 : Ta49) (x1 : Ta10) : Int :=
  bif (!(f87 x0)) then
    (-1 : Int)
  else
    bif (!x1.1) then
      bif (!x1.2.1) then
        bif x1.2.2.1 then
          (wI ((wI ((wI ((0 : Int) + x0.2.2.2.1)) + x0.2.2.2.2.1)) + x0.2.2.2.2.2.2.1))
        else
          (wI ((wI ((0 : Int) + x0.2.2.2.1)) + x0.2.2.2.2.1))
      else
        bif x1.2.2.1 then
          (wI ((wI ((0 : Int) + x0.2.2.2.1)) + x0.2.2.2.2.2.2.1))
        else
          (wI ((0 : Int) + x0.2.2.2.1))
    else
      bif (!x1.2.1) then
        bif x1.2.2.1 then
          (wI ((wI ((0 : Int) + x0.2.2.2.2.1)) + x0.2.2.2.2.2.2.1))
        else
          (wI ((0 : Int) + x0.2.2.2.2.1))
      else
        bif x1.2.2.1 then
          (wI ((0 : Int) + x0.2.2.2.2.2.2.1))
        else
          (0 : Int)
theorem n110 (x0 : Ta49) (x1 : Ta10) : g110 x0 x1 = some ((f110 x0 x1, ()), ()) := by
  simp only [g110, f110, pull1]
noncomputable def c110 : Ctr := { ins := [.v Ty102, .v (.pair .bool (.pair .bool (.pair .bool .unit)))], out := [(.int .i64)], F := fun x => some ((f110 x.1 x.2.1, ()), ()) }
theorem v110 : LoopsOk Tryz.prog Γ t110 a110 (loopsIn (Tryz.f110.body.getD .skip) 0) := loopsOk_nil (by kernel_rfl)
theorem r110 (x : InsT c110.ins) : fnK Tryz.prog Γ t110 a110 Tryz.f110 c110 x = g110 x.1 x.2.1 := by kernel_rfl
theorem k110 : TblOk Tryz.prog t110 := tblOk_cons o87 (tblOk_nil)
theorem o110 : Holds Tryz.prog 110 c110 := fn_holds (code := Tryz.f110.body.getD .skip) (by kernel_rfl) gamOk k110 Tryz.func110 (by kernel_rfl) (by kernel_rfl) (by kernel_rfl) (by kernel_rfl) v110 (fun x _ h => (r110 x).trans ((n110 x.1 x.2.1).trans h))
/-! ### 103: loop.example/g00076/spec.WorstAccess -/
noncomputable def t103 : Tbl := [(110, [], c110)]
abbrev h103_L0 : Shape := { slots := [(1, .bx 1 0), (3, .v (.int .i64)), (4, .v (.int .i64))], boxes := [(1, .typ Ty102)] }
abbrev e103_L0 : List (XT × Shape) := [(.exit 0, { slots := [(3, .v (.int .i64))], boxes := [] })]
noncomputable def q103_L0 (t3 : Int) (t4 : Int) (b1 : Ta49) : Option (Ta86 ⊕ (((Int × Unit) × Unit) ⊕ Empty)) :=
  bif (decide (t4 < (8 : Int))) then
    bif (decide ((f110 b1 (((Int.tmod t4 (2 : Int)) == (1 : Int)), (((Int.tmod (wI (Int.tdiv t4 (2 : Int))) (2 : Int)) == (1 : Int)), (((wI (Int.tdiv t4 (4 : Int))) == (1 : Int)), ())))) > t3)) then
      some (.inl (((), ((f110 b1 (((Int.tmod t4 (2 : Int)) == (1 : Int)), (((Int.tmod (wI (Int.tdiv t4 (2 : Int))) (2 : Int)) == (1 : Int)), (((wI (Int.tdiv t4 (4 : Int))) == (1 : Int)), ())))), ((wI (t4 + (1 : Int))), ()))), (b1, ())))
    else
      some (.inl (((), (t3, ((wI (t4 + (1 : Int))), ()))), (b1, ())))
  else
    some (.inr (.inl ((t3, ()), ())))
noncomputable def s103_L0 (x : Ta86) : Option (Ta86 ⊕ (((Int × Unit) × Unit) ⊕ Empty)) := q103_L0 x.1.2.1 x.1.2.2.1 x.2.1
noncomputable def a103 : Nat → Option LoopAnn := fun c => bif Nat.beq c 0 then some (.fix h103_L0 e103_L0 s103_L0) else none
noncomputable def g103 (x0 : Ta49) : Option ((Int × Unit) × Unit) :=
  (fixO s103_L0 (((), ((-1 : Int), ((0 : Int), ()))), (x0, ()))).bind fun d2 => match d2 with
  | .inl y1 =>
    some ((y1.1.1, ()), ())
  | .inr e => nomatch e
noncomputable def c103 : Ctr := { ins := [.v Ty102], out := [(.int .i64)], F := fun x => g103 x.1 }
noncomputable def l103 : List (Nat × Code) := loopsIn (Tryz.f103.body.getD .skip) 0
theorem w103_L0 (x : h103_L0.T) : runK Tryz.prog Γ t103 (inlN Tryz.prog Γ t103 3) a103 (l103.getD 0 (0, .skip)).2 0 (pkSh h103_L0 x) (loopCls (sh := h103_L0) (es := e103_L0)) = (s103_L0 x : Option _) := by kernel_rfl
theorem v103 : LoopsOk Tryz.prog Γ t103 a103 (loopsIn (Tryz.f103.body.getD .skip) 0) := by
  have e : loopsIn (Tryz.f103.body.getD .skip) 0 = [(0, (l103.getD 0 (0, .skip)).2)] := by kernel_rfl
  rw [e]
  exact ⟨fun x d h => (w103_L0 x).trans h, trivial⟩
theorem r103 (x : InsT c103.ins) : fnK Tryz.prog Γ t103 a103 Tryz.f103 c103 x = g103 x.1 := by kernel_rfl
theorem k103 : TblOk Tryz.prog t103 := tblOk_cons o110 (tblOk_nil)
theorem o103 : Holds Tryz.prog 103 c103 := fn_holds (code := Tryz.f103.body.getD .skip) (by kernel_rfl) gamOk k103 Tryz.func103 (by kernel_rfl) (by kernel_rfl) (by kernel_rfl) (by kernel_rfl) v103 (fun x _ h => (r103 x).trans h)
/-! ### 88: loop.example/g00076/spec.WorstStep -/
noncomputable def t88 : Tbl := [(87, [], c87), (102, [], c102), (103, [], c103)]
abbrev h88_L0 : Shape := { slots := [(1, .bx 1 0), (3, .v (.int .i64)), (4, .v (.int .i64))], boxes := [(1, .typ Ty102)] }
abbrev e88_L0 : List (XT × Shape) := [(.exit 0, { slots := [(1, .bx 1 0), (3, .v (.int .i64))], boxes := [(1, .typ Ty102)] })]
noncomputable def q88_L0 (t3 : Int) (t4 : Int) (b1 : Ta49) : Option (Ta86 ⊕ (Ta79 ⊕ Empty)) :=
  bif (decide (t4 < (33 : Int))) then
    (g102 b1 t4).bind fun y1 =>
      bif (decide (y1.1.1 > t3)) then
        (g102 b1 t4).bind fun y2 =>
          some (.inl (((), (y2.1.1, ((wI (t4 + (1 : Int))), ()))), (b1, ())))
      else
        some (.inl (((), (t3, ((wI (t4 + (1 : Int))), ()))), (b1, ())))
  else
    some (.inr (.inl (((), (t3, ())), (b1, ()))))
noncomputable def s88_L0 (x : Ta86) : Option (Ta86 ⊕ (Ta79 ⊕ Empty)) := q88_L0 x.1.2.1 x.1.2.2.1 x.2.1
noncomputable def a88 : Nat → Option LoopAnn := fun c => bif Nat.beq c 0 then some (.fix h88_L0 e88_L0 s88_L0) else none
noncomputable def g88 (x0 : Ta49) : Option ((Int × Unit) × Unit) :=
  bif (!(f87 x0)) then
    some (((-1 : Int), ()), ())
  else
    (fixO s88_L0 (((), ((0 : Int), ((0 : Int), ()))), (x0, ()))).bind fun d5 => match d5 with
    | .inl y3 =>
      (g103 y3.2.1).bind fun y4 =>
        some (((wI ((wI (y3.1.2.1 + (wI ((2 : Int) * y4.1.1)))) + y3.2.1.2.2.2.2.2.1)), ()), ())
    | .inr e => nomatch e
noncomputable def c88 : Ctr := { ins := [.v Ty102], out := [(.int .i64)], F := fun x => g88 x.1 }
noncomputable def l88 : List (Nat × Code) := loopsIn (Tryz.f88.body.getD .skip) 0
theorem w88_L0 (x : h88_L0.T) : runK Tryz.prog Γ t88 (inlN Tryz.prog Γ t88 3) a88 (l88.getD 0 (0, .skip)).2 0 (pkSh h88_L0 x) (loopCls (sh := h88_L0) (es := e88_L0)) = (s88_L0 x : Option _) := by kernel_rfl
theorem v88 : LoopsOk Tryz.prog Γ t88 a88 (loopsIn (Tryz.f88.body.getD .skip) 0) := by
  have e : loopsIn (Tryz.f88.body.getD .skip) 0 = [(0, (l88.getD 0 (0, .skip)).2)] := by kernel_rfl
  rw [e]
  exact ⟨fun x d h => (w88_L0 x).trans h, trivial⟩
theorem r88 (x : InsT c88.ins) : fnK Tryz.prog Γ t88 a88 Tryz.f88 c88 x = g88 x.1 := by kernel_rfl
theorem k88 : TblOk Tryz.prog t88 := tblOk_cons o87 (tblOk_cons o102 (tblOk_cons o103 (tblOk_nil)))
theorem o88 : Holds Tryz.prog 88 c88 := fn_holds (code := Tryz.f88.body.getD .skip) (by kernel_rfl) gamOk k88 Tryz.func88 (by kernel_rfl) (by kernel_rfl) (by kernel_rfl) (by kernel_rfl) v88 (fun x _ h => (r88 x).trans h)
/-! ### 64: loop.example/g00076/spec.l13Head -/
noncomputable def t64 : Tbl := [(18, [], c18), (86, [], c86), (87, [], c87), (88, [], c88)]
noncomputable def a64 : Nat → Option LoopAnn := fun _ => none
noncomputable def g64 (x0 : Ta129) : Option ((Bool × Unit) × Unit) :=
  bif (!(f18 x0.1 (64 : Int) (2048 : Int))) then
    some ((false, ()), ())
  else
    bif ((Int.tmod x0.1 (4 : Int)) != (0 : Int)) then
      some ((false, ()), ())
    else
      bif (!(f86 x0.2.1)) then
        some ((false, ()), ())
      else
        bif (!(f18 x0.2.2.1 (1 : Int) (8 : Int))) then
          some ((false, ()), ())
        else
          bif (!(f87 x0.2.2.2.1)) then
            some ((false, ()), ())
          else
            bif (f18 x0.2.2.2.2.1 (1 : Int) (5000 : Int)) then
              bif (f18 x0.2.2.2.2.2.1 (1 : Int) (5000 : Int)) then
                bif (f18 x0.2.2.2.2.2.2.1 (1 : Int) (5000 : Int)) then
                  (g88 x0.2.2.2.1).bind fun y1 =>
                    some (((decide (x0.2.2.2.2.2.1 ≥ y1.1.1)), ()), ())
                else
                  some ((false, ()), ())
              else
                some ((false, ()), ())
            else
              some ((false, ()), ())
noncomputable def c64 : Ctr := { ins := [.v Ty147], out := [.bool], F := fun x => g64 x.1 }
theorem v64 : LoopsOk Tryz.prog Γ t64 a64 (loopsIn (Tryz.f64.body.getD .skip) 0) := loopsOk_nil (by kernel_rfl)
theorem r64 (x : InsT c64.ins) : fnK Tryz.prog Γ t64 a64 Tryz.f64 c64 x = g64 x.1 := by kernel_rfl
theorem k64 : TblOk Tryz.prog t64 := tblOk_cons o18 (tblOk_cons o86 (tblOk_cons o87 (tblOk_cons o88 (tblOk_nil))))
theorem o64 : Holds Tryz.prog 64 c64 := fn_holds (code := Tryz.f64.body.getD .skip) (by kernel_rfl) gamOk k64 Tryz.func64 (by kernel_rfl) (by kernel_rfl) (by kernel_rfl) (by kernel_rfl) v64 (fun x _ h => (r64 x).trans h)
/-! ### 111: loop.example/g00076/spec.LabelOk -/
noncomputable def t111 : Tbl := [(18, [], c18)]
abbrev h111_L0 : Shape := { slots := [(0, .v .str), (3, .v (.int .i64))], boxes := [] }
abbrev e111_L0 : List (XT × Shape) := [(.ret, { slots := [(2, .v .bool)], boxes := [] }), (.exit 0, { slots := [(0, .v .str)], boxes := [] })]
noncomputable def q111_L0 (t0 : ByteArray) (t3 : Int) : Option (Ta17 ⊕ (((Bool × Unit) × Unit) ⊕ (Ta5 ⊕ Empty))) :=
  bif (decide (t3 < (t0.size : Int))) then
    bif (decide (t3 < (13 : Int))) then
      bif (decide (0 ≤ t3) && decide (t3 < t0.size)) then
        bif (!(f18 (wI ((bt t0 t3))) (97 : Int) (122 : Int))) then
          some (.inr (.inl ((false, ()), ())))
        else
          some (.inl ((t0, ((wI (t3 + (1 : Int))), ())), ()))
      else
        none
    else
      some (.inr (.inr (.inl ((t0, ()), ()))))
  else
    some (.inr (.inr (.inl ((t0, ()), ()))))
noncomputable def s111_L0 (x : Ta17) : Option (Ta17 ⊕ (((Bool × Unit) × Unit) ⊕ (Ta5 ⊕ Empty))) := q111_L0 x.1.1 x.1.2.1
noncomputable def a111 : Nat → Option LoopAnn := fun c => bif Nat.beq c 0 then some (.fix h111_L0 e111_L0 s111_L0) else none
noncomputable def g111 (x0 : ByteArray) : Option ((Bool × Unit) × Unit) :=
  (fixO s111_L0 ((x0, ((0 : Int), ())), ())).bind fun d2 => match d2 with
  | .inl y1 =>
    some ((y1.1.1, ()), ())
  | .inr (.inl y1) =>
    some (((f18 (y1.1.1.size : Int) (1 : Int) (12 : Int)), ()), ())
  | .inr (.inr e) => nomatch e
noncomputable def c111 : Ctr := { ins := [.v .str], out := [.bool], F := fun x => g111 x.1 }
noncomputable def l111 : List (Nat × Code) := loopsIn (Tryz.f111.body.getD .skip) 0
theorem w111_L0 (x : h111_L0.T) : runK Tryz.prog Γ t111 (inlN Tryz.prog Γ t111 3) a111 (l111.getD 0 (0, .skip)).2 0 (pkSh h111_L0 x) (loopCls (sh := h111_L0) (es := e111_L0)) = (s111_L0 x : Option _) := by kernel_rfl
theorem v111 : LoopsOk Tryz.prog Γ t111 a111 (loopsIn (Tryz.f111.body.getD .skip) 0) := by
  have e : loopsIn (Tryz.f111.body.getD .skip) 0 = [(0, (l111.getD 0 (0, .skip)).2)] := by kernel_rfl
  rw [e]
  exact ⟨fun x d h => (w111_L0 x).trans h, trivial⟩
theorem r111 (x : InsT c111.ins) : fnK Tryz.prog Γ t111 a111 Tryz.f111 c111 x = g111 x.1 := by kernel_rfl
theorem k111 : TblOk Tryz.prog t111 := tblOk_cons o18 (tblOk_nil)
theorem o111 : Holds Tryz.prog 111 c111 := fn_holds (code := Tryz.f111.body.getD .skip) (by kernel_rfl) gamOk k111 Tryz.func111 (by kernel_rfl) (by kernel_rfl) (by kernel_rfl) (by kernel_rfl) v111 (fun x _ h => (r111 x).trans h)
/-! ### 104: loop.example/g00076/spec.NameOk -/
noncomputable def t104 : Tbl := [(111, [], c111)]
noncomputable def a104 : Nat → Option LoopAnn := fun _ => none
noncomputable def g104 (x0 : ByteArray) : Option ((Bool × Unit) × Unit) :=
  bif (decide ((x0.size : Int) ≤ (8 : Int))) then
    (g111 x0).bind fun y1 =>
      some ((y1.1.1, ()), ())
  else
    some ((false, ()), ())
noncomputable def c104 : Ctr := { ins := [.v .str], out := [.bool], F := fun x => g104 x.1 }
theorem v104 : LoopsOk Tryz.prog Γ t104 a104 (loopsIn (Tryz.f104.body.getD .skip) 0) := loopsOk_nil (by kernel_rfl)
theorem r104 (x : InsT c104.ins) : fnK Tryz.prog Γ t104 a104 Tryz.f104 c104 x = g104 x.1 := by kernel_rfl
theorem k104 : TblOk Tryz.prog t104 := tblOk_cons o111 (tblOk_nil)
theorem o104 : Holds Tryz.prog 104 c104 := fn_holds (code := Tryz.f104.body.getD .skip) (by kernel_rfl) gamOk k104 Tryz.func104 (by kernel_rfl) (by kernel_rfl) (by kernel_rfl) (by kernel_rfl) v104 (fun x _ h => (r104 x).trans h)
/-! ### 105: loop.example/g00076/spec.PolicyOk -/
noncomputable def t105 : Tbl := [(18, [], c18)]
noncomputable def a105 : Nat → Option LoopAnn := fun _ => none
noncomputable def g105 (x0 : (Int × (Int × Unit))) : Option ((Bool × Unit) × Unit) :=
  bif (x0.1 == (1 : Int)) then
    some (((f18 x0.2.1 (0 : Int) (100 : Int)), ()), ())
  else
    bif (x0.1 == (0 : Int)) then
      some (((x0.2.1 == (0 : Int)), ()), ())
    else
      bif (x0.1 == (2 : Int)) then
        some (((x0.2.1 == (0 : Int)), ()), ())
      else
        some ((false, ()), ())
noncomputable def f105 (x0 : (Int × (Int × Unit))) : Bool :=
  bif (x0.1 == (1 : Int)) then
    (f18 x0.2.1 (0 : Int) (100 : Int))
  else
    bif (x0.1 == (0 : Int)) then
      (x0.2.1 == (0 : Int))
    else
      bif (x0.1 == (2 : Int)) then
        (x0.2.1 == (0 : Int))
      else
        false
theorem n105 (x0 : (Int × (Int × Unit))) : g105 x0 = some ((f105 x0, ()), ()) := by
  simp only [g105, f105, pull1]
noncomputable def c105 : Ctr := { ins := [.v Ty31], out := [.bool], F := fun x => some ((f105 x.1, ()), ()) }
theorem v105 : LoopsOk Tryz.prog Γ t105 a105 (loopsIn (Tryz.f105.body.getD .skip) 0) := loopsOk_nil (by kernel_rfl)
theorem r105 (x : InsT c105.ins) : fnK Tryz.prog Γ t105 a105 Tryz.f105 c105 x = g105 x.1 := by kernel_rfl
theorem k105 : TblOk Tryz.prog t105 := tblOk_cons o18 (tblOk_nil)
theorem o105 : Holds Tryz.prog 105 c105 := fn_holds (code := Tryz.f105.body.getD .skip) (by kernel_rfl) gamOk k105 Tryz.func105 (by kernel_rfl) (by kernel_rfl) (by kernel_rfl) (by kernel_rfl) v105 (fun x _ h => (r105 x).trans ((n105 x.1).trans h))
/-! ### 106: loop.example/g00076/spec.WindowOk -/
noncomputable def t106 : Tbl := [(18, [], c18)]
noncomputable def a106 : Nat → Option LoopAnn := fun _ => none
noncomputable def g106 (x0 : Ta6) : Option ((Bool × Unit) × Unit) :=
  bif (f18 x0.1 (0 : Int) (2048 : Int)) then
    bif (f18 x0.2.1 (4 : Int) (2048 : Int)) then
      bif ((Int.tmod x0.1 (4 : Int)) == (0 : Int)) then
        bif ((Int.tmod x0.2.1 (4 : Int)) == (0 : Int)) then
          bif (decide ((wI (x0.1 + x0.2.1)) ≤ (2048 : Int))) then
            some (((f18 x0.2.2.1 (1 : Int) (7 : Int)), ()), ())
          else
            some ((false, ()), ())
        else
          some ((false, ()), ())
      else
        some ((false, ()), ())
    else
      some ((false, ()), ())
  else
    some ((false, ()), ())
noncomputable def f106 (x0 : Ta6) : Bool :=
  bif (f18 x0.1 (0 : Int) (2048 : Int)) then
    bif (f18 x0.2.1 (4 : Int) (2048 : Int)) then
      bif ((Int.tmod x0.1 (4 : Int)) == (0 : Int)) then
        bif ((Int.tmod x0.2.1 (4 : Int)) == (0 : Int)) then
          bif (decide ((wI (x0.1 + x0.2.1)) ≤ (2048 : Int))) then
            (f18 x0.2.2.1 (1 : Int) (7 : Int))
          else
            false
        else
          false
      else
        false
    else
      false
  else
    false
theorem n106 (x0 : Ta6) : g106 x0 = some ((f106 x0, ()), ()) := by
  simp only [g106, f106, pull1]
noncomputable def c106 : Ctr := { ins := [.v Ty51], out := [.bool], F := fun x => some ((f106 x.1, ()), ()) }
theorem v106 : LoopsOk Tryz.prog Γ t106 a106 (loopsIn (Tryz.f106.body.getD .skip) 0) := loopsOk_nil (by kernel_rfl)
theorem r106 (x : InsT c106.ins) : fnK Tryz.prog Γ t106 a106 Tryz.f106 c106 x = g106 x.1 := by kernel_rfl
theorem k106 : TblOk Tryz.prog t106 := tblOk_cons o18 (tblOk_nil)
theorem o106 : Holds Tryz.prog 106 c106 := fn_holds (code := Tryz.f106.body.getD .skip) (by kernel_rfl) gamOk k106 Tryz.func106 (by kernel_rfl) (by kernel_rfl) (by kernel_rfl) (by kernel_rfl) v106 (fun x _ h => (r106 x).trans ((n106 x.1).trans h))
/-! ### 107: loop.example/g00076/spec.l07Has -/
noncomputable def t107 : Tbl := []
noncomputable def a107 : Nat → Option LoopAnn := fun _ => none
noncomputable def g107 (x0 : Ta6) (x1 : Int) : Option ((Bool × Unit) × Unit) :=
  bif (decide (x1 ≥ x0.1)) then
    some (((decide (x1 < (wI (x0.1 + x0.2.1)))), ()), ())
  else
    some ((false, ()), ())
noncomputable def f107 (x0 : Ta6) (x1 : Int) : Bool :=
  bif (decide (x1 ≥ x0.1)) then
    (decide (x1 < (wI (x0.1 + x0.2.1))))
  else
    false
theorem n107 (x0 : Ta6) (x1 : Int) : g107 x0 x1 = some ((f107 x0 x1, ()), ()) := by
  simp only [g107, f107, pull1]
noncomputable def c107 : Ctr := { ins := [.v Ty51, .v (.int .i64)], out := [.bool], F := fun x => some ((f107 x.1 x.2.1, ()), ()) }
theorem v107 : LoopsOk Tryz.prog Γ t107 a107 (loopsIn (Tryz.f107.body.getD .skip) 0) := loopsOk_nil (by kernel_rfl)
theorem r107 (x : InsT c107.ins) : fnK Tryz.prog Γ t107 a107 Tryz.f107 c107 x = g107 x.1 x.2.1 := by kernel_rfl
theorem k107 : TblOk Tryz.prog t107 := tblOk_nil
theorem o107 : Holds Tryz.prog 107 c107 := fn_holds (code := Tryz.f107.body.getD .skip) (by kernel_rfl) gamOk k107 Tryz.func107 (by kernel_rfl) (by kernel_rfl) (by kernel_rfl) (by kernel_rfl) v107 (fun x _ h => (r107 x).trans ((n107 x.1 x.2.1).trans h))
/-! ### 89: loop.example/g00076/spec.l13PartOk -/
noncomputable def t89 : Tbl := [(104, [], c104), (105, [], c105), (18, [], c18), (106, [], c106), (107, [], c107)]
abbrev h89_L0 : Shape := { slots := [(1, .v (.int .i64)), (2, .bx 2 0), (5, .v .bool), (6, .v (.int .i64))], boxes := [(2, .typ Ty112)] }
abbrev e89_L0 : List (XT × Shape) := [(.ret, { slots := [(4, .v .bool)], boxes := [] }), (.exit 0, { slots := [(2, .bx 2 0), (5, .v .bool)], boxes := [(2, .typ Ty112)] })]
noncomputable def q89_L0 (t1 : Int) (t5 : Bool) (t6 : Int) (b2 : Ta75) : Option (Ta100 ⊕ (((Bool × Unit) × Unit) ⊕ (((Unit × (Bool × Unit)) × Ta81) ⊕ Empty))) :=
  bif (decide (t6 < (b2.2.2.2.1.len : Int))) then
    bif (decide (0 ≤ t6) && decide (t6 < (b2.2.2.2.1.len : Int))) then
      bif (!(f106 (L.get b2.2.2.2.1 t6.toNat))) then
        some (.inr (.inl ((false, ()), ())))
      else
        bif (decide ((wI ((L.get b2.2.2.2.1 t6.toNat).1 + (L.get b2.2.2.2.1 t6.toNat).2.1)) > t1)) then
          some (.inr (.inl ((false, ()), ())))
        else
          bif (f107 (L.get b2.2.2.2.1 t6.toNat) b2.2.1) then
            bif ((wI (Int.tdiv (L.get b2.2.2.2.1 t6.toNat).2.2.1 (4 : Int))) == (1 : Int)) then
              some (.inl ((t1, ((), (true, ((wI (t6 + (1 : Int))), ())))), (b2, ())))
            else
              some (.inl ((t1, ((), (t5, ((wI (t6 + (1 : Int))), ())))), (b2, ())))
          else
            some (.inl ((t1, ((), (t5, ((wI (t6 + (1 : Int))), ())))), (b2, ())))
    else
      none
  else
    some (.inr (.inr (.inl (((), (t5, ())), (b2, ())))))
noncomputable def s89_L0 (x : Ta100) : Option (Ta100 ⊕ (((Bool × Unit) × Unit) ⊕ (((Unit × (Bool × Unit)) × Ta81) ⊕ Empty))) := q89_L0 x.1.1 x.1.2.2.1 x.1.2.2.2.1 x.2.1
noncomputable def a89 : Nat → Option LoopAnn := fun c => bif Nat.beq c 0 then some (.fix h89_L0 e89_L0 s89_L0) else none
noncomputable def g89 (x0 : Ta75) (x1 : Int) : Option ((Bool × Unit) × Unit) :=
  (g104 x0.1).bind fun y1 =>
    bif (!y1.1.1) then
      some ((false, ()), ())
    else
      bif (!(f105 x0.2.2.1)) then
        some ((false, ()), ())
      else
        bif (!(f18 (x0.2.2.2.1.len : Int) (1 : Int) (4 : Int))) then
          some ((false, ()), ())
        else
          (fixO s89_L0 ((x1, ((), (false, ((0 : Int), ())))), (x0, ()))).bind fun d3 => match d3 with
          | .inl y2 =>
            some ((y2.1.1, ()), ())
          | .inr (.inl y2) =>
            bif y2.1.2.1 then
              some ((((Int.tmod y2.2.1.2.1 (4 : Int)) == (0 : Int)), ()), ())
            else
              some ((false, ()), ())
          | .inr (.inr e) => nomatch e
noncomputable def c89 : Ctr := { ins := [.v Ty112, .v (.int .i64)], out := [.bool], F := fun x => g89 x.1 x.2.1 }
noncomputable def l89 : List (Nat × Code) := loopsIn (Tryz.f89.body.getD .skip) 0
theorem w89_L0 (x : h89_L0.T) : runK Tryz.prog Γ t89 (inlN Tryz.prog Γ t89 3) a89 (l89.getD 0 (0, .skip)).2 0 (pkSh h89_L0 x) (loopCls (sh := h89_L0) (es := e89_L0)) = (s89_L0 x : Option _) := by kernel_rfl
theorem v89 : LoopsOk Tryz.prog Γ t89 a89 (loopsIn (Tryz.f89.body.getD .skip) 0) := by
  have e : loopsIn (Tryz.f89.body.getD .skip) 0 = [(0, (l89.getD 0 (0, .skip)).2)] := by kernel_rfl
  rw [e]
  exact ⟨fun x d h => (w89_L0 x).trans h, trivial⟩
theorem r89 (x : InsT c89.ins) : fnK Tryz.prog Γ t89 a89 Tryz.f89 c89 x = g89 x.1 x.2.1 := by kernel_rfl
theorem k89 : TblOk Tryz.prog t89 := tblOk_cons o104 (tblOk_cons o105 (tblOk_cons o18 (tblOk_cons o106 (tblOk_cons o107 (tblOk_nil)))))
theorem o89 : Holds Tryz.prog 89 c89 := fn_holds (code := Tryz.f89.body.getD .skip) (by kernel_rfl) gamOk k89 Tryz.func89 (by kernel_rfl) (by kernel_rfl) (by kernel_rfl) (by kernel_rfl) v89 (fun x _ h => (r89 x).trans h)
/-! ### 90: loop.example/g00076/spec.l13Windows -/
noncomputable def t90 : Tbl := []
abbrev h90_L0 : Shape := { slots := [(0, .v Ty113), (3, .exo Ty51 50003), (4, .v (.int .i64))], boxes := [] }
abbrev e90_L0 : List (XT × Shape) := [(.exit 0, { slots := [(3, .exo Ty51 50003)], boxes := [] })]
noncomputable def q90_L0 (t0 : Ta78) (t3 : Ta11) (t4 : Int) : Option (Ta107 ⊕ (Ta38 ⊕ Empty)) :=
  bif (decide (t4 < (t0.len : Int))) then
    bif (decide (0 ≤ t4) && decide (t4 < (t0.len : Int))) then
      bif (decide (t3.len + (L.get t0 t4.toNat).2.2.2.1.len ≤ most)) then
        some (.inl ((t0, ((L.app t3 (L.get t0 t4.toNat).2.2.2.1), ((wI (t4 + (1 : Int))), ()))), ()))
      else
        none
    else
      none
  else
    some (.inr (.inl ((t3, ()), ())))
noncomputable def s90_L0 (x : Ta107) : Option (Ta107 ⊕ (Ta38 ⊕ Empty)) := q90_L0 x.1.1 x.1.2.1 x.1.2.2.1
noncomputable def a90 : Nat → Option LoopAnn := fun c => bif Nat.beq c 0 then some (.fix h90_L0 e90_L0 s90_L0) else none
noncomputable def g90 (x0 : Ta78) : Option Ta38 :=
  (fixO s90_L0 ((x0, ((L.of (Ty.zero Ty51) []), ((0 : Int), ()))), ())).bind fun d2 => match d2 with
  | .inl y1 =>
    some ((y1.1.1, ()), ())
  | .inr e => nomatch e
noncomputable def c90 : Ctr := { ins := [.v Ty113], out := [Ty59], F := fun x => g90 x.1 }
noncomputable def l90 : List (Nat × Code) := loopsIn (Tryz.f90.body.getD .skip) 0
theorem w90_L0 (x : h90_L0.T) : runK Tryz.prog Γ t90 (inlN Tryz.prog Γ t90 3) a90 (l90.getD 0 (0, .skip)).2 0 (pkSh h90_L0 x) (loopCls (sh := h90_L0) (es := e90_L0)) = (s90_L0 x : Option _) := by kernel_rfl
theorem v90 : LoopsOk Tryz.prog Γ t90 a90 (loopsIn (Tryz.f90.body.getD .skip) 0) := by
  have e : loopsIn (Tryz.f90.body.getD .skip) 0 = [(0, (l90.getD 0 (0, .skip)).2)] := by kernel_rfl
  rw [e]
  exact ⟨fun x d h => (w90_L0 x).trans h, trivial⟩
theorem r90 (x : InsT c90.ins) : fnK Tryz.prog Γ t90 a90 Tryz.f90 c90 x = g90 x.1 := by kernel_rfl
theorem k90 : TblOk Tryz.prog t90 := tblOk_nil
theorem o90 : Holds Tryz.prog 90 c90 := fn_holds (code := Tryz.f90.body.getD .skip) (by kernel_rfl) gamOk k90 Tryz.func90 (by kernel_rfl) (by kernel_rfl) (by kernel_rfl) (by kernel_rfl) v90 (fun x _ h => (r90 x).trans h)
/-! ### 65: loop.example/g00076/spec.l13Parts -/
noncomputable def t65 : Tbl := [(18, [], c18), (89, [], c89), (90, [], c90)]
abbrev h65_L2 : Shape := { slots := [(1, .bx 1 0), (3, .v (.int .i64)), (4, .v (.int .i64))], boxes := [(1, .typ Ty147)] }
abbrev e65_L2 : List (XT × Shape) := [(.ret, { slots := [(2, .v .bool)], boxes := [] }), (.exit 2, { slots := [(1, .bx 1 0), (3, .v (.int .i64))], boxes := [(1, .typ Ty147)] })]
noncomputable def q65_L2 (t3 : Int) (t4 : Int) (b1 : Ta129) : Option (Ta133 ⊕ (((Bool × Unit) × Unit) ⊕ (Ta132 ⊕ Empty))) :=
  bif (decide (t4 < t3)) then
    bif (decide (0 ≤ t4) && decide (t4 < (b1.2.2.2.2.2.2.2.1.len : Int))) then
      bif (decide (0 ≤ t3) && decide (t3 < (b1.2.2.2.2.2.2.2.1.len : Int))) then
        bif (strEq (L.get b1.2.2.2.2.2.2.2.1 t4.toNat).1 (L.get b1.2.2.2.2.2.2.2.1 t3.toNat).1) then
          some (.inr (.inl ((false, ()), ())))
        else
          some (.inl (((), (t3, ((wI (t4 + (1 : Int))), ()))), (b1, ())))
      else
        none
    else
      none
  else
    some (.inr (.inr (.inl (((), (t3, ())), (b1, ())))))
noncomputable def s65_L2 (x : Ta133) : Option (Ta133 ⊕ (((Bool × Unit) × Unit) ⊕ (Ta132 ⊕ Empty))) := q65_L2 x.1.2.1 x.1.2.2.1 x.2.1
abbrev h65_L0 : Shape := { slots := [(1, .bx 1 0), (3, .v (.int .i64))], boxes := [(1, .typ Ty147)] }
abbrev e65_L0 : List (XT × Shape) := [(.ret, { slots := [(2, .v .bool)], boxes := [] }), (.exit 0, { slots := [(1, .bx 1 0)], boxes := [(1, .typ Ty147)] })]
noncomputable def q65_L0 (t3 : Int) (b1 : Ta129) : Option (Ta132 ⊕ (((Bool × Unit) × Unit) ⊕ (Ta131 ⊕ Empty))) :=
  bif (decide (t3 < (b1.2.2.2.2.2.2.2.1.len : Int))) then
    bif (decide (0 ≤ t3) && decide (t3 < (b1.2.2.2.2.2.2.2.1.len : Int))) then
      (g89 (L.get b1.2.2.2.2.2.2.2.1 t3.toNat) b1.1).bind fun y1 =>
        bif (!y1.1.1) then
          some (.inr (.inl ((false, ()), ())))
        else
          (fixO s65_L2 (((), (t3, ((0 : Int), ()))), (b1, ()))).bind fun d3 => match d3 with
          | .inl y2 =>
            some (.inr (.inl y2))
          | .inr (.inl y2) =>
            some (.inl (((), ((wI (y2.1.2.1 + (1 : Int))), ())), y2.2))
          | .inr (.inr e) => nomatch e
    else
      none
  else
    some (.inr (.inr (.inl (((), ()), (b1, ())))))
noncomputable def s65_L0 (x : Ta132) : Option (Ta132 ⊕ (((Bool × Unit) × Unit) ⊕ (Ta131 ⊕ Empty))) := q65_L0 x.1.2.1 x.2.1
abbrev h65_L6 : Shape := { slots := [(5, .v Ty59), (6, .v (.int .i64)), (7, .v (.int .i64))], boxes := [] }
abbrev e65_L6 : List (XT × Shape) := [(.ret, { slots := [(2, .v .bool)], boxes := [] }), (.exit 6, { slots := [(5, .v Ty59), (6, .v (.int .i64))], boxes := [] })]
noncomputable def q65_L6 (t5 : Ta11) (t6 : Int) (t7 : Int) : Option (Ta55 ⊕ (((Bool × Unit) × Unit) ⊕ (Ta44 ⊕ Empty))) :=
  bif (decide (t7 < t6)) then
    bif (decide (0 ≤ t7) && decide (t7 < (t5.len : Int))) then
      bif (decide (0 ≤ t6) && decide (t6 < (t5.len : Int))) then
        bif (decide (0 ≤ t6) && decide (t6 < (t5.len : Int))) then
          bif (decide ((L.get t5 t7.toNat).1 < (wI ((L.get t5 t6.toNat).1 + (L.get t5 t6.toNat).2.1)))) then
            bif (decide (0 ≤ t6) && decide (t6 < (t5.len : Int))) then
              bif (decide (0 ≤ t7) && decide (t7 < (t5.len : Int))) then
                bif (decide (0 ≤ t7) && decide (t7 < (t5.len : Int))) then
                  bif (decide ((L.get t5 t6.toNat).1 < (wI ((L.get t5 t7.toNat).1 + (L.get t5 t7.toNat).2.1)))) then
                    some (.inr (.inl ((false, ()), ())))
                  else
                    some (.inl ((t5, (t6, ((wI (t7 + (1 : Int))), ()))), ()))
                else
                  none
              else
                none
            else
              none
          else
            some (.inl ((t5, (t6, ((wI (t7 + (1 : Int))), ()))), ()))
        else
          none
      else
        none
    else
      none
  else
    some (.inr (.inr (.inl ((t5, (t6, ())), ()))))
noncomputable def s65_L6 (x : Ta55) : Option (Ta55 ⊕ (((Bool × Unit) × Unit) ⊕ (Ta44 ⊕ Empty))) := q65_L6 x.1.1 x.1.2.1 x.1.2.2.1
abbrev h65_L4 : Shape := { slots := [(5, .v Ty59), (6, .v (.int .i64))], boxes := [] }
abbrev e65_L4 : List (XT × Shape) := [(.ret, { slots := [(2, .v .bool)], boxes := [] }), (.exit 4, { slots := [], boxes := [] })]
noncomputable def q65_L4 (t5 : Ta11) (t6 : Int) : Option (Ta44 ⊕ (((Bool × Unit) × Unit) ⊕ ((Unit × Unit) ⊕ Empty))) :=
  bif (decide (t6 < (t5.len : Int))) then
    (fixO s65_L6 ((t5, (t6, ((0 : Int), ()))), ())).bind fun d7 => match d7 with
    | .inl y6 =>
      some (.inr (.inl y6))
    | .inr (.inl y6) =>
      some (.inl ((y6.1.1, ((wI (y6.1.2.1 + (1 : Int))), ())), ()))
    | .inr (.inr e) => nomatch e
  else
    some (.inr (.inr (.inl ((), ()))))
noncomputable def s65_L4 (x : Ta44) : Option (Ta44 ⊕ (((Bool × Unit) × Unit) ⊕ ((Unit × Unit) ⊕ Empty))) := q65_L4 x.1.1 x.1.2.1
noncomputable def a65 : Nat → Option LoopAnn := fun c => bif Nat.beq c 2 then some (.fix h65_L2 e65_L2 s65_L2) else bif Nat.beq c 0 then some (.fix h65_L0 e65_L0 s65_L0) else bif Nat.beq c 6 then some (.fix h65_L6 e65_L6 s65_L6) else bif Nat.beq c 4 then some (.fix h65_L4 e65_L4 s65_L4) else none
noncomputable def g65 (x0 : Ta129) : Option ((Bool × Unit) × Unit) :=
  bif (!(f18 (x0.2.2.2.2.2.2.2.1.len : Int) (1 : Int) (6 : Int))) then
    some ((false, ()), ())
  else
    (fixO s65_L0 (((), ((0 : Int), ())), (x0, ()))).bind fun d10 => match d10 with
    | .inl y4 =>
      some ((y4.1.1, ()), ())
    | .inr (.inl y4) =>
      (g90 y4.2.1.2.2.2.2.2.2.2.1).bind fun y5 =>
        (fixO s65_L4 ((y5.1.1, ((0 : Int), ())), ())).bind fun d9 => match d9 with
        | .inl y8 =>
          some ((y8.1.1, ()), ())
        | .inr (.inl y8) =>
          some ((true, ()), ())
        | .inr (.inr e) => nomatch e
    | .inr (.inr e) => nomatch e
noncomputable def c65 : Ctr := { ins := [.v Ty147], out := [.bool], F := fun x => g65 x.1 }
noncomputable def l65 : List (Nat × Code) := loopsIn (Tryz.f65.body.getD .skip) 0
theorem w65_L2 (x : h65_L2.T) : runK Tryz.prog Γ t65 (inlN Tryz.prog Γ t65 3) a65 (l65.getD 1 (0, .skip)).2 2 (pkSh h65_L2 x) (loopCls (sh := h65_L2) (es := e65_L2)) = (s65_L2 x : Option _) := by kernel_rfl
theorem w65_L0 (x : h65_L0.T) : runK Tryz.prog Γ t65 (inlN Tryz.prog Γ t65 3) a65 (l65.getD 0 (0, .skip)).2 0 (pkSh h65_L0 x) (loopCls (sh := h65_L0) (es := e65_L0)) = (s65_L0 x : Option _) := by kernel_rfl
theorem w65_L6 (x : h65_L6.T) : runK Tryz.prog Γ t65 (inlN Tryz.prog Γ t65 3) a65 (l65.getD 3 (0, .skip)).2 6 (pkSh h65_L6 x) (loopCls (sh := h65_L6) (es := e65_L6)) = (s65_L6 x : Option _) := by kernel_rfl
theorem w65_L4 (x : h65_L4.T) : runK Tryz.prog Γ t65 (inlN Tryz.prog Γ t65 3) a65 (l65.getD 2 (0, .skip)).2 4 (pkSh h65_L4 x) (loopCls (sh := h65_L4) (es := e65_L4)) = (s65_L4 x : Option _) := by kernel_rfl
theorem v65 : LoopsOk Tryz.prog Γ t65 a65 (loopsIn (Tryz.f65.body.getD .skip) 0) := by
  have e : loopsIn (Tryz.f65.body.getD .skip) 0 = [(0, (l65.getD 0 (0, .skip)).2), (2, (l65.getD 1 (0, .skip)).2), (4, (l65.getD 2 (0, .skip)).2), (6, (l65.getD 3 (0, .skip)).2)] := by kernel_rfl
  rw [e]
  exact ⟨fun x d h => (w65_L0 x).trans h, fun x d h => (w65_L2 x).trans h, fun x d h => (w65_L4 x).trans h, fun x d h => (w65_L6 x).trans h, trivial⟩
theorem r65 (x : InsT c65.ins) : fnK Tryz.prog Γ t65 a65 Tryz.f65 c65 x = g65 x.1 := by kernel_rfl
theorem k65 : TblOk Tryz.prog t65 := tblOk_cons o18 (tblOk_cons o89 (tblOk_cons o90 (tblOk_nil)))
theorem o65 : Holds Tryz.prog 65 c65 := fn_holds (code := Tryz.f65.body.getD .skip) (by kernel_rfl) gamOk k65 Tryz.func65 (by kernel_rfl) (by kernel_rfl) (by kernel_rfl) (by kernel_rfl) v65 (fun x _ h => (r65 x).trans h)
/-! ### 91: loop.example/g00076/spec.ChanOk -/
noncomputable def t91 : Tbl := [(18, [], c18)]
noncomputable def a91 : Nat → Option LoopAnn := fun _ => none
noncomputable def g91 (x0 : Ta19) : Option ((Bool × Unit) × Unit) :=
  bif (!(f18 x0.2.1 (0 : Int) (5 : Int))) then
    some ((false, ()), ())
  else
    bif (!(f18 x0.2.2.1 (0 : Int) (5 : Int))) then
      some ((false, ()), ())
    else
      bif (x0.2.1 == x0.2.2.1) then
        some ((false, ()), ())
      else
        bif (x0.1 == (0 : Int)) then
          bif (x0.2.2.2.1 == (0 : Int)) then
            some ((true, ()), ())
          else
            bif (x0.1 == (1 : Int)) then
              some (((f18 x0.2.2.2.1 (1 : Int) (8 : Int)), ()), ())
            else
              some ((false, ()), ())
        else
          bif (x0.1 == (1 : Int)) then
            some (((f18 x0.2.2.2.1 (1 : Int) (8 : Int)), ()), ())
          else
            some ((false, ()), ())
noncomputable def f91 (x0 : Ta19) : Bool :=
  bif (!(f18 x0.2.1 (0 : Int) (5 : Int))) then
    false
  else
    bif (!(f18 x0.2.2.1 (0 : Int) (5 : Int))) then
      false
    else
      bif (x0.2.1 == x0.2.2.1) then
        false
      else
        bif (x0.1 == (0 : Int)) then
          bif (x0.2.2.2.1 == (0 : Int)) then
            true
          else
            bif (x0.1 == (1 : Int)) then
              (f18 x0.2.2.2.1 (1 : Int) (8 : Int))
            else
              false
        else
          bif (x0.1 == (1 : Int)) then
            (f18 x0.2.2.2.1 (1 : Int) (8 : Int))
          else
            false
theorem n91 (x0 : Ta19) : g91 x0 = some ((f91 x0, ()), ()) := by
  simp only [g91, f91, pull1]
noncomputable def c91 : Ctr := { ins := [.v Ty72], out := [.bool], F := fun x => some ((f91 x.1, ()), ()) }
theorem v91 : LoopsOk Tryz.prog Γ t91 a91 (loopsIn (Tryz.f91.body.getD .skip) 0) := loopsOk_nil (by kernel_rfl)
theorem r91 (x : InsT c91.ins) : fnK Tryz.prog Γ t91 a91 Tryz.f91 c91 x = g91 x.1 := by kernel_rfl
theorem k91 : TblOk Tryz.prog t91 := tblOk_cons o18 (tblOk_nil)
theorem o91 : Holds Tryz.prog 91 c91 := fn_holds (code := Tryz.f91.body.getD .skip) (by kernel_rfl) gamOk k91 Tryz.func91 (by kernel_rfl) (by kernel_rfl) (by kernel_rfl) (by kernel_rfl) v91 (fun x _ h => (r91 x).trans ((n91 x.1).trans h))
/-! ### 92: loop.example/g00076/spec.WorstPad -/
noncomputable def t92 : Tbl := [(87, [], c87), (86, [], c86), (91, [], c91)]
abbrev h92_L0 : Shape := { slots := [(2, .v Ty76), (3, .bx 3 0), (7, .v (.int .i64)), (8, .v (.int .i64))], boxes := [(3, .typ Ty102)] }
abbrev e92_L0 : List (XT × Shape) := [(.ret, { slots := [(6, .v (.int .i64))], boxes := [] }), (.exit 0, { slots := [(7, .v (.int .i64))], boxes := [] })]
noncomputable def q92_L0 (t2 : Ta24) (t7 : Int) (t8 : Int) (b3 : Ta49) : Option (Ta104 ⊕ (((Int × Unit) × Unit) ⊕ (((Int × Unit) × Unit) ⊕ Empty))) :=
  bif (decide (t8 < (t2.len : Int))) then
    bif (decide (0 ≤ t8) && decide (t8 < (t2.len : Int))) then
      bif (!(f91 (L.get t2 t8.toNat))) then
        some (.inr (.inl (((-1 : Int), ()), ())))
      else
        bif (decide (0 ≤ t8) && decide (t8 < (t2.len : Int))) then
          bif ((L.get t2 t8.toNat).1 == (0 : Int)) then
            some (.inl ((t2, ((), ((wI (t7 + b3.1)), ((wI (t8 + (1 : Int))), ())))), (b3, ())))
          else
            bif (decide (0 ≤ t8) && decide (t8 < (t2.len : Int))) then
              some (.inl ((t2, ((), ((wI (t7 + (wI (b3.1 * (L.get t2 t8.toNat).2.2.2.1)))), ((wI (t8 + (1 : Int))), ())))), (b3, ())))
            else
              none
        else
          none
    else
      none
  else
    some (.inr (.inr (.inl ((t7, ()), ()))))
noncomputable def s92_L0 (x : Ta104) : Option (Ta104 ⊕ (((Int × Unit) × Unit) ⊕ (((Int × Unit) × Unit) ⊕ Empty))) := q92_L0 x.1.1 x.1.2.2.1 x.1.2.2.2.1 x.2.1
noncomputable def a92 : Nat → Option LoopAnn := fun c => bif Nat.beq c 0 then some (.fix h92_L0 e92_L0 s92_L0) else none
noncomputable def g92 (x0 : Ta49) (x1 : Ta6) (x2 : Ta24) : Option ((Int × Unit) × Unit) :=
  bif (!(f87 x0)) then
    some (((-1 : Int), ()), ())
  else
    bif (!(f86 x1)) then
      some (((-1 : Int), ()), ())
    else
      bif (decide ((x2.len : Int) > (8 : Int))) then
        some (((-1 : Int), ()), ())
      else
        (fixO s92_L0 ((x2, ((), ((wI ((wI ((16 : Int) * x0.1)) + (wI ((wI (x1.1 * x1.2.1)) * x0.2.2.2.2.2.2.1)))), ((0 : Int), ())))), (x0, ()))).bind fun d2 => match d2 with
        | .inl y1 =>
          some ((y1.1.1, ()), ())
        | .inr (.inl y1) =>
          some ((y1.1.1, ()), ())
        | .inr (.inr e) => nomatch e
noncomputable def c92 : Ctr := { ins := [.v Ty102, .v Ty51, .v Ty76], out := [(.int .i64)], F := fun x => g92 x.1 x.2.1 x.2.2.1 }
noncomputable def l92 : List (Nat × Code) := loopsIn (Tryz.f92.body.getD .skip) 0
theorem w92_L0 (x : h92_L0.T) : runK Tryz.prog Γ t92 (inlN Tryz.prog Γ t92 3) a92 (l92.getD 0 (0, .skip)).2 0 (pkSh h92_L0 x) (loopCls (sh := h92_L0) (es := e92_L0)) = (s92_L0 x : Option _) := by kernel_rfl
theorem v92 : LoopsOk Tryz.prog Γ t92 a92 (loopsIn (Tryz.f92.body.getD .skip) 0) := by
  have e : loopsIn (Tryz.f92.body.getD .skip) 0 = [(0, (l92.getD 0 (0, .skip)).2)] := by kernel_rfl
  rw [e]
  exact ⟨fun x d h => (w92_L0 x).trans h, trivial⟩
theorem r92 (x : InsT c92.ins) : fnK Tryz.prog Γ t92 a92 Tryz.f92 c92 x = g92 x.1 x.2.1 x.2.2.1 := by kernel_rfl
theorem k92 : TblOk Tryz.prog t92 := tblOk_cons o87 (tblOk_cons o86 (tblOk_cons o91 (tblOk_nil)))
theorem o92 : Holds Tryz.prog 92 c92 := fn_holds (code := Tryz.f92.body.getD .skip) (by kernel_rfl) gamOk k92 Tryz.func92 (by kernel_rfl) (by kernel_rfl) (by kernel_rfl) (by kernel_rfl) v92 (fun x _ h => (r92 x).trans h)
/-! ### 66: loop.example/g00076/spec.l13Chans -/
noncomputable def t66 : Tbl := [(18, [], c18), (91, [], c91), (92, [], c92)]
abbrev h66_L0 : Shape := { slots := [(1, .bx 1 0), (3, .v (.int .i64))], boxes := [(1, .typ Ty147)] }
abbrev e66_L0 : List (XT × Shape) := [(.ret, { slots := [(2, .v .bool)], boxes := [] }), (.exit 0, { slots := [(1, .bx 1 0)], boxes := [(1, .typ Ty147)] })]
noncomputable def q66_L0 (t3 : Int) (b1 : Ta129) : Option (Ta132 ⊕ (((Bool × Unit) × Unit) ⊕ (Ta131 ⊕ Empty))) :=
  bif (decide (t3 < (b1.2.2.2.2.2.2.2.2.1.len : Int))) then
    bif (decide (0 ≤ t3) && decide (t3 < (b1.2.2.2.2.2.2.2.2.1.len : Int))) then
      bif (!(f18 (L.get b1.2.2.2.2.2.2.2.2.1 t3.toNat) (0 : Int) (wI ((b1.2.2.2.2.2.2.2.1.len : Int) - (1 : Int))))) then
        some (.inr (.inl ((false, ()), ())))
      else
        some (.inl (((), ((wI (t3 + (1 : Int))), ())), (b1, ())))
    else
      none
  else
    some (.inr (.inr (.inl (((), ()), (b1, ())))))
noncomputable def s66_L0 (x : Ta132) : Option (Ta132 ⊕ (((Bool × Unit) × Unit) ⊕ (Ta131 ⊕ Empty))) := q66_L0 x.1.2.1 x.2.1
abbrev h66_L2 : Shape := { slots := [(1, .bx 1 0), (4, .v (.int .i64))], boxes := [(1, .typ Ty147)] }
abbrev e66_L2 : List (XT × Shape) := [(.ret, { slots := [(2, .v .bool)], boxes := [] }), (.exit 2, { slots := [(1, .bx 1 0)], boxes := [(1, .typ Ty147)] })]
noncomputable def q66_L2 (t4 : Int) (b1 : Ta129) : Option (Ta132 ⊕ (((Bool × Unit) × Unit) ⊕ (Ta131 ⊕ Empty))) :=
  bif (decide (t4 < (b1.2.2.2.2.2.2.2.2.2.1.len : Int))) then
    bif (decide (0 ≤ t4) && decide (t4 < (b1.2.2.2.2.2.2.2.2.2.1.len : Int))) then
      bif (!(f91 (L.get b1.2.2.2.2.2.2.2.2.2.1 t4.toNat))) then
        some (.inr (.inl ((false, ()), ())))
      else
        bif (decide (0 ≤ t4) && decide (t4 < (b1.2.2.2.2.2.2.2.2.2.1.len : Int))) then
          bif (decide ((L.get b1.2.2.2.2.2.2.2.2.2.1 t4.toNat).2.1 ≥ (b1.2.2.2.2.2.2.2.1.len : Int))) then
            some (.inr (.inl ((false, ()), ())))
          else
            bif (decide (0 ≤ t4) && decide (t4 < (b1.2.2.2.2.2.2.2.2.2.1.len : Int))) then
              bif (decide ((L.get b1.2.2.2.2.2.2.2.2.2.1 t4.toNat).2.2.1 ≥ (b1.2.2.2.2.2.2.2.1.len : Int))) then
                some (.inr (.inl ((false, ()), ())))
              else
                some (.inl (((), ((wI (t4 + (1 : Int))), ())), (b1, ())))
            else
              none
        else
          none
    else
      none
  else
    some (.inr (.inr (.inl (((), ()), (b1, ())))))
noncomputable def s66_L2 (x : Ta132) : Option (Ta132 ⊕ (((Bool × Unit) × Unit) ⊕ (Ta131 ⊕ Empty))) := q66_L2 x.1.2.1 x.2.1
noncomputable def a66 : Nat → Option LoopAnn := fun c => bif Nat.beq c 0 then some (.fix h66_L0 e66_L0 s66_L0) else bif Nat.beq c 2 then some (.fix h66_L2 e66_L2 s66_L2) else none
noncomputable def g66 (x0 : Ta129) : Option ((Bool × Unit) × Unit) :=
  bif (decide ((x0.2.2.2.2.2.2.2.2.1.len : Int) > (8 : Int))) then
    some ((false, ()), ())
  else
    bif (decide ((x0.2.2.2.2.2.2.2.2.2.1.len : Int) > (8 : Int))) then
      some ((false, ()), ())
    else
      (fixO s66_L0 (((), ((0 : Int), ())), (x0, ()))).bind fun d5 => match d5 with
      | .inl y1 =>
        some ((y1.1.1, ()), ())
      | .inr (.inl y1) =>
        (fixO s66_L2 (((), ((0 : Int), ())), y1.2)).bind fun d4 => match d4 with
        | .inl y2 =>
          some ((y2.1.1, ()), ())
        | .inr (.inl y2) =>
          (g92 y2.2.1.2.2.2.1 y2.2.1.2.1 y2.2.1.2.2.2.2.2.2.2.2.2.1).bind fun y3 =>
            some (((decide (y2.2.1.2.2.2.2.1 ≥ y3.1.1)), ()), ())
        | .inr (.inr e) => nomatch e
      | .inr (.inr e) => nomatch e
noncomputable def c66 : Ctr := { ins := [.v Ty147], out := [.bool], F := fun x => g66 x.1 }
noncomputable def l66 : List (Nat × Code) := loopsIn (Tryz.f66.body.getD .skip) 0
theorem w66_L0 (x : h66_L0.T) : runK Tryz.prog Γ t66 (inlN Tryz.prog Γ t66 3) a66 (l66.getD 0 (0, .skip)).2 0 (pkSh h66_L0 x) (loopCls (sh := h66_L0) (es := e66_L0)) = (s66_L0 x : Option _) := by kernel_rfl
theorem w66_L2 (x : h66_L2.T) : runK Tryz.prog Γ t66 (inlN Tryz.prog Γ t66 3) a66 (l66.getD 1 (0, .skip)).2 2 (pkSh h66_L2 x) (loopCls (sh := h66_L2) (es := e66_L2)) = (s66_L2 x : Option _) := by kernel_rfl
theorem v66 : LoopsOk Tryz.prog Γ t66 a66 (loopsIn (Tryz.f66.body.getD .skip) 0) := by
  have e : loopsIn (Tryz.f66.body.getD .skip) 0 = [(0, (l66.getD 0 (0, .skip)).2), (2, (l66.getD 1 (0, .skip)).2)] := by kernel_rfl
  rw [e]
  exact ⟨fun x d h => (w66_L0 x).trans h, fun x d h => (w66_L2 x).trans h, trivial⟩
theorem r66 (x : InsT c66.ins) : fnK Tryz.prog Γ t66 a66 Tryz.f66 c66 x = g66 x.1 := by kernel_rfl
theorem k66 : TblOk Tryz.prog t66 := tblOk_cons o18 (tblOk_cons o91 (tblOk_cons o92 (tblOk_nil)))
theorem o66 : Holds Tryz.prog 66 c66 := fn_holds (code := Tryz.f66.body.getD .skip) (by kernel_rfl) gamOk k66 Tryz.func66 (by kernel_rfl) (by kernel_rfl) (by kernel_rfl) (by kernel_rfl) v66 (fun x _ h => (r66 x).trans h)
/-! ### 67: loop.example/g00076/spec.l13Slots -/
noncomputable def t67 : Tbl := [(18, [], c18)]
abbrev h67_L0 : Shape := { slots := [(1, .bx 1 0), (3, .v (.int .i64)), (4, .v (.int .i64))], boxes := [(1, .typ Ty147)] }
abbrev e67_L0 : List (XT × Shape) := [(.ret, { slots := [(2, .v .bool)], boxes := [] }), (.exit 0, { slots := [], boxes := [] })]
noncomputable def q67_L0 (t3 : Int) (t4 : Int) (b1 : Ta129) : Option (Ta133 ⊕ (((Bool × Unit) × Unit) ⊕ ((Unit × Unit) ⊕ Empty))) :=
  bif (decide (t4 < (b1.2.2.2.2.2.2.2.2.2.2.1.len : Int))) then
    bif (decide (0 ≤ t4) && decide (t4 < (b1.2.2.2.2.2.2.2.2.2.2.1.len : Int))) then
      bif (!(f18 (L.get b1.2.2.2.2.2.2.2.2.2.2.1 t4.toNat).1 (0 : Int) (wI ((b1.2.2.2.2.2.2.2.1.len : Int) - (1 : Int))))) then
        some (.inr (.inl ((false, ()), ())))
      else
        bif (!(f18 (L.get b1.2.2.2.2.2.2.2.2.2.2.1 t4.toNat).2.1 t3 (5000 : Int))) then
          some (.inr (.inl ((false, ()), ())))
        else
          bif (!(f18 (L.get b1.2.2.2.2.2.2.2.2.2.2.1 t4.toNat).2.2.1 (wI ((wI (b1.2.2.2.2.1 + b1.2.2.2.2.2.1)) + (1 : Int))) (5000 : Int))) then
            some (.inr (.inl ((false, ()), ())))
          else
            bif (decide ((wI ((L.get b1.2.2.2.2.2.2.2.2.2.2.1 t4.toNat).2.1 + (L.get b1.2.2.2.2.2.2.2.2.2.2.1 t4.toNat).2.2.1)) > b1.2.2.2.2.2.2.1)) then
              some (.inr (.inl ((false, ()), ())))
            else
              some (.inl (((), ((wI ((L.get b1.2.2.2.2.2.2.2.2.2.2.1 t4.toNat).2.1 + (L.get b1.2.2.2.2.2.2.2.2.2.2.1 t4.toNat).2.2.1)), ((wI (t4 + (1 : Int))), ()))), (b1, ())))
    else
      none
  else
    some (.inr (.inr (.inl ((), ()))))
noncomputable def s67_L0 (x : Ta133) : Option (Ta133 ⊕ (((Bool × Unit) × Unit) ⊕ ((Unit × Unit) ⊕ Empty))) := q67_L0 x.1.2.1 x.1.2.2.1 x.2.1
noncomputable def a67 : Nat → Option LoopAnn := fun c => bif Nat.beq c 0 then some (.fix h67_L0 e67_L0 s67_L0) else none
noncomputable def g67 (x0 : Ta129) : Option ((Bool × Unit) × Unit) :=
  bif (!(f18 (x0.2.2.2.2.2.2.2.2.2.2.1.len : Int) (1 : Int) (16 : Int))) then
    some ((false, ()), ())
  else
    (fixO s67_L0 (((), ((0 : Int), ((0 : Int), ()))), (x0, ()))).bind fun d2 => match d2 with
    | .inl y1 =>
      some ((y1.1.1, ()), ())
    | .inr (.inl y1) =>
      some ((true, ()), ())
    | .inr (.inr e) => nomatch e
noncomputable def c67 : Ctr := { ins := [.v Ty147], out := [.bool], F := fun x => g67 x.1 }
noncomputable def l67 : List (Nat × Code) := loopsIn (Tryz.f67.body.getD .skip) 0
theorem w67_L0 (x : h67_L0.T) : runK Tryz.prog Γ t67 (inlN Tryz.prog Γ t67 3) a67 (l67.getD 0 (0, .skip)).2 0 (pkSh h67_L0 x) (loopCls (sh := h67_L0) (es := e67_L0)) = (s67_L0 x : Option _) := by kernel_rfl
theorem v67 : LoopsOk Tryz.prog Γ t67 a67 (loopsIn (Tryz.f67.body.getD .skip) 0) := by
  have e : loopsIn (Tryz.f67.body.getD .skip) 0 = [(0, (l67.getD 0 (0, .skip)).2)] := by kernel_rfl
  rw [e]
  exact ⟨fun x d h => (w67_L0 x).trans h, trivial⟩
theorem r67 (x : InsT c67.ins) : fnK Tryz.prog Γ t67 a67 Tryz.f67 c67 x = g67 x.1 := by kernel_rfl
theorem k67 : TblOk Tryz.prog t67 := tblOk_cons o18 (tblOk_nil)
theorem o67 : Holds Tryz.prog 67 c67 := fn_holds (code := Tryz.f67.body.getD .skip) (by kernel_rfl) gamOk k67 Tryz.func67 (by kernel_rfl) (by kernel_rfl) (by kernel_rfl) (by kernel_rfl) v67 (fun x _ h => (r67 x).trans h)
/-! ### 38: loop.example/g00076/spec.Sound -/
noncomputable def t38 : Tbl := [(64, [], c64), (65, [], c65), (66, [], c66), (67, [], c67)]
noncomputable def a38 : Nat → Option LoopAnn := fun _ => none
noncomputable def g38 (x0 : Ta129) : Option ((Bool × Unit) × Unit) :=
  (g64 x0).bind fun y1 =>
    bif y1.1.1 then
      (g65 x0).bind fun y2 =>
        bif y2.1.1 then
          (g66 x0).bind fun y3 =>
            bif y3.1.1 then
              (g67 x0).bind fun y4 =>
                some ((y4.1.1, ()), ())
            else
              some ((false, ()), ())
        else
          some ((false, ()), ())
    else
      some ((false, ()), ())
noncomputable def c38 : Ctr := { ins := [.v Ty147], out := [.bool], F := fun x => g38 x.1 }
theorem v38 : LoopsOk Tryz.prog Γ t38 a38 (loopsIn (Tryz.f38.body.getD .skip) 0) := loopsOk_nil (by kernel_rfl)
theorem r38 (x : InsT c38.ins) : fnK Tryz.prog Γ t38 a38 Tryz.f38 c38 x = g38 x.1 := by kernel_rfl
theorem k38 : TblOk Tryz.prog t38 := tblOk_cons o64 (tblOk_cons o65 (tblOk_cons o66 (tblOk_cons o67 (tblOk_nil))))
theorem o38 : Holds Tryz.prog 38 c38 := fn_holds (code := Tryz.f38.body.getD .skip) (by kernel_rfl) gamOk k38 Tryz.func38 (by kernel_rfl) (by kernel_rfl) (by kernel_rfl) (by kernel_rfl) v38 (fun x _ h => (r38 x).trans h)
/-! ### 17: loop.example/g00076/spec.l15Ok -/
noncomputable def t17 : Tbl := [(38, [], c38), (18, [], c18)]
noncomputable def a17 : Nat → Option LoopAnn := fun _ => none
noncomputable def g17 (x0 : Ta129) (x1 : Int) : Option ((Bool × Unit) × Unit) :=
  (g38 x0).bind fun y1 =>
    bif y1.1.1 then
      some (((f18 x1 (0 : Int) (50000 : Int)), ()), ())
    else
      some ((false, ()), ())
noncomputable def c17 : Ctr := { ins := [.v Ty147, .v (.int .i64)], out := [.bool], F := fun x => g17 x.1 x.2.1 }
theorem v17 : LoopsOk Tryz.prog Γ t17 a17 (loopsIn (Tryz.f17.body.getD .skip) 0) := loopsOk_nil (by kernel_rfl)
theorem r17 (x : InsT c17.ins) : fnK Tryz.prog Γ t17 a17 Tryz.f17 c17 x = g17 x.1 x.2.1 := by kernel_rfl
theorem k17 : TblOk Tryz.prog t17 := tblOk_cons o38 (tblOk_cons o18 (tblOk_nil))
theorem o17 : Holds Tryz.prog 17 c17 := fn_holds (code := Tryz.f17.body.getD .skip) (by kernel_rfl) gamOk k17 Tryz.func17 (by kernel_rfl) (by kernel_rfl) (by kernel_rfl) (by kernel_rfl) v17 (fun x _ h => (r17 x).trans h)
/-! ### 19: loop.example/g00076/spec.l15First -/
noncomputable def t19 : Tbl := []
abbrev h19_L0 : Shape := { slots := [(1, .v (.int .i64)), (2, .bx 2 0), (5, .v (.int .i64))], boxes := [(2, .typ Ty147)] }
abbrev e19_L0 : List (XT × Shape) := [(.ret, { slots := [(4, .v (.int .i64))], boxes := [] }), (.exit 0, { slots := [], boxes := [] })]
noncomputable def q19_L0 (t1 : Int) (t5 : Int) (b2 : Ta129) : Option (Ta134 ⊕ (((Int × Unit) × Unit) ⊕ ((Unit × Unit) ⊕ Empty))) :=
  bif (decide (t5 < (b2.2.2.2.2.2.2.2.2.2.2.1.len : Int))) then
    bif (decide (0 ≤ t5) && decide (t5 < (b2.2.2.2.2.2.2.2.2.2.2.1.len : Int))) then
      bif (!decide (b2.2.2.2.2.2.2.1 = 0)) then
        bif ((L.get b2.2.2.2.2.2.2.2.2.2.2.1 t5.toNat).2.1 == (Int.tmod t1 b2.2.2.2.2.2.2.1)) then
          bif (decide (0 ≤ t5) && decide (t5 < (b2.2.2.2.2.2.2.2.2.2.2.1.len : Int))) then
            some (.inr (.inl (((L.get b2.2.2.2.2.2.2.2.2.2.2.1 t5.toNat).1, ()), ())))
          else
            none
        else
          some (.inl ((t1, ((), ((wI (t5 + (1 : Int))), ()))), (b2, ())))
      else
        none
    else
      none
  else
    some (.inr (.inr (.inl ((), ()))))
noncomputable def s19_L0 (x : Ta134) : Option (Ta134 ⊕ (((Int × Unit) × Unit) ⊕ ((Unit × Unit) ⊕ Empty))) := q19_L0 x.1.1 x.1.2.2.1 x.2.1
noncomputable def a19 : Nat → Option LoopAnn := fun c => bif Nat.beq c 0 then some (.fix h19_L0 e19_L0 s19_L0) else none
noncomputable def g19 (x0 : Ta129) (x1 : Int) : Option ((Int × Unit) × Unit) :=
  (fixO s19_L0 ((x1, ((), ((0 : Int), ()))), (x0, ()))).bind fun d2 => match d2 with
  | .inl y1 =>
    some ((y1.1.1, ()), ())
  | .inr (.inl y1) =>
    some (((-1 : Int), ()), ())
  | .inr (.inr e) => nomatch e
noncomputable def c19 : Ctr := { ins := [.v Ty147, .v (.int .i64)], out := [(.int .i64)], F := fun x => g19 x.1 x.2.1 }
noncomputable def l19 : List (Nat × Code) := loopsIn (Tryz.f19.body.getD .skip) 0
theorem w19_L0 (x : h19_L0.T) : runK Tryz.prog Γ t19 (inlN Tryz.prog Γ t19 3) a19 (l19.getD 0 (0, .skip)).2 0 (pkSh h19_L0 x) (loopCls (sh := h19_L0) (es := e19_L0)) = (s19_L0 x : Option _) := by kernel_rfl
theorem v19 : LoopsOk Tryz.prog Γ t19 a19 (loopsIn (Tryz.f19.body.getD .skip) 0) := by
  have e : loopsIn (Tryz.f19.body.getD .skip) 0 = [(0, (l19.getD 0 (0, .skip)).2)] := by kernel_rfl
  rw [e]
  exact ⟨fun x d h => (w19_L0 x).trans h, trivial⟩
theorem r19 (x : InsT c19.ins) : fnK Tryz.prog Γ t19 a19 Tryz.f19 c19 x = g19 x.1 x.2.1 := by kernel_rfl
theorem k19 : TblOk Tryz.prog t19 := tblOk_nil
theorem o19 : Holds Tryz.prog 19 c19 := fn_holds (code := Tryz.f19.body.getD .skip) (by kernel_rfl) gamOk k19 Tryz.func19 (by kernel_rfl) (by kernel_rfl) (by kernel_rfl) (by kernel_rfl) v19 (fun x _ h => (r19 x).trans h)
/-! ### 44: loop.example/g00076/impl.within -/
noncomputable def t44 : Tbl := []
noncomputable def a44 : Nat → Option LoopAnn := fun _ => none
noncomputable def g44 (x0 : Int) (x1 : Int) (x2 : Int) : Option ((Bool × Unit) × Unit) :=
  bif (decide (x0 ≥ x1)) then
    some (((decide (x0 ≤ x2)), ()), ())
  else
    some ((false, ()), ())
noncomputable def f44 (x0 : Int) (x1 : Int) (x2 : Int) : Bool :=
  bif (decide (x0 ≥ x1)) then
    (decide (x0 ≤ x2))
  else
    false
theorem n44 (x0 : Int) (x1 : Int) (x2 : Int) : g44 x0 x1 x2 = some ((f44 x0 x1 x2, ()), ()) := by
  simp only [g44, f44, pull1]
noncomputable def c44 : Ctr := { ins := [.v (.int .i64), .v (.int .i64), .v (.int .i64)], out := [.bool], F := fun x => some ((f44 x.1 x.2.1 x.2.2.1, ()), ()) }
theorem v44 : LoopsOk Tryz.prog Γ t44 a44 (loopsIn (Tryz.f44.body.getD .skip) 0) := loopsOk_nil (by kernel_rfl)
theorem r44 (x : InsT c44.ins) : fnK Tryz.prog Γ t44 a44 Tryz.f44 c44 x = g44 x.1 x.2.1 x.2.2.1 := by kernel_rfl
theorem k44 : TblOk Tryz.prog t44 := tblOk_nil
theorem o44 : Holds Tryz.prog 44 c44 := fn_holds (code := Tryz.f44.body.getD .skip) (by kernel_rfl) gamOk k44 Tryz.func44 (by kernel_rfl) (by kernel_rfl) (by kernel_rfl) (by kernel_rfl) v44 (fun x _ h => (r44 x).trans ((n44 x.1 x.2.1 x.2.2.1).trans h))
/-! ### 42: loop.example/g00076/impl.isMem -/
noncomputable def t42 : Tbl := [(44, [], c44)]
noncomputable def a42 : Nat → Option LoopAnn := fun _ => none
noncomputable def g42 (x0 : Int) : Option ((Bool × Unit) × Unit) :=
  bif (f44 x0 (64 : Int) (2048 : Int)) then
    some ((((Int.tmod x0 (4 : Int)) == (0 : Int)), ()), ())
  else
    some ((false, ()), ())
noncomputable def f42 (x0 : Int) : Bool :=
  bif (f44 x0 (64 : Int) (2048 : Int)) then
    ((Int.tmod x0 (4 : Int)) == (0 : Int))
  else
    false
theorem n42 (x0 : Int) : g42 x0 = some ((f42 x0, ()), ()) := by
  simp only [g42, f42, pull1]
noncomputable def c42 : Ctr := { ins := [.v (.int .i64)], out := [.bool], F := fun x => some ((f42 x.1, ()), ()) }
theorem v42 : LoopsOk Tryz.prog Γ t42 a42 (loopsIn (Tryz.f42.body.getD .skip) 0) := loopsOk_nil (by kernel_rfl)
theorem r42 (x : InsT c42.ins) : fnK Tryz.prog Γ t42 a42 Tryz.f42 c42 x = g42 x.1 := by kernel_rfl
theorem k42 : TblOk Tryz.prog t42 := tblOk_cons o44 (tblOk_nil)
theorem o42 : Holds Tryz.prog 42 c42 := fn_holds (code := Tryz.f42.body.getD .skip) (by kernel_rfl) gamOk k42 Tryz.func42 (by kernel_rfl) (by kernel_rfl) (by kernel_rfl) (by kernel_rfl) v42 (fun x _ h => (r42 x).trans ((n42 x.1).trans h))
/-! ### 70: loop.example/g00076/impl.isPower -/
noncomputable def t70 : Tbl := []
noncomputable def a70 : Nat → Option LoopAnn := fun _ => none
noncomputable def g70 (x0 : Int) : Option ((Bool × Unit) × Unit) :=
  bif (decide (x0 > (0 : Int))) then
    some ((((andOf .i64 x0 (wI (x0 - (1 : Int)))) == (0 : Int)), ()), ())
  else
    some ((false, ()), ())
noncomputable def f70 (x0 : Int) : Bool :=
  bif (decide (x0 > (0 : Int))) then
    ((andOf .i64 x0 (wI (x0 - (1 : Int)))) == (0 : Int))
  else
    false
theorem n70 (x0 : Int) : g70 x0 = some ((f70 x0, ()), ()) := by
  simp only [g70, f70, pull1]
noncomputable def c70 : Ctr := { ins := [.v (.int .i64)], out := [.bool], F := fun x => some ((f70 x.1, ()), ()) }
theorem v70 : LoopsOk Tryz.prog Γ t70 a70 (loopsIn (Tryz.f70.body.getD .skip) 0) := loopsOk_nil (by kernel_rfl)
theorem r70 (x : InsT c70.ins) : fnK Tryz.prog Γ t70 a70 Tryz.f70 c70 x = g70 x.1 := by kernel_rfl
theorem k70 : TblOk Tryz.prog t70 := tblOk_nil
theorem o70 : Holds Tryz.prog 70 c70 := fn_holds (code := Tryz.f70.body.getD .skip) (by kernel_rfl) gamOk k70 Tryz.func70 (by kernel_rfl) (by kernel_rfl) (by kernel_rfl) (by kernel_rfl) v70 (fun x _ h => (r70 x).trans ((n70 x.1).trans h))
/-! ### 43: loop.example/g00076/impl.isShape -/
noncomputable def t43 : Tbl := [(44, [], c44), (70, [], c70)]
noncomputable def a43 : Nat → Option LoopAnn := fun _ => none
noncomputable def g43 (x0 : Ta6) : Option ((Bool × Unit) × Unit) :=
  bif (f44 x0.1 (1 : Int) (16 : Int)) then
    bif (f70 x0.1) then
      bif (f44 x0.2.1 (1 : Int) (4 : Int)) then
        bif (f44 x0.2.2.1 (4 : Int) (32 : Int)) then
          some (((f70 x0.2.2.1), ()), ())
        else
          some ((false, ()), ())
      else
        some ((false, ()), ())
    else
      some ((false, ()), ())
  else
    some ((false, ()), ())
noncomputable def f43 (x0 : Ta6) : Bool :=
  bif (f44 x0.1 (1 : Int) (16 : Int)) then
    bif (f70 x0.1) then
      bif (f44 x0.2.1 (1 : Int) (4 : Int)) then
        bif (f44 x0.2.2.1 (4 : Int) (32 : Int)) then
          (f70 x0.2.2.1)
        else
          false
      else
        false
    else
      false
  else
    false
theorem n43 (x0 : Ta6) : g43 x0 = some ((f43 x0, ()), ()) := by
  simp only [g43, f43, pull1]
noncomputable def c43 : Ctr := { ins := [.v Ty51], out := [.bool], F := fun x => some ((f43 x.1, ()), ()) }
theorem v43 : LoopsOk Tryz.prog Γ t43 a43 (loopsIn (Tryz.f43.body.getD .skip) 0) := loopsOk_nil (by kernel_rfl)
theorem r43 (x : InsT c43.ins) : fnK Tryz.prog Γ t43 a43 Tryz.f43 c43 x = g43 x.1 := by kernel_rfl
theorem k43 : TblOk Tryz.prog t43 := tblOk_cons o44 (tblOk_cons o70 (tblOk_nil))
theorem o43 : Holds Tryz.prog 43 c43 := fn_holds (code := Tryz.f43.body.getD .skip) (by kernel_rfl) gamOk k43 Tryz.func43 (by kernel_rfl) (by kernel_rfl) (by kernel_rfl) (by kernel_rfl) v43 (fun x _ h => (r43 x).trans ((n43 x.1).trans h))
/-! ### 45: loop.example/g00076/impl.areCosts -/
noncomputable def t45 : Tbl := [(44, [], c44)]
noncomputable def a45 : Nat → Option LoopAnn := fun c => bif Nat.beq c 0 then some (.unroll 7 [1, 17, 18] [1]) else none
noncomputable def g45 (x0 : Ta49) : Option ((Bool × Unit) × Unit) :=
  bif (!(f44 x0.2.1 (0 : Int) (50 : Int))) then
    some ((false, ()), ())
  else
    bif (!(f44 x0.2.2.1 (0 : Int) (50 : Int))) then
      some ((false, ()), ())
    else
      bif (!(f44 x0.2.2.2.1 (0 : Int) (50 : Int))) then
        some ((false, ()), ())
      else
        bif (!(f44 x0.2.2.2.2.1 (0 : Int) (50 : Int))) then
          some ((false, ()), ())
        else
          bif (!(f44 x0.2.2.2.2.2.1 (0 : Int) (50 : Int))) then
            some ((false, ()), ())
          else
            bif (!(f44 x0.2.2.2.2.2.2.1 (0 : Int) (50 : Int))) then
              some ((false, ()), ())
            else
              some (((f44 x0.1 (1 : Int) (20 : Int)), ()), ())
noncomputable def f45 (x0 : Ta49) : Bool :=
  bif (!(f44 x0.2.1 (0 : Int) (50 : Int))) then
    false
  else
    bif (!(f44 x0.2.2.1 (0 : Int) (50 : Int))) then
      false
    else
      bif (!(f44 x0.2.2.2.1 (0 : Int) (50 : Int))) then
        false
      else
        bif (!(f44 x0.2.2.2.2.1 (0 : Int) (50 : Int))) then
          false
        else
          bif (!(f44 x0.2.2.2.2.2.1 (0 : Int) (50 : Int))) then
            false
          else
            bif (!(f44 x0.2.2.2.2.2.2.1 (0 : Int) (50 : Int))) then
              false
            else
              (f44 x0.1 (1 : Int) (20 : Int))
theorem n45 (x0 : Ta49) : g45 x0 = some ((f45 x0, ()), ()) := by
  simp only [g45, f45, pull1]
noncomputable def c45 : Ctr := { ins := [.v Ty102], out := [.bool], F := fun x => some ((f45 x.1, ()), ()) }
noncomputable def l45 : List (Nat × Code) := loopsIn (Tryz.f45.body.getD .skip) 0
theorem v45 : LoopsOk Tryz.prog Γ t45 a45 (loopsIn (Tryz.f45.body.getD .skip) 0) := by
  have e : loopsIn (Tryz.f45.body.getD .skip) 0 = [(0, (l45.getD 0 (0, .skip)).2)] := by kernel_rfl
  rw [e]
  exact ⟨trivial, trivial⟩
theorem r45 (x : InsT c45.ins) : fnK Tryz.prog Γ t45 a45 Tryz.f45 c45 x = g45 x.1 := by kernel_rfl
theorem k45 : TblOk Tryz.prog t45 := tblOk_cons o44 (tblOk_nil)
theorem o45 : Holds Tryz.prog 45 c45 := fn_holds (code := Tryz.f45.body.getD .skip) (by kernel_rfl) gamOk k45 Tryz.func45 (by kernel_rfl) (by kernel_rfl) (by kernel_rfl) (by kernel_rfl) v45 (fun x _ h => (r45 x).trans ((n45 x.1).trans h))
/-! ### 46: loop.example/g00076/impl.isSpan -/
noncomputable def t46 : Tbl := [(44, [], c44)]
noncomputable def a46 : Nat → Option LoopAnn := fun _ => none
noncomputable def g46 (x0 : Int) : Option ((Bool × Unit) × Unit) :=
  some (((f44 x0 (1 : Int) (5000 : Int)), ()), ())
noncomputable def f46 (x0 : Int) : Bool :=
  (f44 x0 (1 : Int) (5000 : Int))
theorem n46 (x0 : Int) : g46 x0 = some ((f46 x0, ()), ()) := by
  simp only [g46, f46, pull1]
noncomputable def c46 : Ctr := { ins := [.v (.int .i64)], out := [.bool], F := fun x => some ((f46 x.1, ()), ()) }
theorem v46 : LoopsOk Tryz.prog Γ t46 a46 (loopsIn (Tryz.f46.body.getD .skip) 0) := loopsOk_nil (by kernel_rfl)
theorem r46 (x : InsT c46.ins) : fnK Tryz.prog Γ t46 a46 Tryz.f46 c46 x = g46 x.1 := by kernel_rfl
theorem k46 : TblOk Tryz.prog t46 := tblOk_cons o44 (tblOk_nil)
theorem o46 : Holds Tryz.prog 46 c46 := fn_holds (code := Tryz.f46.body.getD .skip) (by kernel_rfl) gamOk k46 Tryz.func46 (by kernel_rfl) (by kernel_rfl) (by kernel_rfl) (by kernel_rfl) v46 (fun x _ h => (r46 x).trans ((n46 x.1).trans h))
/-! ### 94: loop.example/g00076/impl.opCost -/
noncomputable def t94 : Tbl := [(44, [], c44)]
noncomputable def a94 : Nat → Option LoopAnn := fun _ => none
noncomputable def g94 (x0 : Ta49) (x1 : Int) : Option ((Int × Unit) × Unit) :=
  bif (x1 == (9 : Int)) then
    some (((wI (x0.1 + x0.2.1)), ()), ())
  else
    bif (x1 == (10 : Int)) then
      some (((wI (x0.1 + x0.2.1)), ()), ())
    else
      bif (f44 x1 (15 : Int) (18 : Int)) then
        some (((wI (x0.1 + x0.2.2.1)), ()), ())
      else
        bif (decide (x1 ≥ (25 : Int))) then
          some (((wI (x0.1 + x0.2.2.2.2.2.1)), ()), ())
        else
          some ((x0.1, ()), ())
noncomputable def f94 (x0 : Ta49) (x1 : Int) : Int :=
  bif (x1 == (9 : Int)) then
    (wI (x0.1 + x0.2.1))
  else
    bif (x1 == (10 : Int)) then
      (wI (x0.1 + x0.2.1))
    else
      bif (f44 x1 (15 : Int) (18 : Int)) then
        (wI (x0.1 + x0.2.2.1))
      else
        bif (decide (x1 ≥ (25 : Int))) then
          (wI (x0.1 + x0.2.2.2.2.2.1))
        else
          x0.1
theorem n94 (x0 : Ta49) (x1 : Int) : g94 x0 x1 = some ((f94 x0 x1, ()), ()) := by
  simp only [g94, f94, pull1]
noncomputable def c94 : Ctr := { ins := [.v Ty102, .v (.int .i64)], out := [(.int .i64)], F := fun x => some ((f94 x.1 x.2.1, ()), ()) }
theorem v94 : LoopsOk Tryz.prog Γ t94 a94 (loopsIn (Tryz.f94.body.getD .skip) 0) := loopsOk_nil (by kernel_rfl)
theorem r94 (x : InsT c94.ins) : fnK Tryz.prog Γ t94 a94 Tryz.f94 c94 x = g94 x.1 x.2.1 := by kernel_rfl
theorem k94 : TblOk Tryz.prog t94 := tblOk_cons o44 (tblOk_nil)
theorem o94 : Holds Tryz.prog 94 c94 := fn_holds (code := Tryz.f94.body.getD .skip) (by kernel_rfl) gamOk k94 Tryz.func94 (by kernel_rfl) (by kernel_rfl) (by kernel_rfl) (by kernel_rfl) v94 (fun x _ h => (r94 x).trans ((n94 x.1 x.2.1).trans h))
/-! ### 95: loop.example/g00076/impl.accessCost -/
noncomputable def t95 : Tbl := []
noncomputable def a95 : Nat → Option LoopAnn := fun _ => none
noncomputable def g95 (x0 : Ta49) (x1 : Ta10) : Option ((Int × Unit) × Unit) :=
  bif (!x1.1) then
    bif (!x1.2.1) then
      bif x1.2.2.1 then
        some (((wI ((wI ((wI ((0 : Int) + x0.2.2.2.1)) + x0.2.2.2.2.1)) + x0.2.2.2.2.2.2.1)), ()), ())
      else
        some (((wI ((wI ((0 : Int) + x0.2.2.2.1)) + x0.2.2.2.2.1)), ()), ())
    else
      bif x1.2.2.1 then
        some (((wI ((wI ((0 : Int) + x0.2.2.2.1)) + x0.2.2.2.2.2.2.1)), ()), ())
      else
        some (((wI ((0 : Int) + x0.2.2.2.1)), ()), ())
  else
    bif (!x1.2.1) then
      bif x1.2.2.1 then
        some (((wI ((wI ((0 : Int) + x0.2.2.2.2.1)) + x0.2.2.2.2.2.2.1)), ()), ())
      else
        some (((wI ((0 : Int) + x0.2.2.2.2.1)), ()), ())
    else
      bif x1.2.2.1 then
        some (((wI ((0 : Int) + x0.2.2.2.2.2.2.1)), ()), ())
      else
        some (((0 : Int), ()), ())
noncomputable def f95 (x0 : Ta49) (x1 : Ta10) : Int :=
  bif (!x1.1) then
    bif (!x1.2.1) then
      bif x1.2.2.1 then
        (wI ((wI ((wI ((0 : Int) + x0.2.2.2.1)) + x0.2.2.2.2.1)) + x0.2.2.2.2.2.2.1))
      else
        (wI ((wI ((0 : Int) + x0.2.2.2.1)) + x0.2.2.2.2.1))
    else
      bif x1.2.2.1 then
        (wI ((wI ((0 : Int) + x0.2.2.2.1)) + x0.2.2.2.2.2.2.1))
      else
        (wI ((0 : Int) + x0.2.2.2.1))
  else
    bif (!x1.2.1) then
      bif x1.2.2.1 then
        (wI ((wI ((0 : Int) + x0.2.2.2.2.1)) + x0.2.2.2.2.2.2.1))
      else
        (wI ((0 : Int) + x0.2.2.2.2.1))
    else
      bif x1.2.2.1 then
        (wI ((0 : Int) + x0.2.2.2.2.2.2.1))
      else
        (0 : Int)
theorem n95 (x0 : Ta49) (x1 : Ta10) : g95 x0 x1 = some ((f95 x0 x1, ()), ()) := by
  simp only [g95, f95, pull1]
noncomputable def c95 : Ctr := { ins := [.v Ty102, .v (.pair .bool (.pair .bool (.pair .bool .unit)))], out := [(.int .i64)], F := fun x => some ((f95 x.1 x.2.1, ()), ()) }
theorem v95 : LoopsOk Tryz.prog Γ t95 a95 (loopsIn (Tryz.f95.body.getD .skip) 0) := loopsOk_nil (by kernel_rfl)
theorem r95 (x : InsT c95.ins) : fnK Tryz.prog Γ t95 a95 Tryz.f95 c95 x = g95 x.1 x.2.1 := by kernel_rfl
theorem k95 : TblOk Tryz.prog t95 := tblOk_nil
theorem o95 : Holds Tryz.prog 95 c95 := fn_holds (code := Tryz.f95.body.getD .skip) (by kernel_rfl) gamOk k95 Tryz.func95 (by kernel_rfl) (by kernel_rfl) (by kernel_rfl) (by kernel_rfl) v95 (fun x _ h => (r95 x).trans ((n95 x.1 x.2.1).trans h))
/-! ### 71: loop.example/g00076/impl.WorstStep -/
noncomputable def t71 : Tbl := [(45, [], c45), (94, [], c94), (95, [], c95)]
abbrev h71_L0 : Shape := { slots := [(1, .bx 1 0), (3, .v (.int .i64)), (8, .v (.int .i64))], boxes := [(1, .typ Ty102)] }
abbrev e71_L0 : List (XT × Shape) := [(.exit 0, { slots := [(1, .bx 1 0), (3, .v (.int .i64))], boxes := [(1, .typ Ty102)] })]
noncomputable def q71_L0 (t3 : Int) (t8 : Int) (b1 : Ta49) : Option (Ta86 ⊕ (Ta79 ⊕ Empty)) :=
  bif (decide (t8 < (33 : Int))) then
    some (.inl (((), ((if (f94 b1 t8) > t3 then (f94 b1 t8) else t3), ((wI (t8 + (1 : Int))), ()))), (b1, ())))
  else
    some (.inr (.inl (((), (t3, ())), (b1, ()))))
noncomputable def s71_L0 (x : Ta86) : Option (Ta86 ⊕ (Ta79 ⊕ Empty)) := q71_L0 x.1.2.1 x.1.2.2.1 x.2.1
noncomputable def a71 : Nat → Option LoopAnn := fun c => bif Nat.beq c 0 then some (.fix h71_L0 e71_L0 s71_L0) else none
noncomputable def g71 (x0 : Ta49) : Option ((Int × Unit) × Unit) :=
  bif (!(f45 x0)) then
    some (((-1 : Int), ()), ())
  else
    (fixO s71_L0 (((), ((0 : Int), ((0 : Int), ()))), (x0, ()))).bind fun d2 => match d2 with
    | .inl y1 =>
      some (((wI ((wI (y1.1.2.1 + (wI ((2 : Int) * (f95 y1.2.1 (false, (false, (true, ())))))))) + y1.2.1.2.2.2.2.2.1)), ()), ())
    | .inr e => nomatch e
noncomputable def c71 : Ctr := { ins := [.v Ty102], out := [(.int .i64)], F := fun x => g71 x.1 }
noncomputable def l71 : List (Nat × Code) := loopsIn (Tryz.f71.body.getD .skip) 0
theorem w71_L0 (x : h71_L0.T) : runK Tryz.prog Γ t71 (inlN Tryz.prog Γ t71 3) a71 (l71.getD 0 (0, .skip)).2 0 (pkSh h71_L0 x) (loopCls (sh := h71_L0) (es := e71_L0)) = (s71_L0 x : Option _) := by kernel_rfl
theorem v71 : LoopsOk Tryz.prog Γ t71 a71 (loopsIn (Tryz.f71.body.getD .skip) 0) := by
  have e : loopsIn (Tryz.f71.body.getD .skip) 0 = [(0, (l71.getD 0 (0, .skip)).2)] := by kernel_rfl
  rw [e]
  exact ⟨fun x d h => (w71_L0 x).trans h, trivial⟩
theorem r71 (x : InsT c71.ins) : fnK Tryz.prog Γ t71 a71 Tryz.f71 c71 x = g71 x.1 := by kernel_rfl
theorem k71 : TblOk Tryz.prog t71 := tblOk_cons o45 (tblOk_cons o94 (tblOk_cons o95 (tblOk_nil)))
theorem o71 : Holds Tryz.prog 71 c71 := fn_holds (code := Tryz.f71.body.getD .skip) (by kernel_rfl) gamOk k71 Tryz.func71 (by kernel_rfl) (by kernel_rfl) (by kernel_rfl) (by kernel_rfl) v71 (fun x _ h => (r71 x).trans h)
/-! ### 47: loop.example/g00076/impl.worstStep -/
noncomputable def t47 : Tbl := [(71, [], c71)]
noncomputable def a47 : Nat → Option LoopAnn := fun _ => none
noncomputable def g47 (x0 : Ta49) : Option ((Int × Unit) × Unit) :=
  (g71 x0).bind fun y1 =>
    some ((y1.1.1, ()), ())
noncomputable def c47 : Ctr := { ins := [.v Ty102], out := [(.int .i64)], F := fun x => g47 x.1 }
theorem v47 : LoopsOk Tryz.prog Γ t47 a47 (loopsIn (Tryz.f47.body.getD .skip) 0) := loopsOk_nil (by kernel_rfl)
theorem r47 (x : InsT c47.ins) : fnK Tryz.prog Γ t47 a47 Tryz.f47 c47 x = g47 x.1 := by kernel_rfl
theorem k47 : TblOk Tryz.prog t47 := tblOk_cons o71 (tblOk_nil)
theorem o47 : Holds Tryz.prog 47 c47 := fn_holds (code := Tryz.f47.body.getD .skip) (by kernel_rfl) gamOk k47 Tryz.func47 (by kernel_rfl) (by kernel_rfl) (by kernel_rfl) (by kernel_rfl) v47 (fun x _ h => (r47 x).trans h)
/-! ### 96: loop.example/g00076/impl.isLabel -/
noncomputable def t96 : Tbl := [(44, [], c44)]
abbrev h96_L0 : Shape := { slots := [(0, .v .str), (5, .v (.int .i64)), (6, .v (.int .i64))], boxes := [] }
abbrev e96_L0 : List (XT × Shape) := [(.ret, { slots := [(2, .v .bool)], boxes := [] }), (.exit 0, { slots := [(0, .v .str)], boxes := [] })]
noncomputable def q96_L0 (t0 : ByteArray) (t5 : Int) (t6 : Int) : Option (Ta28 ⊕ (((Bool × Unit) × Unit) ⊕ (Ta5 ⊕ Empty))) :=
  bif (decide (t6 < t5)) then
    bif (decide (0 ≤ t6) && decide (t6 < t0.size)) then
      bif (decide ((bt t0 t6) < (97 : Int))) then
        some (.inr (.inl ((false, ()), ())))
      else
        bif (decide (0 ≤ t6) && decide (t6 < t0.size)) then
          bif (decide ((bt t0 t6) > (122 : Int))) then
            some (.inr (.inl ((false, ()), ())))
          else
            some (.inl ((t0, (t5, ((wI (t6 + (1 : Int))), ()))), ()))
        else
          none
    else
      none
  else
    some (.inr (.inr (.inl ((t0, ()), ()))))
noncomputable def s96_L0 (x : Ta28) : Option (Ta28 ⊕ (((Bool × Unit) × Unit) ⊕ (Ta5 ⊕ Empty))) := q96_L0 x.1.1 x.1.2.1 x.1.2.2.1
noncomputable def a96 : Nat → Option LoopAnn := fun c => bif Nat.beq c 0 then some (.fix h96_L0 e96_L0 s96_L0) else none
noncomputable def g96 (x0 : ByteArray) : Option ((Bool × Unit) × Unit) :=
  (fixO s96_L0 ((x0, ((x0.size : Int), ((0 : Int), ()))), ())).bind fun d2 => match d2 with
  | .inl y1 =>
    some ((y1.1.1, ()), ())
  | .inr (.inl y1) =>
    some (((f44 (y1.1.1.size : Int) (1 : Int) (12 : Int)), ()), ())
  | .inr (.inr e) => nomatch e
noncomputable def c96 : Ctr := { ins := [.v .str], out := [.bool], F := fun x => g96 x.1 }
noncomputable def l96 : List (Nat × Code) := loopsIn (Tryz.f96.body.getD .skip) 0
theorem w96_L0 (x : h96_L0.T) : runK Tryz.prog Γ t96 (inlN Tryz.prog Γ t96 3) a96 (l96.getD 0 (0, .skip)).2 0 (pkSh h96_L0 x) (loopCls (sh := h96_L0) (es := e96_L0)) = (s96_L0 x : Option _) := by kernel_rfl
theorem v96 : LoopsOk Tryz.prog Γ t96 a96 (loopsIn (Tryz.f96.body.getD .skip) 0) := by
  have e : loopsIn (Tryz.f96.body.getD .skip) 0 = [(0, (l96.getD 0 (0, .skip)).2)] := by kernel_rfl
  rw [e]
  exact ⟨fun x d h => (w96_L0 x).trans h, trivial⟩
theorem r96 (x : InsT c96.ins) : fnK Tryz.prog Γ t96 a96 Tryz.f96 c96 x = g96 x.1 := by kernel_rfl
theorem k96 : TblOk Tryz.prog t96 := tblOk_cons o44 (tblOk_nil)
theorem o96 : Holds Tryz.prog 96 c96 := fn_holds (code := Tryz.f96.body.getD .skip) (by kernel_rfl) gamOk k96 Tryz.func96 (by kernel_rfl) (by kernel_rfl) (by kernel_rfl) (by kernel_rfl) v96 (fun x _ h => (r96 x).trans h)
/-! ### 72: loop.example/g00076/impl.isName -/
noncomputable def t72 : Tbl := [(96, [], c96)]
noncomputable def a72 : Nat → Option LoopAnn := fun _ => none
noncomputable def g72 (x0 : ByteArray) : Option ((Bool × Unit) × Unit) :=
  (g96 x0).bind fun y1 =>
    bif y1.1.1 then
      some (((decide ((x0.size : Int) ≤ (8 : Int))), ()), ())
    else
      some ((false, ()), ())
noncomputable def c72 : Ctr := { ins := [.v .str], out := [.bool], F := fun x => g72 x.1 }
theorem v72 : LoopsOk Tryz.prog Γ t72 a72 (loopsIn (Tryz.f72.body.getD .skip) 0) := loopsOk_nil (by kernel_rfl)
theorem r72 (x : InsT c72.ins) : fnK Tryz.prog Γ t72 a72 Tryz.f72 c72 x = g72 x.1 := by kernel_rfl
theorem k72 : TblOk Tryz.prog t72 := tblOk_cons o96 (tblOk_nil)
theorem o72 : Holds Tryz.prog 72 c72 := fn_holds (code := Tryz.f72.body.getD .skip) (by kernel_rfl) gamOk k72 Tryz.func72 (by kernel_rfl) (by kernel_rfl) (by kernel_rfl) (by kernel_rfl) v72 (fun x _ h => (r72 x).trans h)
/-! ### 98: loop.example/g00076/impl.partNamed$1 -/
noncomputable def t98 : Tbl := []
noncomputable def a98 : Nat → Option LoopAnn := fun _ => none
noncomputable def g98 (x0 : Ta75) (x1 : ByteArray) : Option ((Bool × Unit) × Unit) :=
  some (((strEq x0.1 x1), ()), ())
noncomputable def f98 (x0 : Ta75) (x1 : ByteArray) : Bool :=
  (strEq x0.1 x1)
theorem n98 (x0 : Ta75) (x1 : ByteArray) : g98 x0 x1 = some ((f98 x0 x1, ()), ()) := by
  simp only [g98, f98, pull1]
noncomputable def c98 : Ctr := { ins := [.v Ty112, .rf .str], out := [.bool], F := fun x => some ((f98 x.1 x.2.1, ()), ()) }
theorem v98 : LoopsOk Tryz.prog Γ t98 a98 (loopsIn (Tryz.f98.body.getD .skip) 0) := loopsOk_nil (by kernel_rfl)
theorem r98 (x : InsT c98.ins) : fnK Tryz.prog Γ t98 a98 Tryz.f98 c98 x = g98 x.1 x.2.1 := by kernel_rfl
theorem k98 : TblOk Tryz.prog t98 := tblOk_nil
theorem o98 : Holds Tryz.prog 98 c98 := fn_holds (code := Tryz.f98.body.getD .skip) (by kernel_rfl) gamOk k98 Tryz.func98 (by kernel_rfl) (by kernel_rfl) (by kernel_rfl) (by kernel_rfl) v98 (fun x _ h => (r98 x).trans ((n98 x.1 x.2.1).trans h))
/-! ### 97: slices.IndexFunc[[]loop.example/g00076/impl.PartRow,loop.example/g00076/impl.PartRow] -/
noncomputable def t97_98 : Tbl := [(98, [], c98)]
abbrev h97_98_L0 : Shape := { slots := [(0, .v Ty113), (1, .clo 98 [.str]), (7, .v (.int .i64)), (8, .v (.int .i64))], boxes := [] }
abbrev e97_98_L0 : List (XT × Shape) := [(.ret, { slots := [(4, .v (.int .i64))], boxes := [] }), (.exit 0, { slots := [], boxes := [] })]
noncomputable def q97_98_L0 (t0 : Ta78) (t1 : (ByteArray × Unit)) (t7 : Int) (t8 : Int) : Option (Ta105 ⊕ (((Int × Unit) × Unit) ⊕ ((Unit × Unit) ⊕ Empty))) :=
  bif (decide (t8 < t7)) then
    bif (decide (0 ≤ t8) && decide (t8 < (t0.len : Int))) then
      bif (f98 (L.get t0 t8.toNat) t1.1) then
        some (.inr (.inl ((t8, ()), ())))
      else
        some (.inl ((t0, (t1, (t7, ((wI (t8 + (1 : Int))), ())))), ()))
    else
      none
  else
    some (.inr (.inr (.inl ((), ()))))
noncomputable def s97_98_L0 (x : Ta105) : Option (Ta105 ⊕ (((Int × Unit) × Unit) ⊕ ((Unit × Unit) ⊕ Empty))) := q97_98_L0 x.1.1 x.1.2.1 x.1.2.2.1 x.1.2.2.2.1
noncomputable def a97_98 : Nat → Option LoopAnn := fun c => bif Nat.beq c 0 then some (.fix h97_98_L0 e97_98_L0 s97_98_L0) else none
noncomputable def g97_98 (x0 : Ta78) (x1 : (ByteArray × Unit)) : Option ((Int × Unit) × Unit) :=
  (fixO s97_98_L0 ((x0, (x1, ((x0.len : Int), ((0 : Int), ())))), ())).bind fun d2 => match d2 with
  | .inl y1 =>
    some ((y1.1.1, ()), ())
  | .inr (.inl y1) =>
    some (((-1 : Int), ()), ())
  | .inr (.inr e) => nomatch e
noncomputable def c97_98 : Ctr := { ins := [.v Ty113, .clo 98 [.str]], out := [(.int .i64)], F := fun x => g97_98 x.1 x.2.1 }
noncomputable def l97_98 : List (Nat × Code) := loopsIn (Tryz.f97.body.getD .skip) 0
theorem w97_98_L0 (x : h97_98_L0.T) : runK Tryz.prog Γ t97_98 (inlN Tryz.prog Γ t97_98 3) a97_98 (l97_98.getD 0 (0, .skip)).2 0 (pkSh h97_98_L0 x) (loopCls (sh := h97_98_L0) (es := e97_98_L0)) = (s97_98_L0 x : Option _) := by kernel_rfl
theorem v97_98 : LoopsOk Tryz.prog Γ t97_98 a97_98 (loopsIn (Tryz.f97.body.getD .skip) 0) := by
  have e : loopsIn (Tryz.f97.body.getD .skip) 0 = [(0, (l97_98.getD 0 (0, .skip)).2)] := by kernel_rfl
  rw [e]
  exact ⟨fun x d h => (w97_98_L0 x).trans h, trivial⟩
theorem r97_98 (x : InsT c97_98.ins) : fnK Tryz.prog Γ t97_98 a97_98 Tryz.f97 c97_98 x = g97_98 x.1 x.2.1 := by kernel_rfl
theorem k97_98 : TblOk Tryz.prog t97_98 := tblOk_cons o98 (tblOk_nil)
theorem o97_98 : Holds Tryz.prog 97 c97_98 := fn_holds (code := Tryz.f97.body.getD .skip) (by kernel_rfl) gamOk k97_98 Tryz.func97 (by kernel_rfl) (by kernel_rfl) (by kernel_rfl) (by kernel_rfl) v97_98 (fun x _ h => (r97_98 x).trans h)
/-! ### 73: loop.example/g00076/impl.partNamed -/
noncomputable def t73 : Tbl := [(97, [98], c97_98)]
noncomputable def a73 : Nat → Option LoopAnn := fun _ => none
noncomputable def g73 (x0 : Ta129) (x1 : ByteArray) : Option ((Int × Unit) × Unit) :=
  (g97_98 x0.2.2.2.2.2.2.2.1 (x1, ())).bind fun y1 =>
    some ((y1.1.1, ()), ())
noncomputable def c73 : Ctr := { ins := [.v Ty147, .v .str], out := [(.int .i64)], F := fun x => g73 x.1 x.2.1 }
theorem v73 : LoopsOk Tryz.prog Γ t73 a73 (loopsIn (Tryz.f73.body.getD .skip) 0) := loopsOk_nil (by kernel_rfl)
theorem r73 (x : InsT c73.ins) : fnK Tryz.prog Γ t73 a73 Tryz.f73 c73 x = g73 x.1 x.2.1 := by kernel_rfl
theorem k73 : TblOk Tryz.prog t73 := tblOk_cons o97_98 (tblOk_nil)
theorem o73 : Holds Tryz.prog 73 c73 := fn_holds (code := Tryz.f73.body.getD .skip) (by kernel_rfl) gamOk k73 Tryz.func73 (by kernel_rfl) (by kernel_rfl) (by kernel_rfl) (by kernel_rfl) v73 (fun x _ h => (r73 x).trans h)
/-! ### 74: loop.example/g00076/impl.isPolicy -/
noncomputable def t74 : Tbl := [(44, [], c44)]
noncomputable def a74 : Nat → Option LoopAnn := fun _ => none
noncomputable def g74 (x0 : (Int × (Int × Unit))) : Option ((Bool × Unit) × Unit) :=
  bif (x0.1 == (1 : Int)) then
    some (((f44 x0.2.1 (0 : Int) (100 : Int)), ()), ())
  else
    bif (x0.1 == (0 : Int)) then
      some (((x0.2.1 == (0 : Int)), ()), ())
    else
      bif (x0.1 == (2 : Int)) then
        some (((x0.2.1 == (0 : Int)), ()), ())
      else
        some ((false, ()), ())
noncomputable def f74 (x0 : (Int × (Int × Unit))) : Bool :=
  bif (x0.1 == (1 : Int)) then
    (f44 x0.2.1 (0 : Int) (100 : Int))
  else
    bif (x0.1 == (0 : Int)) then
      (x0.2.1 == (0 : Int))
    else
      bif (x0.1 == (2 : Int)) then
        (x0.2.1 == (0 : Int))
      else
        false
theorem n74 (x0 : (Int × (Int × Unit))) : g74 x0 = some ((f74 x0, ()), ()) := by
  simp only [g74, f74, pull1]
noncomputable def c74 : Ctr := { ins := [.v Ty31], out := [.bool], F := fun x => some ((f74 x.1, ()), ()) }
theorem v74 : LoopsOk Tryz.prog Γ t74 a74 (loopsIn (Tryz.f74.body.getD .skip) 0) := loopsOk_nil (by kernel_rfl)
theorem r74 (x : InsT c74.ins) : fnK Tryz.prog Γ t74 a74 Tryz.f74 c74 x = g74 x.1 := by kernel_rfl
theorem k74 : TblOk Tryz.prog t74 := tblOk_cons o44 (tblOk_nil)
theorem o74 : Holds Tryz.prog 74 c74 := fn_holds (code := Tryz.f74.body.getD .skip) (by kernel_rfl) gamOk k74 Tryz.func74 (by kernel_rfl) (by kernel_rfl) (by kernel_rfl) (by kernel_rfl) v74 (fun x _ h => (r74 x).trans ((n74 x.1).trans h))
/-! ### 75: loop.example/g00076/impl.isWindow -/
noncomputable def t75 : Tbl := [(44, [], c44)]
noncomputable def a75 : Nat → Option LoopAnn := fun _ => none
noncomputable def g75 (x0 : Ta6) : Option ((Bool × Unit) × Unit) :=
  bif (f44 x0.2.1 (4 : Int) (2048 : Int)) then
    bif ((Int.tmod x0.2.1 (4 : Int)) == (0 : Int)) then
      bif (f44 x0.1 (0 : Int) (wI ((2048 : Int) - x0.2.1))) then
        bif ((Int.tmod x0.1 (4 : Int)) == (0 : Int)) then
          some (((f44 x0.2.2.1 (1 : Int) (7 : Int)), ()), ())
        else
          some ((false, ()), ())
      else
        some ((false, ()), ())
    else
      some ((false, ()), ())
  else
    some ((false, ()), ())
noncomputable def f75 (x0 : Ta6) : Bool :=
  bif (f44 x0.2.1 (4 : Int) (2048 : Int)) then
    bif ((Int.tmod x0.2.1 (4 : Int)) == (0 : Int)) then
      bif (f44 x0.1 (0 : Int) (wI ((2048 : Int) - x0.2.1))) then
        bif ((Int.tmod x0.1 (4 : Int)) == (0 : Int)) then
          (f44 x0.2.2.1 (1 : Int) (7 : Int))
        else
          false
      else
        false
    else
      false
  else
    false
theorem n75 (x0 : Ta6) : g75 x0 = some ((f75 x0, ()), ()) := by
  simp only [g75, f75, pull1]
noncomputable def c75 : Ctr := { ins := [.v Ty51], out := [.bool], F := fun x => some ((f75 x.1, ()), ()) }
theorem v75 : LoopsOk Tryz.prog Γ t75 a75 (loopsIn (Tryz.f75.body.getD .skip) 0) := loopsOk_nil (by kernel_rfl)
theorem r75 (x : InsT c75.ins) : fnK Tryz.prog Γ t75 a75 Tryz.f75 c75 x = g75 x.1 := by kernel_rfl
theorem k75 : TblOk Tryz.prog t75 := tblOk_cons o44 (tblOk_nil)
theorem o75 : Holds Tryz.prog 75 c75 := fn_holds (code := Tryz.f75.body.getD .skip) (by kernel_rfl) gamOk k75 Tryz.func75 (by kernel_rfl) (by kernel_rfl) (by kernel_rfl) (by kernel_rfl) v75 (fun x _ h => (r75 x).trans ((n75 x.1).trans h))
/-! ### 78: loop.example/g00076/impl.areApart -/
noncomputable def t78 : Tbl := []
noncomputable def a78 : Nat → Option LoopAnn := fun _ => none
noncomputable def g78 (x0 : Ta6) (x1 : Ta6) : Option ((Bool × Unit) × Unit) :=
  bif (decide ((wI (x0.1 + x0.2.1)) ≤ x1.1)) then
    some ((true, ()), ())
  else
    some (((decide ((wI (x1.1 + x1.2.1)) ≤ x0.1)), ()), ())
noncomputable def f78 (x0 : Ta6) (x1 : Ta6) : Bool :=
  bif (decide ((wI (x0.1 + x0.2.1)) ≤ x1.1)) then
    true
  else
    (decide ((wI (x1.1 + x1.2.1)) ≤ x0.1))
theorem n78 (x0 : Ta6) (x1 : Ta6) : g78 x0 x1 = some ((f78 x0 x1, ()), ()) := by
  simp only [g78, f78, pull1]
noncomputable def c78 : Ctr := { ins := [.v Ty51, .v Ty51], out := [.bool], F := fun x => some ((f78 x.1 x.2.1, ()), ()) }
theorem v78 : LoopsOk Tryz.prog Γ t78 a78 (loopsIn (Tryz.f78.body.getD .skip) 0) := loopsOk_nil (by kernel_rfl)
theorem r78 (x : InsT c78.ins) : fnK Tryz.prog Γ t78 a78 Tryz.f78 c78 x = g78 x.1 x.2.1 := by kernel_rfl
theorem k78 : TblOk Tryz.prog t78 := tblOk_nil
theorem o78 : Holds Tryz.prog 78 c78 := fn_holds (code := Tryz.f78.body.getD .skip) (by kernel_rfl) gamOk k78 Tryz.func78 (by kernel_rfl) (by kernel_rfl) (by kernel_rfl) (by kernel_rfl) v78 (fun x _ h => (r78 x).trans ((n78 x.1 x.2.1).trans h))
/-! ### 77: loop.example/g00076/impl.areParts$1 -/
noncomputable def t77 : Tbl := [(78, [], c78)]
noncomputable def a77 : Nat → Option LoopAnn := fun _ => none
noncomputable def g77 (x0 : Ta6) (x1 : Ta6) : Option ((Bool × Unit) × Unit) :=
  some (((!(f78 x0 x1)), ()), ())
noncomputable def f77 (x0 : Ta6) (x1 : Ta6) : Bool :=
  (!(f78 x0 x1))
theorem n77 (x0 : Ta6) (x1 : Ta6) : g77 x0 x1 = some ((f77 x0 x1, ()), ()) := by
  simp only [g77, f77, pull1]
noncomputable def c77 : Ctr := { ins := [.v Ty51, .rf Ty51], out := [.bool], F := fun x => some ((f77 x.1 x.2.1, ()), ()) }
theorem v77 : LoopsOk Tryz.prog Γ t77 a77 (loopsIn (Tryz.f77.body.getD .skip) 0) := loopsOk_nil (by kernel_rfl)
theorem r77 (x : InsT c77.ins) : fnK Tryz.prog Γ t77 a77 Tryz.f77 c77 x = g77 x.1 x.2.1 := by kernel_rfl
theorem k77 : TblOk Tryz.prog t77 := tblOk_cons o78 (tblOk_nil)
theorem o77 : Holds Tryz.prog 77 c77 := fn_holds (code := Tryz.f77.body.getD .skip) (by kernel_rfl) gamOk k77 Tryz.func77 (by kernel_rfl) (by kernel_rfl) (by kernel_rfl) (by kernel_rfl) v77 (fun x _ h => (r77 x).trans ((n77 x.1 x.2.1).trans h))
/-! ### 99: slices.IndexFunc[[]loop.example/g00076/impl.Window,loop.example/g00076/impl.Window] -/
noncomputable def t99_77 : Tbl := [(77, [], c77)]
abbrev h99_77_L0 : Shape := { slots := [(0, .v Ty59), (1, .clo 77 [Ty51]), (7, .v (.int .i64)), (8, .v (.int .i64))], boxes := [] }
abbrev e99_77_L0 : List (XT × Shape) := [(.ret, { slots := [(4, .v (.int .i64))], boxes := [] }), (.exit 0, { slots := [], boxes := [] })]
noncomputable def q99_77_L0 (t0 : Ta11) (t1 : Ta21) (t7 : Int) (t8 : Int) : Option (Ta89 ⊕ (((Int × Unit) × Unit) ⊕ ((Unit × Unit) ⊕ Empty))) :=
  bif (decide (t8 < t7)) then
    bif (decide (0 ≤ t8) && decide (t8 < (t0.len : Int))) then
      bif (f77 (L.get t0 t8.toNat) t1.1) then
        some (.inr (.inl ((t8, ()), ())))
      else
        some (.inl ((t0, (t1, (t7, ((wI (t8 + (1 : Int))), ())))), ()))
    else
      none
  else
    some (.inr (.inr (.inl ((), ()))))
noncomputable def s99_77_L0 (x : Ta89) : Option (Ta89 ⊕ (((Int × Unit) × Unit) ⊕ ((Unit × Unit) ⊕ Empty))) := q99_77_L0 x.1.1 x.1.2.1 x.1.2.2.1 x.1.2.2.2.1
noncomputable def a99_77 : Nat → Option LoopAnn := fun c => bif Nat.beq c 0 then some (.fix h99_77_L0 e99_77_L0 s99_77_L0) else none
noncomputable def g99_77 (x0 : Ta11) (x1 : Ta21) : Option ((Int × Unit) × Unit) :=
  (fixO s99_77_L0 ((x0, (x1, ((x0.len : Int), ((0 : Int), ())))), ())).bind fun d2 => match d2 with
  | .inl y1 =>
    some ((y1.1.1, ()), ())
  | .inr (.inl y1) =>
    some (((-1 : Int), ()), ())
  | .inr (.inr e) => nomatch e
noncomputable def c99_77 : Ctr := { ins := [.v Ty59, .clo 77 [Ty51]], out := [(.int .i64)], F := fun x => g99_77 x.1 x.2.1 }
noncomputable def l99_77 : List (Nat × Code) := loopsIn (Tryz.f99.body.getD .skip) 0
theorem w99_77_L0 (x : h99_77_L0.T) : runK Tryz.prog Γ t99_77 (inlN Tryz.prog Γ t99_77 3) a99_77 (l99_77.getD 0 (0, .skip)).2 0 (pkSh h99_77_L0 x) (loopCls (sh := h99_77_L0) (es := e99_77_L0)) = (s99_77_L0 x : Option _) := by kernel_rfl
theorem v99_77 : LoopsOk Tryz.prog Γ t99_77 a99_77 (loopsIn (Tryz.f99.body.getD .skip) 0) := by
  have e : loopsIn (Tryz.f99.body.getD .skip) 0 = [(0, (l99_77.getD 0 (0, .skip)).2)] := by kernel_rfl
  rw [e]
  exact ⟨fun x d h => (w99_77_L0 x).trans h, trivial⟩
theorem r99_77 (x : InsT c99_77.ins) : fnK Tryz.prog Γ t99_77 a99_77 Tryz.f99 c99_77 x = g99_77 x.1 x.2.1 := by kernel_rfl
theorem k99_77 : TblOk Tryz.prog t99_77 := tblOk_cons o77 (tblOk_nil)
theorem o99_77 : Holds Tryz.prog 99 c99_77 := fn_holds (code := Tryz.f99.body.getD .skip) (by kernel_rfl) gamOk k99_77 Tryz.func99 (by kernel_rfl) (by kernel_rfl) (by kernel_rfl) (by kernel_rfl) v99_77 (fun x _ h => (r99_77 x).trans h)
/-! ### 76: slices.ContainsFunc[[]loop.example/g00076/impl.Window,loop.example/g00076/impl.Window] -/
noncomputable def t76_77 : Tbl := [(99, [77], c99_77)]
noncomputable def a76_77 : Nat → Option LoopAnn := fun _ => none
noncomputable def g76_77 (x0 : Ta11) (x1 : Ta21) : Option ((Bool × Unit) × Unit) :=
  (g99_77 x0 x1).bind fun y1 =>
    some (((decide (y1.1.1 ≥ (0 : Int))), ()), ())
noncomputable def c76_77 : Ctr := { ins := [.v Ty59, .clo 77 [Ty51]], out := [.bool], F := fun x => g76_77 x.1 x.2.1 }
theorem v76_77 : LoopsOk Tryz.prog Γ t76_77 a76_77 (loopsIn (Tryz.f76.body.getD .skip) 0) := loopsOk_nil (by kernel_rfl)
theorem r76_77 (x : InsT c76_77.ins) : fnK Tryz.prog Γ t76_77 a76_77 Tryz.f76 c76_77 x = g76_77 x.1 x.2.1 := by kernel_rfl
theorem k76_77 : TblOk Tryz.prog t76_77 := tblOk_cons o99_77 (tblOk_nil)
theorem o76_77 : Holds Tryz.prog 76 c76_77 := fn_holds (code := Tryz.f76.body.getD .skip) (by kernel_rfl) gamOk k76_77 Tryz.func76 (by kernel_rfl) (by kernel_rfl) (by kernel_rfl) (by kernel_rfl) v76_77 (fun x _ h => (r76_77 x).trans h)
/-! ### 108: loop.example/g00076/impl.windowAt$1 -/
noncomputable def t108 : Tbl := []
noncomputable def a108 : Nat → Option LoopAnn := fun _ => none
noncomputable def g108 (x0 : Ta6) (x1 : Int) : Option ((Bool × Unit) × Unit) :=
  bif (decide (x0.1 ≤ x1)) then
    some (((decide (x1 < (wI (x0.1 + x0.2.1)))), ()), ())
  else
    some ((false, ()), ())
noncomputable def f108 (x0 : Ta6) (x1 : Int) : Bool :=
  bif (decide (x0.1 ≤ x1)) then
    (decide (x1 < (wI (x0.1 + x0.2.1))))
  else
    false
theorem n108 (x0 : Ta6) (x1 : Int) : g108 x0 x1 = some ((f108 x0 x1, ()), ()) := by
  simp only [g108, f108, pull1]
noncomputable def c108 : Ctr := { ins := [.v Ty51, .rf (.int .i64)], out := [.bool], F := fun x => some ((f108 x.1 x.2.1, ()), ()) }
theorem v108 : LoopsOk Tryz.prog Γ t108 a108 (loopsIn (Tryz.f108.body.getD .skip) 0) := loopsOk_nil (by kernel_rfl)
theorem r108 (x : InsT c108.ins) : fnK Tryz.prog Γ t108 a108 Tryz.f108 c108 x = g108 x.1 x.2.1 := by kernel_rfl
theorem k108 : TblOk Tryz.prog t108 := tblOk_nil
theorem o108 : Holds Tryz.prog 108 c108 := fn_holds (code := Tryz.f108.body.getD .skip) (by kernel_rfl) gamOk k108 Tryz.func108 (by kernel_rfl) (by kernel_rfl) (by kernel_rfl) (by kernel_rfl) v108 (fun x _ h => (r108 x).trans ((n108 x.1 x.2.1).trans h))
/-! ### 99: slices.IndexFunc[[]loop.example/g00076/impl.Window,loop.example/g00076/impl.Window] -/
noncomputable def t99_108 : Tbl := [(108, [], c108)]
abbrev h99_108_L0 : Shape := { slots := [(0, .v Ty59), (1, .clo 108 [(.int .i64)]), (7, .v (.int .i64)), (8, .v (.int .i64))], boxes := [] }
abbrev e99_108_L0 : List (XT × Shape) := [(.ret, { slots := [(4, .v (.int .i64))], boxes := [] }), (.exit 0, { slots := [], boxes := [] })]
noncomputable def q99_108_L0 (t0 : Ta11) (t1 : (Int × Unit)) (t7 : Int) (t8 : Int) : Option (Ta69 ⊕ (((Int × Unit) × Unit) ⊕ ((Unit × Unit) ⊕ Empty))) :=
  bif (decide (t8 < t7)) then
    bif (decide (0 ≤ t8) && decide (t8 < (t0.len : Int))) then
      bif (f108 (L.get t0 t8.toNat) t1.1) then
        some (.inr (.inl ((t8, ()), ())))
      else
        some (.inl ((t0, (t1, (t7, ((wI (t8 + (1 : Int))), ())))), ()))
    else
      none
  else
    some (.inr (.inr (.inl ((), ()))))
noncomputable def s99_108_L0 (x : Ta69) : Option (Ta69 ⊕ (((Int × Unit) × Unit) ⊕ ((Unit × Unit) ⊕ Empty))) := q99_108_L0 x.1.1 x.1.2.1 x.1.2.2.1 x.1.2.2.2.1
noncomputable def a99_108 : Nat → Option LoopAnn := fun c => bif Nat.beq c 0 then some (.fix h99_108_L0 e99_108_L0 s99_108_L0) else none
noncomputable def g99_108 (x0 : Ta11) (x1 : (Int × Unit)) : Option ((Int × Unit) × Unit) :=
  (fixO s99_108_L0 ((x0, (x1, ((x0.len : Int), ((0 : Int), ())))), ())).bind fun d2 => match d2 with
  | .inl y1 =>
    some ((y1.1.1, ()), ())
  | .inr (.inl y1) =>
    some (((-1 : Int), ()), ())
  | .inr (.inr e) => nomatch e
noncomputable def c99_108 : Ctr := { ins := [.v Ty59, .clo 108 [(.int .i64)]], out := [(.int .i64)], F := fun x => g99_108 x.1 x.2.1 }
noncomputable def l99_108 : List (Nat × Code) := loopsIn (Tryz.f99.body.getD .skip) 0
theorem w99_108_L0 (x : h99_108_L0.T) : runK Tryz.prog Γ t99_108 (inlN Tryz.prog Γ t99_108 3) a99_108 (l99_108.getD 0 (0, .skip)).2 0 (pkSh h99_108_L0 x) (loopCls (sh := h99_108_L0) (es := e99_108_L0)) = (s99_108_L0 x : Option _) := by kernel_rfl
theorem v99_108 : LoopsOk Tryz.prog Γ t99_108 a99_108 (loopsIn (Tryz.f99.body.getD .skip) 0) := by
  have e : loopsIn (Tryz.f99.body.getD .skip) 0 = [(0, (l99_108.getD 0 (0, .skip)).2)] := by kernel_rfl
  rw [e]
  exact ⟨fun x d h => (w99_108_L0 x).trans h, trivial⟩
theorem r99_108 (x : InsT c99_108.ins) : fnK Tryz.prog Γ t99_108 a99_108 Tryz.f99 c99_108 x = g99_108 x.1 x.2.1 := by kernel_rfl
theorem k99_108 : TblOk Tryz.prog t99_108 := tblOk_cons o108 (tblOk_nil)
theorem o99_108 : Holds Tryz.prog 99 c99_108 := fn_holds (code := Tryz.f99.body.getD .skip) (by kernel_rfl) gamOk k99_108 Tryz.func99 (by kernel_rfl) (by kernel_rfl) (by kernel_rfl) (by kernel_rfl) v99_108 (fun x _ h => (r99_108 x).trans h)
/-! ### 100: loop.example/g00076/impl.windowAt -/
noncomputable def t100 : Tbl := [(99, [108], c99_108)]
noncomputable def a100 : Nat → Option LoopAnn := fun _ => none
noncomputable def g100 (x0 : Ta11) (x1 : Int) : Option ((Int × Unit) × Unit) :=
  (g99_108 x0 (x1, ())).bind fun y1 =>
    some ((y1.1.1, ()), ())
noncomputable def c100 : Ctr := { ins := [.v Ty59, .v (.int .i64)], out := [(.int .i64)], F := fun x => g100 x.1 x.2.1 }
theorem v100 : LoopsOk Tryz.prog Γ t100 a100 (loopsIn (Tryz.f100.body.getD .skip) 0) := loopsOk_nil (by kernel_rfl)
theorem r100 (x : InsT c100.ins) : fnK Tryz.prog Γ t100 a100 Tryz.f100 c100 x = g100 x.1 x.2.1 := by kernel_rfl
theorem k100 : TblOk Tryz.prog t100 := tblOk_cons o99_108 (tblOk_nil)
theorem o100 : Holds Tryz.prog 100 c100 := fn_holds (code := Tryz.f100.body.getD .skip) (by kernel_rfl) gamOk k100 Tryz.func100 (by kernel_rfl) (by kernel_rfl) (by kernel_rfl) (by kernel_rfl) v100 (fun x _ h => (r100 x).trans h)
/-! ### 79: loop.example/g00076/impl.runsAt -/
noncomputable def t79 : Tbl := [(100, [], c100)]
noncomputable def a79 : Nat → Option LoopAnn := fun _ => none
noncomputable def g79 (x0 : Ta75) (x1 : Int) : Option ((Bool × Unit) × Unit) :=
  (g100 x0.2.2.2.1 x1).bind fun y1 =>
    bif (decide (y1.1.1 ≥ (0 : Int))) then
      bif (decide (0 ≤ y1.1.1) && decide (y1.1.1 < (x0.2.2.2.1.len : Int))) then
        some ((((andOf .i64 (L.get x0.2.2.2.1 y1.1.1.toNat).2.2.1 (4 : Int)) != (0 : Int)), ()), ())
      else
        none
    else
      some ((false, ()), ())
noncomputable def c79 : Ctr := { ins := [.v Ty112, .v (.int .i64)], out := [.bool], F := fun x => g79 x.1 x.2.1 }
theorem v79 : LoopsOk Tryz.prog Γ t79 a79 (loopsIn (Tryz.f79.body.getD .skip) 0) := loopsOk_nil (by kernel_rfl)
theorem r79 (x : InsT c79.ins) : fnK Tryz.prog Γ t79 a79 Tryz.f79 c79 x = g79 x.1 x.2.1 := by kernel_rfl
theorem k79 : TblOk Tryz.prog t79 := tblOk_cons o100 (tblOk_nil)
theorem o79 : Holds Tryz.prog 79 c79 := fn_holds (code := Tryz.f79.body.getD .skip) (by kernel_rfl) gamOk k79 Tryz.func79 (by kernel_rfl) (by kernel_rfl) (by kernel_rfl) (by kernel_rfl) v79 (fun x _ h => (r79 x).trans h)
/-! ### 48: loop.example/g00076/impl.areParts -/
noncomputable def t48 : Tbl := [(72, [], c72), (73, [], c73), (74, [], c74), (44, [], c44), (75, [], c75), (76, [77], c76_77), (79, [], c79)]
abbrev h48_L2 : Shape := { slots := [(1, .bx 1 0), (3, .exo Ty51 50003), (5, .bx 5 0), (9, .v Ty113), (10, .v (.int .i64)), (11, .v (.int .i64)), (42, .v Ty59), (43, .v (.int .i64)), (44, .v (.int .i64))], boxes := [(1, .typ Ty147), (5, .typ Ty112)] }
abbrev e48_L2 : List (XT × Shape) := [(.ret, { slots := [(2, .v .bool)], boxes := [] }), (.exit 2, { slots := [(1, .bx 1 0), (3, .exo Ty51 50003), (5, .bx 5 0), (9, .v Ty113), (10, .v (.int .i64)), (11, .v (.int .i64))], boxes := [(1, .typ Ty147), (5, .typ Ty112)] })]
noncomputable def q48_L2 (t3 : Ta11) (t9 : Ta78) (t10 : Int) (t11 : Int) (t42 : Ta11) (t43 : Int) (t44 : Int) (b1 : Ta129) (b5 : Ta75) : Option (Ta145 ⊕ (((Bool × Unit) × Unit) ⊕ (((Unit × (Ta11 × (Unit × Ta92))) × Ta139) ⊕ Empty))) :=
  bif (decide (t44 < t43)) then
    bif (decide (0 ≤ t44) && decide (t44 < (t42.len : Int))) then
      bif (!(f75 (L.get t42 t44.toNat))) then
        some (.inr (.inl ((false, ()), ())))
      else
        bif (decide ((wI ((L.get t42 t44.toNat).1 + (L.get t42 t44.toNat).2.1)) > b1.1)) then
          some (.inr (.inl ((false, ()), ())))
        else
          (g76_77 t3 ((L.get t42 t44.toNat), ())).bind fun y3 =>
            bif y3.1.1 then
              some (.inr (.inl ((false, ()), ())))
            else
              bif (decide (t3.len + (L.of (Ty.zero Ty51) [(L.get t42 t44.toNat)]).len ≤ most)) then
                some (.inl (((), ((L.app t3 (L.of (Ty.zero Ty51) [(L.get t42 t44.toNat)])), ((), (t9, (t10, (t11, (t42, (t43, ((wI (t44 + (1 : Int))), ()))))))))), (b1, (b5, ()))))
              else
                none
    else
      none
  else
    some (.inr (.inr (.inl (((), (t3, ((), (t9, (t10, (t11, ())))))), (b1, (b5, ()))))))
noncomputable def s48_L2 (x : Ta145) : Option (Ta145 ⊕ (((Bool × Unit) × Unit) ⊕ (((Unit × (Ta11 × (Unit × Ta92))) × Ta139) ⊕ Empty))) := q48_L2 x.1.2.1 x.1.2.2.2.1 x.1.2.2.2.2.1 x.1.2.2.2.2.2.1 x.1.2.2.2.2.2.2.1 x.1.2.2.2.2.2.2.2.1 x.1.2.2.2.2.2.2.2.2.1 x.2.1 x.2.2.1
abbrev h48_L0 : Shape := { slots := [(1, .bx 1 0), (3, .exo Ty51 50003), (9, .v Ty113), (10, .v (.int .i64)), (11, .v (.int .i64))], boxes := [(1, .typ Ty147)] }
abbrev e48_L0 : List (XT × Shape) := [(.ret, { slots := [(2, .v .bool)], boxes := [] }), (.exit 0, { slots := [], boxes := [] })]
noncomputable def q48_L0 (t3 : Ta11) (t9 : Ta78) (t10 : Int) (t11 : Int) (b1 : Ta129) : Option (Ta142 ⊕ (((Bool × Unit) × Unit) ⊕ ((Unit × Unit) ⊕ Empty))) :=
  bif (decide (t11 < t10)) then
    bif (decide (0 ≤ t11) && decide (t11 < (t9.len : Int))) then
      (g72 (L.get t9 t11.toNat).1).bind fun y1 =>
        bif (!y1.1.1) then
          some (.inr (.inl ((false, ()), ())))
        else
          (g73 b1 (L.get t9 t11.toNat).1).bind fun y2 =>
            bif (decide (y2.1.1 < t11)) then
              some (.inr (.inl ((false, ()), ())))
            else
              bif (!(f74 (L.get t9 t11.toNat).2.2.1)) then
                some (.inr (.inl ((false, ()), ())))
              else
                bif (!(f44 ((L.get t9 t11.toNat).2.2.2.1.len : Int) (1 : Int) (4 : Int))) then
                  some (.inr (.inl ((false, ()), ())))
                else
                  (fixO s48_L2 (((), (t3, ((), (t9, (t10, (t11, ((L.get t9 t11.toNat).2.2.2.1, (((L.get t9 t11.toNat).2.2.2.1.len : Int), ((0 : Int), ()))))))))), (b1, ((L.get t9 t11.toNat), ())))).bind fun d6 => match d6 with
                  | .inl y4 =>
                    some (.inr (.inl y4))
                  | .inr (.inl y4) =>
                    bif ((Int.tmod y4.2.2.1.2.1 (4 : Int)) != (0 : Int)) then
                      some (.inr (.inl ((false, ()), ())))
                    else
                      (g79 y4.2.2.1 y4.2.2.1.2.1).bind fun y5 =>
                        bif (!y5.1.1) then
                          some (.inr (.inl ((false, ()), ())))
                        else
                          some (.inl (((), (y4.1.2.1, (y4.1.2.2.2.1, (y4.1.2.2.2.2.1, ((wI (y4.1.2.2.2.2.2.1 + (1 : Int))), ()))))), (y4.2.1, ())))
                  | .inr (.inr e) => nomatch e
    else
      none
  else
    some (.inr (.inr (.inl ((), ()))))
noncomputable def s48_L0 (x : Ta142) : Option (Ta142 ⊕ (((Bool × Unit) × Unit) ⊕ ((Unit × Unit) ⊕ Empty))) := q48_L0 x.1.2.1 x.1.2.2.1 x.1.2.2.2.1 x.1.2.2.2.2.1 x.2.1
noncomputable def a48 : Nat → Option LoopAnn := fun c => bif Nat.beq c 2 then some (.fix h48_L2 e48_L2 s48_L2) else bif Nat.beq c 0 then some (.fix h48_L0 e48_L0 s48_L0) else none
noncomputable def g48 (x0 : Ta129) : Option ((Bool × Unit) × Unit) :=
  (fixO s48_L0 (((), ((nilL Ty51), (x0.2.2.2.2.2.2.2.1, ((x0.2.2.2.2.2.2.2.1.len : Int), ((0 : Int), ()))))), (x0, ()))).bind fun d8 => match d8 with
  | .inl y7 =>
    some ((y7.1.1, ()), ())
  | .inr (.inl y7) =>
    some ((true, ()), ())
  | .inr (.inr e) => nomatch e
noncomputable def c48 : Ctr := { ins := [.v Ty147], out := [.bool], F := fun x => g48 x.1 }
noncomputable def l48 : List (Nat × Code) := loopsIn (Tryz.f48.body.getD .skip) 0
theorem w48_L2 (x : h48_L2.T) : runK Tryz.prog Γ t48 (inlN Tryz.prog Γ t48 3) a48 (l48.getD 1 (0, .skip)).2 2 (pkSh h48_L2 x) (loopCls (sh := h48_L2) (es := e48_L2)) = (s48_L2 x : Option _) := by kernel_rfl
theorem w48_L0 (x : h48_L0.T) : runK Tryz.prog Γ t48 (inlN Tryz.prog Γ t48 3) a48 (l48.getD 0 (0, .skip)).2 0 (pkSh h48_L0 x) (loopCls (sh := h48_L0) (es := e48_L0)) = (s48_L0 x : Option _) := by kernel_rfl
theorem v48 : LoopsOk Tryz.prog Γ t48 a48 (loopsIn (Tryz.f48.body.getD .skip) 0) := by
  have e : loopsIn (Tryz.f48.body.getD .skip) 0 = [(0, (l48.getD 0 (0, .skip)).2), (2, (l48.getD 1 (0, .skip)).2)] := by kernel_rfl
  rw [e]
  exact ⟨fun x d h => (w48_L0 x).trans h, fun x d h => (w48_L2 x).trans h, trivial⟩
theorem r48 (x : InsT c48.ins) : fnK Tryz.prog Γ t48 a48 Tryz.f48 c48 x = g48 x.1 := by kernel_rfl
theorem k48 : TblOk Tryz.prog t48 := tblOk_cons o72 (tblOk_cons o73 (tblOk_cons o74 (tblOk_cons o44 (tblOk_cons o75 (tblOk_cons o76_77 (tblOk_cons o79 (tblOk_nil)))))))
theorem o48 : Holds Tryz.prog 48 c48 := fn_holds (code := Tryz.f48.body.getD .skip) (by kernel_rfl) gamOk k48 Tryz.func48 (by kernel_rfl) (by kernel_rfl) (by kernel_rfl) (by kernel_rfl) v48 (fun x _ h => (r48 x).trans h)
/-! ### 50: loop.example/g00076/impl.isSound$1 -/
noncomputable def t50 : Tbl := [(44, [], c44)]
noncomputable def a50 : Nat → Option LoopAnn := fun _ => none
noncomputable def g50 (x0 : Int) (x1 : Int) : Option ((Bool × Unit) × Unit) :=
  some (((!(f44 x0 (0 : Int) (wI (x1 - (1 : Int))))), ()), ())
noncomputable def f50 (x0 : Int) (x1 : Int) : Bool :=
  (!(f44 x0 (0 : Int) (wI (x1 - (1 : Int)))))
theorem n50 (x0 : Int) (x1 : Int) : g50 x0 x1 = some ((f50 x0 x1, ()), ()) := by
  simp only [g50, f50, pull1]
noncomputable def c50 : Ctr := { ins := [.v (.int .i64), .rf (.int .i64)], out := [.bool], F := fun x => some ((f50 x.1 x.2.1, ()), ()) }
theorem v50 : LoopsOk Tryz.prog Γ t50 a50 (loopsIn (Tryz.f50.body.getD .skip) 0) := loopsOk_nil (by kernel_rfl)
theorem r50 (x : InsT c50.ins) : fnK Tryz.prog Γ t50 a50 Tryz.f50 c50 x = g50 x.1 x.2.1 := by kernel_rfl
theorem k50 : TblOk Tryz.prog t50 := tblOk_cons o44 (tblOk_nil)
theorem o50 : Holds Tryz.prog 50 c50 := fn_holds (code := Tryz.f50.body.getD .skip) (by kernel_rfl) gamOk k50 Tryz.func50 (by kernel_rfl) (by kernel_rfl) (by kernel_rfl) (by kernel_rfl) v50 (fun x _ h => (r50 x).trans ((n50 x.1 x.2.1).trans h))
/-! ### 80: slices.IndexFunc[[]int,int] -/
noncomputable def t80_50 : Tbl := [(50, [], c50)]
abbrev h80_50_L0 : Shape := { slots := [(0, .v (.sl (.int .i64))), (1, .clo 50 [(.int .i64)]), (7, .v (.int .i64)), (8, .v (.int .i64))], boxes := [] }
abbrev e80_50_L0 : List (XT × Shape) := [(.ret, { slots := [(4, .v (.int .i64))], boxes := [] }), (.exit 0, { slots := [], boxes := [] })]
noncomputable def q80_50_L0 (t0 : (L Int)) (t1 : (Int × Unit)) (t7 : Int) (t8 : Int) : Option (Ta45 ⊕ (((Int × Unit) × Unit) ⊕ ((Unit × Unit) ⊕ Empty))) :=
  bif (decide (t8 < t7)) then
    bif (decide (0 ≤ t8) && decide (t8 < (t0.len : Int))) then
      bif (f50 (L.get t0 t8.toNat) t1.1) then
        some (.inr (.inl ((t8, ()), ())))
      else
        some (.inl ((t0, (t1, (t7, ((wI (t8 + (1 : Int))), ())))), ()))
    else
      none
  else
    some (.inr (.inr (.inl ((), ()))))
noncomputable def s80_50_L0 (x : Ta45) : Option (Ta45 ⊕ (((Int × Unit) × Unit) ⊕ ((Unit × Unit) ⊕ Empty))) := q80_50_L0 x.1.1 x.1.2.1 x.1.2.2.1 x.1.2.2.2.1
noncomputable def a80_50 : Nat → Option LoopAnn := fun c => bif Nat.beq c 0 then some (.fix h80_50_L0 e80_50_L0 s80_50_L0) else none
noncomputable def g80_50 (x0 : (L Int)) (x1 : (Int × Unit)) : Option ((Int × Unit) × Unit) :=
  (fixO s80_50_L0 ((x0, (x1, ((x0.len : Int), ((0 : Int), ())))), ())).bind fun d2 => match d2 with
  | .inl y1 =>
    some ((y1.1.1, ()), ())
  | .inr (.inl y1) =>
    some (((-1 : Int), ()), ())
  | .inr (.inr e) => nomatch e
noncomputable def c80_50 : Ctr := { ins := [.v (.sl (.int .i64)), .clo 50 [(.int .i64)]], out := [(.int .i64)], F := fun x => g80_50 x.1 x.2.1 }
noncomputable def l80_50 : List (Nat × Code) := loopsIn (Tryz.f80.body.getD .skip) 0
theorem w80_50_L0 (x : h80_50_L0.T) : runK Tryz.prog Γ t80_50 (inlN Tryz.prog Γ t80_50 3) a80_50 (l80_50.getD 0 (0, .skip)).2 0 (pkSh h80_50_L0 x) (loopCls (sh := h80_50_L0) (es := e80_50_L0)) = (s80_50_L0 x : Option _) := by kernel_rfl
theorem v80_50 : LoopsOk Tryz.prog Γ t80_50 a80_50 (loopsIn (Tryz.f80.body.getD .skip) 0) := by
  have e : loopsIn (Tryz.f80.body.getD .skip) 0 = [(0, (l80_50.getD 0 (0, .skip)).2)] := by kernel_rfl
  rw [e]
  exact ⟨fun x d h => (w80_50_L0 x).trans h, trivial⟩
theorem r80_50 (x : InsT c80_50.ins) : fnK Tryz.prog Γ t80_50 a80_50 Tryz.f80 c80_50 x = g80_50 x.1 x.2.1 := by kernel_rfl
theorem k80_50 : TblOk Tryz.prog t80_50 := tblOk_cons o50 (tblOk_nil)
theorem o80_50 : Holds Tryz.prog 80 c80_50 := fn_holds (code := Tryz.f80.body.getD .skip) (by kernel_rfl) gamOk k80_50 Tryz.func80 (by kernel_rfl) (by kernel_rfl) (by kernel_rfl) (by kernel_rfl) v80_50 (fun x _ h => (r80_50 x).trans h)
/-! ### 49: slices.ContainsFunc[[]int,int] -/
noncomputable def t49_50 : Tbl := [(80, [50], c80_50)]
noncomputable def a49_50 : Nat → Option LoopAnn := fun _ => none
noncomputable def g49_50 (x0 : (L Int)) (x1 : (Int × Unit)) : Option ((Bool × Unit) × Unit) :=
  (g80_50 x0 x1).bind fun y1 =>
    some (((decide (y1.1.1 ≥ (0 : Int))), ()), ())
noncomputable def c49_50 : Ctr := { ins := [.v (.sl (.int .i64)), .clo 50 [(.int .i64)]], out := [.bool], F := fun x => g49_50 x.1 x.2.1 }
theorem v49_50 : LoopsOk Tryz.prog Γ t49_50 a49_50 (loopsIn (Tryz.f49.body.getD .skip) 0) := loopsOk_nil (by kernel_rfl)
theorem r49_50 (x : InsT c49_50.ins) : fnK Tryz.prog Γ t49_50 a49_50 Tryz.f49 c49_50 x = g49_50 x.1 x.2.1 := by kernel_rfl
theorem k49_50 : TblOk Tryz.prog t49_50 := tblOk_cons o80_50 (tblOk_nil)
theorem o49_50 : Holds Tryz.prog 49 c49_50 := fn_holds (code := Tryz.f49.body.getD .skip) (by kernel_rfl) gamOk k49_50 Tryz.func49 (by kernel_rfl) (by kernel_rfl) (by kernel_rfl) (by kernel_rfl) v49_50 (fun x _ h => (r49_50 x).trans h)
/-! ### 53: loop.example/g00076/impl.isChan -/
noncomputable def t53 : Tbl := [(44, [], c44)]
noncomputable def a53 : Nat → Option LoopAnn := fun _ => none
noncomputable def g53 (x0 : Ta19) : Option ((Bool × Unit) × Unit) :=
  bif (!(f44 x0.2.1 (0 : Int) (5 : Int))) then
    some ((false, ()), ())
  else
    bif (!(f44 x0.2.2.1 (0 : Int) (5 : Int))) then
      some ((false, ()), ())
    else
      bif (x0.2.1 == x0.2.2.1) then
        some ((false, ()), ())
      else
        bif (x0.1 == (0 : Int)) then
          bif (x0.2.2.2.1 == (0 : Int)) then
            some ((true, ()), ())
          else
            bif (x0.1 == (1 : Int)) then
              some (((f44 x0.2.2.2.1 (1 : Int) (8 : Int)), ()), ())
            else
              some ((false, ()), ())
        else
          bif (x0.1 == (1 : Int)) then
            some (((f44 x0.2.2.2.1 (1 : Int) (8 : Int)), ()), ())
          else
            some ((false, ()), ())
noncomputable def f53 (x0 : Ta19) : Bool :=
  bif (!(f44 x0.2.1 (0 : Int) (5 : Int))) then
    false
  else
    bif (!(f44 x0.2.2.1 (0 : Int) (5 : Int))) then
      false
    else
      bif (x0.2.1 == x0.2.2.1) then
        false
      else
        bif (x0.1 == (0 : Int)) then
          bif (x0.2.2.2.1 == (0 : Int)) then
            true
          else
            bif (x0.1 == (1 : Int)) then
              (f44 x0.2.2.2.1 (1 : Int) (8 : Int))
            else
              false
        else
          bif (x0.1 == (1 : Int)) then
            (f44 x0.2.2.2.1 (1 : Int) (8 : Int))
          else
            false
theorem n53 (x0 : Ta19) : g53 x0 = some ((f53 x0, ()), ()) := by
  simp only [g53, f53, pull1]
noncomputable def c53 : Ctr := { ins := [.v Ty72], out := [.bool], F := fun x => some ((f53 x.1, ()), ()) }
theorem v53 : LoopsOk Tryz.prog Γ t53 a53 (loopsIn (Tryz.f53.body.getD .skip) 0) := loopsOk_nil (by kernel_rfl)
theorem r53 (x : InsT c53.ins) : fnK Tryz.prog Γ t53 a53 Tryz.f53 c53 x = g53 x.1 := by kernel_rfl
theorem k53 : TblOk Tryz.prog t53 := tblOk_cons o44 (tblOk_nil)
theorem o53 : Holds Tryz.prog 53 c53 := fn_holds (code := Tryz.f53.body.getD .skip) (by kernel_rfl) gamOk k53 Tryz.func53 (by kernel_rfl) (by kernel_rfl) (by kernel_rfl) (by kernel_rfl) v53 (fun x _ h => (r53 x).trans ((n53 x.1).trans h))
/-! ### 52: loop.example/g00076/impl.isSound$2 -/
noncomputable def t52 : Tbl := [(53, [], c53)]
noncomputable def a52 : Nat → Option LoopAnn := fun _ => none
noncomputable def g52 (x0 : Ta19) (x1 : Int) : Option ((Bool × Unit) × Unit) :=
  bif (!(f53 x0)) then
    some ((true, ()), ())
  else
    bif (decide (x0.2.1 ≥ x1)) then
      some ((true, ()), ())
    else
      some (((decide (x0.2.2.1 ≥ x1)), ()), ())
noncomputable def f52 (x0 : Ta19) (x1 : Int) : Bool :=
  bif (!(f53 x0)) then
    true
  else
    bif (decide (x0.2.1 ≥ x1)) then
      true
    else
      (decide (x0.2.2.1 ≥ x1))
theorem n52 (x0 : Ta19) (x1 : Int) : g52 x0 x1 = some ((f52 x0 x1, ()), ()) := by
  simp only [g52, f52, pull1]
noncomputable def c52 : Ctr := { ins := [.v Ty72, .rf (.int .i64)], out := [.bool], F := fun x => some ((f52 x.1 x.2.1, ()), ()) }
theorem v52 : LoopsOk Tryz.prog Γ t52 a52 (loopsIn (Tryz.f52.body.getD .skip) 0) := loopsOk_nil (by kernel_rfl)
theorem r52 (x : InsT c52.ins) : fnK Tryz.prog Γ t52 a52 Tryz.f52 c52 x = g52 x.1 x.2.1 := by kernel_rfl
theorem k52 : TblOk Tryz.prog t52 := tblOk_cons o53 (tblOk_nil)
theorem o52 : Holds Tryz.prog 52 c52 := fn_holds (code := Tryz.f52.body.getD .skip) (by kernel_rfl) gamOk k52 Tryz.func52 (by kernel_rfl) (by kernel_rfl) (by kernel_rfl) (by kernel_rfl) v52 (fun x _ h => (r52 x).trans ((n52 x.1 x.2.1).trans h))
/-! ### 81: slices.IndexFunc[[]loop.example/g00076/impl.ChanRow,loop.example/g00076/impl.ChanRow] -/
noncomputable def t81_52 : Tbl := [(52, [], c52)]
abbrev h81_52_L0 : Shape := { slots := [(0, .v Ty76), (1, .clo 52 [(.int .i64)]), (7, .v (.int .i64)), (8, .v (.int .i64))], boxes := [] }
abbrev e81_52_L0 : List (XT × Shape) := [(.ret, { slots := [(4, .v (.int .i64))], boxes := [] }), (.exit 0, { slots := [], boxes := [] })]
noncomputable def q81_52_L0 (t0 : Ta24) (t1 : (Int × Unit)) (t7 : Int) (t8 : Int) : Option (Ta77 ⊕ (((Int × Unit) × Unit) ⊕ ((Unit × Unit) ⊕ Empty))) :=
  bif (decide (t8 < t7)) then
    bif (decide (0 ≤ t8) && decide (t8 < (t0.len : Int))) then
      bif (f52 (L.get t0 t8.toNat) t1.1) then
        some (.inr (.inl ((t8, ()), ())))
      else
        some (.inl ((t0, (t1, (t7, ((wI (t8 + (1 : Int))), ())))), ()))
    else
      none
  else
    some (.inr (.inr (.inl ((), ()))))
noncomputable def s81_52_L0 (x : Ta77) : Option (Ta77 ⊕ (((Int × Unit) × Unit) ⊕ ((Unit × Unit) ⊕ Empty))) := q81_52_L0 x.1.1 x.1.2.1 x.1.2.2.1 x.1.2.2.2.1
noncomputable def a81_52 : Nat → Option LoopAnn := fun c => bif Nat.beq c 0 then some (.fix h81_52_L0 e81_52_L0 s81_52_L0) else none
noncomputable def g81_52 (x0 : Ta24) (x1 : (Int × Unit)) : Option ((Int × Unit) × Unit) :=
  (fixO s81_52_L0 ((x0, (x1, ((x0.len : Int), ((0 : Int), ())))), ())).bind fun d2 => match d2 with
  | .inl y1 =>
    some ((y1.1.1, ()), ())
  | .inr (.inl y1) =>
    some (((-1 : Int), ()), ())
  | .inr (.inr e) => nomatch e
noncomputable def c81_52 : Ctr := { ins := [.v Ty76, .clo 52 [(.int .i64)]], out := [(.int .i64)], F := fun x => g81_52 x.1 x.2.1 }
noncomputable def l81_52 : List (Nat × Code) := loopsIn (Tryz.f81.body.getD .skip) 0
theorem w81_52_L0 (x : h81_52_L0.T) : runK Tryz.prog Γ t81_52 (inlN Tryz.prog Γ t81_52 3) a81_52 (l81_52.getD 0 (0, .skip)).2 0 (pkSh h81_52_L0 x) (loopCls (sh := h81_52_L0) (es := e81_52_L0)) = (s81_52_L0 x : Option _) := by kernel_rfl
theorem v81_52 : LoopsOk Tryz.prog Γ t81_52 a81_52 (loopsIn (Tryz.f81.body.getD .skip) 0) := by
  have e : loopsIn (Tryz.f81.body.getD .skip) 0 = [(0, (l81_52.getD 0 (0, .skip)).2)] := by kernel_rfl
  rw [e]
  exact ⟨fun x d h => (w81_52_L0 x).trans h, trivial⟩
theorem r81_52 (x : InsT c81_52.ins) : fnK Tryz.prog Γ t81_52 a81_52 Tryz.f81 c81_52 x = g81_52 x.1 x.2.1 := by kernel_rfl
theorem k81_52 : TblOk Tryz.prog t81_52 := tblOk_cons o52 (tblOk_nil)
theorem o81_52 : Holds Tryz.prog 81 c81_52 := fn_holds (code := Tryz.f81.body.getD .skip) (by kernel_rfl) gamOk k81_52 Tryz.func81 (by kernel_rfl) (by kernel_rfl) (by kernel_rfl) (by kernel_rfl) v81_52 (fun x _ h => (r81_52 x).trans h)
/-! ### 51: slices.ContainsFunc[[]loop.example/g00076/impl.ChanRow,loop.example/g00076/impl.ChanRow] -/
noncomputable def t51_52 : Tbl := [(81, [52], c81_52)]
noncomputable def a51_52 : Nat → Option LoopAnn := fun _ => none
noncomputable def g51_52 (x0 : Ta24) (x1 : (Int × Unit)) : Option ((Bool × Unit) × Unit) :=
  (g81_52 x0 x1).bind fun y1 =>
    some (((decide (y1.1.1 ≥ (0 : Int))), ()), ())
noncomputable def c51_52 : Ctr := { ins := [.v Ty76, .clo 52 [(.int .i64)]], out := [.bool], F := fun x => g51_52 x.1 x.2.1 }
theorem v51_52 : LoopsOk Tryz.prog Γ t51_52 a51_52 (loopsIn (Tryz.f51.body.getD .skip) 0) := loopsOk_nil (by kernel_rfl)
theorem r51_52 (x : InsT c51_52.ins) : fnK Tryz.prog Γ t51_52 a51_52 Tryz.f51 c51_52 x = g51_52 x.1 x.2.1 := by kernel_rfl
theorem k51_52 : TblOk Tryz.prog t51_52 := tblOk_cons o81_52 (tblOk_nil)
theorem o51_52 : Holds Tryz.prog 51 c51_52 := fn_holds (code := Tryz.f51.body.getD .skip) (by kernel_rfl) gamOk k51_52 Tryz.func51 (by kernel_rfl) (by kernel_rfl) (by kernel_rfl) (by kernel_rfl) v51_52 (fun x _ h => (r51_52 x).trans h)
/-! ### 82: loop.example/g00076/impl.depthOf -/
noncomputable def t82 : Tbl := []
noncomputable def a82 : Nat → Option LoopAnn := fun _ => none
noncomputable def g82 (x0 : Ta19) : Option ((Int × Unit) × Unit) :=
  some (((if x0.2.2.2.1 > (1 : Int) then x0.2.2.2.1 else (1 : Int)), ()), ())
noncomputable def f82 (x0 : Ta19) : Int :=
  (if x0.2.2.2.1 > (1 : Int) then x0.2.2.2.1 else (1 : Int))
theorem n82 (x0 : Ta19) : g82 x0 = some ((f82 x0, ()), ()) := by
  simp only [g82, f82, pull1]
noncomputable def c82 : Ctr := { ins := [.v Ty72], out := [(.int .i64)], F := fun x => some ((f82 x.1, ()), ()) }
theorem v82 : LoopsOk Tryz.prog Γ t82 a82 (loopsIn (Tryz.f82.body.getD .skip) 0) := loopsOk_nil (by kernel_rfl)
theorem r82 (x : InsT c82.ins) : fnK Tryz.prog Γ t82 a82 Tryz.f82 c82 x = g82 x.1 := by kernel_rfl
theorem k82 : TblOk Tryz.prog t82 := tblOk_nil
theorem o82 : Holds Tryz.prog 82 c82 := fn_holds (code := Tryz.f82.body.getD .skip) (by kernel_rfl) gamOk k82 Tryz.func82 (by kernel_rfl) (by kernel_rfl) (by kernel_rfl) (by kernel_rfl) v82 (fun x _ h => (r82 x).trans ((n82 x.1).trans h))
/-! ### 54: loop.example/g00076/impl.worstPad -/
noncomputable def t54 : Tbl := [(82, [], c82)]
abbrev h54_L0 : Shape := { slots := [(3, .bx 3 0), (7, .v (.int .i64)), (22, .v Ty76), (23, .v (.int .i64)), (24, .v (.int .i64))], boxes := [(3, .typ Ty102)] }
abbrev e54_L0 : List (XT × Shape) := [(.exit 0, { slots := [(7, .v (.int .i64))], boxes := [] })]
noncomputable def q54_L0 (t7 : Int) (t22 : Ta24) (t23 : Int) (t24 : Int) (b3 : Ta49) : Option (Ta108 ⊕ (((Int × Unit) × Unit) ⊕ Empty)) :=
  bif (decide (t24 < t23)) then
    bif (decide (0 ≤ t24) && decide (t24 < (t22.len : Int))) then
      some (.inl (((), ((wI (t7 + (wI (b3.1 * (f82 (L.get t22 t24.toNat)))))), (t22, (t23, ((wI (t24 + (1 : Int))), ()))))), (b3, ())))
    else
      none
  else
    some (.inr (.inl ((t7, ()), ())))
noncomputable def s54_L0 (x : Ta108) : Option (Ta108 ⊕ (((Int × Unit) × Unit) ⊕ Empty)) := q54_L0 x.1.2.1 x.1.2.2.1 x.1.2.2.2.1 x.1.2.2.2.2.1 x.2.1
noncomputable def a54 : Nat → Option LoopAnn := fun c => bif Nat.beq c 0 then some (.fix h54_L0 e54_L0 s54_L0) else none
noncomputable def g54 (x0 : Ta49) (x1 : Ta6) (x2 : Ta24) : Option ((Int × Unit) × Unit) :=
  (fixO s54_L0 (((), ((wI ((wI ((16 : Int) * x0.1)) + (wI ((wI (x1.1 * x1.2.1)) * x0.2.2.2.2.2.2.1)))), (x2, ((x2.len : Int), ((0 : Int), ()))))), (x0, ()))).bind fun d2 => match d2 with
  | .inl y1 =>
    some ((y1.1.1, ()), ())
  | .inr e => nomatch e
noncomputable def c54 : Ctr := { ins := [.v Ty102, .v Ty51, .v Ty76], out := [(.int .i64)], F := fun x => g54 x.1 x.2.1 x.2.2.1 }
noncomputable def l54 : List (Nat × Code) := loopsIn (Tryz.f54.body.getD .skip) 0
theorem w54_L0 (x : h54_L0.T) : runK Tryz.prog Γ t54 (inlN Tryz.prog Γ t54 3) a54 (l54.getD 0 (0, .skip)).2 0 (pkSh h54_L0 x) (loopCls (sh := h54_L0) (es := e54_L0)) = (s54_L0 x : Option _) := by kernel_rfl
theorem v54 : LoopsOk Tryz.prog Γ t54 a54 (loopsIn (Tryz.f54.body.getD .skip) 0) := by
  have e : loopsIn (Tryz.f54.body.getD .skip) 0 = [(0, (l54.getD 0 (0, .skip)).2)] := by kernel_rfl
  rw [e]
  exact ⟨fun x d h => (w54_L0 x).trans h, trivial⟩
theorem r54 (x : InsT c54.ins) : fnK Tryz.prog Γ t54 a54 Tryz.f54 c54 x = g54 x.1 x.2.1 x.2.2.1 := by kernel_rfl
theorem k54 : TblOk Tryz.prog t54 := tblOk_cons o82 (tblOk_nil)
theorem o54 : Holds Tryz.prog 54 c54 := fn_holds (code := Tryz.f54.body.getD .skip) (by kernel_rfl) gamOk k54 Tryz.func54 (by kernel_rfl) (by kernel_rfl) (by kernel_rfl) (by kernel_rfl) v54 (fun x _ h => (r54 x).trans h)
/-! ### 83: loop.example/g00076/impl.isSlotAt -/
noncomputable def t83 : Tbl := []
noncomputable def a83 : Nat → Option LoopAnn := fun _ => none
noncomputable def g83 (x0 : Ta129) (x1 : Ta6) (x2 : Int) : Option ((Bool × Unit) × Unit) :=
  bif (decide (x1.2.2.1 > (wI (x0.2.2.2.2.1 + x0.2.2.2.2.2.1)))) then
    bif (decide (x1.2.2.1 ≤ x0.2.2.2.2.2.2.1)) then
      bif (decide (x1.2.1 ≥ x2)) then
        some (((decide (x1.2.1 ≤ (wI (x0.2.2.2.2.2.2.1 - x1.2.2.1)))), ()), ())
      else
        some ((false, ()), ())
    else
      some ((false, ()), ())
  else
    some ((false, ()), ())
noncomputable def f83 (x0 : Ta129) (x1 : Ta6) (x2 : Int) : Bool :=
  bif (decide (x1.2.2.1 > (wI (x0.2.2.2.2.1 + x0.2.2.2.2.2.1)))) then
    bif (decide (x1.2.2.1 ≤ x0.2.2.2.2.2.2.1)) then
      bif (decide (x1.2.1 ≥ x2)) then
        (decide (x1.2.1 ≤ (wI (x0.2.2.2.2.2.2.1 - x1.2.2.1))))
      else
        false
    else
      false
  else
    false
theorem n83 (x0 : Ta129) (x1 : Ta6) (x2 : Int) : g83 x0 x1 x2 = some ((f83 x0 x1 x2, ()), ()) := by
  simp only [g83, f83, pull1]
noncomputable def c83 : Ctr := { ins := [.v Ty147, .v Ty51, .v (.int .i64)], out := [.bool], F := fun x => some ((f83 x.1 x.2.1 x.2.2.1, ()), ()) }
theorem v83 : LoopsOk Tryz.prog Γ t83 a83 (loopsIn (Tryz.f83.body.getD .skip) 0) := loopsOk_nil (by kernel_rfl)
theorem r83 (x : InsT c83.ins) : fnK Tryz.prog Γ t83 a83 Tryz.f83 c83 x = g83 x.1 x.2.1 x.2.2.1 := by kernel_rfl
theorem k83 : TblOk Tryz.prog t83 := tblOk_nil
theorem o83 : Holds Tryz.prog 83 c83 := fn_holds (code := Tryz.f83.body.getD .skip) (by kernel_rfl) gamOk k83 Tryz.func83 (by kernel_rfl) (by kernel_rfl) (by kernel_rfl) (by kernel_rfl) v83 (fun x _ h => (r83 x).trans ((n83 x.1 x.2.1 x.2.2.1).trans h))
/-! ### 55: loop.example/g00076/impl.areSlots -/
noncomputable def t55 : Tbl := [(44, [], c44), (83, [], c83)]
abbrev h55_L0 : Shape := { slots := [(1, .bx 1 0), (3, .v (.int .i64)), (7, .v Ty59), (8, .v (.int .i64)), (9, .v (.int .i64))], boxes := [(1, .typ Ty147)] }
abbrev e55_L0 : List (XT × Shape) := [(.ret, { slots := [(2, .v .bool)], boxes := [] }), (.exit 0, { slots := [(1, .bx 1 0)], boxes := [(1, .typ Ty147)] })]
noncomputable def q55_L0 (t3 : Int) (t7 : Ta11) (t8 : Int) (t9 : Int) (b1 : Ta129) : Option (Ta138 ⊕ (((Bool × Unit) × Unit) ⊕ (Ta131 ⊕ Empty))) :=
  bif (decide (t9 < t8)) then
    bif (decide (0 ≤ t9) && decide (t9 < (t7.len : Int))) then
      bif (!(f44 (L.get t7 t9.toNat).1 (0 : Int) (wI ((b1.2.2.2.2.2.2.2.1.len : Int) - (1 : Int))))) then
        some (.inr (.inl ((false, ()), ())))
      else
        bif (!(f83 b1 (L.get t7 t9.toNat) t3)) then
          some (.inr (.inl ((false, ()), ())))
        else
          some (.inl (((), ((wI ((L.get t7 t9.toNat).2.1 + (L.get t7 t9.toNat).2.2.1)), (t7, (t8, ((wI (t9 + (1 : Int))), ()))))), (b1, ())))
    else
      none
  else
    some (.inr (.inr (.inl (((), ()), (b1, ())))))
noncomputable def s55_L0 (x : Ta138) : Option (Ta138 ⊕ (((Bool × Unit) × Unit) ⊕ (Ta131 ⊕ Empty))) := q55_L0 x.1.2.1 x.1.2.2.1 x.1.2.2.2.1 x.1.2.2.2.2.1 x.2.1
noncomputable def a55 : Nat → Option LoopAnn := fun c => bif Nat.beq c 0 then some (.fix h55_L0 e55_L0 s55_L0) else none
noncomputable def g55 (x0 : Ta129) : Option ((Bool × Unit) × Unit) :=
  (fixO s55_L0 (((), ((0 : Int), (x0.2.2.2.2.2.2.2.2.2.2.1, ((x0.2.2.2.2.2.2.2.2.2.2.1.len : Int), ((0 : Int), ()))))), (x0, ()))).bind fun d2 => match d2 with
  | .inl y1 =>
    some ((y1.1.1, ()), ())
  | .inr (.inl y1) =>
    some (((f44 (y1.2.1.2.2.2.2.2.2.2.2.2.2.1.len : Int) (1 : Int) (16 : Int)), ()), ())
  | .inr (.inr e) => nomatch e
noncomputable def c55 : Ctr := { ins := [.v Ty147], out := [.bool], F := fun x => g55 x.1 }
noncomputable def l55 : List (Nat × Code) := loopsIn (Tryz.f55.body.getD .skip) 0
theorem w55_L0 (x : h55_L0.T) : runK Tryz.prog Γ t55 (inlN Tryz.prog Γ t55 3) a55 (l55.getD 0 (0, .skip)).2 0 (pkSh h55_L0 x) (loopCls (sh := h55_L0) (es := e55_L0)) = (s55_L0 x : Option _) := by kernel_rfl
theorem v55 : LoopsOk Tryz.prog Γ t55 a55 (loopsIn (Tryz.f55.body.getD .skip) 0) := by
  have e : loopsIn (Tryz.f55.body.getD .skip) 0 = [(0, (l55.getD 0 (0, .skip)).2)] := by kernel_rfl
  rw [e]
  exact ⟨fun x d h => (w55_L0 x).trans h, trivial⟩
theorem r55 (x : InsT c55.ins) : fnK Tryz.prog Γ t55 a55 Tryz.f55 c55 x = g55 x.1 := by kernel_rfl
theorem k55 : TblOk Tryz.prog t55 := tblOk_cons o44 (tblOk_cons o83 (tblOk_nil))
theorem o55 : Holds Tryz.prog 55 c55 := fn_holds (code := Tryz.f55.body.getD .skip) (by kernel_rfl) gamOk k55 Tryz.func55 (by kernel_rfl) (by kernel_rfl) (by kernel_rfl) (by kernel_rfl) v55 (fun x _ h => (r55 x).trans h)
/-! ### 26: loop.example/g00076/impl.isSound -/
noncomputable def t26 : Tbl := [(42, [], c42), (43, [], c43), (44, [], c44), (45, [], c45), (46, [], c46), (47, [], c47), (48, [], c48), (49, [50], c49_50), (51, [52], c51_52), (54, [], c54), (55, [], c55)]
noncomputable def a26 : Nat → Option LoopAnn := fun _ => none
noncomputable def g26 (x0 : Ta129) : Option ((Bool × Unit) × Unit) :=
  bif (!(f42 x0.1)) then
    some ((false, ()), ())
  else
    bif (!(f43 x0.2.1)) then
      some ((false, ()), ())
    else
      bif (!(f44 x0.2.2.1 (1 : Int) (8 : Int))) then
        some ((false, ()), ())
      else
        bif (!(f45 x0.2.2.2.1)) then
          some ((false, ()), ())
        else
          bif (!(f46 x0.2.2.2.2.1)) then
            some ((false, ()), ())
          else
            bif (!(f46 x0.2.2.2.2.2.1)) then
              some ((false, ()), ())
            else
              bif (!(f46 x0.2.2.2.2.2.2.1)) then
                some ((false, ()), ())
              else
                (g47 x0.2.2.2.1).bind fun y1 =>
                  bif (decide (x0.2.2.2.2.2.1 < y1.1.1)) then
                    some ((false, ()), ())
                  else
                    bif (!(f44 (x0.2.2.2.2.2.2.2.1.len : Int) (1 : Int) (6 : Int))) then
                      some ((false, ()), ())
                    else
                      (g48 x0).bind fun y2 =>
                        bif (!y2.1.1) then
                          some ((false, ()), ())
                        else
                          bif (decide ((x0.2.2.2.2.2.2.2.2.1.len : Int) > (8 : Int))) then
                            some ((false, ()), ())
                          else
                            (g49_50 x0.2.2.2.2.2.2.2.2.1 ((x0.2.2.2.2.2.2.2.1.len : Int), ())).bind fun y3 =>
                              bif y3.1.1 then
                                some ((false, ()), ())
                              else
                                bif (decide ((x0.2.2.2.2.2.2.2.2.2.1.len : Int) > (8 : Int))) then
                                  some ((false, ()), ())
                                else
                                  (g51_52 x0.2.2.2.2.2.2.2.2.2.1 ((x0.2.2.2.2.2.2.2.1.len : Int), ())).bind fun y4 =>
                                    bif y4.1.1 then
                                      some ((false, ()), ())
                                    else
                                      (g54 x0.2.2.2.1 x0.2.1 x0.2.2.2.2.2.2.2.2.2.1).bind fun y5 =>
                                        bif (decide (x0.2.2.2.2.1 < y5.1.1)) then
                                          some ((false, ()), ())
                                        else
                                          (g55 x0).bind fun y6 =>
                                            some ((y6.1.1, ()), ())
noncomputable def c26 : Ctr := { ins := [.v Ty147], out := [.bool], F := fun x => g26 x.1 }
theorem v26 : LoopsOk Tryz.prog Γ t26 a26 (loopsIn (Tryz.f26.body.getD .skip) 0) := loopsOk_nil (by kernel_rfl)
theorem r26 (x : InsT c26.ins) : fnK Tryz.prog Γ t26 a26 Tryz.f26 c26 x = g26 x.1 := by kernel_rfl
theorem k26 : TblOk Tryz.prog t26 := tblOk_cons o42 (tblOk_cons o43 (tblOk_cons o44 (tblOk_cons o45 (tblOk_cons o46 (tblOk_cons o47 (tblOk_cons o48 (tblOk_cons o49_50 (tblOk_cons o51_52 (tblOk_cons o54 (tblOk_cons o55 (tblOk_nil)))))))))))
theorem o26 : Holds Tryz.prog 26 c26 := fn_holds (code := Tryz.f26.body.getD .skip) (by kernel_rfl) gamOk k26 Tryz.func26 (by kernel_rfl) (by kernel_rfl) (by kernel_rfl) (by kernel_rfl) v26 (fun x _ h => (r26 x).trans h)
/-! ### 27: loop.example/g00076/impl.isCycle -/
noncomputable def t27 : Tbl := [(44, [], c44)]
noncomputable def a27 : Nat → Option LoopAnn := fun _ => none
noncomputable def g27 (x0 : Int) : Option ((Bool × Unit) × Unit) :=
  some (((f44 x0 (0 : Int) (50000 : Int)), ()), ())
noncomputable def f27 (x0 : Int) : Bool :=
  (f44 x0 (0 : Int) (50000 : Int))
theorem n27 (x0 : Int) : g27 x0 = some ((f27 x0, ()), ()) := by
  simp only [g27, f27, pull1]
noncomputable def c27 : Ctr := { ins := [.v (.int .i64)], out := [.bool], F := fun x => some ((f27 x.1, ()), ()) }
theorem v27 : LoopsOk Tryz.prog Γ t27 a27 (loopsIn (Tryz.f27.body.getD .skip) 0) := loopsOk_nil (by kernel_rfl)
theorem r27 (x : InsT c27.ins) : fnK Tryz.prog Γ t27 a27 Tryz.f27 c27 x = g27 x.1 := by kernel_rfl
theorem k27 : TblOk Tryz.prog t27 := tblOk_cons o44 (tblOk_nil)
theorem o27 : Holds Tryz.prog 27 c27 := fn_holds (code := Tryz.f27.body.getD .skip) (by kernel_rfl) gamOk k27 Tryz.func27 (by kernel_rfl) (by kernel_rfl) (by kernel_rfl) (by kernel_rfl) v27 (fun x _ h => (r27 x).trans ((n27 x.1).trans h))
/-! ### 57: loop.example/g00076/impl.slotAt$1 -/
noncomputable def t57 : Tbl := []
noncomputable def a57 : Nat → Option LoopAnn := fun _ => none
noncomputable def g57 (x0 : Ta6) (x1 : Int) : Option ((Bool × Unit) × Unit) :=
  bif (decide (x0.2.1 ≤ x1)) then
    some (((decide (x1 < (wI (x0.2.1 + x0.2.2.1)))), ()), ())
  else
    some ((false, ()), ())
noncomputable def f57 (x0 : Ta6) (x1 : Int) : Bool :=
  bif (decide (x0.2.1 ≤ x1)) then
    (decide (x1 < (wI (x0.2.1 + x0.2.2.1))))
  else
    false
theorem n57 (x0 : Ta6) (x1 : Int) : g57 x0 x1 = some ((f57 x0 x1, ()), ()) := by
  simp only [g57, f57, pull1]
noncomputable def c57 : Ctr := { ins := [.v Ty51, .rf (.int .i64)], out := [.bool], F := fun x => some ((f57 x.1 x.2.1, ()), ()) }
theorem v57 : LoopsOk Tryz.prog Γ t57 a57 (loopsIn (Tryz.f57.body.getD .skip) 0) := loopsOk_nil (by kernel_rfl)
theorem r57 (x : InsT c57.ins) : fnK Tryz.prog Γ t57 a57 Tryz.f57 c57 x = g57 x.1 x.2.1 := by kernel_rfl
theorem k57 : TblOk Tryz.prog t57 := tblOk_nil
theorem o57 : Holds Tryz.prog 57 c57 := fn_holds (code := Tryz.f57.body.getD .skip) (by kernel_rfl) gamOk k57 Tryz.func57 (by kernel_rfl) (by kernel_rfl) (by kernel_rfl) (by kernel_rfl) v57 (fun x _ h => (r57 x).trans ((n57 x.1 x.2.1).trans h))
/-! ### 56: slices.IndexFunc[[]loop.example/g00076/impl.Slot,loop.example/g00076/impl.Slot] -/
noncomputable def t56_57 : Tbl := [(57, [], c57)]
abbrev h56_57_L0 : Shape := { slots := [(0, .v Ty59), (1, .clo 57 [(.int .i64)]), (7, .v (.int .i64)), (8, .v (.int .i64))], boxes := [] }
abbrev e56_57_L0 : List (XT × Shape) := [(.ret, { slots := [(4, .v (.int .i64))], boxes := [] }), (.exit 0, { slots := [], boxes := [] })]
noncomputable def q56_57_L0 (t0 : Ta11) (t1 : (Int × Unit)) (t7 : Int) (t8 : Int) : Option (Ta69 ⊕ (((Int × Unit) × Unit) ⊕ ((Unit × Unit) ⊕ Empty))) :=
  bif (decide (t8 < t7)) then
    bif (decide (0 ≤ t8) && decide (t8 < (t0.len : Int))) then
      bif (f57 (L.get t0 t8.toNat) t1.1) then
        some (.inr (.inl ((t8, ()), ())))
      else
        some (.inl ((t0, (t1, (t7, ((wI (t8 + (1 : Int))), ())))), ()))
    else
      none
  else
    some (.inr (.inr (.inl ((), ()))))
noncomputable def s56_57_L0 (x : Ta69) : Option (Ta69 ⊕ (((Int × Unit) × Unit) ⊕ ((Unit × Unit) ⊕ Empty))) := q56_57_L0 x.1.1 x.1.2.1 x.1.2.2.1 x.1.2.2.2.1
noncomputable def a56_57 : Nat → Option LoopAnn := fun c => bif Nat.beq c 0 then some (.fix h56_57_L0 e56_57_L0 s56_57_L0) else none
noncomputable def g56_57 (x0 : Ta11) (x1 : (Int × Unit)) : Option ((Int × Unit) × Unit) :=
  (fixO s56_57_L0 ((x0, (x1, ((x0.len : Int), ((0 : Int), ())))), ())).bind fun d2 => match d2 with
  | .inl y1 =>
    some ((y1.1.1, ()), ())
  | .inr (.inl y1) =>
    some (((-1 : Int), ()), ())
  | .inr (.inr e) => nomatch e
noncomputable def c56_57 : Ctr := { ins := [.v Ty59, .clo 57 [(.int .i64)]], out := [(.int .i64)], F := fun x => g56_57 x.1 x.2.1 }
noncomputable def l56_57 : List (Nat × Code) := loopsIn (Tryz.f56.body.getD .skip) 0
theorem w56_57_L0 (x : h56_57_L0.T) : runK Tryz.prog Γ t56_57 (inlN Tryz.prog Γ t56_57 3) a56_57 (l56_57.getD 0 (0, .skip)).2 0 (pkSh h56_57_L0 x) (loopCls (sh := h56_57_L0) (es := e56_57_L0)) = (s56_57_L0 x : Option _) := by kernel_rfl
theorem v56_57 : LoopsOk Tryz.prog Γ t56_57 a56_57 (loopsIn (Tryz.f56.body.getD .skip) 0) := by
  have e : loopsIn (Tryz.f56.body.getD .skip) 0 = [(0, (l56_57.getD 0 (0, .skip)).2)] := by kernel_rfl
  rw [e]
  exact ⟨fun x d h => (w56_57_L0 x).trans h, trivial⟩
theorem r56_57 (x : InsT c56_57.ins) : fnK Tryz.prog Γ t56_57 a56_57 Tryz.f56 c56_57 x = g56_57 x.1 x.2.1 := by kernel_rfl
theorem k56_57 : TblOk Tryz.prog t56_57 := tblOk_cons o57 (tblOk_nil)
theorem o56_57 : Holds Tryz.prog 56 c56_57 := fn_holds (code := Tryz.f56.body.getD .skip) (by kernel_rfl) gamOk k56_57 Tryz.func56 (by kernel_rfl) (by kernel_rfl) (by kernel_rfl) (by kernel_rfl) v56_57 (fun x _ h => (r56_57 x).trans h)
/-! ### 28: loop.example/g00076/impl.slotAt -/
noncomputable def t28 : Tbl := [(56, [57], c56_57)]
noncomputable def a28 : Nat → Option LoopAnn := fun _ => none
noncomputable def g28 (x0 : Ta129) (x1 : Int) : Option ((Int × Unit) × Unit) :=
  bif (!decide (x0.2.2.2.2.2.2.1 = 0)) then
    (g56_57 x0.2.2.2.2.2.2.2.2.2.2.1 ((Int.tmod x1 x0.2.2.2.2.2.2.1), ())).bind fun y1 =>
      some ((y1.1.1, ()), ())
  else
    none
noncomputable def c28 : Ctr := { ins := [.v Ty147, .v (.int .i64)], out := [(.int .i64)], F := fun x => g28 x.1 x.2.1 }
theorem v28 : LoopsOk Tryz.prog Γ t28 a28 (loopsIn (Tryz.f28.body.getD .skip) 0) := loopsOk_nil (by kernel_rfl)
theorem r28 (x : InsT c28.ins) : fnK Tryz.prog Γ t28 a28 Tryz.f28 c28 x = g28 x.1 x.2.1 := by kernel_rfl
theorem k28 : TblOk Tryz.prog t28 := tblOk_cons o56_57 (tblOk_nil)
theorem o28 : Holds Tryz.prog 28 c28 := fn_holds (code := Tryz.f28.body.getD .skip) (by kernel_rfl) gamOk k28 Tryz.func28 (by kernel_rfl) (by kernel_rfl) (by kernel_rfl) (by kernel_rfl) v28 (fun x _ h => (r28 x).trans h)
/-! ### 8: loop.example/g00076/laws.eqIntS -/
noncomputable def t8 : Tbl := []
abbrev h8_L0 : Shape := { slots := [(0, .v (.sl (.int .i64))), (1, .v (.sl (.int .i64))), (5, .v (.int .i64))], boxes := [] }
abbrev e8_L0 : List (XT × Shape) := [(.ret, { slots := [(4, .v .bool)], boxes := [] }), (.exit 0, { slots := [], boxes := [] })]
noncomputable def q8_L0 (t0 : (L Int)) (t1 : (L Int)) (t5 : Int) : Option (Ta32 ⊕ (((Bool × Unit) × Unit) ⊕ ((Unit × Unit) ⊕ Empty))) :=
  bif (decide (t5 < (t0.len : Int))) then
    bif (decide (0 ≤ t5) && decide (t5 < (t0.len : Int))) then
      bif (decide (0 ≤ t5) && decide (t5 < (t1.len : Int))) then
        bif ((L.get t0 t5.toNat) != (L.get t1 t5.toNat)) then
          some (.inr (.inl ((false, ()), ())))
        else
          some (.inl ((t0, (t1, ((wI (t5 + (1 : Int))), ()))), ()))
      else
        none
    else
      none
  else
    some (.inr (.inr (.inl ((), ()))))
noncomputable def s8_L0 (x : Ta32) : Option (Ta32 ⊕ (((Bool × Unit) × Unit) ⊕ ((Unit × Unit) ⊕ Empty))) := q8_L0 x.1.1 x.1.2.1 x.1.2.2.1
noncomputable def a8 : Nat → Option LoopAnn := fun c => bif Nat.beq c 0 then some (.fix h8_L0 e8_L0 s8_L0) else none
noncomputable def g8 (x0 : (L Int)) (x1 : (L Int)) : Option ((Bool × Unit) × Unit) :=
  bif ((x0.len : Int) != (x1.len : Int)) then
    some ((false, ()), ())
  else
    (fixO s8_L0 ((x0, (x1, ((0 : Int), ()))), ())).bind fun d2 => match d2 with
    | .inl y1 =>
      some ((y1.1.1, ()), ())
    | .inr (.inl y1) =>
      some ((true, ()), ())
    | .inr (.inr e) => nomatch e
noncomputable def c8 : Ctr := { ins := [.v (.sl (.int .i64)), .v (.sl (.int .i64))], out := [.bool], F := fun x => g8 x.1 x.2.1 }
noncomputable def l8 : List (Nat × Code) := loopsIn (Tryz.f8.body.getD .skip) 0
theorem w8_L0 (x : h8_L0.T) : runK Tryz.prog Γ t8 (inlN Tryz.prog Γ t8 3) a8 (l8.getD 0 (0, .skip)).2 0 (pkSh h8_L0 x) (loopCls (sh := h8_L0) (es := e8_L0)) = (s8_L0 x : Option _) := by kernel_rfl
theorem v8 : LoopsOk Tryz.prog Γ t8 a8 (loopsIn (Tryz.f8.body.getD .skip) 0) := by
  have e : loopsIn (Tryz.f8.body.getD .skip) 0 = [(0, (l8.getD 0 (0, .skip)).2)] := by kernel_rfl
  rw [e]
  exact ⟨fun x d h => (w8_L0 x).trans h, trivial⟩
theorem r8 (x : InsT c8.ins) : fnK Tryz.prog Γ t8 a8 Tryz.f8 c8 x = g8 x.1 x.2.1 := by kernel_rfl
theorem k8 : TblOk Tryz.prog t8 := tblOk_nil
theorem o8 : Holds Tryz.prog 8 c8 := fn_holds (code := Tryz.f8.body.getD .skip) (by kernel_rfl) gamOk k8 Tryz.func8 (by kernel_rfl) (by kernel_rfl) (by kernel_rfl) (by kernel_rfl) v8 (fun x _ h => (r8 x).trans h)
/-! ### 29: loop.example/g00076/laws.eqShape -/
noncomputable def t29 : Tbl := []
noncomputable def a29 : Nat → Option LoopAnn := fun _ => none
noncomputable def g29 (x0 : Ta6) (x1 : Ta6) : Option ((Bool × Unit) × Unit) :=
  bif (x0.1 != x1.1) then
    some ((false, ()), ())
  else
    bif (x0.2.1 != x1.2.1) then
      some ((false, ()), ())
    else
      bif (x0.2.2.1 != x1.2.2.1) then
        some ((false, ()), ())
      else
        some ((true, ()), ())
noncomputable def f29 (x0 : Ta6) (x1 : Ta6) : Bool :=
  bif (x0.1 != x1.1) then
    false
  else
    bif (x0.2.1 != x1.2.1) then
      false
    else
      bif (x0.2.2.1 != x1.2.2.1) then
        false
      else
        true
theorem n29 (x0 : Ta6) (x1 : Ta6) : g29 x0 x1 = some ((f29 x0 x1, ()), ()) := by
  simp only [g29, f29, pull1]
noncomputable def c29 : Ctr := { ins := [.v Ty51, .v Ty51], out := [.bool], F := fun x => some ((f29 x.1 x.2.1, ()), ()) }
theorem v29 : LoopsOk Tryz.prog Γ t29 a29 (loopsIn (Tryz.f29.body.getD .skip) 0) := loopsOk_nil (by kernel_rfl)
theorem r29 (x : InsT c29.ins) : fnK Tryz.prog Γ t29 a29 Tryz.f29 c29 x = g29 x.1 x.2.1 := by kernel_rfl
theorem k29 : TblOk Tryz.prog t29 := tblOk_nil
theorem o29 : Holds Tryz.prog 29 c29 := fn_holds (code := Tryz.f29.body.getD .skip) (by kernel_rfl) gamOk k29 Tryz.func29 (by kernel_rfl) (by kernel_rfl) (by kernel_rfl) (by kernel_rfl) v29 (fun x _ h => (r29 x).trans ((n29 x.1 x.2.1).trans h))
/-! ### 30: loop.example/g00076/laws.eqCosts -/
noncomputable def t30 : Tbl := []
noncomputable def a30 : Nat → Option LoopAnn := fun _ => none
noncomputable def g30 (x0 : Ta49) (x1 : Ta49) : Option ((Bool × Unit) × Unit) :=
  bif (x0.1 != x1.1) then
    some ((false, ()), ())
  else
    bif (x0.2.1 != x1.2.1) then
      some ((false, ()), ())
    else
      bif (x0.2.2.1 != x1.2.2.1) then
        some ((false, ()), ())
      else
        bif (x0.2.2.2.1 != x1.2.2.2.1) then
          some ((false, ()), ())
        else
          bif (x0.2.2.2.2.1 != x1.2.2.2.2.1) then
            some ((false, ()), ())
          else
            bif (x0.2.2.2.2.2.1 != x1.2.2.2.2.2.1) then
              some ((false, ()), ())
            else
              bif (x0.2.2.2.2.2.2.1 != x1.2.2.2.2.2.2.1) then
                some ((false, ()), ())
              else
                some ((true, ()), ())
noncomputable def f30 (x0 : Ta49) (x1 : Ta49) : Bool :=
  bif (x0.1 != x1.1) then
    false
  else
    bif (x0.2.1 != x1.2.1) then
      false
    else
      bif (x0.2.2.1 != x1.2.2.1) then
        false
      else
        bif (x0.2.2.2.1 != x1.2.2.2.1) then
          false
        else
          bif (x0.2.2.2.2.1 != x1.2.2.2.2.1) then
            false
          else
            bif (x0.2.2.2.2.2.1 != x1.2.2.2.2.2.1) then
              false
            else
              bif (x0.2.2.2.2.2.2.1 != x1.2.2.2.2.2.2.1) then
                false
              else
                true
theorem n30 (x0 : Ta49) (x1 : Ta49) : g30 x0 x1 = some ((f30 x0 x1, ()), ()) := by
  simp only [g30, f30, pull1]
noncomputable def c30 : Ctr := { ins := [.v Ty102, .v Ty102], out := [.bool], F := fun x => some ((f30 x.1 x.2.1, ()), ()) }
theorem v30 : LoopsOk Tryz.prog Γ t30 a30 (loopsIn (Tryz.f30.body.getD .skip) 0) := loopsOk_nil (by kernel_rfl)
theorem r30 (x : InsT c30.ins) : fnK Tryz.prog Γ t30 a30 Tryz.f30 c30 x = g30 x.1 x.2.1 := by kernel_rfl
theorem k30 : TblOk Tryz.prog t30 := tblOk_nil
theorem o30 : Holds Tryz.prog 30 c30 := fn_holds (code := Tryz.f30.body.getD .skip) (by kernel_rfl) gamOk k30 Tryz.func30 (by kernel_rfl) (by kernel_rfl) (by kernel_rfl) (by kernel_rfl) v30 (fun x _ h => (r30 x).trans ((n30 x.1 x.2.1).trans h))
/-! ### 84: loop.example/g00076/laws.eqPolicy -/
noncomputable def t84 : Tbl := []
noncomputable def a84 : Nat → Option LoopAnn := fun _ => none
noncomputable def g84 (x0 : (Int × (Int × Unit))) (x1 : (Int × (Int × Unit))) : Option ((Bool × Unit) × Unit) :=
  bif (x0.1 != x1.1) then
    some ((false, ()), ())
  else
    bif (x0.2.1 != x1.2.1) then
      some ((false, ()), ())
    else
      some ((true, ()), ())
noncomputable def f84 (x0 : (Int × (Int × Unit))) (x1 : (Int × (Int × Unit))) : Bool :=
  bif (x0.1 != x1.1) then
    false
  else
    bif (x0.2.1 != x1.2.1) then
      false
    else
      true
theorem n84 (x0 : (Int × (Int × Unit))) (x1 : (Int × (Int × Unit))) : g84 x0 x1 = some ((f84 x0 x1, ()), ()) := by
  simp only [g84, f84, pull1]
noncomputable def c84 : Ctr := { ins := [.v Ty31, .v Ty31], out := [.bool], F := fun x => some ((f84 x.1 x.2.1, ()), ()) }
theorem v84 : LoopsOk Tryz.prog Γ t84 a84 (loopsIn (Tryz.f84.body.getD .skip) 0) := loopsOk_nil (by kernel_rfl)
theorem r84 (x : InsT c84.ins) : fnK Tryz.prog Γ t84 a84 Tryz.f84 c84 x = g84 x.1 x.2.1 := by kernel_rfl
theorem k84 : TblOk Tryz.prog t84 := tblOk_nil
theorem o84 : Holds Tryz.prog 84 c84 := fn_holds (code := Tryz.f84.body.getD .skip) (by kernel_rfl) gamOk k84 Tryz.func84 (by kernel_rfl) (by kernel_rfl) (by kernel_rfl) (by kernel_rfl) v84 (fun x _ h => (r84 x).trans ((n84 x.1 x.2.1).trans h))
/-! ### 101: loop.example/g00076/laws.eqWindow -/
noncomputable def t101 : Tbl := []
noncomputable def a101 : Nat → Option LoopAnn := fun _ => none
noncomputable def g101 (x0 : Ta6) (x1 : Ta6) : Option ((Bool × Unit) × Unit) :=
  bif (x0.1 != x1.1) then
    some ((false, ()), ())
  else
    bif (x0.2.1 != x1.2.1) then
      some ((false, ()), ())
    else
      bif (x0.2.2.1 != x1.2.2.1) then
        some ((false, ()), ())
      else
        some ((true, ()), ())
noncomputable def f101 (x0 : Ta6) (x1 : Ta6) : Bool :=
  bif (x0.1 != x1.1) then
    false
  else
    bif (x0.2.1 != x1.2.1) then
      false
    else
      bif (x0.2.2.1 != x1.2.2.1) then
        false
      else
        true
theorem n101 (x0 : Ta6) (x1 : Ta6) : g101 x0 x1 = some ((f101 x0 x1, ()), ()) := by
  simp only [g101, f101, pull1]
noncomputable def c101 : Ctr := { ins := [.v Ty51, .v Ty51], out := [.bool], F := fun x => some ((f101 x.1 x.2.1, ()), ()) }
theorem v101 : LoopsOk Tryz.prog Γ t101 a101 (loopsIn (Tryz.f101.body.getD .skip) 0) := loopsOk_nil (by kernel_rfl)
theorem r101 (x : InsT c101.ins) : fnK Tryz.prog Γ t101 a101 Tryz.f101 c101 x = g101 x.1 x.2.1 := by kernel_rfl
theorem k101 : TblOk Tryz.prog t101 := tblOk_nil
theorem o101 : Holds Tryz.prog 101 c101 := fn_holds (code := Tryz.f101.body.getD .skip) (by kernel_rfl) gamOk k101 Tryz.func101 (by kernel_rfl) (by kernel_rfl) (by kernel_rfl) (by kernel_rfl) v101 (fun x _ h => (r101 x).trans ((n101 x.1 x.2.1).trans h))
/-! ### 85: loop.example/g00076/laws.eqWindowS -/
noncomputable def t85 : Tbl := [(101, [], c101)]
abbrev h85_L0 : Shape := { slots := [(0, .v Ty59), (1, .v Ty59), (5, .v (.int .i64))], boxes := [] }
abbrev e85_L0 : List (XT × Shape) := [(.ret, { slots := [(4, .v .bool)], boxes := [] }), (.exit 0, { slots := [], boxes := [] })]
noncomputable def q85_L0 (t0 : Ta11) (t1 : Ta11) (t5 : Int) : Option (Ta80 ⊕ (((Bool × Unit) × Unit) ⊕ ((Unit × Unit) ⊕ Empty))) :=
  bif (decide (t5 < (t0.len : Int))) then
    bif (decide (0 ≤ t5) && decide (t5 < (t0.len : Int))) then
      bif (decide (0 ≤ t5) && decide (t5 < (t1.len : Int))) then
        bif (!(f101 (L.get t0 t5.toNat) (L.get t1 t5.toNat))) then
          some (.inr (.inl ((false, ()), ())))
        else
          some (.inl ((t0, (t1, ((wI (t5 + (1 : Int))), ()))), ()))
      else
        none
    else
      none
  else
    some (.inr (.inr (.inl ((), ()))))
noncomputable def s85_L0 (x : Ta80) : Option (Ta80 ⊕ (((Bool × Unit) × Unit) ⊕ ((Unit × Unit) ⊕ Empty))) := q85_L0 x.1.1 x.1.2.1 x.1.2.2.1
noncomputable def a85 : Nat → Option LoopAnn := fun c => bif Nat.beq c 0 then some (.fix h85_L0 e85_L0 s85_L0) else none
noncomputable def g85 (x0 : Ta11) (x1 : Ta11) : Option ((Bool × Unit) × Unit) :=
  bif ((x0.len : Int) != (x1.len : Int)) then
    some ((false, ()), ())
  else
    (fixO s85_L0 ((x0, (x1, ((0 : Int), ()))), ())).bind fun d2 => match d2 with
    | .inl y1 =>
      some ((y1.1.1, ()), ())
    | .inr (.inl y1) =>
      some ((true, ()), ())
    | .inr (.inr e) => nomatch e
noncomputable def c85 : Ctr := { ins := [.v Ty59, .v Ty59], out := [.bool], F := fun x => g85 x.1 x.2.1 }
noncomputable def l85 : List (Nat × Code) := loopsIn (Tryz.f85.body.getD .skip) 0
theorem w85_L0 (x : h85_L0.T) : runK Tryz.prog Γ t85 (inlN Tryz.prog Γ t85 3) a85 (l85.getD 0 (0, .skip)).2 0 (pkSh h85_L0 x) (loopCls (sh := h85_L0) (es := e85_L0)) = (s85_L0 x : Option _) := by kernel_rfl
theorem v85 : LoopsOk Tryz.prog Γ t85 a85 (loopsIn (Tryz.f85.body.getD .skip) 0) := by
  have e : loopsIn (Tryz.f85.body.getD .skip) 0 = [(0, (l85.getD 0 (0, .skip)).2)] := by kernel_rfl
  rw [e]
  exact ⟨fun x d h => (w85_L0 x).trans h, trivial⟩
theorem r85 (x : InsT c85.ins) : fnK Tryz.prog Γ t85 a85 Tryz.f85 c85 x = g85 x.1 x.2.1 := by kernel_rfl
theorem k85 : TblOk Tryz.prog t85 := tblOk_cons o101 (tblOk_nil)
theorem o85 : Holds Tryz.prog 85 c85 := fn_holds (code := Tryz.f85.body.getD .skip) (by kernel_rfl) gamOk k85 Tryz.func85 (by kernel_rfl) (by kernel_rfl) (by kernel_rfl) (by kernel_rfl) v85 (fun x _ h => (r85 x).trans h)
/-! ### 58: loop.example/g00076/laws.eqPartRow -/
noncomputable def t58 : Tbl := [(84, [], c84), (85, [], c85)]
noncomputable def a58 : Nat → Option LoopAnn := fun _ => none
noncomputable def g58 (x0 : Ta75) (x1 : Ta75) : Option ((Bool × Unit) × Unit) :=
  bif (!strEq x0.1 x1.1) then
    some ((false, ()), ())
  else
    bif (x0.2.1 != x1.2.1) then
      some ((false, ()), ())
    else
      bif (!(f84 x0.2.2.1 x1.2.2.1)) then
        some ((false, ()), ())
      else
        (g85 x0.2.2.2.1 x1.2.2.2.1).bind fun y1 =>
          bif (!y1.1.1) then
            some ((false, ()), ())
          else
            some ((true, ()), ())
noncomputable def c58 : Ctr := { ins := [.v Ty112, .v Ty112], out := [.bool], F := fun x => g58 x.1 x.2.1 }
theorem v58 : LoopsOk Tryz.prog Γ t58 a58 (loopsIn (Tryz.f58.body.getD .skip) 0) := loopsOk_nil (by kernel_rfl)
theorem r58 (x : InsT c58.ins) : fnK Tryz.prog Γ t58 a58 Tryz.f58 c58 x = g58 x.1 x.2.1 := by kernel_rfl
theorem k58 : TblOk Tryz.prog t58 := tblOk_cons o84 (tblOk_cons o85 (tblOk_nil))
theorem o58 : Holds Tryz.prog 58 c58 := fn_holds (code := Tryz.f58.body.getD .skip) (by kernel_rfl) gamOk k58 Tryz.func58 (by kernel_rfl) (by kernel_rfl) (by kernel_rfl) (by kernel_rfl) v58 (fun x _ h => (r58 x).trans h)
/-! ### 31: loop.example/g00076/laws.eqPartRowS -/
noncomputable def t31 : Tbl := [(58, [], c58)]
abbrev h31_L0 : Shape := { slots := [(0, .v Ty113), (1, .v Ty113), (5, .v (.int .i64))], boxes := [] }
abbrev e31_L0 : List (XT × Shape) := [(.ret, { slots := [(4, .v .bool)], boxes := [] }), (.exit 0, { slots := [], boxes := [] })]
noncomputable def q31_L0 (t0 : Ta78) (t1 : Ta78) (t5 : Int) : Option (Ta121 ⊕ (((Bool × Unit) × Unit) ⊕ ((Unit × Unit) ⊕ Empty))) :=
  bif (decide (t5 < (t0.len : Int))) then
    bif (decide (0 ≤ t5) && decide (t5 < (t0.len : Int))) then
      bif (decide (0 ≤ t5) && decide (t5 < (t1.len : Int))) then
        (g58 (L.get t0 t5.toNat) (L.get t1 t5.toNat)).bind fun y1 =>
          bif (!y1.1.1) then
            some (.inr (.inl ((false, ()), ())))
          else
            some (.inl ((t0, (t1, ((wI (t5 + (1 : Int))), ()))), ()))
      else
        none
    else
      none
  else
    some (.inr (.inr (.inl ((), ()))))
noncomputable def s31_L0 (x : Ta121) : Option (Ta121 ⊕ (((Bool × Unit) × Unit) ⊕ ((Unit × Unit) ⊕ Empty))) := q31_L0 x.1.1 x.1.2.1 x.1.2.2.1
noncomputable def a31 : Nat → Option LoopAnn := fun c => bif Nat.beq c 0 then some (.fix h31_L0 e31_L0 s31_L0) else none
noncomputable def g31 (x0 : Ta78) (x1 : Ta78) : Option ((Bool × Unit) × Unit) :=
  bif ((x0.len : Int) != (x1.len : Int)) then
    some ((false, ()), ())
  else
    (fixO s31_L0 ((x0, (x1, ((0 : Int), ()))), ())).bind fun d3 => match d3 with
    | .inl y2 =>
      some ((y2.1.1, ()), ())
    | .inr (.inl y2) =>
      some ((true, ()), ())
    | .inr (.inr e) => nomatch e
noncomputable def c31 : Ctr := { ins := [.v Ty113, .v Ty113], out := [.bool], F := fun x => g31 x.1 x.2.1 }
noncomputable def l31 : List (Nat × Code) := loopsIn (Tryz.f31.body.getD .skip) 0
theorem w31_L0 (x : h31_L0.T) : runK Tryz.prog Γ t31 (inlN Tryz.prog Γ t31 3) a31 (l31.getD 0 (0, .skip)).2 0 (pkSh h31_L0 x) (loopCls (sh := h31_L0) (es := e31_L0)) = (s31_L0 x : Option _) := by kernel_rfl
theorem v31 : LoopsOk Tryz.prog Γ t31 a31 (loopsIn (Tryz.f31.body.getD .skip) 0) := by
  have e : loopsIn (Tryz.f31.body.getD .skip) 0 = [(0, (l31.getD 0 (0, .skip)).2)] := by kernel_rfl
  rw [e]
  exact ⟨fun x d h => (w31_L0 x).trans h, trivial⟩
theorem r31 (x : InsT c31.ins) : fnK Tryz.prog Γ t31 a31 Tryz.f31 c31 x = g31 x.1 x.2.1 := by kernel_rfl
theorem k31 : TblOk Tryz.prog t31 := tblOk_cons o58 (tblOk_nil)
theorem o31 : Holds Tryz.prog 31 c31 := fn_holds (code := Tryz.f31.body.getD .skip) (by kernel_rfl) gamOk k31 Tryz.func31 (by kernel_rfl) (by kernel_rfl) (by kernel_rfl) (by kernel_rfl) v31 (fun x _ h => (r31 x).trans h)
/-! ### 59: loop.example/g00076/laws.eqChanRow -/
noncomputable def t59 : Tbl := []
noncomputable def a59 : Nat → Option LoopAnn := fun _ => none
noncomputable def g59 (x0 : Ta19) (x1 : Ta19) : Option ((Bool × Unit) × Unit) :=
  bif (x0.1 != x1.1) then
    some ((false, ()), ())
  else
    bif (x0.2.1 != x1.2.1) then
      some ((false, ()), ())
    else
      bif (x0.2.2.1 != x1.2.2.1) then
        some ((false, ()), ())
      else
        bif (x0.2.2.2.1 != x1.2.2.2.1) then
          some ((false, ()), ())
        else
          some ((true, ()), ())
noncomputable def f59 (x0 : Ta19) (x1 : Ta19) : Bool :=
  bif (x0.1 != x1.1) then
    false
  else
    bif (x0.2.1 != x1.2.1) then
      false
    else
      bif (x0.2.2.1 != x1.2.2.1) then
        false
      else
        bif (x0.2.2.2.1 != x1.2.2.2.1) then
          false
        else
          true
theorem n59 (x0 : Ta19) (x1 : Ta19) : g59 x0 x1 = some ((f59 x0 x1, ()), ()) := by
  simp only [g59, f59, pull1]
noncomputable def c59 : Ctr := { ins := [.v Ty72, .v Ty72], out := [.bool], F := fun x => some ((f59 x.1 x.2.1, ()), ()) }
theorem v59 : LoopsOk Tryz.prog Γ t59 a59 (loopsIn (Tryz.f59.body.getD .skip) 0) := loopsOk_nil (by kernel_rfl)
theorem r59 (x : InsT c59.ins) : fnK Tryz.prog Γ t59 a59 Tryz.f59 c59 x = g59 x.1 x.2.1 := by kernel_rfl
theorem k59 : TblOk Tryz.prog t59 := tblOk_nil
theorem o59 : Holds Tryz.prog 59 c59 := fn_holds (code := Tryz.f59.body.getD .skip) (by kernel_rfl) gamOk k59 Tryz.func59 (by kernel_rfl) (by kernel_rfl) (by kernel_rfl) (by kernel_rfl) v59 (fun x _ h => (r59 x).trans ((n59 x.1 x.2.1).trans h))
/-! ### 32: loop.example/g00076/laws.eqChanRowS -/
noncomputable def t32 : Tbl := [(59, [], c59)]
abbrev h32_L0 : Shape := { slots := [(0, .v Ty76), (1, .v Ty76), (5, .v (.int .i64))], boxes := [] }
abbrev e32_L0 : List (XT × Shape) := [(.ret, { slots := [(4, .v .bool)], boxes := [] }), (.exit 0, { slots := [], boxes := [] })]
noncomputable def q32_L0 (t0 : Ta24) (t1 : Ta24) (t5 : Int) : Option (Ta91 ⊕ (((Bool × Unit) × Unit) ⊕ ((Unit × Unit) ⊕ Empty))) :=
  bif (decide (t5 < (t0.len : Int))) then
    bif (decide (0 ≤ t5) && decide (t5 < (t0.len : Int))) then
      bif (decide (0 ≤ t5) && decide (t5 < (t1.len : Int))) then
        bif (!(f59 (L.get t0 t5.toNat) (L.get t1 t5.toNat))) then
          some (.inr (.inl ((false, ()), ())))
        else
          some (.inl ((t0, (t1, ((wI (t5 + (1 : Int))), ()))), ()))
      else
        none
    else
      none
  else
    some (.inr (.inr (.inl ((), ()))))
noncomputable def s32_L0 (x : Ta91) : Option (Ta91 ⊕ (((Bool × Unit) × Unit) ⊕ ((Unit × Unit) ⊕ Empty))) := q32_L0 x.1.1 x.1.2.1 x.1.2.2.1
noncomputable def a32 : Nat → Option LoopAnn := fun c => bif Nat.beq c 0 then some (.fix h32_L0 e32_L0 s32_L0) else none
noncomputable def g32 (x0 : Ta24) (x1 : Ta24) : Option ((Bool × Unit) × Unit) :=
  bif ((x0.len : Int) != (x1.len : Int)) then
    some ((false, ()), ())
  else
    (fixO s32_L0 ((x0, (x1, ((0 : Int), ()))), ())).bind fun d2 => match d2 with
    | .inl y1 =>
      some ((y1.1.1, ()), ())
    | .inr (.inl y1) =>
      some ((true, ()), ())
    | .inr (.inr e) => nomatch e
noncomputable def c32 : Ctr := { ins := [.v Ty76, .v Ty76], out := [.bool], F := fun x => g32 x.1 x.2.1 }
noncomputable def l32 : List (Nat × Code) := loopsIn (Tryz.f32.body.getD .skip) 0
theorem w32_L0 (x : h32_L0.T) : runK Tryz.prog Γ t32 (inlN Tryz.prog Γ t32 3) a32 (l32.getD 0 (0, .skip)).2 0 (pkSh h32_L0 x) (loopCls (sh := h32_L0) (es := e32_L0)) = (s32_L0 x : Option _) := by kernel_rfl
theorem v32 : LoopsOk Tryz.prog Γ t32 a32 (loopsIn (Tryz.f32.body.getD .skip) 0) := by
  have e : loopsIn (Tryz.f32.body.getD .skip) 0 = [(0, (l32.getD 0 (0, .skip)).2)] := by kernel_rfl
  rw [e]
  exact ⟨fun x d h => (w32_L0 x).trans h, trivial⟩
theorem r32 (x : InsT c32.ins) : fnK Tryz.prog Γ t32 a32 Tryz.f32 c32 x = g32 x.1 x.2.1 := by kernel_rfl
theorem k32 : TblOk Tryz.prog t32 := tblOk_cons o59 (tblOk_nil)
theorem o32 : Holds Tryz.prog 32 c32 := fn_holds (code := Tryz.f32.body.getD .skip) (by kernel_rfl) gamOk k32 Tryz.func32 (by kernel_rfl) (by kernel_rfl) (by kernel_rfl) (by kernel_rfl) v32 (fun x _ h => (r32 x).trans h)
/-! ### 60: loop.example/g00076/laws.eqSlot -/
noncomputable def t60 : Tbl := []
noncomputable def a60 : Nat → Option LoopAnn := fun _ => none
noncomputable def g60 (x0 : Ta6) (x1 : Ta6) : Option ((Bool × Unit) × Unit) :=
  bif (x0.1 != x1.1) then
    some ((false, ()), ())
  else
    bif (x0.2.1 != x1.2.1) then
      some ((false, ()), ())
    else
      bif (x0.2.2.1 != x1.2.2.1) then
        some ((false, ()), ())
      else
        some ((true, ()), ())
noncomputable def f60 (x0 : Ta6) (x1 : Ta6) : Bool :=
  bif (x0.1 != x1.1) then
    false
  else
    bif (x0.2.1 != x1.2.1) then
      false
    else
      bif (x0.2.2.1 != x1.2.2.1) then
        false
      else
        true
theorem n60 (x0 : Ta6) (x1 : Ta6) : g60 x0 x1 = some ((f60 x0 x1, ()), ()) := by
  simp only [g60, f60, pull1]
noncomputable def c60 : Ctr := { ins := [.v Ty51, .v Ty51], out := [.bool], F := fun x => some ((f60 x.1 x.2.1, ()), ()) }
theorem v60 : LoopsOk Tryz.prog Γ t60 a60 (loopsIn (Tryz.f60.body.getD .skip) 0) := loopsOk_nil (by kernel_rfl)
theorem r60 (x : InsT c60.ins) : fnK Tryz.prog Γ t60 a60 Tryz.f60 c60 x = g60 x.1 x.2.1 := by kernel_rfl
theorem k60 : TblOk Tryz.prog t60 := tblOk_nil
theorem o60 : Holds Tryz.prog 60 c60 := fn_holds (code := Tryz.f60.body.getD .skip) (by kernel_rfl) gamOk k60 Tryz.func60 (by kernel_rfl) (by kernel_rfl) (by kernel_rfl) (by kernel_rfl) v60 (fun x _ h => (r60 x).trans ((n60 x.1 x.2.1).trans h))
/-! ### 33: loop.example/g00076/laws.eqSlotS -/
noncomputable def t33 : Tbl := [(60, [], c60)]
abbrev h33_L0 : Shape := { slots := [(0, .v Ty59), (1, .v Ty59), (5, .v (.int .i64))], boxes := [] }
abbrev e33_L0 : List (XT × Shape) := [(.ret, { slots := [(4, .v .bool)], boxes := [] }), (.exit 0, { slots := [], boxes := [] })]
noncomputable def q33_L0 (t0 : Ta11) (t1 : Ta11) (t5 : Int) : Option (Ta80 ⊕ (((Bool × Unit) × Unit) ⊕ ((Unit × Unit) ⊕ Empty))) :=
  bif (decide (t5 < (t0.len : Int))) then
    bif (decide (0 ≤ t5) && decide (t5 < (t0.len : Int))) then
      bif (decide (0 ≤ t5) && decide (t5 < (t1.len : Int))) then
        bif (!(f60 (L.get t0 t5.toNat) (L.get t1 t5.toNat))) then
          some (.inr (.inl ((false, ()), ())))
        else
          some (.inl ((t0, (t1, ((wI (t5 + (1 : Int))), ()))), ()))
      else
        none
    else
      none
  else
    some (.inr (.inr (.inl ((), ()))))
noncomputable def s33_L0 (x : Ta80) : Option (Ta80 ⊕ (((Bool × Unit) × Unit) ⊕ ((Unit × Unit) ⊕ Empty))) := q33_L0 x.1.1 x.1.2.1 x.1.2.2.1
noncomputable def a33 : Nat → Option LoopAnn := fun c => bif Nat.beq c 0 then some (.fix h33_L0 e33_L0 s33_L0) else none
noncomputable def g33 (x0 : Ta11) (x1 : Ta11) : Option ((Bool × Unit) × Unit) :=
  bif ((x0.len : Int) != (x1.len : Int)) then
    some ((false, ()), ())
  else
    (fixO s33_L0 ((x0, (x1, ((0 : Int), ()))), ())).bind fun d2 => match d2 with
    | .inl y1 =>
      some ((y1.1.1, ()), ())
    | .inr (.inl y1) =>
      some ((true, ()), ())
    | .inr (.inr e) => nomatch e
noncomputable def c33 : Ctr := { ins := [.v Ty59, .v Ty59], out := [.bool], F := fun x => g33 x.1 x.2.1 }
noncomputable def l33 : List (Nat × Code) := loopsIn (Tryz.f33.body.getD .skip) 0
theorem w33_L0 (x : h33_L0.T) : runK Tryz.prog Γ t33 (inlN Tryz.prog Γ t33 3) a33 (l33.getD 0 (0, .skip)).2 0 (pkSh h33_L0 x) (loopCls (sh := h33_L0) (es := e33_L0)) = (s33_L0 x : Option _) := by kernel_rfl
theorem v33 : LoopsOk Tryz.prog Γ t33 a33 (loopsIn (Tryz.f33.body.getD .skip) 0) := by
  have e : loopsIn (Tryz.f33.body.getD .skip) 0 = [(0, (l33.getD 0 (0, .skip)).2)] := by kernel_rfl
  rw [e]
  exact ⟨fun x d h => (w33_L0 x).trans h, trivial⟩
theorem r33 (x : InsT c33.ins) : fnK Tryz.prog Γ t33 a33 Tryz.f33 c33 x = g33 x.1 x.2.1 := by kernel_rfl
theorem k33 : TblOk Tryz.prog t33 := tblOk_cons o60 (tblOk_nil)
theorem o33 : Holds Tryz.prog 33 c33 := fn_holds (code := Tryz.f33.body.getD .skip) (by kernel_rfl) gamOk k33 Tryz.func33 (by kernel_rfl) (by kernel_rfl) (by kernel_rfl) (by kernel_rfl) v33 (fun x _ h => (r33 x).trans h)
/-! ### 9: loop.example/g00076/laws.eqTables -/
noncomputable def t9 : Tbl := [(29, [], c29), (30, [], c30), (31, [], c31), (8, [], c8), (32, [], c32), (33, [], c33)]
noncomputable def a9 : Nat → Option LoopAnn := fun _ => none
noncomputable def g9 (x0 : Ta129) (x1 : Ta129) : Option ((Bool × Unit) × Unit) :=
  bif (x0.1 != x1.1) then
    some ((false, ()), ())
  else
    bif (!(f29 x0.2.1 x1.2.1)) then
      some ((false, ()), ())
    else
      bif (x0.2.2.1 != x1.2.2.1) then
        some ((false, ()), ())
      else
        bif (!(f30 x0.2.2.2.1 x1.2.2.2.1)) then
          some ((false, ()), ())
        else
          bif (x0.2.2.2.2.1 != x1.2.2.2.2.1) then
            some ((false, ()), ())
          else
            bif (x0.2.2.2.2.2.1 != x1.2.2.2.2.2.1) then
              some ((false, ()), ())
            else
              bif (x0.2.2.2.2.2.2.1 != x1.2.2.2.2.2.2.1) then
                some ((false, ()), ())
              else
                (g31 x0.2.2.2.2.2.2.2.1 x1.2.2.2.2.2.2.2.1).bind fun y1 =>
                  bif (!y1.1.1) then
                    some ((false, ()), ())
                  else
                    (g8 x0.2.2.2.2.2.2.2.2.1 x1.2.2.2.2.2.2.2.2.1).bind fun y2 =>
                      bif (!y2.1.1) then
                        some ((false, ()), ())
                      else
                        (g32 x0.2.2.2.2.2.2.2.2.2.1 x1.2.2.2.2.2.2.2.2.2.1).bind fun y3 =>
                          bif (!y3.1.1) then
                            some ((false, ()), ())
                          else
                            (g33 x0.2.2.2.2.2.2.2.2.2.2.1 x1.2.2.2.2.2.2.2.2.2.2.1).bind fun y4 =>
                              bif (!y4.1.1) then
                                some ((false, ()), ())
                              else
                                some ((true, ()), ())
noncomputable def c9 : Ctr := { ins := [.v Ty147, .v Ty147], out := [.bool], F := fun x => g9 x.1 x.2.1 }
theorem v9 : LoopsOk Tryz.prog Γ t9 a9 (loopsIn (Tryz.f9.body.getD .skip) 0) := loopsOk_nil (by kernel_rfl)
theorem r9 (x : InsT c9.ins) : fnK Tryz.prog Γ t9 a9 Tryz.f9 c9 x = g9 x.1 x.2.1 := by kernel_rfl
theorem k9 : TblOk Tryz.prog t9 := tblOk_cons o29 (tblOk_cons o30 (tblOk_cons o31 (tblOk_cons o8 (tblOk_cons o32 (tblOk_cons o33 (tblOk_nil))))))
theorem o9 : Holds Tryz.prog 9 c9 := fn_holds (code := Tryz.f9.body.getD .skip) (by kernel_rfl) gamOk k9 Tryz.func9 (by kernel_rfl) (by kernel_rfl) (by kernel_rfl) (by kernel_rfl) v9 (fun x _ h => (r9 x).trans h)
/-! ### 61: loop.example/g00076/laws.markText -/
noncomputable def t61 : Tbl := []
abbrev h61_L0 : Shape := { slots := [(0, .v (.int .i64)), (3, .v .str)], boxes := [] }
abbrev e61_L0 : List (XT × Shape) := [(.exit 0, { slots := [(3, .v .str)], boxes := [] })]
noncomputable def q61_L0 (t0 : Int) (t3 : ByteArray) : Option (Ta18 ⊕ (Ta5 ⊕ Empty)) :=
  bif (decide (t0 > (0 : Int))) then
    bif (Nat.ble ((strOfL (L.of (Ty.zero (.int .u8)) [(IntKind.wrap .u8 ((wI ((48 : Int) + (Int.tmod t0 (10 : Int))))))])).size + t3.size) 9223372036854775807) then
      some (.inl (((wI (Int.tdiv t0 (10 : Int))), (((strOfL (L.of (Ty.zero (.int .u8)) [(IntKind.wrap .u8 ((wI ((48 : Int) + (Int.tmod t0 (10 : Int))))))])) ++ t3), ())), ()))
    else
      none
  else
    some (.inr (.inl ((t3, ()), ())))
noncomputable def s61_L0 (x : Ta18) : Option (Ta18 ⊕ (Ta5 ⊕ Empty)) := q61_L0 x.1.1 x.1.2.1
noncomputable def a61 : Nat → Option LoopAnn := fun c => bif Nat.beq c 0 then some (.fix h61_L0 e61_L0 s61_L0) else none
noncomputable def g61 (x0 : Int) : Option Ta5 :=
  bif (decide (x0 ≤ (0 : Int))) then
    some (((⟨#[109, 48]⟩ : ByteArray), ()), ())
  else
    (fixO s61_L0 ((x0, ((⟨#[]⟩ : ByteArray), ())), ())).bind fun d2 => match d2 with
    | .inl y1 =>
      bif (Nat.ble ((⟨#[109]⟩ : ByteArray).size + y1.1.1.size) 9223372036854775807) then
        some ((((⟨#[109]⟩ : ByteArray) ++ y1.1.1), ()), ())
      else
        none
    | .inr e => nomatch e
noncomputable def c61 : Ctr := { ins := [.v (.int .i64)], out := [.str], F := fun x => g61 x.1 }
noncomputable def l61 : List (Nat × Code) := loopsIn (Tryz.f61.body.getD .skip) 0
theorem w61_L0 (x : h61_L0.T) : runK Tryz.prog Γ t61 (inlN Tryz.prog Γ t61 3) a61 (l61.getD 0 (0, .skip)).2 0 (pkSh h61_L0 x) (loopCls (sh := h61_L0) (es := e61_L0)) = (s61_L0 x : Option _) := by kernel_rfl
theorem v61 : LoopsOk Tryz.prog Γ t61 a61 (loopsIn (Tryz.f61.body.getD .skip) 0) := by
  have e : loopsIn (Tryz.f61.body.getD .skip) 0 = [(0, (l61.getD 0 (0, .skip)).2)] := by kernel_rfl
  rw [e]
  exact ⟨fun x d h => (w61_L0 x).trans h, trivial⟩
theorem r61 (x : InsT c61.ins) : fnK Tryz.prog Γ t61 a61 Tryz.f61 c61 x = g61 x.1 := by kernel_rfl
theorem k61 : TblOk Tryz.prog t61 := tblOk_nil
theorem o61 : Holds Tryz.prog 61 c61 := fn_holds (code := Tryz.f61.body.getD .skip) (by kernel_rfl) gamOk k61 Tryz.func61 (by kernel_rfl) (by kernel_rfl) (by kernel_rfl) (by kernel_rfl) v61 (fun x _ h => (r61 x).trans h)
/-! ### 62: loop.example/g00076/laws.markWindowS -/
noncomputable def t62 : Tbl := []
abbrev h62_L0 : Shape := { slots := [(0, .ms 100000000), (1, .v (.int .i64)), (5, .v (.int .i64))], boxes := [(100000000, .arr Ty51)] }
abbrev e62_L0 : List (XT × Shape) := [(.exit 0, { slots := [(1, .v (.int .i64))], boxes := [(100000000, .arr Ty51)] })]
noncomputable def q62_L0 (t1 : Int) (t5 : Int) (r100000000 : Ta11) : Option (Ta66 ⊕ (Ta46 ⊕ Empty)) :=
  bif (decide (t5 < (r100000000.len : Int))) then
    bif (decide (0 ≤ t5) && decide (t5 < (r100000000.len : Int))) then
      bif (decide (0 ≤ t5) && decide (t5 < ((L.upd r100000000 t5.toNat fun e => (t1, e.2)).len : Int))) then
        bif (decide (0 ≤ t5) && decide (t5 < ((L.upd (L.upd r100000000 t5.toNat fun e => (t1, e.2)) t5.toNat fun e => (e.1, ((wI (t1 + (1 : Int))), e.2.2))).len : Int))) then
          some (.inl (((), ((wI ((wI ((wI (t1 + (1 : Int))) + (1 : Int))) + (1 : Int))), ((wI (t5 + (1 : Int))), ()))), ((L.upd (L.upd (L.upd r100000000 t5.toNat fun e => (t1, e.2)) t5.toNat fun e => (e.1, ((wI (t1 + (1 : Int))), e.2.2))) t5.toNat fun e => (e.1, (e.2.1, ((wI ((wI (t1 + (1 : Int))) + (1 : Int))), ())))), ())))
        else
          none
      else
        none
    else
      none
  else
    some (.inr (.inl ((t1, ()), (r100000000, ()))))
noncomputable def s62_L0 (x : Ta66) : Option (Ta66 ⊕ (Ta46 ⊕ Empty)) := q62_L0 x.1.2.1 x.1.2.2.1 x.2.1
noncomputable def a62 : Nat → Option LoopAnn := fun c => bif Nat.beq c 0 then some (.fix h62_L0 e62_L0 s62_L0) else none
noncomputable def g62 (x0 : Ta11) (x1 : Int) : Option Ta46 :=
  (fixO s62_L0 (((), (x1, ((0 : Int), ()))), (x0, ()))).bind fun d2 => match d2 with
  | .inl y1 =>
    some ((y1.1.1, ()), (y1.2.1, ()))
  | .inr e => nomatch e
noncomputable def c62 : Ctr := { ins := [.ow Ty51, .v (.int .i64)], out := [(.int .i64)], F := fun x => g62 x.1 x.2.1 }
noncomputable def l62 : List (Nat × Code) := loopsIn (Tryz.f62.body.getD .skip) 0
theorem w62_L0 (x : h62_L0.T) : runK Tryz.prog Γ t62 (inlN Tryz.prog Γ t62 3) a62 (l62.getD 0 (0, .skip)).2 0 (pkSh h62_L0 x) (loopCls (sh := h62_L0) (es := e62_L0)) = (s62_L0 x : Option _) := by kernel_rfl
theorem v62 : LoopsOk Tryz.prog Γ t62 a62 (loopsIn (Tryz.f62.body.getD .skip) 0) := by
  have e : loopsIn (Tryz.f62.body.getD .skip) 0 = [(0, (l62.getD 0 (0, .skip)).2)] := by kernel_rfl
  rw [e]
  exact ⟨fun x d h => (w62_L0 x).trans h, trivial⟩
theorem r62 (x : InsT c62.ins) : fnK Tryz.prog Γ t62 a62 Tryz.f62 c62 x = g62 x.1 x.2.1 := by kernel_rfl
theorem k62 : TblOk Tryz.prog t62 := tblOk_nil
theorem o62 : Holds Tryz.prog 62 c62 := fn_holds (code := Tryz.f62.body.getD .skip) (by kernel_rfl) gamOk k62 Tryz.func62 (by kernel_rfl) (by kernel_rfl) (by kernel_rfl) (by kernel_rfl) v62 (fun x _ h => (r62 x).trans h)
/-! ### 34: loop.example/g00076/laws.markPartRowS -/
noncomputable def t34 : Tbl := [(61, [], c61), (62, [], c62)]
abbrev h34_L0 : Shape := { slots := [(0, .ms 100000000), (1, .v (.int .i64)), (5, .v (.int .i64))], boxes := [(100000000, .mix Ty112)] }
abbrev e34_L0 : List (XT × Shape) := [(.exit 0, { slots := [(1, .v (.int .i64))], boxes := [(100000000, .mix Ty112)] })]
noncomputable def q34_L0 (t1 : Int) (t5 : Int) (r100000000 : Ta78) : Option (Ta98 ⊕ (Ta93 ⊕ Empty)) :=
  bif (decide (t5 < (r100000000.len : Int))) then
    (g61 t1).bind fun y1 =>
      bif (decide (0 ≤ t5) && decide (t5 < (r100000000.len : Int))) then
        bif (decide (0 ≤ t5) && decide (t5 < ((L.upd r100000000 t5.toNat fun e => (y1.1.1, e.2)).len : Int))) then
          bif (decide (0 ≤ t5) && decide (t5 < ((L.upd (L.upd r100000000 t5.toNat fun e => (y1.1.1, e.2)) t5.toNat fun e => (e.1, ((wI (t1 + (1 : Int))), e.2.2))).len : Int))) then
            bif (decide (0 ≤ t5) && decide (t5 < ((L.upd (L.upd (L.upd r100000000 t5.toNat fun e => (y1.1.1, e.2)) t5.toNat fun e => (e.1, ((wI (t1 + (1 : Int))), e.2.2))) t5.toNat fun e => (e.1, (e.2.1, (((wI ((wI (t1 + (1 : Int))) + (1 : Int))), e.2.2.1.2), e.2.2.2)))).len : Int))) then
              bif (decide (0 ≤ t5) && decide (t5 < ((L.upd (L.upd (L.upd (L.upd r100000000 t5.toNat fun e => (y1.1.1, e.2)) t5.toNat fun e => (e.1, ((wI (t1 + (1 : Int))), e.2.2))) t5.toNat fun e => (e.1, (e.2.1, (((wI ((wI (t1 + (1 : Int))) + (1 : Int))), e.2.2.1.2), e.2.2.2)))) t5.toNat fun e => (e.1, (e.2.1, ((e.2.2.1.1, ((wI ((wI ((wI (t1 + (1 : Int))) + (1 : Int))) + (1 : Int))), ())), e.2.2.2)))).len : Int))) then
                (g62 (L.get (L.upd (L.upd (L.upd (L.upd r100000000 t5.toNat fun e => (y1.1.1, e.2)) t5.toNat fun e => (e.1, ((wI (t1 + (1 : Int))), e.2.2))) t5.toNat fun e => (e.1, (e.2.1, (((wI ((wI (t1 + (1 : Int))) + (1 : Int))), e.2.2.1.2), e.2.2.2)))) t5.toNat fun e => (e.1, (e.2.1, ((e.2.2.1.1, ((wI ((wI ((wI (t1 + (1 : Int))) + (1 : Int))) + (1 : Int))), ())), e.2.2.2)))) t5.toNat).2.2.2.1 (wI ((wI ((wI ((wI (t1 + (1 : Int))) + (1 : Int))) + (1 : Int))) + (1 : Int)))).bind fun y2 =>
                  some (.inl (((), (y2.1.1, ((wI (t5 + (1 : Int))), ()))), ((L.upd (L.upd (L.upd (L.upd (L.upd r100000000 t5.toNat fun e => (y1.1.1, e.2)) t5.toNat fun e => (e.1, ((wI (t1 + (1 : Int))), e.2.2))) t5.toNat fun e => (e.1, (e.2.1, (((wI ((wI (t1 + (1 : Int))) + (1 : Int))), e.2.2.1.2), e.2.2.2)))) t5.toNat fun e => (e.1, (e.2.1, ((e.2.2.1.1, ((wI ((wI ((wI (t1 + (1 : Int))) + (1 : Int))) + (1 : Int))), ())), e.2.2.2)))) t5.toNat fun e => (e.1, (e.2.1, (e.2.2.1, (y2.2.1, e.2.2.2.2))))), ())))
              else
                none
            else
              none
          else
            none
        else
          none
      else
        none
  else
    some (.inr (.inl ((t1, ()), (r100000000, ()))))
noncomputable def s34_L0 (x : Ta98) : Option (Ta98 ⊕ (Ta93 ⊕ Empty)) := q34_L0 x.1.2.1 x.1.2.2.1 x.2.1
noncomputable def a34 : Nat → Option LoopAnn := fun c => bif Nat.beq c 0 then some (.fix h34_L0 e34_L0 s34_L0) else none
noncomputable def g34 (x0 : Ta78) (x1 : Int) : Option Ta93 :=
  (fixO s34_L0 (((), (x1, ((0 : Int), ()))), (x0, ()))).bind fun d4 => match d4 with
  | .inl y3 =>
    some ((y3.1.1, ()), (y3.2.1, ()))
  | .inr e => nomatch e
noncomputable def c34 : Ctr := { ins := [.ow Ty112, .v (.int .i64)], out := [(.int .i64)], F := fun x => g34 x.1 x.2.1 }
noncomputable def l34 : List (Nat × Code) := loopsIn (Tryz.f34.body.getD .skip) 0
theorem w34_L0 (x : h34_L0.T) : runK Tryz.prog Γ t34 (inlN Tryz.prog Γ t34 3) a34 (l34.getD 0 (0, .skip)).2 0 (pkSh h34_L0 x) (loopCls (sh := h34_L0) (es := e34_L0)) = (s34_L0 x : Option _) := by kernel_rfl
theorem v34 : LoopsOk Tryz.prog Γ t34 a34 (loopsIn (Tryz.f34.body.getD .skip) 0) := by
  have e : loopsIn (Tryz.f34.body.getD .skip) 0 = [(0, (l34.getD 0 (0, .skip)).2)] := by kernel_rfl
  rw [e]
  exact ⟨fun x d h => (w34_L0 x).trans h, trivial⟩
theorem r34 (x : InsT c34.ins) : fnK Tryz.prog Γ t34 a34 Tryz.f34 c34 x = g34 x.1 x.2.1 := by kernel_rfl
theorem k34 : TblOk Tryz.prog t34 := tblOk_cons o61 (tblOk_cons o62 (tblOk_nil))
theorem o34 : Holds Tryz.prog 34 c34 := fn_holds (code := Tryz.f34.body.getD .skip) (by kernel_rfl) gamOk k34 Tryz.func34 (by kernel_rfl) (by kernel_rfl) (by kernel_rfl) (by kernel_rfl) v34 (fun x _ h => (r34 x).trans h)
/-! ### 69: loop.example/g00076/laws.toWindowS -/
noncomputable def t69r : Tbl := [(93, [], c93)]
abbrev h69r_L0 : Shape := { slots := [(0, .v Ty59), (3, .ms 7), (4, .v (.int .i64))], boxes := [(7, .arr Ty51)] }
abbrev e69r_L0 : List (XT × Shape) := [(.exit 0, { slots := [(3, .ms 7)], boxes := [(7, .arr Ty51)] })]
noncomputable def q69r_L0 (t0 : Ta11) (t4 : Int) (r7 : Ta11) : Option (Ta87 ⊕ (Ta48 ⊕ Empty)) :=
  bif (decide (t4 < (t0.len : Int))) then
    bif (decide (0 ≤ t4) && decide (t4 < (t0.len : Int))) then
      bif (decide (0 ≤ t4) && decide (t4 < (r7.len : Int))) then
        some (.inl ((t0, ((), ((wI (t4 + (1 : Int))), ()))), ((L.set r7 t4.toNat (f93 (L.get t0 t4.toNat))), ())))
      else
        none
    else
      none
  else
    some (.inr (.inl (((), ()), (r7, ()))))
noncomputable def s69r_L0 (x : Ta87) : Option (Ta87 ⊕ (Ta48 ⊕ Empty)) := q69r_L0 x.1.1 x.1.2.2.1 x.2.1
noncomputable def a69r : Nat → Option LoopAnn := fun c => bif Nat.beq c 0 then some (.fix h69r_L0 e69r_L0 s69r_L0) else none
noncomputable def g69r (x0 : Ta11) : Option Ta38 :=
  bif (decide ((x0.len : Int) = (x0.len : Int)) && (decide (0 ≤ (x0.len : Int)) && (decide ((x0.len : Int) ≤ 2 ^ 40) && decide (24 * (x0.len : Int) ≤ 2 ^ 48)))) then
    (fixO s69r_L0 ((x0, ((), ((0 : Int), ()))), ((L.rep (x0.len : Int).toNat (Ty.zero Ty51)), ()))).bind fun d2 => match d2 with
    | .inl y1 =>
      some ((y1.2.1, ()), ())
    | .inr e => nomatch e
  else
    none
noncomputable def c69r : Ctr := { ins := [.v Ty59], out := [Ty59], F := fun x => g69r x.1, fr := 1 }
noncomputable def l69r : List (Nat × Code) := loopsIn (Tryz.f69.body.getD .skip) 0
theorem w69r_L0 (x : h69r_L0.T) : runK Tryz.prog Γ t69r (inlN Tryz.prog Γ t69r 3) a69r (l69r.getD 0 (0, .skip)).2 0 (pkSh h69r_L0 x) (loopCls (sh := h69r_L0) (es := e69r_L0)) = (s69r_L0 x : Option _) := by kernel_rfl
theorem v69r : LoopsOk Tryz.prog Γ t69r a69r (loopsIn (Tryz.f69.body.getD .skip) 0) := by
  have e : loopsIn (Tryz.f69.body.getD .skip) 0 = [(0, (l69r.getD 0 (0, .skip)).2)] := by kernel_rfl
  rw [e]
  exact ⟨fun x d h => (w69r_L0 x).trans h, trivial⟩
theorem r69r (x : InsT c69r.ins) : fnK Tryz.prog Γ t69r a69r Tryz.f69 c69r x = g69r x.1 := by kernel_rfl
theorem k69r : TblOk Tryz.prog t69r := tblOk_cons o93 (tblOk_nil)
theorem o69r : Holds Tryz.prog 69 c69r := fn_holds (code := Tryz.f69.body.getD .skip) (by kernel_rfl) gamOk k69r Tryz.func69 (by kernel_rfl) (by kernel_rfl) (by kernel_rfl) (by kernel_rfl) v69r (fun x _ h => (r69r x).trans h)
/-! ### 39: loop.example/g00076/laws.toPartRow -/
noncomputable def t39r : Tbl := [(68, [], c68), (69, [], c69r)]
noncomputable def a39r : Nat → Option LoopAnn := fun _ => none
noncomputable def g39r (x0 : Ta75) : Option (Ta81 × Unit) :=
  (g69r x0.2.2.2.1).bind fun y1 =>
    some (((x0.1, (x0.2.1, ((f68 x0.2.2.1), y1.1))), ()), ())
noncomputable def c39r : Ctr := { ins := [.v Ty112], out := [Ty112], F := fun x => g39r x.1, fr := 1 }
theorem v39r : LoopsOk Tryz.prog Γ t39r a39r (loopsIn (Tryz.f39.body.getD .skip) 0) := loopsOk_nil (by kernel_rfl)
theorem r39r (x : InsT c39r.ins) : fnK Tryz.prog Γ t39r a39r Tryz.f39 c39r x = g39r x.1 := by kernel_rfl
theorem k39r : TblOk Tryz.prog t39r := tblOk_cons o68 (tblOk_cons o69r (tblOk_nil))
theorem o39r : Holds Tryz.prog 39 c39r := fn_holds (code := Tryz.f39.body.getD .skip) (by kernel_rfl) gamOk k39r Tryz.func39 (by kernel_rfl) (by kernel_rfl) (by kernel_rfl) (by kernel_rfl) v39r (fun x _ h => (r39r x).trans h)
/-! ### 22: loop.example/g00076/laws.toPartRowS -/
noncomputable def t22r : Tbl := [(39, [], c39r)]
abbrev h22r_L0 : Shape := { slots := [(0, .v Ty113), (3, .ms 7), (4, .v (.int .i64))], boxes := [(7, .mix Ty112)], dp := true }
abbrev e22r_L0 : List (XT × Shape) := [(.exit 0, { slots := [(3, .ms 7)], boxes := [(7, .mix Ty112)], dp := true })]
noncomputable def q22r_L0 (t0 : Ta78) (t4 : Int) (r7 : Ta78) : Option (Ta124 ⊕ (((Unit × Unit) × Ta84) ⊕ Empty)) :=
  bif (decide (t4 < (t0.len : Int))) then
    bif (decide (0 ≤ t4) && decide (t4 < (t0.len : Int))) then
      (g39r (L.get t0 t4.toNat)).bind fun y1 =>
        bif (decide (0 ≤ t4) && decide (t4 < (r7.len : Int))) then
          some (.inl ((t0, ((), ((wI (t4 + (1 : Int))), ()))), ((L.set r7 t4.toNat y1.1.1), ())))
        else
          none
    else
      none
  else
    some (.inr (.inl (((), ()), (r7, ()))))
noncomputable def s22r_L0 (x : Ta124) : Option (Ta124 ⊕ (((Unit × Unit) × Ta84) ⊕ Empty)) := q22r_L0 x.1.1 x.1.2.2.1 x.2.1
noncomputable def a22r : Nat → Option LoopAnn := fun c => bif Nat.beq c 0 then some (.fix h22r_L0 e22r_L0 s22r_L0) else none
noncomputable def g22r (x0 : Ta78) : Option (Ta84 × Unit) :=
  bif (decide ((x0.len : Int) = (x0.len : Int)) && (decide (0 ≤ (x0.len : Int)) && (decide ((x0.len : Int) ≤ 2 ^ 40) && decide (64 * (x0.len : Int) ≤ 2 ^ 48)))) then
    (fixO s22r_L0 ((x0, ((), ((0 : Int), ()))), ((L.rep (x0.len : Int).toNat (Ty.zero Ty112)), ()))).bind fun d3 => match d3 with
    | .inl y2 =>
      some ((y2.2.1, ()), ())
    | .inr e => nomatch e
  else
    none
noncomputable def c22r : Ctr := { ins := [.v Ty113], out := [Ty113], F := fun x => g22r x.1, fr := 1 }
noncomputable def l22r : List (Nat × Code) := loopsIn (Tryz.f22.body.getD .skip) 0
theorem w22r_L0 (x : h22r_L0.T) : runK Tryz.prog Γ t22r (inlN Tryz.prog Γ t22r 3) a22r (l22r.getD 0 (0, .skip)).2 0 (pkSh h22r_L0 x) (loopCls (sh := h22r_L0) (es := e22r_L0)) = (s22r_L0 x : Option _) := by kernel_rfl
theorem v22r : LoopsOk Tryz.prog Γ t22r a22r (loopsIn (Tryz.f22.body.getD .skip) 0) := by
  have e : loopsIn (Tryz.f22.body.getD .skip) 0 = [(0, (l22r.getD 0 (0, .skip)).2)] := by kernel_rfl
  rw [e]
  exact ⟨fun x d h => (w22r_L0 x).trans h, trivial⟩
theorem r22r (x : InsT c22r.ins) : fnK Tryz.prog Γ t22r a22r Tryz.f22 c22r x = g22r x.1 := by kernel_rfl
theorem k22r : TblOk Tryz.prog t22r := tblOk_cons o39r (tblOk_nil)
theorem o22r : Holds Tryz.prog 22 c22r := fn_holds (code := Tryz.f22.body.getD .skip) (by kernel_rfl) gamOk k22r Tryz.func22 (by kernel_rfl) (by kernel_rfl) (by kernel_rfl) (by kernel_rfl) v22r (fun x _ h => (r22r x).trans h)
/-! ### 23: loop.example/g00076/laws.toIntS -/
noncomputable def t23r : Tbl := []
abbrev h23r_L0 : Shape := { slots := [(0, .v (.sl (.int .i64))), (3, .ms 7), (4, .v (.int .i64))], boxes := [(7, .arr (.int .i64))] }
abbrev e23r_L0 : List (XT × Shape) := [(.exit 0, { slots := [(3, .ms 7)], boxes := [(7, .arr (.int .i64))] })]
noncomputable def q23r_L0 (t0 : (L Int)) (t4 : Int) (r7 : (L Int)) : Option (Ta41 ⊕ (((Unit × Unit) × ((L Int) × Unit)) ⊕ Empty)) :=
  bif (decide (t4 < (t0.len : Int))) then
    bif (decide (0 ≤ t4) && decide (t4 < (t0.len : Int))) then
      bif (decide (0 ≤ t4) && decide (t4 < (r7.len : Int))) then
        some (.inl ((t0, ((), ((wI (t4 + (1 : Int))), ()))), ((L.set r7 t4.toNat (L.get t0 t4.toNat)), ())))
      else
        none
    else
      none
  else
    some (.inr (.inl (((), ()), (r7, ()))))
noncomputable def s23r_L0 (x : Ta41) : Option (Ta41 ⊕ (((Unit × Unit) × ((L Int) × Unit)) ⊕ Empty)) := q23r_L0 x.1.1 x.1.2.2.1 x.2.1
noncomputable def a23r : Nat → Option LoopAnn := fun c => bif Nat.beq c 0 then some (.fix h23r_L0 e23r_L0 s23r_L0) else none
noncomputable def g23r (x0 : (L Int)) : Option Ta2 :=
  bif (decide ((x0.len : Int) = (x0.len : Int)) && (decide (0 ≤ (x0.len : Int)) && (decide ((x0.len : Int) ≤ 2 ^ 40) && decide (8 * (x0.len : Int) ≤ 2 ^ 48)))) then
    (fixO s23r_L0 ((x0, ((), ((0 : Int), ()))), ((L.rep (x0.len : Int).toNat (Ty.zero (.int .i64))), ()))).bind fun d2 => match d2 with
    | .inl y1 =>
      some ((y1.2.1, ()), ())
    | .inr e => nomatch e
  else
    none
noncomputable def c23r : Ctr := { ins := [.v (.sl (.int .i64))], out := [(.sl (.int .i64))], F := fun x => g23r x.1, fr := 1 }
noncomputable def l23r : List (Nat × Code) := loopsIn (Tryz.f23.body.getD .skip) 0
theorem w23r_L0 (x : h23r_L0.T) : runK Tryz.prog Γ t23r (inlN Tryz.prog Γ t23r 3) a23r (l23r.getD 0 (0, .skip)).2 0 (pkSh h23r_L0 x) (loopCls (sh := h23r_L0) (es := e23r_L0)) = (s23r_L0 x : Option _) := by kernel_rfl
theorem v23r : LoopsOk Tryz.prog Γ t23r a23r (loopsIn (Tryz.f23.body.getD .skip) 0) := by
  have e : loopsIn (Tryz.f23.body.getD .skip) 0 = [(0, (l23r.getD 0 (0, .skip)).2)] := by kernel_rfl
  rw [e]
  exact ⟨fun x d h => (w23r_L0 x).trans h, trivial⟩
theorem r23r (x : InsT c23r.ins) : fnK Tryz.prog Γ t23r a23r Tryz.f23 c23r x = g23r x.1 := by kernel_rfl
theorem k23r : TblOk Tryz.prog t23r := tblOk_nil
theorem o23r : Holds Tryz.prog 23 c23r := fn_holds (code := Tryz.f23.body.getD .skip) (by kernel_rfl) gamOk k23r Tryz.func23 (by kernel_rfl) (by kernel_rfl) (by kernel_rfl) (by kernel_rfl) v23r (fun x _ h => (r23r x).trans h)
/-! ### 24: loop.example/g00076/laws.toChanRowS -/
noncomputable def t24r : Tbl := [(40, [], c40)]
abbrev h24r_L0 : Shape := { slots := [(0, .v Ty76), (3, .ms 7), (4, .v (.int .i64))], boxes := [(7, .arr Ty72)] }
abbrev e24r_L0 : List (XT × Shape) := [(.exit 0, { slots := [(3, .ms 7)], boxes := [(7, .arr Ty72)] })]
noncomputable def q24r_L0 (t0 : Ta24) (t4 : Int) (r7 : Ta24) : Option (Ta95 ⊕ (((Unit × Unit) × Ta36) ⊕ Empty)) :=
  bif (decide (t4 < (t0.len : Int))) then
    bif (decide (0 ≤ t4) && decide (t4 < (t0.len : Int))) then
      bif (decide (0 ≤ t4) && decide (t4 < (r7.len : Int))) then
        some (.inl ((t0, ((), ((wI (t4 + (1 : Int))), ()))), ((L.set r7 t4.toNat (f40 (L.get t0 t4.toNat))), ())))
      else
        none
    else
      none
  else
    some (.inr (.inl (((), ()), (r7, ()))))
noncomputable def s24r_L0 (x : Ta95) : Option (Ta95 ⊕ (((Unit × Unit) × Ta36) ⊕ Empty)) := q24r_L0 x.1.1 x.1.2.2.1 x.2.1
noncomputable def a24r : Nat → Option LoopAnn := fun c => bif Nat.beq c 0 then some (.fix h24r_L0 e24r_L0 s24r_L0) else none
noncomputable def g24r (x0 : Ta24) : Option (Ta36 × Unit) :=
  bif (decide ((x0.len : Int) = (x0.len : Int)) && (decide (0 ≤ (x0.len : Int)) && (decide ((x0.len : Int) ≤ 2 ^ 40) && decide (32 * (x0.len : Int) ≤ 2 ^ 48)))) then
    (fixO s24r_L0 ((x0, ((), ((0 : Int), ()))), ((L.rep (x0.len : Int).toNat (Ty.zero Ty72)), ()))).bind fun d2 => match d2 with
    | .inl y1 =>
      some ((y1.2.1, ()), ())
    | .inr e => nomatch e
  else
    none
noncomputable def c24r : Ctr := { ins := [.v Ty76], out := [Ty76], F := fun x => g24r x.1, fr := 1 }
noncomputable def l24r : List (Nat × Code) := loopsIn (Tryz.f24.body.getD .skip) 0
theorem w24r_L0 (x : h24r_L0.T) : runK Tryz.prog Γ t24r (inlN Tryz.prog Γ t24r 3) a24r (l24r.getD 0 (0, .skip)).2 0 (pkSh h24r_L0 x) (loopCls (sh := h24r_L0) (es := e24r_L0)) = (s24r_L0 x : Option _) := by kernel_rfl
theorem v24r : LoopsOk Tryz.prog Γ t24r a24r (loopsIn (Tryz.f24.body.getD .skip) 0) := by
  have e : loopsIn (Tryz.f24.body.getD .skip) 0 = [(0, (l24r.getD 0 (0, .skip)).2)] := by kernel_rfl
  rw [e]
  exact ⟨fun x d h => (w24r_L0 x).trans h, trivial⟩
theorem r24r (x : InsT c24r.ins) : fnK Tryz.prog Γ t24r a24r Tryz.f24 c24r x = g24r x.1 := by kernel_rfl
theorem k24r : TblOk Tryz.prog t24r := tblOk_cons o40 (tblOk_nil)
theorem o24r : Holds Tryz.prog 24 c24r := fn_holds (code := Tryz.f24.body.getD .skip) (by kernel_rfl) gamOk k24r Tryz.func24 (by kernel_rfl) (by kernel_rfl) (by kernel_rfl) (by kernel_rfl) v24r (fun x _ h => (r24r x).trans h)
/-! ### 25: loop.example/g00076/laws.toSlotS -/
noncomputable def t25r : Tbl := [(41, [], c41)]
abbrev h25r_L0 : Shape := { slots := [(0, .v Ty59), (3, .ms 7), (4, .v (.int .i64))], boxes := [(7, .arr Ty51)] }
abbrev e25r_L0 : List (XT × Shape) := [(.exit 0, { slots := [(3, .ms 7)], boxes := [(7, .arr Ty51)] })]
noncomputable def q25r_L0 (t0 : Ta11) (t4 : Int) (r7 : Ta11) : Option (Ta87 ⊕ (Ta48 ⊕ Empty)) :=
  bif (decide (t4 < (t0.len : Int))) then
    bif (decide (0 ≤ t4) && decide (t4 < (t0.len : Int))) then
      bif (decide (0 ≤ t4) && decide (t4 < (r7.len : Int))) then
        some (.inl ((t0, ((), ((wI (t4 + (1 : Int))), ()))), ((L.set r7 t4.toNat (f41 (L.get t0 t4.toNat))), ())))
      else
        none
    else
      none
  else
    some (.inr (.inl (((), ()), (r7, ()))))
noncomputable def s25r_L0 (x : Ta87) : Option (Ta87 ⊕ (Ta48 ⊕ Empty)) := q25r_L0 x.1.1 x.1.2.2.1 x.2.1
noncomputable def a25r : Nat → Option LoopAnn := fun c => bif Nat.beq c 0 then some (.fix h25r_L0 e25r_L0 s25r_L0) else none
noncomputable def g25r (x0 : Ta11) : Option Ta38 :=
  bif (decide ((x0.len : Int) = (x0.len : Int)) && (decide (0 ≤ (x0.len : Int)) && (decide ((x0.len : Int) ≤ 2 ^ 40) && decide (24 * (x0.len : Int) ≤ 2 ^ 48)))) then
    (fixO s25r_L0 ((x0, ((), ((0 : Int), ()))), ((L.rep (x0.len : Int).toNat (Ty.zero Ty51)), ()))).bind fun d2 => match d2 with
    | .inl y1 =>
      some ((y1.2.1, ()), ())
    | .inr e => nomatch e
  else
    none
noncomputable def c25r : Ctr := { ins := [.v Ty59], out := [Ty59], F := fun x => g25r x.1, fr := 1 }
noncomputable def l25r : List (Nat × Code) := loopsIn (Tryz.f25.body.getD .skip) 0
theorem w25r_L0 (x : h25r_L0.T) : runK Tryz.prog Γ t25r (inlN Tryz.prog Γ t25r 3) a25r (l25r.getD 0 (0, .skip)).2 0 (pkSh h25r_L0 x) (loopCls (sh := h25r_L0) (es := e25r_L0)) = (s25r_L0 x : Option _) := by kernel_rfl
theorem v25r : LoopsOk Tryz.prog Γ t25r a25r (loopsIn (Tryz.f25.body.getD .skip) 0) := by
  have e : loopsIn (Tryz.f25.body.getD .skip) 0 = [(0, (l25r.getD 0 (0, .skip)).2)] := by kernel_rfl
  rw [e]
  exact ⟨fun x d h => (w25r_L0 x).trans h, trivial⟩
theorem r25r (x : InsT c25r.ins) : fnK Tryz.prog Γ t25r a25r Tryz.f25 c25r x = g25r x.1 := by kernel_rfl
theorem k25r : TblOk Tryz.prog t25r := tblOk_cons o41 (tblOk_nil)
theorem o25r : Holds Tryz.prog 25 c25r := fn_holds (code := Tryz.f25.body.getD .skip) (by kernel_rfl) gamOk k25r Tryz.func25 (by kernel_rfl) (by kernel_rfl) (by kernel_rfl) (by kernel_rfl) v25r (fun x _ h => (r25r x).trans h)
/-! ### 6: loop.example/g00076/laws.toTables -/
noncomputable def t6r : Tbl := [(20, [], c20), (21, [], c21), (22, [], c22r), (23, [], c23r), (24, [], c24r), (25, [], c25r)]
noncomputable def a6r : Nat → Option LoopAnn := fun _ => none
noncomputable def g6r (x0 : Ta129) : Option (Ta130 × Unit) :=
  (g22r x0.2.2.2.2.2.2.2.1).bind fun y1 =>
    (g23r x0.2.2.2.2.2.2.2.2.1).bind fun y2 =>
      (g24r x0.2.2.2.2.2.2.2.2.2.1).bind fun y3 =>
        (g25r x0.2.2.2.2.2.2.2.2.2.2.1).bind fun y4 =>
          some (((x0.1, ((f20 x0.2.1), (x0.2.2.1, ((f21 x0.2.2.2.1), (x0.2.2.2.2.1, (x0.2.2.2.2.2.1, (x0.2.2.2.2.2.2.1, (y1.1.1, (y2.1.1, (y3.1.1, y4.1)))))))))), ()), ())
noncomputable def c6r : Ctr := { ins := [.v Ty147], out := [Ty147], F := fun x => g6r x.1, fr := 1 }
theorem v6r : LoopsOk Tryz.prog Γ t6r a6r (loopsIn (Tryz.f6.body.getD .skip) 0) := loopsOk_nil (by kernel_rfl)
theorem r6r (x : InsT c6r.ins) : fnK Tryz.prog Γ t6r a6r Tryz.f6 c6r x = g6r x.1 := by kernel_rfl
theorem k6r : TblOk Tryz.prog t6r := tblOk_cons o20 (tblOk_cons o21 (tblOk_cons o22r (tblOk_cons o23r (tblOk_cons o24r (tblOk_cons o25r (tblOk_nil))))))
theorem o6r : Holds Tryz.prog 6 c6r := fn_holds (code := Tryz.f6.body.getD .skip) (by kernel_rfl) gamOk k6r Tryz.func6 (by kernel_rfl) (by kernel_rfl) (by kernel_rfl) (by kernel_rfl) v6r (fun x _ h => (r6r x).trans h)
/-! ### 5: loop.example/g00076/spec.SlotStarts -/
noncomputable def t5r : Tbl := [(17, [], c17), (18, [], c18), (19, [], c19)]
abbrev h5r_L0 : Shape := { slots := [(1, .v (.int .i64)), (3, .v (.int .i64)), (4, .bx 4 0), (9, .exo (.int .i64) 50009), (10, .v (.int .i64))], boxes := [(4, .typ Ty147)] }
abbrev e5r_L0 : List (XT × Shape) := [(.exit 0, { slots := [(9, .exo (.int .i64) 50009)], boxes := [] })]
noncomputable def q5r_L0 (t1 : Int) (t3 : Int) (t9 : (L Int)) (t10 : Int) (b4 : Ta129) : Option (Ta135 ⊕ (Ta2 ⊕ Empty)) :=
  bif (decide (t10 < t3)) then
    (g19 b4 t10).bind fun y3 =>
      bif (y3.1.1 == t1) then
        bif (decide (t9.len + (L.of (Ty.zero (.int .i64)) [t10]).len ≤ most)) then
          some (.inl ((t1, (t3, ((), ((L.app t9 (L.of (Ty.zero (.int .i64)) [t10])), ((wI (t10 + (1 : Int))), ()))))), (b4, ())))
        else
          none
      else
        some (.inl ((t1, (t3, ((), (t9, ((wI (t10 + (1 : Int))), ()))))), (b4, ())))
  else
    some (.inr (.inl ((t9, ()), ())))
noncomputable def s5r_L0 (x : Ta135) : Option (Ta135 ⊕ (Ta2 ⊕ Empty)) := q5r_L0 x.1.1 x.1.2.1 x.1.2.2.2.1 x.1.2.2.2.2.1 x.2.1
noncomputable def a5r : Nat → Option LoopAnn := fun c => bif Nat.beq c 0 then some (.fix h5r_L0 e5r_L0 s5r_L0) else none
noncomputable def g5r (x0 : Ta129) (x1 : Int) (x2 : Int) (x3 : Int) : Option Ta2 :=
  (g17 x0 x2).bind fun y1 =>
    bif (!y1.1.1) then
      some (((L.of (Ty.zero (.int .i64)) []), ()), ())
    else
      (g17 x0 x3).bind fun y2 =>
        bif (!y2.1.1) then
          some (((L.of (Ty.zero (.int .i64)) []), ()), ())
        else
          bif (!(f18 x1 (0 : Int) (wI ((x0.2.2.2.2.2.2.2.1.len : Int) - (1 : Int))))) then
            some (((L.of (Ty.zero (.int .i64)) []), ()), ())
          else
            (fixO s5r_L0 ((x1, (x3, ((), ((L.of (Ty.zero (.int .i64)) []), (x2, ()))))), (x0, ()))).bind fun d5 => match d5 with
            | .inl y4 =>
              some ((y4.1.1, ()), ())
            | .inr e => nomatch e
noncomputable def c5r : Ctr := { ins := [.v Ty147, .v (.int .i64), .v (.int .i64), .v (.int .i64)], out := [(.sl (.int .i64))], F := fun x => g5r x.1 x.2.1 x.2.2.1 x.2.2.2.1, fr := 1 }
noncomputable def l5r : List (Nat × Code) := loopsIn (Tryz.f5.body.getD .skip) 0
theorem w5r_L0 (x : h5r_L0.T) : runK Tryz.prog Γ t5r (inlN Tryz.prog Γ t5r 3) a5r (l5r.getD 0 (0, .skip)).2 0 (pkSh h5r_L0 x) (loopCls (sh := h5r_L0) (es := e5r_L0)) = (s5r_L0 x : Option _) := by kernel_rfl
theorem v5r : LoopsOk Tryz.prog Γ t5r a5r (loopsIn (Tryz.f5.body.getD .skip) 0) := by
  have e : loopsIn (Tryz.f5.body.getD .skip) 0 = [(0, (l5r.getD 0 (0, .skip)).2)] := by kernel_rfl
  rw [e]
  exact ⟨fun x d h => (w5r_L0 x).trans h, trivial⟩
theorem r5r (x : InsT c5r.ins) : fnK Tryz.prog Γ t5r a5r Tryz.f5 c5r x = g5r x.1 x.2.1 x.2.2.1 x.2.2.2.1 := by kernel_rfl
theorem k5r : TblOk Tryz.prog t5r := tblOk_cons o17 (tblOk_cons o18 (tblOk_cons o19 (tblOk_nil)))
theorem o5r : Holds Tryz.prog 5 c5r := fn_holds (code := Tryz.f5.body.getD .skip) (by kernel_rfl) gamOk k5r Tryz.func5 (by kernel_rfl) (by kernel_rfl) (by kernel_rfl) (by kernel_rfl) v5r (fun x _ h => (r5r x).trans h)
/-! ### 7: loop.example/g00076/impl.SlotStarts -/
noncomputable def t7r : Tbl := [(26, [], c26), (27, [], c27), (28, [], c28)]
abbrev h7r_L0 : Shape := { slots := [(1, .v (.int .i64)), (3, .v (.int .i64)), (4, .bx 4 0), (9, .exo (.int .i64) 50009), (10, .v (.int .i64))], boxes := [(4, .typ Ty147)] }
abbrev e7r_L0 : List (XT × Shape) := [(.exit 0, { slots := [(9, .exo (.int .i64) 50009)], boxes := [] })]
noncomputable def q7r_L0 (t1 : Int) (t3 : Int) (t9 : (L Int)) (t10 : Int) (b4 : Ta129) : Option (Ta135 ⊕ (Ta2 ⊕ Empty)) :=
  bif (decide (t10 < t3)) then
    (g28 b4 t10).bind fun y2 =>
      bif (decide (y2.1.1 ≥ (0 : Int))) then
        bif (decide (0 ≤ y2.1.1) && decide (y2.1.1 < (b4.2.2.2.2.2.2.2.2.2.2.1.len : Int))) then
          bif ((L.get b4.2.2.2.2.2.2.2.2.2.2.1 y2.1.1.toNat).1 == t1) then
            bif (decide (0 ≤ y2.1.1) && decide (y2.1.1 < (b4.2.2.2.2.2.2.2.2.2.2.1.len : Int))) then
              bif (!decide (b4.2.2.2.2.2.2.1 = 0)) then
                bif ((L.get b4.2.2.2.2.2.2.2.2.2.2.1 y2.1.1.toNat).2.1 == (Int.tmod t10 b4.2.2.2.2.2.2.1)) then
                  bif (decide (t9.len + (L.of (Ty.zero (.int .i64)) [t10]).len ≤ most)) then
                    some (.inl ((t1, (t3, ((), ((L.app t9 (L.of (Ty.zero (.int .i64)) [t10])), ((wI (t10 + (1 : Int))), ()))))), (b4, ())))
                  else
                    none
                else
                  some (.inl ((t1, (t3, ((), (t9, ((wI (t10 + (1 : Int))), ()))))), (b4, ())))
              else
                none
            else
              none
          else
            some (.inl ((t1, (t3, ((), (t9, ((wI (t10 + (1 : Int))), ()))))), (b4, ())))
        else
          none
      else
        some (.inl ((t1, (t3, ((), (t9, ((wI (t10 + (1 : Int))), ()))))), (b4, ())))
  else
    some (.inr (.inl ((t9, ()), ())))
noncomputable def s7r_L0 (x : Ta135) : Option (Ta135 ⊕ (Ta2 ⊕ Empty)) := q7r_L0 x.1.1 x.1.2.1 x.1.2.2.2.1 x.1.2.2.2.2.1 x.2.1
noncomputable def a7r : Nat → Option LoopAnn := fun c => bif Nat.beq c 0 then some (.fix h7r_L0 e7r_L0 s7r_L0) else none
noncomputable def g7r (x0 : Ta129) (x1 : Int) (x2 : Int) (x3 : Int) : Option Ta2 :=
  (g26 x0).bind fun y1 =>
    bif (!y1.1.1) then
      some (((nilL (.int .i64)), ()), ())
    else
      bif (!(f27 x2)) then
        some (((nilL (.int .i64)), ()), ())
      else
        bif (!(f27 x3)) then
          some (((nilL (.int .i64)), ()), ())
        else
          (fixO s7r_L0 ((x1, (x3, ((), ((nilL (.int .i64)), (x2, ()))))), (x0, ()))).bind fun d4 => match d4 with
          | .inl y3 =>
            some ((y3.1.1, ()), ())
          | .inr e => nomatch e
noncomputable def c7r : Ctr := { ins := [.v Ty147, .v (.int .i64), .v (.int .i64), .v (.int .i64)], out := [(.sl (.int .i64))], F := fun x => g7r x.1 x.2.1 x.2.2.1 x.2.2.2.1, fr := 1 }
noncomputable def l7r : List (Nat × Code) := loopsIn (Tryz.f7.body.getD .skip) 0
theorem w7r_L0 (x : h7r_L0.T) : runK Tryz.prog Γ t7r (inlN Tryz.prog Γ t7r 3) a7r (l7r.getD 0 (0, .skip)).2 0 (pkSh h7r_L0 x) (loopCls (sh := h7r_L0) (es := e7r_L0)) = (s7r_L0 x : Option _) := by kernel_rfl
theorem v7r : LoopsOk Tryz.prog Γ t7r a7r (loopsIn (Tryz.f7.body.getD .skip) 0) := by
  have e : loopsIn (Tryz.f7.body.getD .skip) 0 = [(0, (l7r.getD 0 (0, .skip)).2)] := by kernel_rfl
  rw [e]
  exact ⟨fun x d h => (w7r_L0 x).trans h, trivial⟩
theorem r7r (x : InsT c7r.ins) : fnK Tryz.prog Γ t7r a7r Tryz.f7 c7r x = g7r x.1 x.2.1 x.2.2.1 x.2.2.2.1 := by kernel_rfl
theorem k7r : TblOk Tryz.prog t7r := tblOk_cons o26 (tblOk_cons o27 (tblOk_cons o28 (tblOk_nil)))
theorem o7r : Holds Tryz.prog 7 c7r := fn_holds (code := Tryz.f7.body.getD .skip) (by kernel_rfl) gamOk k7r Tryz.func7 (by kernel_rfl) (by kernel_rfl) (by kernel_rfl) (by kernel_rfl) v7r (fun x _ h => (r7r x).trans h)
/-! ### 11: loop.example/g00076/laws.markIntS -/
noncomputable def t11 : Tbl := []
abbrev h11_L0 : Shape := { slots := [(0, .ms 100000000), (1, .v (.int .i64)), (5, .v (.int .i64))], boxes := [(100000000, .arr (.int .i64))] }
abbrev e11_L0 : List (XT × Shape) := [(.exit 0, { slots := [(1, .v (.int .i64))], boxes := [(100000000, .arr (.int .i64))] })]
noncomputable def q11_L0 (t1 : Int) (t5 : Int) (r100000000 : (L Int)) : Option (Ta39 ⊕ (Ta15 ⊕ Empty)) :=
  bif (decide (t5 < (r100000000.len : Int))) then
    bif (decide (0 ≤ t5) && decide (t5 < (r100000000.len : Int))) then
      some (.inl (((), ((wI (t1 + (1 : Int))), ((wI (t5 + (1 : Int))), ()))), ((L.upd r100000000 t5.toNat fun e => t1), ())))
    else
      none
  else
    some (.inr (.inl ((t1, ()), (r100000000, ()))))
noncomputable def s11_L0 (x : Ta39) : Option (Ta39 ⊕ (Ta15 ⊕ Empty)) := q11_L0 x.1.2.1 x.1.2.2.1 x.2.1
noncomputable def a11 : Nat → Option LoopAnn := fun c => bif Nat.beq c 0 then some (.fix h11_L0 e11_L0 s11_L0) else none
noncomputable def g11 (x0 : (L Int)) (x1 : Int) : Option Ta15 :=
  (fixO s11_L0 (((), (x1, ((0 : Int), ()))), (x0, ()))).bind fun d2 => match d2 with
  | .inl y1 =>
    some ((y1.1.1, ()), (y1.2.1, ()))
  | .inr e => nomatch e
noncomputable def c11 : Ctr := { ins := [.ow (.int .i64), .v (.int .i64)], out := [(.int .i64)], F := fun x => g11 x.1 x.2.1 }
noncomputable def l11 : List (Nat × Code) := loopsIn (Tryz.f11.body.getD .skip) 0
theorem w11_L0 (x : h11_L0.T) : runK Tryz.prog Γ t11 (inlN Tryz.prog Γ t11 3) a11 (l11.getD 0 (0, .skip)).2 0 (pkSh h11_L0 x) (loopCls (sh := h11_L0) (es := e11_L0)) = (s11_L0 x : Option _) := by kernel_rfl
theorem v11 : LoopsOk Tryz.prog Γ t11 a11 (loopsIn (Tryz.f11.body.getD .skip) 0) := by
  have e : loopsIn (Tryz.f11.body.getD .skip) 0 = [(0, (l11.getD 0 (0, .skip)).2)] := by kernel_rfl
  rw [e]
  exact ⟨fun x d h => (w11_L0 x).trans h, trivial⟩
theorem r11 (x : InsT c11.ins) : fnK Tryz.prog Γ t11 a11 Tryz.f11 c11 x = g11 x.1 x.2.1 := by kernel_rfl
theorem k11 : TblOk Tryz.prog t11 := tblOk_nil
theorem o11 : Holds Tryz.prog 11 c11 := fn_holds (code := Tryz.f11.body.getD .skip) (by kernel_rfl) gamOk k11 Tryz.func11 (by kernel_rfl) (by kernel_rfl) (by kernel_rfl) (by kernel_rfl) v11 (fun x _ h => (r11 x).trans h)
/-! ### 35: loop.example/g00076/laws.markChanRowS -/
noncomputable def t35 : Tbl := []
abbrev h35_L0 : Shape := { slots := [(0, .ms 100000000), (1, .v (.int .i64)), (5, .v (.int .i64))], boxes := [(100000000, .arr Ty72)] }
abbrev e35_L0 : List (XT × Shape) := [(.exit 0, { slots := [(1, .v (.int .i64))], boxes := [(100000000, .arr Ty72)] })]
noncomputable def q35_L0 (t1 : Int) (t5 : Int) (r100000000 : Ta24) : Option (Ta70 ⊕ (Ta57 ⊕ Empty)) :=
  bif (decide (t5 < (r100000000.len : Int))) then
    bif (decide (0 ≤ t5) && decide (t5 < (r100000000.len : Int))) then
      bif (decide (0 ≤ t5) && decide (t5 < ((L.upd r100000000 t5.toNat fun e => (t1, e.2)).len : Int))) then
        bif (decide (0 ≤ t5) && decide (t5 < ((L.upd (L.upd r100000000 t5.toNat fun e => (t1, e.2)) t5.toNat fun e => (e.1, ((wI (t1 + (1 : Int))), e.2.2))).len : Int))) then
          bif (decide (0 ≤ t5) && decide (t5 < ((L.upd (L.upd (L.upd r100000000 t5.toNat fun e => (t1, e.2)) t5.toNat fun e => (e.1, ((wI (t1 + (1 : Int))), e.2.2))) t5.toNat fun e => (e.1, (e.2.1, ((wI ((wI (t1 + (1 : Int))) + (1 : Int))), e.2.2.2)))).len : Int))) then
            some (.inl (((), ((wI ((wI ((wI ((wI (t1 + (1 : Int))) + (1 : Int))) + (1 : Int))) + (1 : Int))), ((wI (t5 + (1 : Int))), ()))), ((L.upd (L.upd (L.upd (L.upd r100000000 t5.toNat fun e => (t1, e.2)) t5.toNat fun e => (e.1, ((wI (t1 + (1 : Int))), e.2.2))) t5.toNat fun e => (e.1, (e.2.1, ((wI ((wI (t1 + (1 : Int))) + (1 : Int))), e.2.2.2)))) t5.toNat fun e => (e.1, (e.2.1, (e.2.2.1, ((wI ((wI ((wI (t1 + (1 : Int))) + (1 : Int))) + (1 : Int))), ()))))), ())))
          else
            none
        else
          none
      else
        none
    else
      none
  else
    some (.inr (.inl ((t1, ()), (r100000000, ()))))
noncomputable def s35_L0 (x : Ta70) : Option (Ta70 ⊕ (Ta57 ⊕ Empty)) := q35_L0 x.1.2.1 x.1.2.2.1 x.2.1
noncomputable def a35 : Nat → Option LoopAnn := fun c => bif Nat.beq c 0 then some (.fix h35_L0 e35_L0 s35_L0) else none
noncomputable def g35 (x0 : Ta24) (x1 : Int) : Option Ta57 :=
  (fixO s35_L0 (((), (x1, ((0 : Int), ()))), (x0, ()))).bind fun d2 => match d2 with
  | .inl y1 =>
    some ((y1.1.1, ()), (y1.2.1, ()))
  | .inr e => nomatch e
noncomputable def c35 : Ctr := { ins := [.ow Ty72, .v (.int .i64)], out := [(.int .i64)], F := fun x => g35 x.1 x.2.1 }
noncomputable def l35 : List (Nat × Code) := loopsIn (Tryz.f35.body.getD .skip) 0
theorem w35_L0 (x : h35_L0.T) : runK Tryz.prog Γ t35 (inlN Tryz.prog Γ t35 3) a35 (l35.getD 0 (0, .skip)).2 0 (pkSh h35_L0 x) (loopCls (sh := h35_L0) (es := e35_L0)) = (s35_L0 x : Option _) := by kernel_rfl
theorem v35 : LoopsOk Tryz.prog Γ t35 a35 (loopsIn (Tryz.f35.body.getD .skip) 0) := by
  have e : loopsIn (Tryz.f35.body.getD .skip) 0 = [(0, (l35.getD 0 (0, .skip)).2)] := by kernel_rfl
  rw [e]
  exact ⟨fun x d h => (w35_L0 x).trans h, trivial⟩
theorem r35 (x : InsT c35.ins) : fnK Tryz.prog Γ t35 a35 Tryz.f35 c35 x = g35 x.1 x.2.1 := by kernel_rfl
theorem k35 : TblOk Tryz.prog t35 := tblOk_nil
theorem o35 : Holds Tryz.prog 35 c35 := fn_holds (code := Tryz.f35.body.getD .skip) (by kernel_rfl) gamOk k35 Tryz.func35 (by kernel_rfl) (by kernel_rfl) (by kernel_rfl) (by kernel_rfl) v35 (fun x _ h => (r35 x).trans h)
/-! ### 36: loop.example/g00076/laws.markSlotS -/
noncomputable def t36 : Tbl := []
abbrev h36_L0 : Shape := { slots := [(0, .ms 100000000), (1, .v (.int .i64)), (5, .v (.int .i64))], boxes := [(100000000, .arr Ty51)] }
abbrev e36_L0 : List (XT × Shape) := [(.exit 0, { slots := [(1, .v (.int .i64))], boxes := [(100000000, .arr Ty51)] })]
noncomputable def q36_L0 (t1 : Int) (t5 : Int) (r100000000 : Ta11) : Option (Ta66 ⊕ (Ta46 ⊕ Empty)) :=
  bif (decide (t5 < (r100000000.len : Int))) then
    bif (decide (0 ≤ t5) && decide (t5 < (r100000000.len : Int))) then
      bif (decide (0 ≤ t5) && decide (t5 < ((L.upd r100000000 t5.toNat fun e => (t1, e.2)).len : Int))) then
        bif (decide (0 ≤ t5) && decide (t5 < ((L.upd (L.upd r100000000 t5.toNat fun e => (t1, e.2)) t5.toNat fun e => (e.1, ((wI (t1 + (1 : Int))), e.2.2))).len : Int))) then
          some (.inl (((), ((wI ((wI ((wI (t1 + (1 : Int))) + (1 : Int))) + (1 : Int))), ((wI (t5 + (1 : Int))), ()))), ((L.upd (L.upd (L.upd r100000000 t5.toNat fun e => (t1, e.2)) t5.toNat fun e => (e.1, ((wI (t1 + (1 : Int))), e.2.2))) t5.toNat fun e => (e.1, (e.2.1, ((wI ((wI (t1 + (1 : Int))) + (1 : Int))), ())))), ())))
        else
          none
      else
        none
    else
      none
  else
    some (.inr (.inl ((t1, ()), (r100000000, ()))))
noncomputable def s36_L0 (x : Ta66) : Option (Ta66 ⊕ (Ta46 ⊕ Empty)) := q36_L0 x.1.2.1 x.1.2.2.1 x.2.1
noncomputable def a36 : Nat → Option LoopAnn := fun c => bif Nat.beq c 0 then some (.fix h36_L0 e36_L0 s36_L0) else none
noncomputable def g36 (x0 : Ta11) (x1 : Int) : Option Ta46 :=
  (fixO s36_L0 (((), (x1, ((0 : Int), ()))), (x0, ()))).bind fun d2 => match d2 with
  | .inl y1 =>
    some ((y1.1.1, ()), (y1.2.1, ()))
  | .inr e => nomatch e
noncomputable def c36 : Ctr := { ins := [.ow Ty51, .v (.int .i64)], out := [(.int .i64)], F := fun x => g36 x.1 x.2.1 }
noncomputable def l36 : List (Nat × Code) := loopsIn (Tryz.f36.body.getD .skip) 0
theorem w36_L0 (x : h36_L0.T) : runK Tryz.prog Γ t36 (inlN Tryz.prog Γ t36 3) a36 (l36.getD 0 (0, .skip)).2 0 (pkSh h36_L0 x) (loopCls (sh := h36_L0) (es := e36_L0)) = (s36_L0 x : Option _) := by kernel_rfl
theorem v36 : LoopsOk Tryz.prog Γ t36 a36 (loopsIn (Tryz.f36.body.getD .skip) 0) := by
  have e : loopsIn (Tryz.f36.body.getD .skip) 0 = [(0, (l36.getD 0 (0, .skip)).2)] := by kernel_rfl
  rw [e]
  exact ⟨fun x d h => (w36_L0 x).trans h, trivial⟩
theorem r36 (x : InsT c36.ins) : fnK Tryz.prog Γ t36 a36 Tryz.f36 c36 x = g36 x.1 x.2.1 := by kernel_rfl
theorem k36 : TblOk Tryz.prog t36 := tblOk_nil
theorem o36 : Holds Tryz.prog 36 c36 := fn_holds (code := Tryz.f36.body.getD .skip) (by kernel_rfl) gamOk k36 Tryz.func36 (by kernel_rfl) (by kernel_rfl) (by kernel_rfl) (by kernel_rfl) v36 (fun x _ h => (r36 x).trans h)
/-! ### 12: loop.example/g00076/laws.heldIntS -/
noncomputable def t12 : Tbl := []
abbrev h12_L0 : Shape := { slots := [(0, .v (.sl (.int .i64))), (1, .v (.int .i64)), (5, .v (.int .i64))], boxes := [] }
abbrev e12_L0 : List (XT × Shape) := [(.ret, { slots := [(4, .v (.int .i64))], boxes := [] }), (.exit 0, { slots := [(1, .v (.int .i64))], boxes := [] })]
noncomputable def q12_L0 (t0 : (L Int)) (t1 : Int) (t5 : Int) : Option (Ta27 ⊕ (((Int × Unit) × Unit) ⊕ (((Int × Unit) × Unit) ⊕ Empty))) :=
  bif (decide (t5 < (t0.len : Int))) then
    bif (decide (0 ≤ t5) && decide (t5 < (t0.len : Int))) then
      bif ((L.get t0 t5.toNat) != t1) then
        some (.inr (.inl (((-1 : Int), ()), ())))
      else
        some (.inl ((t0, ((wI (t1 + (1 : Int))), ((wI (t5 + (1 : Int))), ()))), ()))
    else
      none
  else
    some (.inr (.inr (.inl ((t1, ()), ()))))
noncomputable def s12_L0 (x : Ta27) : Option (Ta27 ⊕ (((Int × Unit) × Unit) ⊕ (((Int × Unit) × Unit) ⊕ Empty))) := q12_L0 x.1.1 x.1.2.1 x.1.2.2.1
noncomputable def a12 : Nat → Option LoopAnn := fun c => bif Nat.beq c 0 then some (.fix h12_L0 e12_L0 s12_L0) else none
noncomputable def g12 (x0 : (L Int)) (x1 : Int) : Option ((Int × Unit) × Unit) :=
  (fixO s12_L0 ((x0, (x1, ((0 : Int), ()))), ())).bind fun d2 => match d2 with
  | .inl y1 =>
    some ((y1.1.1, ()), ())
  | .inr (.inl y1) =>
    some ((y1.1.1, ()), ())
  | .inr (.inr e) => nomatch e
noncomputable def c12 : Ctr := { ins := [.v (.sl (.int .i64)), .v (.int .i64)], out := [(.int .i64)], F := fun x => g12 x.1 x.2.1 }
noncomputable def l12 : List (Nat × Code) := loopsIn (Tryz.f12.body.getD .skip) 0
theorem w12_L0 (x : h12_L0.T) : runK Tryz.prog Γ t12 (inlN Tryz.prog Γ t12 3) a12 (l12.getD 0 (0, .skip)).2 0 (pkSh h12_L0 x) (loopCls (sh := h12_L0) (es := e12_L0)) = (s12_L0 x : Option _) := by kernel_rfl
theorem v12 : LoopsOk Tryz.prog Γ t12 a12 (loopsIn (Tryz.f12.body.getD .skip) 0) := by
  have e : loopsIn (Tryz.f12.body.getD .skip) 0 = [(0, (l12.getD 0 (0, .skip)).2)] := by kernel_rfl
  rw [e]
  exact ⟨fun x d h => (w12_L0 x).trans h, trivial⟩
theorem r12 (x : InsT c12.ins) : fnK Tryz.prog Γ t12 a12 Tryz.f12 c12 x = g12 x.1 x.2.1 := by kernel_rfl
theorem k12 : TblOk Tryz.prog t12 := tblOk_nil
theorem o12 : Holds Tryz.prog 12 c12 := fn_holds (code := Tryz.f12.body.getD .skip) (by kernel_rfl) gamOk k12 Tryz.func12 (by kernel_rfl) (by kernel_rfl) (by kernel_rfl) (by kernel_rfl) v12 (fun x _ h => (r12 x).trans h)
/-! ### 3: loop.example/g00076/laws.FnExactSlotStarts -/
noncomputable def t3 : Tbl := [(4, [], c4), (6, [], c6r), (5, [], c5r), (7, [], c7r), (8, [], c8), (9, [], c9), (34, [], c34), (11, [], c11), (35, [], c35), (36, [], c36), (12, [], c12)]
noncomputable def a3 : Nat → Option LoopAnn := fun _ => none
noncomputable def g3 (x0 : Ta129) (x1 : Int) (x2 : Int) (x3 : Int) : Option ((Bool × Unit) × Unit) :=
  (g4 x0 (1048576 : Int)).bind fun y1 =>
    bif (decide (y1.1.1 < (0 : Int))) then
      some ((true, ()), ())
    else
      (g6r x0).bind fun y2 =>
        (g5r y2.1.1 x1 x2 x3).bind fun y3 =>
          (g6r x0).bind fun y4 =>
            (g7r y4.1.1 x1 x2 x3).bind fun y5 =>
              (g8 y5.1.1 y3.1.1).bind fun y6 =>
                bif (!y6.1.1) then
                  some ((false, ()), ())
                else
                  (g6r x0).bind fun y7 =>
                    (g9 y4.1.1 y7.1.1).bind fun y8 =>
                      bif (!y8.1.1) then
                        some ((false, ()), ())
                      else
                        (g34 y4.1.1.2.2.2.2.2.2.2.1 (1 : Int)).bind fun y9 =>
                          (g11 y4.1.1.2.2.2.2.2.2.2.2.1 y9.1.1).bind fun y10 =>
                            (g35 y4.1.1.2.2.2.2.2.2.2.2.2.1 y10.1.1).bind fun y11 =>
                              (g36 y4.1.1.2.2.2.2.2.2.2.2.2.2.1 y11.1.1).bind fun y12 =>
                                bif (decide (y12.1.1 < (0 : Int))) then
                                  some ((false, ()), ())
                                else
                                  (g8 y5.1.1 y3.1.1).bind fun y13 =>
                                    bif (!y13.1.1) then
                                      some ((false, ()), ())
                                    else
                                      (g11 y5.1.1 (1 : Int)).bind fun y14 =>
                                        (g12 y14.2.1 (1 : Int)).bind fun y15 =>
                                          bif (decide (y15.1.1 < (0 : Int))) then
                                            some ((false, ()), ())
                                          else
                                            bif (y15.1.1 != y14.1.1) then
                                              some ((false, ()), ())
                                            else
                                              (g6r x0).bind fun y16 =>
                                                (g7r y16.1.1 x1 x2 x3).bind fun y17 =>
                                                  (g8 y17.1.1 y3.1.1).bind fun y18 =>
                                                    bif (!y18.1.1) then
                                                      some ((false, ()), ())
                                                    else
                                                      (g12 y14.2.1 (1 : Int)).bind fun y19 =>
                                                        bif (decide (y19.1.1 < (0 : Int))) then
                                                          some ((false, ()), ())
                                                        else
                                                          bif (y19.1.1 != y14.1.1) then
                                                            some ((false, ()), ())
                                                          else
                                                            some ((true, ()), ())
noncomputable def c3 : Ctr := { ins := [.v Ty147, .v (.int .i64), .v (.int .i64), .v (.int .i64)], out := [.bool], F := fun x => g3 x.1 x.2.1 x.2.2.1 x.2.2.2.1 }
theorem v3 : LoopsOk Tryz.prog Γ t3 a3 (loopsIn (Tryz.f3.body.getD .skip) 0) := loopsOk_nil (by kernel_rfl)
theorem r3 (x : InsT c3.ins) : fnK Tryz.prog Γ t3 a3 Tryz.f3 c3 x = g3 x.1 x.2.1 x.2.2.1 x.2.2.2.1 := by kernel_rfl
theorem k3 : TblOk Tryz.prog t3 := tblOk_cons o4 (tblOk_cons o6r (tblOk_cons o5r (tblOk_cons o7r (tblOk_cons o8 (tblOk_cons o9 (tblOk_cons o34 (tblOk_cons o11 (tblOk_cons o35 (tblOk_cons o36 (tblOk_cons o12 (tblOk_nil)))))))))))
theorem o3 : Holds Tryz.prog 3 c3 := fn_holds (code := Tryz.f3.body.getD .skip) (by kernel_rfl) gamOk k3 Tryz.func3 (by kernel_rfl) (by kernel_rfl) (by kernel_rfl) (by kernel_rfl) v3 (fun x _ h => (r3 x).trans h)
end Go.VE.VFnExactSlotStarts
