import Derived.Test.YtlmmnfkppmfekaaVeZ
import Derived.Test.YtlmmnfkppmfekaaProg
/- What the functions do that laws.FnExactNextSwitch reaches, as plain functions, and that they do it. -/
set_option linter.unusedVariables false
set_option linter.unusedSimpArgs false
namespace Go.VE.VFnExactNextSwitch
open Go.Proofs Go.VE
abbrev Ta0 : Type := ((L Int) × (Int × Unit))
abbrev Ty1 : Ty := (.pair (.int .i64) .unit)
abbrev Ta2 : Type := (ByteArray × (Int × Unit))
abbrev Ta3 : Type := ((ByteArray × Unit) × Unit)
abbrev Ta4 : Type := (Int × (Int × (Int × Unit)))
abbrev Ta5 : Type := (Unit × (Int × (Int × Unit)))
abbrev Ta6 : Type := (Int × (Unit × (Int × Unit)))
abbrev Ta7 : Type := (Unit × (Bool × (Int × Unit)))
abbrev Ta8 : Type := (Bool × (Bool × (Bool × Unit)))
abbrev Ta9 : Type := (L Ta4)
abbrev Ta10 : Type := ((L Int) × (Unit × (Int × Unit)))
abbrev Ta11 : Type := (ByteArray × (Int × (Int × Unit)))
abbrev Ta12 : Type := (Ta2 × Unit)
abbrev Ta13 : Type := (Int × Ta4)
abbrev Ta14 : Type := ((L Int) × Ta0)
abbrev Ta15 : Type := (Ta4 × Unit)
abbrev Ta16 : Type := ((Int × Unit) × (Int × (Int × Unit)))
abbrev Ta17 : Type := (Int × Ta7)
abbrev Ta18 : Type := (L Ta13)
abbrev Ta19 : Type := (Ta9 × Unit)
abbrev Ta20 : Type := (Ta11 × Unit)
abbrev Ta21 : Type := ((ByteArray × Unit) × (Int × (Int × Unit)))
abbrev Ta22 : Type := (Int × Ta13)
abbrev Ty23 : Ty := (.pair (.int .i64) Ty1)
abbrev Ta24 : Type := (Ta14 × Unit)
abbrev Ta25 : Type := (Ta15 × Unit)
abbrev Ta26 : Type := (Ta18 × Unit)
abbrev Ta27 : Type := (Ta9 × (Int × Unit))
abbrev Ta28 : Type := ((L Int) × Ta16)
abbrev Ta29 : Type := (Ta19 × Unit)
abbrev Ta30 : Type := (Int × Ta22)
abbrev Ta31 : Type := (Ta10 × ((L Int) × Unit))
abbrev Ta32 : Type := (Ta9 × (Int × (Int × Unit)))
abbrev Ta33 : Type := (Ta18 × (Int × Unit))
abbrev Ta34 : Type := (Ta9 × (Unit × (Int × Unit)))
abbrev Ta35 : Type := (Ta27 × Unit)
abbrev Ta36 : Type := (Ta28 × Unit)
abbrev Ta37 : Type := ((Unit × Unit) × Ta19)
abbrev Ta38 : Type := (Int × Ta30)
abbrev Ta39 : Type := (Ta15 × (Int × (Int × Unit)))
abbrev Ty40 : Ty := (.pair (.int .i64) Ty23)
abbrev Ta41 : Type := (Int × Ta32)
abbrev Ta42 : Type := (Ta18 × (Int × (Int × Unit)))
abbrev Ta43 : Type := ((Int × (Int × Unit)) × Ta19)
abbrev Ta44 : Type := (Ta18 × (Unit × (Int × Unit)))
abbrev Ta45 : Type := (Ta32 × Unit)
abbrev Ta46 : Type := (Ta38 × Unit)
abbrev Ty47 : Ty := (.sl Ty40)
abbrev Ta48 : Type := (Int × Ta41)
abbrev Ta49 : Type := (Int × Ta42)
abbrev Ta50 : Type := (Int × Ta43)
abbrev Ta51 : Type := (Ta18 × Ta5)
abbrev Ta52 : Type := (Ta9 × Ta16)
abbrev Ta53 : Type := (Unit × Ta41)
abbrev Ta54 : Type := (Ta18 × Ta16)
abbrev Ta55 : Type := (Unit × Ta49)
abbrev Ta56 : Type := (Int × Ta53)
abbrev Ta57 : Type := (Ta52 × Unit)
abbrev Ty58 : Ty := (.pair Ty47 .unit)
abbrev Ty59 : Ty := (.pair (.int .i64) Ty40)
abbrev Ta60 : Type := (Ta18 × Ta19)
abbrev Ta61 : Type := (Ta9 × Ta27)
abbrev Ta62 : Type := (ByteArray × Ta50)
abbrev Ty63 : Ty := (.sl Ty59)
abbrev Ta64 : Type := (Ta54 × Unit)
abbrev Ta65 : Type := (L Ta62)
abbrev Ta66 : Type := ((Unit × (Int × Unit)) × Ta46)
abbrev Ta67 : Type := (Ta61 × Unit)
abbrev Ta68 : Type := (Ta62 × Unit)
abbrev Ta69 : Type := ((L Int) × Ta60)
abbrev Ta70 : Type := (Ta9 × Ta39)
abbrev Ta71 : Type := (Ta65 × Unit)
abbrev Ta72 : Type := (Ta18 × Ta33)
abbrev Ta73 : Type := (Ta5 × Ta46)
abbrev Ta74 : Type := (Ta34 × Ta19)
abbrev Ty75 : Ty := (.pair (.int .i64) Ty59)
abbrev Ta76 : Type := (Ta70 × Unit)
abbrev Ta77 : Type := (Ta65 × (Int × Unit))
abbrev Ta78 : Type := (Ta72 × Unit)
abbrev Ta79 : Type := (Ta65 × (Int × (Int × Unit)))
abbrev Ta80 : Type := (Ta65 × (Unit × (Int × Unit)))
abbrev Ta81 : Type := (Ta44 × Ta26)
abbrev Ty82 : Ty := (.pair (.int .i64) Ty75)
abbrev Ta83 : Type := (Ta79 × Unit)
abbrev Ty84 : Ty := (.pair Ty23 Ty58)
abbrev Ta85 : Type := (Ta17 × Ta68)
abbrev Ta86 : Type := (Ta65 × Ta21)
abbrev Ty87 : Ty := (.pair (.int .i64) Ty82)
abbrev Ta88 : Type := (Ta65 × Ta27)
abbrev Ta89 : Type := (Ta51 × Ta46)
abbrev Ta90 : Type := (Ta86 × Unit)
abbrev Ta91 : Type := (Ta9 × Ta79)
abbrev Ta92 : Type := (Ta88 × Unit)
abbrev Ta93 : Type := (Ta55 × Ta46)
abbrev Ty94 : Ty := (.pair (.int .i64) Ty84)
abbrev Ta95 : Type := (Unit × Ta91)
abbrev Ta96 : Type := (Ta65 × Ta48)
abbrev Ty97 : Ty := (.pair .str Ty94)
abbrev Ty98 : Ty := (.sl Ty97)
abbrev Ta99 : Type := (Unit × Ta96)
abbrev Ty100 : Ty := (.pair Ty63 Ty58)
abbrev Ta101 : Type := (Ta65 × Ta69)
abbrev Ta102 : Type := (Int × Ta101)
abbrev Ta103 : Type := (Ta65 × Ta77)
abbrev Ta104 : Type := (Int × Ta102)
abbrev Ty105 : Ty := (.pair (.sl (.int .i64)) Ty100)
abbrev Ta106 : Type := (Ta103 × Unit)
abbrev Ta107 : Type := (Ta9 × Ta99)
abbrev Ta108 : Type := (Int × Ta104)
abbrev Ta109 : Type := (Ta80 × Ta71)
abbrev Ta110 : Type := (Unit × Ta107)
abbrev Ta111 : Type := (Ta38 × Ta108)
abbrev Ta112 : Type := (Int × Ta111)
abbrev Ta113 : Type := (Ta4 × Ta112)
abbrev Ta114 : Type := (Int × Ta113)
abbrev Ta115 : Type := (Ta114 × Unit)
abbrev Ta116 : Type := ((Unit × Unit) × Ta115)
abbrev Ta117 : Type := ((Unit × (Int × Unit)) × Ta115)
abbrev Ta118 : Type := ((Int × (Unit × Unit)) × Ta115)
abbrev Ta119 : Type := (Ta5 × Ta115)
abbrev Ta120 : Type := (Ta6 × Ta115)
abbrev Ty121 : Ty := (.pair Ty98 Ty105)
abbrev Ty122 : Ty := (.pair (.int .i64) Ty121)
abbrev Ta123 : Type := (Ta53 × Ta115)
abbrev Ta124 : Type := (Ta56 × Ta115)
abbrev Ta125 : Type := (Ta114 × Ta68)
abbrev Ty126 : Ty := (.pair (.int .i64) Ty122)
abbrev Ty127 : Ty := (.pair (.int .i64) Ty126)
abbrev Ta128 : Type := (Ta95 × Ta115)
abbrev Ty129 : Ty := (.pair Ty87 Ty127)
abbrev Ty130 : Ty := (.pair (.int .i64) Ty129)
abbrev Ta131 : Type := (Ta110 × Ta125)
abbrev Ty132 : Ty := (.pair Ty40 Ty130)
abbrev Ty133 : Ty := (.pair (.int .i64) Ty132)
def Γ : TypeId → Option Ty := fun e => bif Nat.beq e 3 then some (.int .i64) else bif Nat.beq e 72 then some Ty97 else bif Nat.beq e 74 then some Ty40 else bif Nat.beq e 79 then some Ty59 else bif Nat.beq e 84 then some Ty97 else bif Nat.beq e 92 then some Ty40 else bif Nat.beq e 96 then some Ty59 else bif Nat.beq e 98 then some Ty40 else bif Nat.beq e 127 then some Ty40 else none
theorem gamOk : GamOk Try.prog Γ := gamOk_of [3, 72, 74, 79, 84, 92, 96, 98, 127] (fun e ty h => by
  simp only [Γ] at h
  cases h3 : Nat.beq e 3 with
  | true => simp [Nat.eq_of_beq_eq_true h3]
  | false =>
  simp only [h3, cond_false] at h
  cases h72 : Nat.beq e 72 with
  | true => simp [Nat.eq_of_beq_eq_true h72]
  | false =>
  simp only [h72, cond_false] at h
  cases h74 : Nat.beq e 74 with
  | true => simp [Nat.eq_of_beq_eq_true h74]
  | false =>
  simp only [h74, cond_false] at h
  cases h79 : Nat.beq e 79 with
  | true => simp [Nat.eq_of_beq_eq_true h79]
  | false =>
  simp only [h79, cond_false] at h
  cases h84 : Nat.beq e 84 with
  | true => simp [Nat.eq_of_beq_eq_true h84]
  | false =>
  simp only [h84, cond_false] at h
  cases h92 : Nat.beq e 92 with
  | true => simp [Nat.eq_of_beq_eq_true h92]
  | false =>
  simp only [h92, cond_false] at h
  cases h96 : Nat.beq e 96 with
  | true => simp [Nat.eq_of_beq_eq_true h96]
  | false =>
  simp only [h96, cond_false] at h
  cases h98 : Nat.beq e 98 with
  | true => simp [Nat.eq_of_beq_eq_true h98]
  | false =>
  simp only [h98, cond_false] at h
  cases h127 : Nat.beq e 127 with
  | true => simp [Nat.eq_of_beq_eq_true h127]
  | false =>
  simp only [h127, cond_false] at h
  cases h) (by kernel_rfl)
/-! ### 98: loop.example/g00076/laws.szWindowS -/
noncomputable def t98 : Tbl := []
noncomputable def a98 : Nat → Option LoopAnn := fun _ => none
noncomputable def g98 (x0 : Ta9) (x1 : Int) : Option ((Int × Unit) × Unit) :=
  bif (decide ((wI (x1 - (x0.len : Int))) < (0 : Int))) then
    some (((-1 : Int), ()), ())
  else
    some (((wI (x1 - (x0.len : Int))), ()), ())
noncomputable def f98 (x0 : Ta9) (x1 : Int) : Int :=
  bif (decide ((wI (x1 - (x0.len : Int))) < (0 : Int))) then
    (-1 : Int)
  else
    (wI (x1 - (x0.len : Int)))
theorem n98 (x0 : Ta9) (x1 : Int) : g98 x0 x1 = some ((f98 x0 x1, ()), ()) := by
  simp only [g98, f98, pull1]
noncomputable def c98 : Ctr := { ins := [.v Ty47, .v (.int .i64)], out := [(.int .i64)], F := fun x => some ((f98 x.1 x.2.1, ()), ()) }
theorem v98 : LoopsOk Try.prog Γ t98 a98 (loopsIn (Try.f98.body.getD .skip) 0) := loopsOk_nil (by kernel_rfl)
theorem r98 (x : InsT c98.ins) : fnK Try.prog Γ t98 a98 Try.f98 c98 x = g98 x.1 x.2.1 := by kernel_rfl
theorem k98 : TblOk Try.prog t98 := tblOk_nil
theorem o98 : Holds Try.prog 98 c98 := fn_holds (code := Try.f98.body.getD .skip) (by kernel_rfl) gamOk k98 Try.func98 (by kernel_rfl) (by kernel_rfl) (by kernel_rfl) (by kernel_rfl) v98 (fun x _ h => (r98 x).trans ((n98 x.1 x.2.1).trans h))
/-! ### 66: loop.example/g00076/laws.szPartRow -/
noncomputable def t66 : Tbl := [(98, [], c98)]
noncomputable def a66 : Nat → Option LoopAnn := fun _ => none
noncomputable def g66 (x0 : Ta62) (x1 : Int) : Option ((Int × Unit) × Unit) :=
  bif (decide ((wI (x1 - (x0.1.size : Int))) < (0 : Int))) then
    some (((-1 : Int), ()), ())
  else
    bif (decide ((f98 x0.2.2.2.1 (wI (x1 - (x0.1.size : Int)))) < (0 : Int))) then
      some (((-1 : Int), ()), ())
    else
      some (((f98 x0.2.2.2.1 (wI (x1 - (x0.1.size : Int)))), ()), ())
noncomputable def f66 (x0 : Ta62) (x1 : Int) : Int :=
  bif (decide ((wI (x1 - (x0.1.size : Int))) < (0 : Int))) then
    (-1 : Int)
  else
    bif (decide ((f98 x0.2.2.2.1 (wI (x1 - (x0.1.size : Int)))) < (0 : Int))) then
      (-1 : Int)
    else
      (f98 x0.2.2.2.1 (wI (x1 - (x0.1.size : Int))))
theorem n66 (x0 : Ta62) (x1 : Int) : g66 x0 x1 = some ((f66 x0 x1, ()), ()) := by
  simp only [g66, f66, pull1]
noncomputable def c66 : Ctr := { ins := [.v Ty97, .v (.int .i64)], out := [(.int .i64)], F := fun x => some ((f66 x.1 x.2.1, ()), ()) }
theorem v66 : LoopsOk Try.prog Γ t66 a66 (loopsIn (Try.f66.body.getD .skip) 0) := loopsOk_nil (by kernel_rfl)
theorem r66 (x : InsT c66.ins) : fnK Try.prog Γ t66 a66 Try.f66 c66 x = g66 x.1 x.2.1 := by kernel_rfl
theorem k66 : TblOk Try.prog t66 := tblOk_cons o98 (tblOk_nil)
theorem o66 : Holds Try.prog 66 c66 := fn_holds (code := Try.f66.body.getD .skip) (by kernel_rfl) gamOk k66 Try.func66 (by kernel_rfl) (by kernel_rfl) (by kernel_rfl) (by kernel_rfl) v66 (fun x _ h => (r66 x).trans ((n66 x.1 x.2.1).trans h))
/-! ### 33: loop.example/g00076/laws.szPartRowS -/
noncomputable def t33 : Tbl := [(66, [], c66)]
abbrev h33_L0 : Shape := { slots := [(0, .v Ty98), (1, .v (.int .i64)), (5, .v (.int .i64))], boxes := [] }
abbrev e33_L0 : List (XT × Shape) := [(.ret, { slots := [(4, .v (.int .i64))], boxes := [] }), (.exit 0, { slots := [(1, .v (.int .i64))], boxes := [] })]
noncomputable def q33_L0 (t0 : Ta65) (t1 : Int) (t5 : Int) : Option (Ta83 ⊕ (((Int × Unit) × Unit) ⊕ (((Int × Unit) × Unit) ⊕ Empty))) :=
  bif (decide (t5 < (t0.len : Int))) then
    bif (decide (0 ≤ t5) && decide (t5 < (t0.len : Int))) then
      bif (decide ((f66 (L.get t0 t5.toNat) t1) < (0 : Int))) then
        some (.inr (.inl (((-1 : Int), ()), ())))
      else
        some (.inl ((t0, ((f66 (L.get t0 t5.toNat) t1), ((wI (t5 + (1 : Int))), ()))), ()))
    else
      none
  else
    some (.inr (.inr (.inl ((t1, ()), ()))))
noncomputable def s33_L0 (x : Ta83) : Option (Ta83 ⊕ (((Int × Unit) × Unit) ⊕ (((Int × Unit) × Unit) ⊕ Empty))) := q33_L0 x.1.1 x.1.2.1 x.1.2.2.1
noncomputable def a33 : Nat → Option LoopAnn := fun c => bif Nat.beq c 0 then some (.fix h33_L0 e33_L0 s33_L0) else none
noncomputable def g33 (x0 : Ta65) (x1 : Int) : Option ((Int × Unit) × Unit) :=
  bif (decide ((wI (x1 - (x0.len : Int))) < (0 : Int))) then
    some (((-1 : Int), ()), ())
  else
    (fixO s33_L0 ((x0, ((wI (x1 - (x0.len : Int))), ((0 : Int), ()))), ())).bind fun d2 => match d2 with
    | .inl y1 =>
      some ((y1.1.1, ()), ())
    | .inr (.inl y1) =>
      some ((y1.1.1, ()), ())
    | .inr (.inr e) => nomatch e
noncomputable def c33 : Ctr := { ins := [.v Ty98, .v (.int .i64)], out := [(.int .i64)], F := fun x => g33 x.1 x.2.1 }
noncomputable def l33 : List (Nat × Code) := loopsIn (Try.f33.body.getD .skip) 0
theorem w33_L0 (x : h33_L0.T) : runK Try.prog Γ t33 a33 (l33.getD 0 (0, .skip)).2 0 (pkSh h33_L0 x) (loopCls (sh := h33_L0) (es := e33_L0)) = (s33_L0 x : Option _) := by kernel_rfl
theorem v33 : LoopsOk Try.prog Γ t33 a33 (loopsIn (Try.f33.body.getD .skip) 0) := by
  have e : loopsIn (Try.f33.body.getD .skip) 0 = [(0, (l33.getD 0 (0, .skip)).2)] := by kernel_rfl
  rw [e]
  exact ⟨fun x d h => (w33_L0 x).trans h, trivial⟩
theorem r33 (x : InsT c33.ins) : fnK Try.prog Γ t33 a33 Try.f33 c33 x = g33 x.1 x.2.1 := by kernel_rfl
theorem k33 : TblOk Try.prog t33 := tblOk_cons o66 (tblOk_nil)
theorem o33 : Holds Try.prog 33 c33 := fn_holds (code := Try.f33.body.getD .skip) (by kernel_rfl) gamOk k33 Try.func33 (by kernel_rfl) (by kernel_rfl) (by kernel_rfl) (by kernel_rfl) v33 (fun x _ h => (r33 x).trans h)
/-! ### 34: loop.example/g00076/laws.szIntS -/
noncomputable def t34 : Tbl := []
noncomputable def a34 : Nat → Option LoopAnn := fun _ => none
noncomputable def g34 (x0 : (L Int)) (x1 : Int) : Option ((Int × Unit) × Unit) :=
  bif (decide ((wI (x1 - (x0.len : Int))) < (0 : Int))) then
    some (((-1 : Int), ()), ())
  else
    some (((wI (x1 - (x0.len : Int))), ()), ())
noncomputable def f34 (x0 : (L Int)) (x1 : Int) : Int :=
  bif (decide ((wI (x1 - (x0.len : Int))) < (0 : Int))) then
    (-1 : Int)
  else
    (wI (x1 - (x0.len : Int)))
theorem n34 (x0 : (L Int)) (x1 : Int) : g34 x0 x1 = some ((f34 x0 x1, ()), ()) := by
  simp only [g34, f34, pull1]
noncomputable def c34 : Ctr := { ins := [.v (.sl (.int .i64)), .v (.int .i64)], out := [(.int .i64)], F := fun x => some ((f34 x.1 x.2.1, ()), ()) }
theorem v34 : LoopsOk Try.prog Γ t34 a34 (loopsIn (Try.f34.body.getD .skip) 0) := loopsOk_nil (by kernel_rfl)
theorem r34 (x : InsT c34.ins) : fnK Try.prog Γ t34 a34 Try.f34 c34 x = g34 x.1 x.2.1 := by kernel_rfl
theorem k34 : TblOk Try.prog t34 := tblOk_nil
theorem o34 : Holds Try.prog 34 c34 := fn_holds (code := Try.f34.body.getD .skip) (by kernel_rfl) gamOk k34 Try.func34 (by kernel_rfl) (by kernel_rfl) (by kernel_rfl) (by kernel_rfl) v34 (fun x _ h => (r34 x).trans ((n34 x.1 x.2.1).trans h))
/-! ### 35: loop.example/g00076/laws.szChanRowS -/
noncomputable def t35 : Tbl := []
noncomputable def a35 : Nat → Option LoopAnn := fun _ => none
noncomputable def g35 (x0 : Ta18) (x1 : Int) : Option ((Int × Unit) × Unit) :=
  bif (decide ((wI (x1 - (x0.len : Int))) < (0 : Int))) then
    some (((-1 : Int), ()), ())
  else
    some (((wI (x1 - (x0.len : Int))), ()), ())
noncomputable def f35 (x0 : Ta18) (x1 : Int) : Int :=
  bif (decide ((wI (x1 - (x0.len : Int))) < (0 : Int))) then
    (-1 : Int)
  else
    (wI (x1 - (x0.len : Int)))
theorem n35 (x0 : Ta18) (x1 : Int) : g35 x0 x1 = some ((f35 x0 x1, ()), ()) := by
  simp only [g35, f35, pull1]
noncomputable def c35 : Ctr := { ins := [.v Ty63, .v (.int .i64)], out := [(.int .i64)], F := fun x => some ((f35 x.1 x.2.1, ()), ()) }
theorem v35 : LoopsOk Try.prog Γ t35 a35 (loopsIn (Try.f35.body.getD .skip) 0) := loopsOk_nil (by kernel_rfl)
theorem r35 (x : InsT c35.ins) : fnK Try.prog Γ t35 a35 Try.f35 c35 x = g35 x.1 x.2.1 := by kernel_rfl
theorem k35 : TblOk Try.prog t35 := tblOk_nil
theorem o35 : Holds Try.prog 35 c35 := fn_holds (code := Try.f35.body.getD .skip) (by kernel_rfl) gamOk k35 Try.func35 (by kernel_rfl) (by kernel_rfl) (by kernel_rfl) (by kernel_rfl) v35 (fun x _ h => (r35 x).trans ((n35 x.1 x.2.1).trans h))
/-! ### 36: loop.example/g00076/laws.szSlotS -/
noncomputable def t36 : Tbl := []
noncomputable def a36 : Nat → Option LoopAnn := fun _ => none
noncomputable def g36 (x0 : Ta9) (x1 : Int) : Option ((Int × Unit) × Unit) :=
  bif (decide ((wI (x1 - (x0.len : Int))) < (0 : Int))) then
    some (((-1 : Int), ()), ())
  else
    some (((wI (x1 - (x0.len : Int))), ()), ())
noncomputable def f36 (x0 : Ta9) (x1 : Int) : Int :=
  bif (decide ((wI (x1 - (x0.len : Int))) < (0 : Int))) then
    (-1 : Int)
  else
    (wI (x1 - (x0.len : Int)))
theorem n36 (x0 : Ta9) (x1 : Int) : g36 x0 x1 = some ((f36 x0 x1, ()), ()) := by
  simp only [g36, f36, pull1]
noncomputable def c36 : Ctr := { ins := [.v Ty47, .v (.int .i64)], out := [(.int .i64)], F := fun x => some ((f36 x.1 x.2.1, ()), ()) }
theorem v36 : LoopsOk Try.prog Γ t36 a36 (loopsIn (Try.f36.body.getD .skip) 0) := loopsOk_nil (by kernel_rfl)
theorem r36 (x : InsT c36.ins) : fnK Try.prog Γ t36 a36 Try.f36 c36 x = g36 x.1 x.2.1 := by kernel_rfl
theorem k36 : TblOk Try.prog t36 := tblOk_nil
theorem o36 : Holds Try.prog 36 c36 := fn_holds (code := Try.f36.body.getD .skip) (by kernel_rfl) gamOk k36 Try.func36 (by kernel_rfl) (by kernel_rfl) (by kernel_rfl) (by kernel_rfl) v36 (fun x _ h => (r36 x).trans ((n36 x.1 x.2.1).trans h))
/-! ### 12: loop.example/g00076/laws.szTables -/
noncomputable def t12 : Tbl := [(33, [], c33), (34, [], c34), (35, [], c35), (36, [], c36)]
noncomputable def a12 : Nat → Option LoopAnn := fun _ => none
noncomputable def g12 (x0 : Ta114) (x1 : Int) : Option ((Int × Unit) × Unit) :=
  (g33 x0.2.2.2.2.2.2.2.1 x1).bind fun y1 =>
    bif (decide (y1.1.1 < (0 : Int))) then
      some (((-1 : Int), ()), ())
    else
      bif (decide ((f34 x0.2.2.2.2.2.2.2.2.1 y1.1.1) < (0 : Int))) then
        some (((-1 : Int), ()), ())
      else
        bif (decide ((f35 x0.2.2.2.2.2.2.2.2.2.1 (f34 x0.2.2.2.2.2.2.2.2.1 y1.1.1)) < (0 : Int))) then
          some (((-1 : Int), ()), ())
        else
          bif (decide ((f36 x0.2.2.2.2.2.2.2.2.2.2.1 (f35 x0.2.2.2.2.2.2.2.2.2.1 (f34 x0.2.2.2.2.2.2.2.2.1 y1.1.1))) < (0 : Int))) then
            some (((-1 : Int), ()), ())
          else
            some (((f36 x0.2.2.2.2.2.2.2.2.2.2.1 (f35 x0.2.2.2.2.2.2.2.2.2.1 (f34 x0.2.2.2.2.2.2.2.2.1 y1.1.1))), ()), ())
noncomputable def c12 : Ctr := { ins := [.v Ty133, .v (.int .i64)], out := [(.int .i64)], F := fun x => g12 x.1 x.2.1 }
theorem v12 : LoopsOk Try.prog Γ t12 a12 (loopsIn (Try.f12.body.getD .skip) 0) := loopsOk_nil (by kernel_rfl)
theorem r12 (x : InsT c12.ins) : fnK Try.prog Γ t12 a12 Try.f12 c12 x = g12 x.1 x.2.1 := by kernel_rfl
theorem k12 : TblOk Try.prog t12 := tblOk_cons o33 (tblOk_cons o34 (tblOk_cons o35 (tblOk_cons o36 (tblOk_nil))))
theorem o12 : Holds Try.prog 12 c12 := fn_holds (code := Try.f12.body.getD .skip) (by kernel_rfl) gamOk k12 Try.func12 (by kernel_rfl) (by kernel_rfl) (by kernel_rfl) (by kernel_rfl) v12 (fun x _ h => (r12 x).trans h)
/-! ### 41: loop.example/g00076/laws.toShape -/
noncomputable def t41 : Tbl := []
noncomputable def a41 : Nat → Option LoopAnn := fun _ => none
noncomputable def g41 (x0 : Ta4) : Option Ta25 :=
  some ((x0, ()), ())
noncomputable def f41 (x0 : Ta4) : Ta4 :=
  x0
theorem n41 (x0 : Ta4) : g41 x0 = some ((f41 x0, ()), ()) := by
  simp only [g41, f41, pull1]
noncomputable def c41 : Ctr := { ins := [.v Ty40], out := [Ty40], F := fun x => some ((f41 x.1, ()), ()) }
theorem v41 : LoopsOk Try.prog Γ t41 a41 (loopsIn (Try.f41.body.getD .skip) 0) := loopsOk_nil (by kernel_rfl)
theorem r41 (x : InsT c41.ins) : fnK Try.prog Γ t41 a41 Try.f41 c41 x = g41 x.1 := by kernel_rfl
theorem k41 : TblOk Try.prog t41 := tblOk_nil
theorem o41 : Holds Try.prog 41 c41 := fn_holds (code := Try.f41.body.getD .skip) (by kernel_rfl) gamOk k41 Try.func41 (by kernel_rfl) (by kernel_rfl) (by kernel_rfl) (by kernel_rfl) v41 (fun x _ h => (r41 x).trans ((n41 x.1).trans h))
/-! ### 42: loop.example/g00076/laws.toCosts -/
noncomputable def t42 : Tbl := []
noncomputable def a42 : Nat → Option LoopAnn := fun _ => none
noncomputable def g42 (x0 : Ta38) : Option (Ta46 × Unit) :=
  some ((x0, ()), ())
noncomputable def f42 (x0 : Ta38) : Ta38 :=
  x0
theorem n42 (x0 : Ta38) : g42 x0 = some ((f42 x0, ()), ()) := by
  simp only [g42, f42, pull1]
noncomputable def c42 : Ctr := { ins := [.v Ty87], out := [Ty87], F := fun x => some ((f42 x.1, ()), ()) }
theorem v42 : LoopsOk Try.prog Γ t42 a42 (loopsIn (Try.f42.body.getD .skip) 0) := loopsOk_nil (by kernel_rfl)
theorem r42 (x : InsT c42.ins) : fnK Try.prog Γ t42 a42 Try.f42 c42 x = g42 x.1 := by kernel_rfl
theorem k42 : TblOk Try.prog t42 := tblOk_nil
theorem o42 : Holds Try.prog 42 c42 := fn_holds (code := Try.f42.body.getD .skip) (by kernel_rfl) gamOk k42 Try.func42 (by kernel_rfl) (by kernel_rfl) (by kernel_rfl) (by kernel_rfl) v42 (fun x _ h => (r42 x).trans ((n42 x.1).trans h))
/-! ### 104: loop.example/g00076/laws.toPolicy -/
noncomputable def t104 : Tbl := []
noncomputable def a104 : Nat → Option LoopAnn := fun _ => none
noncomputable def g104 (x0 : (Int × (Int × Unit))) : Option (((Int × (Int × Unit)) × Unit) × Unit) :=
  some ((x0, ()), ())
noncomputable def f104 (x0 : (Int × (Int × Unit))) : (Int × (Int × Unit)) :=
  x0
theorem n104 (x0 : (Int × (Int × Unit))) : g104 x0 = some ((f104 x0, ()), ()) := by
  simp only [g104, f104, pull1]
noncomputable def c104 : Ctr := { ins := [.v Ty23], out := [Ty23], F := fun x => some ((f104 x.1, ()), ()) }
theorem v104 : LoopsOk Try.prog Γ t104 a104 (loopsIn (Try.f104.body.getD .skip) 0) := loopsOk_nil (by kernel_rfl)
theorem r104 (x : InsT c104.ins) : fnK Try.prog Γ t104 a104 Try.f104 c104 x = g104 x.1 := by kernel_rfl
theorem k104 : TblOk Try.prog t104 := tblOk_nil
theorem o104 : Holds Try.prog 104 c104 := fn_holds (code := Try.f104.body.getD .skip) (by kernel_rfl) gamOk k104 Try.func104 (by kernel_rfl) (by kernel_rfl) (by kernel_rfl) (by kernel_rfl) v104 (fun x _ h => (r104 x).trans ((n104 x.1).trans h))
/-! ### 123: loop.example/g00076/laws.toWindow -/
noncomputable def t123 : Tbl := []
noncomputable def a123 : Nat → Option LoopAnn := fun _ => none
noncomputable def g123 (x0 : Ta4) : Option Ta25 :=
  some ((x0, ()), ())
noncomputable def f123 (x0 : Ta4) : Ta4 :=
  x0
theorem n123 (x0 : Ta4) : g123 x0 = some ((f123 x0, ()), ()) := by
  simp only [g123, f123, pull1]
noncomputable def c123 : Ctr := { ins := [.v Ty40], out := [Ty40], F := fun x => some ((f123 x.1, ()), ()) }
theorem v123 : LoopsOk Try.prog Γ t123 a123 (loopsIn (Try.f123.body.getD .skip) 0) := loopsOk_nil (by kernel_rfl)
theorem r123 (x : InsT c123.ins) : fnK Try.prog Γ t123 a123 Try.f123 c123 x = g123 x.1 := by kernel_rfl
theorem k123 : TblOk Try.prog t123 := tblOk_nil
theorem o123 : Holds Try.prog 123 c123 := fn_holds (code := Try.f123.body.getD .skip) (by kernel_rfl) gamOk k123 Try.func123 (by kernel_rfl) (by kernel_rfl) (by kernel_rfl) (by kernel_rfl) v123 (fun x _ h => (r123 x).trans ((n123 x.1).trans h))
/-! ### 105: loop.example/g00076/laws.toWindowS -/
noncomputable def t105 : Tbl := [(123, [], c123)]
abbrev h105_L0 : Shape := { slots := [(0, .v Ty47), (3, .ms 7), (4, .v (.int .i64))], boxes := [(7, .arr Ty40)] }
abbrev e105_L0 : List (XT × Shape) := [(.exit 0, { slots := [(3, .ms 7)], boxes := [(7, .arr Ty40)] })]
noncomputable def q105_L0 (t0 : Ta9) (t4 : Int) (r7 : Ta9) : Option (Ta74 ⊕ (Ta37 ⊕ Empty)) :=
  bif (decide (t4 < (t0.len : Int))) then
    bif (decide (0 ≤ t4) && decide (t4 < (t0.len : Int))) then
      bif (decide (0 ≤ t4) && decide (t4 < (r7.len : Int))) then
        some (.inl ((t0, ((), ((wI (t4 + (1 : Int))), ()))), ((L.set r7 t4.toNat (f123 (L.get t0 t4.toNat))), ())))
      else
        none
    else
      none
  else
    some (.inr (.inl (((), ()), (r7, ()))))
noncomputable def s105_L0 (x : Ta74) : Option (Ta74 ⊕ (Ta37 ⊕ Empty)) := q105_L0 x.1.1 x.1.2.2.1 x.2.1
noncomputable def a105 : Nat → Option LoopAnn := fun c => bif Nat.beq c 0 then some (.fix h105_L0 e105_L0 s105_L0) else none
noncomputable def g105 (x0 : Ta9) : Option Ta29 :=
  bif (decide ((x0.len : Int) = (x0.len : Int)) && (decide (0 ≤ (x0.len : Int)) && (decide ((x0.len : Int) ≤ 2 ^ 40) && decide (24 * (x0.len : Int) ≤ 2 ^ 48)))) then
    (fixO s105_L0 ((x0, ((), ((0 : Int), ()))), ((L.rep (x0.len : Int).toNat (Ty.zero Ty40)), ()))).bind fun d2 => match d2 with
    | .inl y1 =>
      some ((y1.2.1, ()), ())
    | .inr e => nomatch e
  else
    none
noncomputable def c105 : Ctr := { ins := [.v Ty47], out := [Ty47], F := fun x => g105 x.1 }
noncomputable def l105 : List (Nat × Code) := loopsIn (Try.f105.body.getD .skip) 0
theorem w105_L0 (x : h105_L0.T) : runK Try.prog Γ t105 a105 (l105.getD 0 (0, .skip)).2 0 (pkSh h105_L0 x) (loopCls (sh := h105_L0) (es := e105_L0)) = (s105_L0 x : Option _) := by kernel_rfl
theorem v105 : LoopsOk Try.prog Γ t105 a105 (loopsIn (Try.f105.body.getD .skip) 0) := by
  have e : loopsIn (Try.f105.body.getD .skip) 0 = [(0, (l105.getD 0 (0, .skip)).2)] := by kernel_rfl
  rw [e]
  exact ⟨fun x d h => (w105_L0 x).trans h, trivial⟩
theorem r105 (x : InsT c105.ins) : fnK Try.prog Γ t105 a105 Try.f105 c105 x = g105 x.1 := by kernel_rfl
theorem k105 : TblOk Try.prog t105 := tblOk_cons o123 (tblOk_nil)
theorem o105 : Holds Try.prog 105 c105 := fn_holds (code := Try.f105.body.getD .skip) (by kernel_rfl) gamOk k105 Try.func105 (by kernel_rfl) (by kernel_rfl) (by kernel_rfl) (by kernel_rfl) v105 (fun x _ h => (r105 x).trans h)
/-! ### 74: loop.example/g00076/laws.toPartRow -/
noncomputable def t74 : Tbl := [(104, [], c104), (105, [], c105)]
noncomputable def a74 : Nat → Option LoopAnn := fun _ => none
noncomputable def g74 (x0 : Ta62) : Option (Ta68 × Unit) :=
  (g105 x0.2.2.2.1).bind fun y1 =>
    some (((x0.1, (x0.2.1, ((f104 x0.2.2.1), y1.1))), ()), ())
noncomputable def c74 : Ctr := { ins := [.v Ty97], out := [Ty97], F := fun x => g74 x.1 }
theorem v74 : LoopsOk Try.prog Γ t74 a74 (loopsIn (Try.f74.body.getD .skip) 0) := loopsOk_nil (by kernel_rfl)
theorem r74 (x : InsT c74.ins) : fnK Try.prog Γ t74 a74 Try.f74 c74 x = g74 x.1 := by kernel_rfl
theorem k74 : TblOk Try.prog t74 := tblOk_cons o104 (tblOk_cons o105 (tblOk_nil))
theorem o74 : Holds Try.prog 74 c74 := fn_holds (code := Try.f74.body.getD .skip) (by kernel_rfl) gamOk k74 Try.func74 (by kernel_rfl) (by kernel_rfl) (by kernel_rfl) (by kernel_rfl) v74 (fun x _ h => (r74 x).trans h)
/-! ### 43: loop.example/g00076/laws.toPartRowS -/
noncomputable def t43 : Tbl := [(74, [], c74)]
abbrev h43_L0 : Shape := { slots := [(0, .v Ty98), (3, .ms 7), (4, .v (.int .i64))], boxes := [(7, .arr Ty97)] }
abbrev e43_L0 : List (XT × Shape) := [(.exit 0, { slots := [(3, .ms 7)], boxes := [(7, .arr Ty97)] })]
noncomputable def q43_L0 (t0 : Ta65) (t4 : Int) (r7 : Ta65) : Option (Ta109 ⊕ (((Unit × Unit) × Ta71) ⊕ Empty)) :=
  bif (decide (t4 < (t0.len : Int))) then
    bif (decide (0 ≤ t4) && decide (t4 < (t0.len : Int))) then
      (g74 (L.get t0 t4.toNat)).bind fun y1 =>
        bif (decide (0 ≤ t4) && decide (t4 < (r7.len : Int))) then
          some (.inl ((t0, ((), ((wI (t4 + (1 : Int))), ()))), ((L.set r7 t4.toNat y1.1.1), ())))
        else
          none
    else
      none
  else
    some (.inr (.inl (((), ()), (r7, ()))))
noncomputable def s43_L0 (x : Ta109) : Option (Ta109 ⊕ (((Unit × Unit) × Ta71) ⊕ Empty)) := q43_L0 x.1.1 x.1.2.2.1 x.2.1
noncomputable def a43 : Nat → Option LoopAnn := fun c => bif Nat.beq c 0 then some (.fix h43_L0 e43_L0 s43_L0) else none
noncomputable def g43 (x0 : Ta65) : Option (Ta71 × Unit) :=
  bif (decide ((x0.len : Int) = (x0.len : Int)) && (decide (0 ≤ (x0.len : Int)) && (decide ((x0.len : Int) ≤ 2 ^ 40) && decide (64 * (x0.len : Int) ≤ 2 ^ 48)))) then
    (fixO s43_L0 ((x0, ((), ((0 : Int), ()))), ((L.rep (x0.len : Int).toNat (Ty.zero Ty97)), ()))).bind fun d3 => match d3 with
    | .inl y2 =>
      some ((y2.2.1, ()), ())
    | .inr e => nomatch e
  else
    none
noncomputable def c43 : Ctr := { ins := [.v Ty98], out := [Ty98], F := fun x => g43 x.1 }
noncomputable def l43 : List (Nat × Code) := loopsIn (Try.f43.body.getD .skip) 0
theorem w43_L0 (x : h43_L0.T) : runK Try.prog Γ t43 a43 (l43.getD 0 (0, .skip)).2 0 (pkSh h43_L0 x) (loopCls (sh := h43_L0) (es := e43_L0)) = (s43_L0 x : Option _) := by kernel_rfl
theorem v43 : LoopsOk Try.prog Γ t43 a43 (loopsIn (Try.f43.body.getD .skip) 0) := by
  have e : loopsIn (Try.f43.body.getD .skip) 0 = [(0, (l43.getD 0 (0, .skip)).2)] := by kernel_rfl
  rw [e]
  exact ⟨fun x d h => (w43_L0 x).trans h, trivial⟩
theorem r43 (x : InsT c43.ins) : fnK Try.prog Γ t43 a43 Try.f43 c43 x = g43 x.1 := by kernel_rfl
theorem k43 : TblOk Try.prog t43 := tblOk_cons o74 (tblOk_nil)
theorem o43 : Holds Try.prog 43 c43 := fn_holds (code := Try.f43.body.getD .skip) (by kernel_rfl) gamOk k43 Try.func43 (by kernel_rfl) (by kernel_rfl) (by kernel_rfl) (by kernel_rfl) v43 (fun x _ h => (r43 x).trans h)
/-! ### 44: loop.example/g00076/laws.toIntS -/
noncomputable def t44 : Tbl := []
abbrev h44_L0 : Shape := { slots := [(0, .v (.sl (.int .i64))), (3, .ms 7), (4, .v (.int .i64))], boxes := [(7, .arr (.int .i64))] }
abbrev e44_L0 : List (XT × Shape) := [(.exit 0, { slots := [(3, .ms 7)], boxes := [(7, .arr (.int .i64))] })]
noncomputable def q44_L0 (t0 : (L Int)) (t4 : Int) (r7 : (L Int)) : Option (Ta31 ⊕ (((Unit × Unit) × ((L Int) × Unit)) ⊕ Empty)) :=
  bif (decide (t4 < (t0.len : Int))) then
    bif (decide (0 ≤ t4) && decide (t4 < (t0.len : Int))) then
      bif (decide (0 ≤ t4) && decide (t4 < (r7.len : Int))) then
        some (.inl ((t0, ((), ((wI (t4 + (1 : Int))), ()))), ((L.set r7 t4.toNat (L.get t0 t4.toNat)), ())))
      else
        none
    else
      none
  else
    some (.inr (.inl (((), ()), (r7, ()))))
noncomputable def s44_L0 (x : Ta31) : Option (Ta31 ⊕ (((Unit × Unit) × ((L Int) × Unit)) ⊕ Empty)) := q44_L0 x.1.1 x.1.2.2.1 x.2.1
noncomputable def a44 : Nat → Option LoopAnn := fun c => bif Nat.beq c 0 then some (.fix h44_L0 e44_L0 s44_L0) else none
noncomputable def g44 (x0 : (L Int)) : Option (((L Int) × Unit) × Unit) :=
  bif (decide ((x0.len : Int) = (x0.len : Int)) && (decide (0 ≤ (x0.len : Int)) && (decide ((x0.len : Int) ≤ 2 ^ 40) && decide (8 * (x0.len : Int) ≤ 2 ^ 48)))) then
    (fixO s44_L0 ((x0, ((), ((0 : Int), ()))), ((L.rep (x0.len : Int).toNat (Ty.zero (.int .i64))), ()))).bind fun d2 => match d2 with
    | .inl y1 =>
      some ((y1.2.1, ()), ())
    | .inr e => nomatch e
  else
    none
noncomputable def c44 : Ctr := { ins := [.v (.sl (.int .i64))], out := [(.sl (.int .i64))], F := fun x => g44 x.1 }
noncomputable def l44 : List (Nat × Code) := loopsIn (Try.f44.body.getD .skip) 0
theorem w44_L0 (x : h44_L0.T) : runK Try.prog Γ t44 a44 (l44.getD 0 (0, .skip)).2 0 (pkSh h44_L0 x) (loopCls (sh := h44_L0) (es := e44_L0)) = (s44_L0 x : Option _) := by kernel_rfl
theorem v44 : LoopsOk Try.prog Γ t44 a44 (loopsIn (Try.f44.body.getD .skip) 0) := by
  have e : loopsIn (Try.f44.body.getD .skip) 0 = [(0, (l44.getD 0 (0, .skip)).2)] := by kernel_rfl
  rw [e]
  exact ⟨fun x d h => (w44_L0 x).trans h, trivial⟩
theorem r44 (x : InsT c44.ins) : fnK Try.prog Γ t44 a44 Try.f44 c44 x = g44 x.1 := by kernel_rfl
theorem k44 : TblOk Try.prog t44 := tblOk_nil
theorem o44 : Holds Try.prog 44 c44 := fn_holds (code := Try.f44.body.getD .skip) (by kernel_rfl) gamOk k44 Try.func44 (by kernel_rfl) (by kernel_rfl) (by kernel_rfl) (by kernel_rfl) v44 (fun x _ h => (r44 x).trans h)
/-! ### 75: loop.example/g00076/laws.toChanRow -/
noncomputable def t75 : Tbl := []
noncomputable def a75 : Nat → Option LoopAnn := fun _ => none
noncomputable def g75 (x0 : Ta13) : Option ((Ta13 × Unit) × Unit) :=
  some ((x0, ()), ())
noncomputable def f75 (x0 : Ta13) : Ta13 :=
  x0
theorem n75 (x0 : Ta13) : g75 x0 = some ((f75 x0, ()), ()) := by
  simp only [g75, f75, pull1]
noncomputable def c75 : Ctr := { ins := [.v Ty59], out := [Ty59], F := fun x => some ((f75 x.1, ()), ()) }
theorem v75 : LoopsOk Try.prog Γ t75 a75 (loopsIn (Try.f75.body.getD .skip) 0) := loopsOk_nil (by kernel_rfl)
theorem r75 (x : InsT c75.ins) : fnK Try.prog Γ t75 a75 Try.f75 c75 x = g75 x.1 := by kernel_rfl
theorem k75 : TblOk Try.prog t75 := tblOk_nil
theorem o75 : Holds Try.prog 75 c75 := fn_holds (code := Try.f75.body.getD .skip) (by kernel_rfl) gamOk k75 Try.func75 (by kernel_rfl) (by kernel_rfl) (by kernel_rfl) (by kernel_rfl) v75 (fun x _ h => (r75 x).trans ((n75 x.1).trans h))
/-! ### 45: loop.example/g00076/laws.toChanRowS -/
noncomputable def t45 : Tbl := [(75, [], c75)]
abbrev h45_L0 : Shape := { slots := [(0, .v Ty63), (3, .ms 7), (4, .v (.int .i64))], boxes := [(7, .arr Ty59)] }
abbrev e45_L0 : List (XT × Shape) := [(.exit 0, { slots := [(3, .ms 7)], boxes := [(7, .arr Ty59)] })]
noncomputable def q45_L0 (t0 : Ta18) (t4 : Int) (r7 : Ta18) : Option (Ta81 ⊕ (((Unit × Unit) × Ta26) ⊕ Empty)) :=
  bif (decide (t4 < (t0.len : Int))) then
    bif (decide (0 ≤ t4) && decide (t4 < (t0.len : Int))) then
      bif (decide (0 ≤ t4) && decide (t4 < (r7.len : Int))) then
        some (.inl ((t0, ((), ((wI (t4 + (1 : Int))), ()))), ((L.set r7 t4.toNat (f75 (L.get t0 t4.toNat))), ())))
      else
        none
    else
      none
  else
    some (.inr (.inl (((), ()), (r7, ()))))
noncomputable def s45_L0 (x : Ta81) : Option (Ta81 ⊕ (((Unit × Unit) × Ta26) ⊕ Empty)) := q45_L0 x.1.1 x.1.2.2.1 x.2.1
noncomputable def a45 : Nat → Option LoopAnn := fun c => bif Nat.beq c 0 then some (.fix h45_L0 e45_L0 s45_L0) else none
noncomputable def g45 (x0 : Ta18) : Option (Ta26 × Unit) :=
  bif (decide ((x0.len : Int) = (x0.len : Int)) && (decide (0 ≤ (x0.len : Int)) && (decide ((x0.len : Int) ≤ 2 ^ 40) && decide (32 * (x0.len : Int) ≤ 2 ^ 48)))) then
    (fixO s45_L0 ((x0, ((), ((0 : Int), ()))), ((L.rep (x0.len : Int).toNat (Ty.zero Ty59)), ()))).bind fun d2 => match d2 with
    | .inl y1 =>
      some ((y1.2.1, ()), ())
    | .inr e => nomatch e
  else
    none
noncomputable def c45 : Ctr := { ins := [.v Ty63], out := [Ty63], F := fun x => g45 x.1 }
noncomputable def l45 : List (Nat × Code) := loopsIn (Try.f45.body.getD .skip) 0
theorem w45_L0 (x : h45_L0.T) : runK Try.prog Γ t45 a45 (l45.getD 0 (0, .skip)).2 0 (pkSh h45_L0 x) (loopCls (sh := h45_L0) (es := e45_L0)) = (s45_L0 x : Option _) := by kernel_rfl
theorem v45 : LoopsOk Try.prog Γ t45 a45 (loopsIn (Try.f45.body.getD .skip) 0) := by
  have e : loopsIn (Try.f45.body.getD .skip) 0 = [(0, (l45.getD 0 (0, .skip)).2)] := by kernel_rfl
  rw [e]
  exact ⟨fun x d h => (w45_L0 x).trans h, trivial⟩
theorem r45 (x : InsT c45.ins) : fnK Try.prog Γ t45 a45 Try.f45 c45 x = g45 x.1 := by kernel_rfl
theorem k45 : TblOk Try.prog t45 := tblOk_cons o75 (tblOk_nil)
theorem o45 : Holds Try.prog 45 c45 := fn_holds (code := Try.f45.body.getD .skip) (by kernel_rfl) gamOk k45 Try.func45 (by kernel_rfl) (by kernel_rfl) (by kernel_rfl) (by kernel_rfl) v45 (fun x _ h => (r45 x).trans h)
/-! ### 76: loop.example/g00076/laws.toSlot -/
noncomputable def t76 : Tbl := []
noncomputable def a76 : Nat → Option LoopAnn := fun _ => none
noncomputable def g76 (x0 : Ta4) : Option Ta25 :=
  some ((x0, ()), ())
noncomputable def f76 (x0 : Ta4) : Ta4 :=
  x0
theorem n76 (x0 : Ta4) : g76 x0 = some ((f76 x0, ()), ()) := by
  simp only [g76, f76, pull1]
noncomputable def c76 : Ctr := { ins := [.v Ty40], out := [Ty40], F := fun x => some ((f76 x.1, ()), ()) }
theorem v76 : LoopsOk Try.prog Γ t76 a76 (loopsIn (Try.f76.body.getD .skip) 0) := loopsOk_nil (by kernel_rfl)
theorem r76 (x : InsT c76.ins) : fnK Try.prog Γ t76 a76 Try.f76 c76 x = g76 x.1 := by kernel_rfl
theorem k76 : TblOk Try.prog t76 := tblOk_nil
theorem o76 : Holds Try.prog 76 c76 := fn_holds (code := Try.f76.body.getD .skip) (by kernel_rfl) gamOk k76 Try.func76 (by kernel_rfl) (by kernel_rfl) (by kernel_rfl) (by kernel_rfl) v76 (fun x _ h => (r76 x).trans ((n76 x.1).trans h))
/-! ### 46: loop.example/g00076/laws.toSlotS -/
noncomputable def t46 : Tbl := [(76, [], c76)]
abbrev h46_L0 : Shape := { slots := [(0, .v Ty47), (3, .ms 7), (4, .v (.int .i64))], boxes := [(7, .arr Ty40)] }
abbrev e46_L0 : List (XT × Shape) := [(.exit 0, { slots := [(3, .ms 7)], boxes := [(7, .arr Ty40)] })]
noncomputable def q46_L0 (t0 : Ta9) (t4 : Int) (r7 : Ta9) : Option (Ta74 ⊕ (Ta37 ⊕ Empty)) :=
  bif (decide (t4 < (t0.len : Int))) then
    bif (decide (0 ≤ t4) && decide (t4 < (t0.len : Int))) then
      bif (decide (0 ≤ t4) && decide (t4 < (r7.len : Int))) then
        some (.inl ((t0, ((), ((wI (t4 + (1 : Int))), ()))), ((L.set r7 t4.toNat (f76 (L.get t0 t4.toNat))), ())))
      else
        none
    else
      none
  else
    some (.inr (.inl (((), ()), (r7, ()))))
noncomputable def s46_L0 (x : Ta74) : Option (Ta74 ⊕ (Ta37 ⊕ Empty)) := q46_L0 x.1.1 x.1.2.2.1 x.2.1
noncomputable def a46 : Nat → Option LoopAnn := fun c => bif Nat.beq c 0 then some (.fix h46_L0 e46_L0 s46_L0) else none
noncomputable def g46 (x0 : Ta9) : Option Ta29 :=
  bif (decide ((x0.len : Int) = (x0.len : Int)) && (decide (0 ≤ (x0.len : Int)) && (decide ((x0.len : Int) ≤ 2 ^ 40) && decide (24 * (x0.len : Int) ≤ 2 ^ 48)))) then
    (fixO s46_L0 ((x0, ((), ((0 : Int), ()))), ((L.rep (x0.len : Int).toNat (Ty.zero Ty40)), ()))).bind fun d2 => match d2 with
    | .inl y1 =>
      some ((y1.2.1, ()), ())
    | .inr e => nomatch e
  else
    none
noncomputable def c46 : Ctr := { ins := [.v Ty47], out := [Ty47], F := fun x => g46 x.1 }
noncomputable def l46 : List (Nat × Code) := loopsIn (Try.f46.body.getD .skip) 0
theorem w46_L0 (x : h46_L0.T) : runK Try.prog Γ t46 a46 (l46.getD 0 (0, .skip)).2 0 (pkSh h46_L0 x) (loopCls (sh := h46_L0) (es := e46_L0)) = (s46_L0 x : Option _) := by kernel_rfl
theorem v46 : LoopsOk Try.prog Γ t46 a46 (loopsIn (Try.f46.body.getD .skip) 0) := by
  have e : loopsIn (Try.f46.body.getD .skip) 0 = [(0, (l46.getD 0 (0, .skip)).2)] := by kernel_rfl
  rw [e]
  exact ⟨fun x d h => (w46_L0 x).trans h, trivial⟩
theorem r46 (x : InsT c46.ins) : fnK Try.prog Γ t46 a46 Try.f46 c46 x = g46 x.1 := by kernel_rfl
theorem k46 : TblOk Try.prog t46 := tblOk_cons o76 (tblOk_nil)
theorem o46 : Holds Try.prog 46 c46 := fn_holds (code := Try.f46.body.getD .skip) (by kernel_rfl) gamOk k46 Try.func46 (by kernel_rfl) (by kernel_rfl) (by kernel_rfl) (by kernel_rfl) v46 (fun x _ h => (r46 x).trans h)
/-! ### 14: loop.example/g00076/laws.toTables -/
noncomputable def t14 : Tbl := [(41, [], c41), (42, [], c42), (43, [], c43), (44, [], c44), (45, [], c45), (46, [], c46)]
noncomputable def a14 : Nat → Option LoopAnn := fun _ => none
noncomputable def g14 (x0 : Ta114) : Option (Ta115 × Unit) :=
  (g43 x0.2.2.2.2.2.2.2.1).bind fun y1 =>
    (g44 x0.2.2.2.2.2.2.2.2.1).bind fun y2 =>
      (g45 x0.2.2.2.2.2.2.2.2.2.1).bind fun y3 =>
        (g46 x0.2.2.2.2.2.2.2.2.2.2.1).bind fun y4 =>
          some (((x0.1, ((f41 x0.2.1), (x0.2.2.1, ((f42 x0.2.2.2.1), (x0.2.2.2.2.1, (x0.2.2.2.2.2.1, (x0.2.2.2.2.2.2.1, (y1.1.1, (y2.1.1, (y3.1.1, y4.1)))))))))), ()), ())
noncomputable def c14 : Ctr := { ins := [.v Ty133], out := [Ty133], F := fun x => g14 x.1 }
theorem v14 : LoopsOk Try.prog Γ t14 a14 (loopsIn (Try.f14.body.getD .skip) 0) := loopsOk_nil (by kernel_rfl)
theorem r14 (x : InsT c14.ins) : fnK Try.prog Γ t14 a14 Try.f14 c14 x = g14 x.1 := by kernel_rfl
theorem k14 : TblOk Try.prog t14 := tblOk_cons o41 (tblOk_cons o42 (tblOk_cons o43 (tblOk_cons o44 (tblOk_cons o45 (tblOk_cons o46 (tblOk_nil))))))
theorem o14 : Holds Try.prog 14 c14 := fn_holds (code := Try.f14.body.getD .skip) (by kernel_rfl) gamOk k14 Try.func14 (by kernel_rfl) (by kernel_rfl) (by kernel_rfl) (by kernel_rfl) v14 (fun x _ h => (r14 x).trans h)
/-! ### 67: loop.example/g00076/spec.l01In -/
noncomputable def t67 : Tbl := []
noncomputable def a67 : Nat → Option LoopAnn := fun _ => none
noncomputable def g67 (x0 : Int) (x1 : Int) (x2 : Int) : Option ((Bool × Unit) × Unit) :=
  bif (decide (x0 ≥ x1)) then
    some (((decide (x0 ≤ x2)), ()), ())
  else
    some ((false, ()), ())
noncomputable def f67 (x0 : Int) (x1 : Int) (x2 : Int) : Bool :=
  bif (decide (x0 ≥ x1)) then
    (decide (x0 ≤ x2))
  else
    false
theorem n67 (x0 : Int) (x1 : Int) (x2 : Int) : g67 x0 x1 x2 = some ((f67 x0 x1 x2, ()), ()) := by
  simp only [g67, f67, pull1]
noncomputable def c67 : Ctr := { ins := [.v (.int .i64), .v (.int .i64), .v (.int .i64)], out := [.bool], F := fun x => some ((f67 x.1 x.2.1 x.2.2.1, ()), ()) }
theorem v67 : LoopsOk Try.prog Γ t67 a67 (loopsIn (Try.f67.body.getD .skip) 0) := loopsOk_nil (by kernel_rfl)
theorem r67 (x : InsT c67.ins) : fnK Try.prog Γ t67 a67 Try.f67 c67 x = g67 x.1 x.2.1 x.2.2.1 := by kernel_rfl
theorem k67 : TblOk Try.prog t67 := tblOk_nil
theorem o67 : Holds Try.prog 67 c67 := fn_holds (code := Try.f67.body.getD .skip) (by kernel_rfl) gamOk k67 Try.func67 (by kernel_rfl) (by kernel_rfl) (by kernel_rfl) (by kernel_rfl) v67 (fun x _ h => (r67 x).trans ((n67 x.1 x.2.1 x.2.2.1).trans h))
/-! ### 68: loop.example/g00076/spec.ShapeOk -/
noncomputable def t68 : Tbl := [(67, [], c67)]
noncomputable def a68 : Nat → Option LoopAnn := fun _ => none
noncomputable def g68 (x0 : Ta4) : Option ((Bool × Unit) × Unit) :=
  bif (x0.1 == (1 : Int)) then
    bif (x0.2.2.1 == (4 : Int)) then
      some (((f67 x0.2.1 (1 : Int) (4 : Int)), ()), ())
    else
      bif (x0.2.2.1 == (8 : Int)) then
        some (((f67 x0.2.1 (1 : Int) (4 : Int)), ()), ())
      else
        bif (x0.2.2.1 == (16 : Int)) then
          some (((f67 x0.2.1 (1 : Int) (4 : Int)), ()), ())
        else
          bif (x0.2.2.1 == (32 : Int)) then
            some (((f67 x0.2.1 (1 : Int) (4 : Int)), ()), ())
          else
            some ((false, ()), ())
  else
    bif (x0.1 == (2 : Int)) then
      bif (x0.2.2.1 == (4 : Int)) then
        some (((f67 x0.2.1 (1 : Int) (4 : Int)), ()), ())
      else
        bif (x0.2.2.1 == (8 : Int)) then
          some (((f67 x0.2.1 (1 : Int) (4 : Int)), ()), ())
        else
          bif (x0.2.2.1 == (16 : Int)) then
            some (((f67 x0.2.1 (1 : Int) (4 : Int)), ()), ())
          else
            bif (x0.2.2.1 == (32 : Int)) then
              some (((f67 x0.2.1 (1 : Int) (4 : Int)), ()), ())
            else
              some ((false, ()), ())
    else
      bif (x0.1 == (4 : Int)) then
        bif (x0.2.2.1 == (4 : Int)) then
          some (((f67 x0.2.1 (1 : Int) (4 : Int)), ()), ())
        else
          bif (x0.2.2.1 == (8 : Int)) then
            some (((f67 x0.2.1 (1 : Int) (4 : Int)), ()), ())
          else
            bif (x0.2.2.1 == (16 : Int)) then
              some (((f67 x0.2.1 (1 : Int) (4 : Int)), ()), ())
            else
              bif (x0.2.2.1 == (32 : Int)) then
                some (((f67 x0.2.1 (1 : Int) (4 : Int)), ()), ())
              else
                some ((false, ()), ())
      else
        bif (x0.1 == (8 : Int)) then
          bif (x0.2.2.1 == (4 : Int)) then
            some (((f67 x0.2.1 (1 : Int) (4 : Int)), ()), ())
          else
            bif (x0.2.2.1 == (8 : Int)) then
              some (((f67 x0.2.1 (1 : Int) (4 : Int)), ()), ())
            else
              bif (x0.2.2.1 == (16 : Int)) then
                some (((f67 x0.2.1 (1 : Int) (4 : Int)), ()), ())
              else
                bif (x0.2.2.1 == (32 : Int)) then
                  some (((f67 x0.2.1 (1 : Int) (4 : Int)), ()), ())
                else
                  some ((false, ()), ())
        else
          bif (x0.2.2.1 == (4 : Int)) then
            bif (x0.1 == (16 : Int)) then
              some (((f67 x0.2.1 (1 : Int) (4 : Int)), ()), ())
            else
              some ((false, ()), ())
          else
            bif (x0.2.2.1 == (8 : Int)) then
              bif (x0.1 == (16 : Int)) then
                some (((f67 x0.2.1 (1 : Int) (4 : Int)), ()), ())
              else
                some ((false, ()), ())
            else
              bif (x0.2.2.1 == (16 : Int)) then
                bif (x0.1 == (16 : Int)) then
                  some (((f67 x0.2.1 (1 : Int) (4 : Int)), ()), ())
                else
                  some ((false, ()), ())
              else
                bif (x0.1 == (16 : Int)) then
                  bif (x0.2.2.1 == (32 : Int)) then
                    some (((f67 x0.2.1 (1 : Int) (4 : Int)), ()), ())
                  else
                    some ((false, ()), ())
                else
                  some ((false, ()), ())
noncomputable def f68 (x0 : Ta4) : Bool :=
  bif (x0.1 == (1 : Int)) then
    bif (x0.2.2.1 == (4 : Int)) then
      (f67 x0.2.1 (1 : Int) (4 : Int))
    else
      bif (x0.2.2.1 == (8 : Int)) then
        (f67 x0.2.1 (1 : Int) (4 : Int))
      else
        bif (x0.2.2.1 == (16 : Int)) then
          (f67 x0.2.1 (1 : Int) (4 : Int))
        else
          bif (x0.2.2.1 == (32 : Int)) then
            (f67 x0.2.1 (1 : Int) (4 : Int))
          else
            false
  else
    bif (x0.1 == (2 : Int)) then
      bif (x0.2.2.1 == (4 : Int)) then
        (f67 x0.2.1 (1 : Int) (4 : Int))
      else
        bif (x0.2.2.1 == (8 : Int)) then
          (f67 x0.2.1 (1 : Int) (4 : Int))
        else
          bif (x0.2.2.1 == (16 : Int)) then
            (f67 x0.2.1 (1 : Int) (4 : Int))
          else
            bif (x0.2.2.1 == (32 : Int)) then
              (f67 x0.2.1 (1 : Int) (4 : Int))
            else
              false
    else
      bif (x0.1 == (4 : Int)) then
        bif (x0.2.2.1 == (4 : Int)) then
          (f67 x0.2.1 (1 : Int) (4 : Int))
        else
          bif (x0.2.2.1 == (8 : Int)) then
            (f67 x0.2.1 (1 : Int) (4 : Int))
          else
            bif (x0.2.2.1 == (16 : Int)) then
              (f67 x0.2.1 (1 : Int) (4 : Int))
            else
              bif (x0.2.2.1 == (32 : Int)) then
                (f67 x0.2.1 (1 : Int) (4 : Int))
              else
                false
      else
        bif (x0.1 == (8 : Int)) then
          bif (x0.2.2.1 == (4 : Int)) then
            (f67 x0.2.1 (1 : Int) (4 : Int))
          else
            bif (x0.2.2.1 == (8 : Int)) then
              (f67 x0.2.1 (1 : Int) (4 : Int))
            else
              bif (x0.2.2.1 == (16 : Int)) then
                (f67 x0.2.1 (1 : Int) (4 : Int))
              else
                bif (x0.2.2.1 == (32 : Int)) then
                  (f67 x0.2.1 (1 : Int) (4 : Int))
                else
                  false
        else
          bif (x0.2.2.1 == (4 : Int)) then
            bif (x0.1 == (16 : Int)) then
              (f67 x0.2.1 (1 : Int) (4 : Int))
            else
              false
          else
            bif (x0.2.2.1 == (8 : Int)) then
              bif (x0.1 == (16 : Int)) then
                (f67 x0.2.1 (1 : Int) (4 : Int))
              else
                false
            else
              bif (x0.2.2.1 == (16 : Int)) then
                bif (x0.1 == (16 : Int)) then
                  (f67 x0.2.1 (1 : Int) (4 : Int))
                else
                  false
              else
                bif (x0.1 == (16 : Int)) then
                  bif (x0.2.2.1 == (32 : Int)) then
                    (f67 x0.2.1 (1 : Int) (4 : Int))
                  else
                    false
                else
                  false
theorem n68 (x0 : Ta4) : g68 x0 = some ((f68 x0, ()), ()) := by
  simp only [g68, f68, pull1]
noncomputable def c68 : Ctr := { ins := [.v Ty40], out := [.bool], F := fun x => some ((f68 x.1, ()), ()) }
theorem v68 : LoopsOk Try.prog Γ t68 a68 (loopsIn (Try.f68.body.getD .skip) 0) := loopsOk_nil (by kernel_rfl)
theorem r68 (x : InsT c68.ins) : fnK Try.prog Γ t68 a68 Try.f68 c68 x = g68 x.1 := by kernel_rfl
theorem k68 : TblOk Try.prog t68 := tblOk_cons o67 (tblOk_nil)
theorem o68 : Holds Try.prog 68 c68 := fn_holds (code := Try.f68.body.getD .skip) (by kernel_rfl) gamOk k68 Try.func68 (by kernel_rfl) (by kernel_rfl) (by kernel_rfl) (by kernel_rfl) v68 (fun x _ h => (r68 x).trans ((n68 x.1).trans h))
/-! ### 69: loop.example/g00076/spec.CostsOk -/
noncomputable def t69 : Tbl := [(67, [], c67)]
noncomputable def a69 : Nat → Option LoopAnn := fun _ => none
noncomputable def g69 (x0 : Ta38) : Option ((Bool × Unit) × Unit) :=
  bif (f67 x0.1 (1 : Int) (20 : Int)) then
    bif (f67 x0.2.1 (0 : Int) (50 : Int)) then
      bif (f67 x0.2.2.1 (0 : Int) (50 : Int)) then
        bif (f67 x0.2.2.2.1 (0 : Int) (50 : Int)) then
          bif (f67 x0.2.2.2.2.1 (0 : Int) (50 : Int)) then
            bif (f67 x0.2.2.2.2.2.1 (0 : Int) (50 : Int)) then
              some (((f67 x0.2.2.2.2.2.2.1 (0 : Int) (50 : Int)), ()), ())
            else
              some ((false, ()), ())
          else
            some ((false, ()), ())
        else
          some ((false, ()), ())
      else
        some ((false, ()), ())
    else
      some ((false, ()), ())
  else
    some ((false, ()), ())
noncomputable def f69 (x0 : Ta38) : Bool :=
  bif (f67 x0.1 (1 : Int) (20 : Int)) then
    bif (f67 x0.2.1 (0 : Int) (50 : Int)) then
      bif (f67 x0.2.2.1 (0 : Int) (50 : Int)) then
        bif (f67 x0.2.2.2.1 (0 : Int) (50 : Int)) then
          bif (f67 x0.2.2.2.2.1 (0 : Int) (50 : Int)) then
            bif (f67 x0.2.2.2.2.2.1 (0 : Int) (50 : Int)) then
              (f67 x0.2.2.2.2.2.2.1 (0 : Int) (50 : Int))
            else
              false
          else
            false
        else
          false
      else
        false
    else
      false
  else
    false
theorem n69 (x0 : Ta38) : g69 x0 = some ((f69 x0, ()), ()) := by
  simp only [g69, f69, pull1]
noncomputable def c69 : Ctr := { ins := [.v Ty87], out := [.bool], F := fun x => some ((f69 x.1, ()), ()) }
theorem v69 : LoopsOk Try.prog Γ t69 a69 (loopsIn (Try.f69.body.getD .skip) 0) := loopsOk_nil (by kernel_rfl)
theorem r69 (x : InsT c69.ins) : fnK Try.prog Γ t69 a69 Try.f69 c69 x = g69 x.1 := by kernel_rfl
theorem k69 : TblOk Try.prog t69 := tblOk_cons o67 (tblOk_nil)
theorem o69 : Holds Try.prog 69 c69 := fn_holds (code := Try.f69.body.getD .skip) (by kernel_rfl) gamOk k69 Try.func69 (by kernel_rfl) (by kernel_rfl) (by kernel_rfl) (by kernel_rfl) v69 (fun x _ h => (r69 x).trans ((n69 x.1).trans h))
/-! ### 128: loop.example/g00076/spec.l02Forms -/
noncomputable def t128 : Tbl := []
noncomputable def a128 : Nat → Option LoopAnn := fun _ => none
noncomputable def g128 : Option (((L Int) × Unit) × Unit) :=
  some (((L.of (Ty.zero (.int .i64)) [(0 : Int), (7 : Int), (7 : Int), (7 : Int), (7 : Int), (7 : Int), (7 : Int), (7 : Int), (7 : Int), (7 : Int), (7 : Int), (7 : Int), (7 : Int), (11 : Int), (9 : Int), (11 : Int), (11 : Int), (11 : Int), (11 : Int), (11 : Int), (11 : Int), (11 : Int), (9 : Int), (10 : Int), (1 : Int), (11 : Int), (11 : Int), (11 : Int), (9 : Int), (9 : Int), (0 : Int), (0 : Int), (8 : Int)]), ()), ())
noncomputable def f128 : (L Int) :=
  (L.of (Ty.zero (.int .i64)) [(0 : Int), (7 : Int), (7 : Int), (7 : Int), (7 : Int), (7 : Int), (7 : Int), (7 : Int), (7 : Int), (7 : Int), (7 : Int), (7 : Int), (7 : Int), (11 : Int), (9 : Int), (11 : Int), (11 : Int), (11 : Int), (11 : Int), (11 : Int), (11 : Int), (11 : Int), (9 : Int), (10 : Int), (1 : Int), (11 : Int), (11 : Int), (11 : Int), (9 : Int), (9 : Int), (0 : Int), (0 : Int), (8 : Int)])
theorem n128 : g128 = some ((f128, ()), ()) := by
  simp only [g128, f128, pull1]
noncomputable def c128 : Ctr := { ins := [], out := [(.sl (.int .i64))], F := fun x => some ((f128, ()), ()) }
theorem v128 : LoopsOk Try.prog Γ t128 a128 (loopsIn (Try.f128.body.getD .skip) 0) := loopsOk_nil (by kernel_rfl)
theorem r128 (x : InsT c128.ins) : fnK Try.prog Γ t128 a128 Try.f128 c128 x = g128 := by kernel_rfl
theorem k128 : TblOk Try.prog t128 := tblOk_nil
theorem o128 : Holds Try.prog 128 c128 := fn_holds (code := Try.f128.body.getD .skip) (by kernel_rfl) gamOk k128 Try.func128 (by kernel_rfl) (by kernel_rfl) (by kernel_rfl) (by kernel_rfl) v128 (fun x _ h => (r128 x).trans ((n128).trans h))
/-! ### 120: loop.example/g00076/spec.FormOf -/
noncomputable def t120 : Tbl := [(67, [], c67), (128, [], c128)]
noncomputable def a120 : Nat → Option LoopAnn := fun _ => none
noncomputable def g120 (x0 : Int) : Option ((Int × Unit) × Unit) :=
  bif (!(f67 x0 (0 : Int) (32 : Int))) then
    some (((-1 : Int), ()), ())
  else
    bif (decide (0 ≤ x0) && decide (x0 < ((f128).len : Int))) then
      some (((L.get (f128) x0.toNat), ()), ())
    else
      none
noncomputable def c120 : Ctr := { ins := [.v (.int .i64)], out := [(.int .i64)], F := fun x => g120 x.1 }
theorem v120 : LoopsOk Try.prog Γ t120 a120 (loopsIn (Try.f120.body.getD .skip) 0) := loopsOk_nil (by kernel_rfl)
theorem r120 (x : InsT c120.ins) : fnK Try.prog Γ t120 a120 Try.f120 c120 x = g120 x.1 := by kernel_rfl
theorem k120 : TblOk Try.prog t120 := tblOk_cons o67 (tblOk_cons o128 (tblOk_nil))
theorem o120 : Holds Try.prog 120 c120 := fn_holds (code := Try.f120.body.getD .skip) (by kernel_rfl) gamOk k120 Try.func120 (by kernel_rfl) (by kernel_rfl) (by kernel_rfl) (by kernel_rfl) v120 (fun x _ h => (r120 x).trans h)
/-! ### 99: loop.example/g00076/spec.OpCost -/
noncomputable def t99 : Tbl := [(69, [], c69), (120, [], c120), (67, [], c67)]
noncomputable def a99 : Nat → Option LoopAnn := fun _ => none
noncomputable def g99 (x0 : Ta38) (x1 : Int) : Option ((Int × Unit) × Unit) :=
  bif (!(f69 x0)) then
    some (((-1 : Int), ()), ())
  else
    (g120 x1).bind fun y1 =>
      bif (decide (y1.1.1 < (0 : Int))) then
        some (((-1 : Int), ()), ())
      else
        bif (x1 == (9 : Int)) then
          some (((wI (x0.1 + x0.2.1)), ()), ())
        else
          bif (x1 == (10 : Int)) then
            some (((wI (x0.1 + x0.2.1)), ()), ())
          else
            bif (f67 x1 (15 : Int) (18 : Int)) then
              some (((wI (x0.1 + x0.2.2.1)), ()), ())
            else
              bif (decide (x1 ≥ (25 : Int))) then
                some (((wI (x0.1 + x0.2.2.2.2.2.1)), ()), ())
              else
                some ((x0.1, ()), ())
noncomputable def c99 : Ctr := { ins := [.v Ty87, .v (.int .i64)], out := [(.int .i64)], F := fun x => g99 x.1 x.2.1 }
theorem v99 : LoopsOk Try.prog Γ t99 a99 (loopsIn (Try.f99.body.getD .skip) 0) := loopsOk_nil (by kernel_rfl)
theorem r99 (x : InsT c99.ins) : fnK Try.prog Γ t99 a99 Try.f99 c99 x = g99 x.1 x.2.1 := by kernel_rfl
theorem k99 : TblOk Try.prog t99 := tblOk_cons o69 (tblOk_cons o120 (tblOk_cons o67 (tblOk_nil)))
theorem o99 : Holds Try.prog 99 c99 := fn_holds (code := Try.f99.body.getD .skip) (by kernel_rfl) gamOk k99 Try.func99 (by kernel_rfl) (by kernel_rfl) (by kernel_rfl) (by kernel_rfl) v99 (fun x _ h => (r99 x).trans h)
/-! ### 121: loop.example/g00076/spec.AccessCost -/
noncomputable def t121 : Tbl := [(69, [], c69)]
noncomputable def a121 : Nat → Option LoopAnn := fun _ => none
noncomputable def g121 (x0 : Ta38) (x1 : Ta8) : Option ((Int × Unit) × Unit) :=
  bif (!(f69 x0)) then
    some (((-1 : Int), ()), ())
  else
    bif (!x1.1) then
      bif (!x1.2.1) then
        bif x1.2.2.1 then
          some (((wI ((wI ((wI ((0 : Int) + x0.2.2.2.1)) + x0.2.2.2.2.1)) + x0.2.2.2.2.2.2.1)), ()), ())
        else
          some (((wI ((wI ((0 : Int) + x0.2.2.2.1)) + x0.2.2.2.2.1)), ()), ())
      else
        bif x1.2.2.1 then
          some (((wI ((wI ((0 : Int) + x0.2.2.2.1)) + x0.2.2.2.2.2.2.1)), ()), ())
        else
          some (((wI ((0 : Int) + x0.2.2.2.1)), ()), ())
    else
      bif (!x1.2.1) then
        bif x1.2.2.1 then
          some (((wI ((wI ((0 : Int) + x0.2.2.2.2.1)) + x0.2.2.2.2.2.2.1)), ()), ())
        else
          some (((wI ((0 : Int) + x0.2.2.2.2.1)), ()), ())
      else
        bif x1.2.2.1 then
          some (((wI ((0 : Int) + x0.2.2.2.2.2.2.1)), ()), ())
        else
          some (((0 : Int), ()), ())
noncomputable def f121 (x0 : Ta38) (x1 : Ta8) : Int :=
  bif (!(f69 x0)) then
    (-1 : Int)
  else
    bif (!x1.1) then
      bif (!x1.2.1) then
        bif x1.2.2.1 then
          (wI ((wI ((wI ((0 : Int) + x0.2.2.2.1)) + x0.2.2.2.2.1)) + x0.2.2.2.2.2.2.1))
        else
          (wI ((wI ((0 : Int) + x0.2.2.2.1)) + x0.2.2.2.2.1))
      else
        bif x1.2.2.1 then
          (wI ((wI ((0 : Int) + x0.2.2.2.1)) + x0.2.2.2.2.2.2.1))
        else
          (wI ((0 : Int) + x0.2.2.2.1))
    else
      bif (!x1.2.1) then
        bif x1.2.2.1 then
          (wI ((wI ((0 : Int) + x0.2.2.2.2.1)) + x0.2.2.2.2.2.2.1))
        else
          (wI ((0 : Int) + x0.2.2.2.2.1))
      else
        bif x1.2.2.1 then
          (wI ((0 : Int) + x0.2.2.2.2.2.2.1))
        else
          (0 : Int)
theorem n121 (x0 : Ta38) (x1 : Ta8) : g121 x0 x1 = some ((f121 x0 x1, ()), ()) := by
  simp only [g121, f121, pull1]
noncomputable def c121 : Ctr := { ins := [.v Ty87, .v (.pair .bool (.pair .bool (.pair .bool .unit)))], out := [(.int .i64)], F := fun x => some ((f121 x.1 x.2.1, ()), ()) }
theorem v121 : LoopsOk Try.prog Γ t121 a121 (loopsIn (Try.f121.body.getD .skip) 0) := loopsOk_nil (by kernel_rfl)
theorem r121 (x : InsT c121.ins) : fnK Try.prog Γ t121 a121 Try.f121 c121 x = g121 x.1 x.2.1 := by kernel_rfl
theorem k121 : TblOk Try.prog t121 := tblOk_cons o69 (tblOk_nil)
theorem o121 : Holds Try.prog 121 c121 := fn_holds (code := Try.f121.body.getD .skip) (by kernel_rfl) gamOk k121 Try.func121 (by kernel_rfl) (by kernel_rfl) (by kernel_rfl) (by kernel_rfl) v121 (fun x _ h => (r121 x).trans ((n121 x.1 x.2.1).trans h))
/-! ### 100: loop.example/g00076/spec.WorstAccess -/
noncomputable def t100 : Tbl := [(121, [], c121)]
abbrev h100_L0 : Shape := { slots := [(1, .bx 1 0), (3, .v (.int .i64)), (4, .v (.int .i64))], boxes := [(1, .typ Ty87)] }
abbrev e100_L0 : List (XT × Shape) := [(.exit 0, { slots := [(3, .v (.int .i64))], boxes := [] })]
noncomputable def q100_L0 (t3 : Int) (t4 : Int) (b1 : Ta38) : Option (Ta73 ⊕ (((Int × Unit) × Unit) ⊕ Empty)) :=
  bif (decide (t4 < (8 : Int))) then
    bif (decide ((f121 b1 (((Int.tmod t4 (2 : Int)) == (1 : Int)), (((Int.tmod (wI (Int.tdiv t4 (2 : Int))) (2 : Int)) == (1 : Int)), (((wI (Int.tdiv t4 (4 : Int))) == (1 : Int)), ())))) > t3)) then
      some (.inl (((), ((f121 b1 (((Int.tmod t4 (2 : Int)) == (1 : Int)), (((Int.tmod (wI (Int.tdiv t4 (2 : Int))) (2 : Int)) == (1 : Int)), (((wI (Int.tdiv t4 (4 : Int))) == (1 : Int)), ())))), ((wI (t4 + (1 : Int))), ()))), (b1, ())))
    else
      some (.inl (((), (t3, ((wI (t4 + (1 : Int))), ()))), (b1, ())))
  else
    some (.inr (.inl ((t3, ()), ())))
noncomputable def s100_L0 (x : Ta73) : Option (Ta73 ⊕ (((Int × Unit) × Unit) ⊕ Empty)) := q100_L0 x.1.2.1 x.1.2.2.1 x.2.1
noncomputable def a100 : Nat → Option LoopAnn := fun c => bif Nat.beq c 0 then some (.fix h100_L0 e100_L0 s100_L0) else none
noncomputable def g100 (x0 : Ta38) : Option ((Int × Unit) × Unit) :=
  (fixO s100_L0 (((), ((-1 : Int), ((0 : Int), ()))), (x0, ()))).bind fun d2 => match d2 with
  | .inl y1 =>
    some ((y1.1.1, ()), ())
  | .inr e => nomatch e
noncomputable def c100 : Ctr := { ins := [.v Ty87], out := [(.int .i64)], F := fun x => g100 x.1 }
noncomputable def l100 : List (Nat × Code) := loopsIn (Try.f100.body.getD .skip) 0
theorem w100_L0 (x : h100_L0.T) : runK Try.prog Γ t100 a100 (l100.getD 0 (0, .skip)).2 0 (pkSh h100_L0 x) (loopCls (sh := h100_L0) (es := e100_L0)) = (s100_L0 x : Option _) := by kernel_rfl
theorem v100 : LoopsOk Try.prog Γ t100 a100 (loopsIn (Try.f100.body.getD .skip) 0) := by
  have e : loopsIn (Try.f100.body.getD .skip) 0 = [(0, (l100.getD 0 (0, .skip)).2)] := by kernel_rfl
  rw [e]
  exact ⟨fun x d h => (w100_L0 x).trans h, trivial⟩
theorem r100 (x : InsT c100.ins) : fnK Try.prog Γ t100 a100 Try.f100 c100 x = g100 x.1 := by kernel_rfl
theorem k100 : TblOk Try.prog t100 := tblOk_cons o121 (tblOk_nil)
theorem o100 : Holds Try.prog 100 c100 := fn_holds (code := Try.f100.body.getD .skip) (by kernel_rfl) gamOk k100 Try.func100 (by kernel_rfl) (by kernel_rfl) (by kernel_rfl) (by kernel_rfl) v100 (fun x _ h => (r100 x).trans h)
/-! ### 70: loop.example/g00076/spec.WorstStep -/
noncomputable def t70 : Tbl := [(69, [], c69), (99, [], c99), (100, [], c100)]
abbrev h70_L0 : Shape := { slots := [(1, .bx 1 0), (3, .v (.int .i64)), (4, .v (.int .i64))], boxes := [(1, .typ Ty87)] }
abbrev e70_L0 : List (XT × Shape) := [(.exit 0, { slots := [(1, .bx 1 0), (3, .v (.int .i64))], boxes := [(1, .typ Ty87)] })]
noncomputable def q70_L0 (t3 : Int) (t4 : Int) (b1 : Ta38) : Option (Ta73 ⊕ (Ta66 ⊕ Empty)) :=
  bif (decide (t4 < (33 : Int))) then
    (g99 b1 t4).bind fun y1 =>
      bif (decide (y1.1.1 > t3)) then
        (g99 b1 t4).bind fun y2 =>
          some (.inl (((), (y2.1.1, ((wI (t4 + (1 : Int))), ()))), (b1, ())))
      else
        some (.inl (((), (t3, ((wI (t4 + (1 : Int))), ()))), (b1, ())))
  else
    some (.inr (.inl (((), (t3, ())), (b1, ()))))
noncomputable def s70_L0 (x : Ta73) : Option (Ta73 ⊕ (Ta66 ⊕ Empty)) := q70_L0 x.1.2.1 x.1.2.2.1 x.2.1
noncomputable def a70 : Nat → Option LoopAnn := fun c => bif Nat.beq c 0 then some (.fix h70_L0 e70_L0 s70_L0) else none
noncomputable def g70 (x0 : Ta38) : Option ((Int × Unit) × Unit) :=
  bif (!(f69 x0)) then
    some (((-1 : Int), ()), ())
  else
    (fixO s70_L0 (((), ((0 : Int), ((0 : Int), ()))), (x0, ()))).bind fun d5 => match d5 with
    | .inl y3 =>
      (g100 y3.2.1).bind fun y4 =>
        some (((wI ((wI (y3.1.2.1 + (wI ((2 : Int) * y4.1.1)))) + y3.2.1.2.2.2.2.2.1)), ()), ())
    | .inr e => nomatch e
noncomputable def c70 : Ctr := { ins := [.v Ty87], out := [(.int .i64)], F := fun x => g70 x.1 }
noncomputable def l70 : List (Nat × Code) := loopsIn (Try.f70.body.getD .skip) 0
theorem w70_L0 (x : h70_L0.T) : runK Try.prog Γ t70 a70 (l70.getD 0 (0, .skip)).2 0 (pkSh h70_L0 x) (loopCls (sh := h70_L0) (es := e70_L0)) = (s70_L0 x : Option _) := by kernel_rfl
theorem v70 : LoopsOk Try.prog Γ t70 a70 (loopsIn (Try.f70.body.getD .skip) 0) := by
  have e : loopsIn (Try.f70.body.getD .skip) 0 = [(0, (l70.getD 0 (0, .skip)).2)] := by kernel_rfl
  rw [e]
  exact ⟨fun x d h => (w70_L0 x).trans h, trivial⟩
theorem r70 (x : InsT c70.ins) : fnK Try.prog Γ t70 a70 Try.f70 c70 x = g70 x.1 := by kernel_rfl
theorem k70 : TblOk Try.prog t70 := tblOk_cons o69 (tblOk_cons o99 (tblOk_cons o100 (tblOk_nil)))
theorem o70 : Holds Try.prog 70 c70 := fn_holds (code := Try.f70.body.getD .skip) (by kernel_rfl) gamOk k70 Try.func70 (by kernel_rfl) (by kernel_rfl) (by kernel_rfl) (by kernel_rfl) v70 (fun x _ h => (r70 x).trans h)
/-! ### 37: loop.example/g00076/spec.l13Head -/
noncomputable def t37 : Tbl := [(67, [], c67), (68, [], c68), (69, [], c69), (70, [], c70)]
noncomputable def a37 : Nat → Option LoopAnn := fun _ => none
noncomputable def g37 (x0 : Ta114) : Option ((Bool × Unit) × Unit) :=
  bif (!(f67 x0.1 (64 : Int) (2048 : Int))) then
    some ((false, ()), ())
  else
    bif ((Int.tmod x0.1 (4 : Int)) != (0 : Int)) then
      some ((false, ()), ())
    else
      bif (!(f68 x0.2.1)) then
        some ((false, ()), ())
      else
        bif (!(f67 x0.2.2.1 (1 : Int) (8 : Int))) then
          some ((false, ()), ())
        else
          bif (!(f69 x0.2.2.2.1)) then
            some ((false, ()), ())
          else
            bif (f67 x0.2.2.2.2.1 (1 : Int) (5000 : Int)) then
              bif (f67 x0.2.2.2.2.2.1 (1 : Int) (5000 : Int)) then
                bif (f67 x0.2.2.2.2.2.2.1 (1 : Int) (5000 : Int)) then
                  (g70 x0.2.2.2.1).bind fun y1 =>
                    some (((decide (x0.2.2.2.2.2.1 ≥ y1.1.1)), ()), ())
                else
                  some ((false, ()), ())
              else
                some ((false, ()), ())
            else
              some ((false, ()), ())
noncomputable def c37 : Ctr := { ins := [.v Ty133], out := [.bool], F := fun x => g37 x.1 }
theorem v37 : LoopsOk Try.prog Γ t37 a37 (loopsIn (Try.f37.body.getD .skip) 0) := loopsOk_nil (by kernel_rfl)
theorem r37 (x : InsT c37.ins) : fnK Try.prog Γ t37 a37 Try.f37 c37 x = g37 x.1 := by kernel_rfl
theorem k37 : TblOk Try.prog t37 := tblOk_cons o67 (tblOk_cons o68 (tblOk_cons o69 (tblOk_cons o70 (tblOk_nil))))
theorem o37 : Holds Try.prog 37 c37 := fn_holds (code := Try.f37.body.getD .skip) (by kernel_rfl) gamOk k37 Try.func37 (by kernel_rfl) (by kernel_rfl) (by kernel_rfl) (by kernel_rfl) v37 (fun x _ h => (r37 x).trans h)
/-! ### 122: loop.example/g00076/spec.LabelOk -/
noncomputable def t122 : Tbl := [(67, [], c67)]
abbrev h122_L0 : Shape := { slots := [(0, .v .str), (3, .v (.int .i64))], boxes := [] }
abbrev e122_L0 : List (XT × Shape) := [(.ret, { slots := [(2, .v .bool)], boxes := [] }), (.exit 0, { slots := [(0, .v .str)], boxes := [] })]
noncomputable def q122_L0 (t0 : ByteArray) (t3 : Int) : Option (Ta12 ⊕ (((Bool × Unit) × Unit) ⊕ (Ta3 ⊕ Empty))) :=
  bif (decide (t3 < (t0.size : Int))) then
    bif (decide (t3 < (13 : Int))) then
      bif (decide (0 ≤ t3) && decide (t3 < t0.size)) then
        bif (!(f67 (wI ((bt t0 t3))) (97 : Int) (122 : Int))) then
          some (.inr (.inl ((false, ()), ())))
        else
          some (.inl ((t0, ((wI (t3 + (1 : Int))), ())), ()))
      else
        none
    else
      some (.inr (.inr (.inl ((t0, ()), ()))))
  else
    some (.inr (.inr (.inl ((t0, ()), ()))))
noncomputable def s122_L0 (x : Ta12) : Option (Ta12 ⊕ (((Bool × Unit) × Unit) ⊕ (Ta3 ⊕ Empty))) := q122_L0 x.1.1 x.1.2.1
noncomputable def a122 : Nat → Option LoopAnn := fun c => bif Nat.beq c 0 then some (.fix h122_L0 e122_L0 s122_L0) else none
noncomputable def g122 (x0 : ByteArray) : Option ((Bool × Unit) × Unit) :=
  (fixO s122_L0 ((x0, ((0 : Int), ())), ())).bind fun d2 => match d2 with
  | .inl y1 =>
    some ((y1.1.1, ()), ())
  | .inr (.inl y1) =>
    some (((f67 (y1.1.1.size : Int) (1 : Int) (12 : Int)), ()), ())
  | .inr (.inr e) => nomatch e
noncomputable def c122 : Ctr := { ins := [.v .str], out := [.bool], F := fun x => g122 x.1 }
noncomputable def l122 : List (Nat × Code) := loopsIn (Try.f122.body.getD .skip) 0
theorem w122_L0 (x : h122_L0.T) : runK Try.prog Γ t122 a122 (l122.getD 0 (0, .skip)).2 0 (pkSh h122_L0 x) (loopCls (sh := h122_L0) (es := e122_L0)) = (s122_L0 x : Option _) := by kernel_rfl
theorem v122 : LoopsOk Try.prog Γ t122 a122 (loopsIn (Try.f122.body.getD .skip) 0) := by
  have e : loopsIn (Try.f122.body.getD .skip) 0 = [(0, (l122.getD 0 (0, .skip)).2)] := by kernel_rfl
  rw [e]
  exact ⟨fun x d h => (w122_L0 x).trans h, trivial⟩
theorem r122 (x : InsT c122.ins) : fnK Try.prog Γ t122 a122 Try.f122 c122 x = g122 x.1 := by kernel_rfl
theorem k122 : TblOk Try.prog t122 := tblOk_cons o67 (tblOk_nil)
theorem o122 : Holds Try.prog 122 c122 := fn_holds (code := Try.f122.body.getD .skip) (by kernel_rfl) gamOk k122 Try.func122 (by kernel_rfl) (by kernel_rfl) (by kernel_rfl) (by kernel_rfl) v122 (fun x _ h => (r122 x).trans h)
/-! ### 101: loop.example/g00076/spec.NameOk -/
noncomputable def t101 : Tbl := [(122, [], c122)]
noncomputable def a101 : Nat → Option LoopAnn := fun _ => none
noncomputable def g101 (x0 : ByteArray) : Option ((Bool × Unit) × Unit) :=
  bif (decide ((x0.size : Int) ≤ (8 : Int))) then
    (g122 x0).bind fun y1 =>
      some ((y1.1.1, ()), ())
  else
    some ((false, ()), ())
noncomputable def c101 : Ctr := { ins := [.v .str], out := [.bool], F := fun x => g101 x.1 }
theorem v101 : LoopsOk Try.prog Γ t101 a101 (loopsIn (Try.f101.body.getD .skip) 0) := loopsOk_nil (by kernel_rfl)
theorem r101 (x : InsT c101.ins) : fnK Try.prog Γ t101 a101 Try.f101 c101 x = g101 x.1 := by kernel_rfl
theorem k101 : TblOk Try.prog t101 := tblOk_cons o122 (tblOk_nil)
theorem o101 : Holds Try.prog 101 c101 := fn_holds (code := Try.f101.body.getD .skip) (by kernel_rfl) gamOk k101 Try.func101 (by kernel_rfl) (by kernel_rfl) (by kernel_rfl) (by kernel_rfl) v101 (fun x _ h => (r101 x).trans h)
/-! ### 102: loop.example/g00076/spec.PolicyOk -/
noncomputable def t102 : Tbl := [(67, [], c67)]
noncomputable def a102 : Nat → Option LoopAnn := fun _ => none
noncomputable def g102 (x0 : (Int × (Int × Unit))) : Option ((Bool × Unit) × Unit) :=
  bif (x0.1 == (1 : Int)) then
    some (((f67 x0.2.1 (0 : Int) (100 : Int)), ()), ())
  else
    bif (x0.1 == (0 : Int)) then
      some (((x0.2.1 == (0 : Int)), ()), ())
    else
      bif (x0.1 == (2 : Int)) then
        some (((x0.2.1 == (0 : Int)), ()), ())
      else
        some ((false, ()), ())
noncomputable def f102 (x0 : (Int × (Int × Unit))) : Bool :=
  bif (x0.1 == (1 : Int)) then
    (f67 x0.2.1 (0 : Int) (100 : Int))
  else
    bif (x0.1 == (0 : Int)) then
      (x0.2.1 == (0 : Int))
    else
      bif (x0.1 == (2 : Int)) then
        (x0.2.1 == (0 : Int))
      else
        false
theorem n102 (x0 : (Int × (Int × Unit))) : g102 x0 = some ((f102 x0, ()), ()) := by
  simp only [g102, f102, pull1]
noncomputable def c102 : Ctr := { ins := [.v Ty23], out := [.bool], F := fun x => some ((f102 x.1, ()), ()) }
theorem v102 : LoopsOk Try.prog Γ t102 a102 (loopsIn (Try.f102.body.getD .skip) 0) := loopsOk_nil (by kernel_rfl)
theorem r102 (x : InsT c102.ins) : fnK Try.prog Γ t102 a102 Try.f102 c102 x = g102 x.1 := by kernel_rfl
theorem k102 : TblOk Try.prog t102 := tblOk_cons o67 (tblOk_nil)
theorem o102 : Holds Try.prog 102 c102 := fn_holds (code := Try.f102.body.getD .skip) (by kernel_rfl) gamOk k102 Try.func102 (by kernel_rfl) (by kernel_rfl) (by kernel_rfl) (by kernel_rfl) v102 (fun x _ h => (r102 x).trans ((n102 x.1).trans h))
/-! ### 103: loop.example/g00076/spec.WindowOk -/
noncomputable def t103 : Tbl := [(67, [], c67)]
noncomputable def a103 : Nat → Option LoopAnn := fun _ => none
noncomputable def g103 (x0 : Ta4) : Option ((Bool × Unit) × Unit) :=
  bif (f67 x0.1 (0 : Int) (2048 : Int)) then
    bif (f67 x0.2.1 (4 : Int) (2048 : Int)) then
      bif ((Int.tmod x0.1 (4 : Int)) == (0 : Int)) then
        bif ((Int.tmod x0.2.1 (4 : Int)) == (0 : Int)) then
          bif (decide ((wI (x0.1 + x0.2.1)) ≤ (2048 : Int))) then
            some (((f67 x0.2.2.1 (1 : Int) (7 : Int)), ()), ())
          else
            some ((false, ()), ())
        else
          some ((false, ()), ())
      else
        some ((false, ()), ())
    else
      some ((false, ()), ())
  else
    some ((false, ()), ())
noncomputable def f103 (x0 : Ta4) : Bool :=
  bif (f67 x0.1 (0 : Int) (2048 : Int)) then
    bif (f67 x0.2.1 (4 : Int) (2048 : Int)) then
      bif ((Int.tmod x0.1 (4 : Int)) == (0 : Int)) then
        bif ((Int.tmod x0.2.1 (4 : Int)) == (0 : Int)) then
          bif (decide ((wI (x0.1 + x0.2.1)) ≤ (2048 : Int))) then
            (f67 x0.2.2.1 (1 : Int) (7 : Int))
          else
            false
        else
          false
      else
        false
    else
      false
  else
    false
theorem n103 (x0 : Ta4) : g103 x0 = some ((f103 x0, ()), ()) := by
  simp only [g103, f103, pull1]
noncomputable def c103 : Ctr := { ins := [.v Ty40], out := [.bool], F := fun x => some ((f103 x.1, ()), ()) }
theorem v103 : LoopsOk Try.prog Γ t103 a103 (loopsIn (Try.f103.body.getD .skip) 0) := loopsOk_nil (by kernel_rfl)
theorem r103 (x : InsT c103.ins) : fnK Try.prog Γ t103 a103 Try.f103 c103 x = g103 x.1 := by kernel_rfl
theorem k103 : TblOk Try.prog t103 := tblOk_cons o67 (tblOk_nil)
theorem o103 : Holds Try.prog 103 c103 := fn_holds (code := Try.f103.body.getD .skip) (by kernel_rfl) gamOk k103 Try.func103 (by kernel_rfl) (by kernel_rfl) (by kernel_rfl) (by kernel_rfl) v103 (fun x _ h => (r103 x).trans ((n103 x.1).trans h))
/-! ### 95: loop.example/g00076/spec.l07Has -/
noncomputable def t95 : Tbl := []
noncomputable def a95 : Nat → Option LoopAnn := fun _ => none
noncomputable def g95 (x0 : Ta4) (x1 : Int) : Option ((Bool × Unit) × Unit) :=
  bif (decide (x1 ≥ x0.1)) then
    some (((decide (x1 < (wI (x0.1 + x0.2.1)))), ()), ())
  else
    some ((false, ()), ())
noncomputable def f95 (x0 : Ta4) (x1 : Int) : Bool :=
  bif (decide (x1 ≥ x0.1)) then
    (decide (x1 < (wI (x0.1 + x0.2.1))))
  else
    false
theorem n95 (x0 : Ta4) (x1 : Int) : g95 x0 x1 = some ((f95 x0 x1, ()), ()) := by
  simp only [g95, f95, pull1]
noncomputable def c95 : Ctr := { ins := [.v Ty40, .v (.int .i64)], out := [.bool], F := fun x => some ((f95 x.1 x.2.1, ()), ()) }
theorem v95 : LoopsOk Try.prog Γ t95 a95 (loopsIn (Try.f95.body.getD .skip) 0) := loopsOk_nil (by kernel_rfl)
theorem r95 (x : InsT c95.ins) : fnK Try.prog Γ t95 a95 Try.f95 c95 x = g95 x.1 x.2.1 := by kernel_rfl
theorem k95 : TblOk Try.prog t95 := tblOk_nil
theorem o95 : Holds Try.prog 95 c95 := fn_holds (code := Try.f95.body.getD .skip) (by kernel_rfl) gamOk k95 Try.func95 (by kernel_rfl) (by kernel_rfl) (by kernel_rfl) (by kernel_rfl) v95 (fun x _ h => (r95 x).trans ((n95 x.1 x.2.1).trans h))
/-! ### 71: loop.example/g00076/spec.l13PartOk -/
noncomputable def t71 : Tbl := [(101, [], c101), (102, [], c102), (67, [], c67), (103, [], c103), (95, [], c95)]
abbrev h71_L0 : Shape := { slots := [(1, .v (.int .i64)), (2, .bx 2 0), (5, .v .bool), (6, .v (.int .i64))], boxes := [(2, .typ Ty97)] }
abbrev e71_L0 : List (XT × Shape) := [(.ret, { slots := [(4, .v .bool)], boxes := [] }), (.exit 0, { slots := [(2, .bx 2 0), (5, .v .bool)], boxes := [(2, .typ Ty97)] })]
noncomputable def q71_L0 (t1 : Int) (t5 : Bool) (t6 : Int) (b2 : Ta62) : Option (Ta85 ⊕ (((Bool × Unit) × Unit) ⊕ (((Unit × (Bool × Unit)) × Ta68) ⊕ Empty))) :=
  bif (decide (t6 < (b2.2.2.2.1.len : Int))) then
    bif (decide (0 ≤ t6) && decide (t6 < (b2.2.2.2.1.len : Int))) then
      bif (!(f103 (L.get b2.2.2.2.1 t6.toNat))) then
        some (.inr (.inl ((false, ()), ())))
      else
        bif (decide ((wI ((L.get b2.2.2.2.1 t6.toNat).1 + (L.get b2.2.2.2.1 t6.toNat).2.1)) > t1)) then
          some (.inr (.inl ((false, ()), ())))
        else
          bif (f95 (L.get b2.2.2.2.1 t6.toNat) b2.2.1) then
            bif ((wI (Int.tdiv (L.get b2.2.2.2.1 t6.toNat).2.2.1 (4 : Int))) == (1 : Int)) then
              some (.inl ((t1, ((), (true, ((wI (t6 + (1 : Int))), ())))), (b2, ())))
            else
              some (.inl ((t1, ((), (t5, ((wI (t6 + (1 : Int))), ())))), (b2, ())))
          else
            some (.inl ((t1, ((), (t5, ((wI (t6 + (1 : Int))), ())))), (b2, ())))
    else
      none
  else
    some (.inr (.inr (.inl (((), (t5, ())), (b2, ())))))
noncomputable def s71_L0 (x : Ta85) : Option (Ta85 ⊕ (((Bool × Unit) × Unit) ⊕ (((Unit × (Bool × Unit)) × Ta68) ⊕ Empty))) := q71_L0 x.1.1 x.1.2.2.1 x.1.2.2.2.1 x.2.1
noncomputable def a71 : Nat → Option LoopAnn := fun c => bif Nat.beq c 0 then some (.fix h71_L0 e71_L0 s71_L0) else none
noncomputable def g71 (x0 : Ta62) (x1 : Int) : Option ((Bool × Unit) × Unit) :=
  (g101 x0.1).bind fun y1 =>
    bif (!y1.1.1) then
      some ((false, ()), ())
    else
      bif (!(f102 x0.2.2.1)) then
        some ((false, ()), ())
      else
        bif (!(f67 (x0.2.2.2.1.len : Int) (1 : Int) (4 : Int))) then
          some ((false, ()), ())
        else
          (fixO s71_L0 ((x1, ((), (false, ((0 : Int), ())))), (x0, ()))).bind fun d3 => match d3 with
          | .inl y2 =>
            some ((y2.1.1, ()), ())
          | .inr (.inl y2) =>
            bif y2.1.2.1 then
              some ((((Int.tmod y2.2.1.2.1 (4 : Int)) == (0 : Int)), ()), ())
            else
              some ((false, ()), ())
          | .inr (.inr e) => nomatch e
noncomputable def c71 : Ctr := { ins := [.v Ty97, .v (.int .i64)], out := [.bool], F := fun x => g71 x.1 x.2.1 }
noncomputable def l71 : List (Nat × Code) := loopsIn (Try.f71.body.getD .skip) 0
theorem w71_L0 (x : h71_L0.T) : runK Try.prog Γ t71 a71 (l71.getD 0 (0, .skip)).2 0 (pkSh h71_L0 x) (loopCls (sh := h71_L0) (es := e71_L0)) = (s71_L0 x : Option _) := by kernel_rfl
theorem v71 : LoopsOk Try.prog Γ t71 a71 (loopsIn (Try.f71.body.getD .skip) 0) := by
  have e : loopsIn (Try.f71.body.getD .skip) 0 = [(0, (l71.getD 0 (0, .skip)).2)] := by kernel_rfl
  rw [e]
  exact ⟨fun x d h => (w71_L0 x).trans h, trivial⟩
theorem r71 (x : InsT c71.ins) : fnK Try.prog Γ t71 a71 Try.f71 c71 x = g71 x.1 x.2.1 := by kernel_rfl
theorem k71 : TblOk Try.prog t71 := tblOk_cons o101 (tblOk_cons o102 (tblOk_cons o67 (tblOk_cons o103 (tblOk_cons o95 (tblOk_nil)))))
theorem o71 : Holds Try.prog 71 c71 := fn_holds (code := Try.f71.body.getD .skip) (by kernel_rfl) gamOk k71 Try.func71 (by kernel_rfl) (by kernel_rfl) (by kernel_rfl) (by kernel_rfl) v71 (fun x _ h => (r71 x).trans h)
/-! ### 72: loop.example/g00076/spec.l13Windows -/
noncomputable def t72 : Tbl := []
abbrev h72_L0 : Shape := { slots := [(0, .v Ty98), (3, .ext Ty40 50003), (4, .v (.int .i64))], boxes := [] }
abbrev e72_L0 : List (XT × Shape) := [(.exit 0, { slots := [(3, .ext Ty40 50003)], boxes := [] })]
noncomputable def q72_L0 (t0 : Ta65) (t3 : Ta9) (t4 : Int) : Option (Ta92 ⊕ (Ta29 ⊕ Empty)) :=
  bif (decide (t4 < (t0.len : Int))) then
    bif (decide (0 ≤ t4) && decide (t4 < (t0.len : Int))) then
      bif (decide (t3.len + (L.get t0 t4.toNat).2.2.2.1.len ≤ most)) then
        some (.inl ((t0, ((L.app t3 (L.get t0 t4.toNat).2.2.2.1), ((wI (t4 + (1 : Int))), ()))), ()))
      else
        none
    else
      none
  else
    some (.inr (.inl ((t3, ()), ())))
noncomputable def s72_L0 (x : Ta92) : Option (Ta92 ⊕ (Ta29 ⊕ Empty)) := q72_L0 x.1.1 x.1.2.1 x.1.2.2.1
noncomputable def a72 : Nat → Option LoopAnn := fun c => bif Nat.beq c 0 then some (.fix h72_L0 e72_L0 s72_L0) else none
noncomputable def g72 (x0 : Ta65) : Option Ta29 :=
  (fixO s72_L0 ((x0, ((L.of (Ty.zero Ty40) []), ((0 : Int), ()))), ())).bind fun d2 => match d2 with
  | .inl y1 =>
    some ((y1.1.1, ()), ())
  | .inr e => nomatch e
noncomputable def c72 : Ctr := { ins := [.v Ty98], out := [Ty47], F := fun x => g72 x.1 }
noncomputable def l72 : List (Nat × Code) := loopsIn (Try.f72.body.getD .skip) 0
theorem w72_L0 (x : h72_L0.T) : runK Try.prog Γ t72 a72 (l72.getD 0 (0, .skip)).2 0 (pkSh h72_L0 x) (loopCls (sh := h72_L0) (es := e72_L0)) = (s72_L0 x : Option _) := by kernel_rfl
theorem v72 : LoopsOk Try.prog Γ t72 a72 (loopsIn (Try.f72.body.getD .skip) 0) := by
  have e : loopsIn (Try.f72.body.getD .skip) 0 = [(0, (l72.getD 0 (0, .skip)).2)] := by kernel_rfl
  rw [e]
  exact ⟨fun x d h => (w72_L0 x).trans h, trivial⟩
theorem r72 (x : InsT c72.ins) : fnK Try.prog Γ t72 a72 Try.f72 c72 x = g72 x.1 := by kernel_rfl
theorem k72 : TblOk Try.prog t72 := tblOk_nil
theorem o72 : Holds Try.prog 72 c72 := fn_holds (code := Try.f72.body.getD .skip) (by kernel_rfl) gamOk k72 Try.func72 (by kernel_rfl) (by kernel_rfl) (by kernel_rfl) (by kernel_rfl) v72 (fun x _ h => (r72 x).trans h)
/-! ### 38: loop.example/g00076/spec.l13Parts -/
noncomputable def t38 : Tbl := [(67, [], c67), (71, [], c71), (72, [], c72)]
abbrev h38_L2 : Shape := { slots := [(1, .bx 1 0), (3, .v (.int .i64)), (4, .v (.int .i64))], boxes := [(1, .typ Ty133)] }
abbrev e38_L2 : List (XT × Shape) := [(.ret, { slots := [(2, .v .bool)], boxes := [] }), (.exit 2, { slots := [(1, .bx 1 0), (3, .v (.int .i64))], boxes := [(1, .typ Ty133)] })]
noncomputable def q38_L2 (t3 : Int) (t4 : Int) (b1 : Ta114) : Option (Ta119 ⊕ (((Bool × Unit) × Unit) ⊕ (Ta117 ⊕ Empty))) :=
  bif (decide (t4 < t3)) then
    bif (decide (0 ≤ t4) && decide (t4 < (b1.2.2.2.2.2.2.2.1.len : Int))) then
      bif (decide (0 ≤ t3) && decide (t3 < (b1.2.2.2.2.2.2.2.1.len : Int))) then
        bif (strEq (L.get b1.2.2.2.2.2.2.2.1 t4.toNat).1 (L.get b1.2.2.2.2.2.2.2.1 t3.toNat).1) then
          some (.inr (.inl ((false, ()), ())))
        else
          some (.inl (((), (t3, ((wI (t4 + (1 : Int))), ()))), (b1, ())))
      else
        none
    else
      none
  else
    some (.inr (.inr (.inl (((), (t3, ())), (b1, ())))))
noncomputable def s38_L2 (x : Ta119) : Option (Ta119 ⊕ (((Bool × Unit) × Unit) ⊕ (Ta117 ⊕ Empty))) := q38_L2 x.1.2.1 x.1.2.2.1 x.2.1
abbrev h38_L0 : Shape := { slots := [(1, .bx 1 0), (3, .v (.int .i64))], boxes := [(1, .typ Ty133)] }
abbrev e38_L0 : List (XT × Shape) := [(.ret, { slots := [(2, .v .bool)], boxes := [] }), (.exit 0, { slots := [(1, .bx 1 0)], boxes := [(1, .typ Ty133)] })]
noncomputable def q38_L0 (t3 : Int) (b1 : Ta114) : Option (Ta117 ⊕ (((Bool × Unit) × Unit) ⊕ (Ta116 ⊕ Empty))) :=
  bif (decide (t3 < (b1.2.2.2.2.2.2.2.1.len : Int))) then
    bif (decide (0 ≤ t3) && decide (t3 < (b1.2.2.2.2.2.2.2.1.len : Int))) then
      (g71 (L.get b1.2.2.2.2.2.2.2.1 t3.toNat) b1.1).bind fun y1 =>
        bif (!y1.1.1) then
          some (.inr (.inl ((false, ()), ())))
        else
          (fixO s38_L2 (((), (t3, ((0 : Int), ()))), (b1, ()))).bind fun d3 => match d3 with
          | .inl y2 =>
            some (.inr (.inl y2))
          | .inr (.inl y2) =>
            some (.inl (((), ((wI (y2.1.2.1 + (1 : Int))), ())), y2.2))
          | .inr (.inr e) => nomatch e
    else
      none
  else
    some (.inr (.inr (.inl (((), ()), (b1, ())))))
noncomputable def s38_L0 (x : Ta117) : Option (Ta117 ⊕ (((Bool × Unit) × Unit) ⊕ (Ta116 ⊕ Empty))) := q38_L0 x.1.2.1 x.2.1
abbrev h38_L6 : Shape := { slots := [(5, .v Ty47), (6, .v (.int .i64)), (7, .v (.int .i64))], boxes := [] }
abbrev e38_L6 : List (XT × Shape) := [(.ret, { slots := [(2, .v .bool)], boxes := [] }), (.exit 6, { slots := [(5, .v Ty47), (6, .v (.int .i64))], boxes := [] })]
noncomputable def q38_L6 (t5 : Ta9) (t6 : Int) (t7 : Int) : Option (Ta45 ⊕ (((Bool × Unit) × Unit) ⊕ (Ta35 ⊕ Empty))) :=
  bif (decide (t7 < t6)) then
    bif (decide (0 ≤ t7) && decide (t7 < (t5.len : Int))) then
      bif (decide (0 ≤ t6) && decide (t6 < (t5.len : Int))) then
        bif (decide (0 ≤ t6) && decide (t6 < (t5.len : Int))) then
          bif (decide ((L.get t5 t7.toNat).1 < (wI ((L.get t5 t6.toNat).1 + (L.get t5 t6.toNat).2.1)))) then
            bif (decide (0 ≤ t6) && decide (t6 < (t5.len : Int))) then
              bif (decide (0 ≤ t7) && decide (t7 < (t5.len : Int))) then
                bif (decide (0 ≤ t7) && decide (t7 < (t5.len : Int))) then
                  bif (decide ((L.get t5 t6.toNat).1 < (wI ((L.get t5 t7.toNat).1 + (L.get t5 t7.toNat).2.1)))) then
                    some (.inr (.inl ((false, ()), ())))
                  else
                    some (.inl ((t5, (t6, ((wI (t7 + (1 : Int))), ()))), ()))
                else
                  none
              else
                none
            else
              none
          else
            some (.inl ((t5, (t6, ((wI (t7 + (1 : Int))), ()))), ()))
        else
          none
      else
        none
    else
      none
  else
    some (.inr (.inr (.inl ((t5, (t6, ())), ()))))
noncomputable def s38_L6 (x : Ta45) : Option (Ta45 ⊕ (((Bool × Unit) × Unit) ⊕ (Ta35 ⊕ Empty))) := q38_L6 x.1.1 x.1.2.1 x.1.2.2.1
abbrev h38_L4 : Shape := { slots := [(5, .v Ty47), (6, .v (.int .i64))], boxes := [] }
abbrev e38_L4 : List (XT × Shape) := [(.ret, { slots := [(2, .v .bool)], boxes := [] }), (.exit 4, { slots := [], boxes := [] })]
noncomputable def q38_L4 (t5 : Ta9) (t6 : Int) : Option (Ta35 ⊕ (((Bool × Unit) × Unit) ⊕ ((Unit × Unit) ⊕ Empty))) :=
  bif (decide (t6 < (t5.len : Int))) then
    (fixO s38_L6 ((t5, (t6, ((0 : Int), ()))), ())).bind fun d7 => match d7 with
    | .inl y6 =>
      some (.inr (.inl y6))
    | .inr (.inl y6) =>
      some (.inl ((y6.1.1, ((wI (y6.1.2.1 + (1 : Int))), ())), ()))
    | .inr (.inr e) => nomatch e
  else
    some (.inr (.inr (.inl ((), ()))))
noncomputable def s38_L4 (x : Ta35) : Option (Ta35 ⊕ (((Bool × Unit) × Unit) ⊕ ((Unit × Unit) ⊕ Empty))) := q38_L4 x.1.1 x.1.2.1
noncomputable def a38 : Nat → Option LoopAnn := fun c => bif Nat.beq c 2 then some (.fix h38_L2 e38_L2 s38_L2) else bif Nat.beq c 0 then some (.fix h38_L0 e38_L0 s38_L0) else bif Nat.beq c 6 then some (.fix h38_L6 e38_L6 s38_L6) else bif Nat.beq c 4 then some (.fix h38_L4 e38_L4 s38_L4) else none
noncomputable def g38 (x0 : Ta114) : Option ((Bool × Unit) × Unit) :=
  bif (!(f67 (x0.2.2.2.2.2.2.2.1.len : Int) (1 : Int) (6 : Int))) then
    some ((false, ()), ())
  else
    (fixO s38_L0 (((), ((0 : Int), ())), (x0, ()))).bind fun d10 => match d10 with
    | .inl y4 =>
      some ((y4.1.1, ()), ())
    | .inr (.inl y4) =>
      (g72 y4.2.1.2.2.2.2.2.2.2.1).bind fun y5 =>
        (fixO s38_L4 ((y5.1.1, ((0 : Int), ())), ())).bind fun d9 => match d9 with
        | .inl y8 =>
          some ((y8.1.1, ()), ())
        | .inr (.inl y8) =>
          some ((true, ()), ())
        | .inr (.inr e) => nomatch e
    | .inr (.inr e) => nomatch e
noncomputable def c38 : Ctr := { ins := [.v Ty133], out := [.bool], F := fun x => g38 x.1 }
noncomputable def l38 : List (Nat × Code) := loopsIn (Try.f38.body.getD .skip) 0
theorem w38_L2 (x : h38_L2.T) : runK Try.prog Γ t38 a38 (l38.getD 1 (0, .skip)).2 2 (pkSh h38_L2 x) (loopCls (sh := h38_L2) (es := e38_L2)) = (s38_L2 x : Option _) := by kernel_rfl
theorem w38_L0 (x : h38_L0.T) : runK Try.prog Γ t38 a38 (l38.getD 0 (0, .skip)).2 0 (pkSh h38_L0 x) (loopCls (sh := h38_L0) (es := e38_L0)) = (s38_L0 x : Option _) := by kernel_rfl
theorem w38_L6 (x : h38_L6.T) : runK Try.prog Γ t38 a38 (l38.getD 3 (0, .skip)).2 6 (pkSh h38_L6 x) (loopCls (sh := h38_L6) (es := e38_L6)) = (s38_L6 x : Option _) := by kernel_rfl
theorem w38_L4 (x : h38_L4.T) : runK Try.prog Γ t38 a38 (l38.getD 2 (0, .skip)).2 4 (pkSh h38_L4 x) (loopCls (sh := h38_L4) (es := e38_L4)) = (s38_L4 x : Option _) := by kernel_rfl
theorem v38 : LoopsOk Try.prog Γ t38 a38 (loopsIn (Try.f38.body.getD .skip) 0) := by
  have e : loopsIn (Try.f38.body.getD .skip) 0 = [(0, (l38.getD 0 (0, .skip)).2), (2, (l38.getD 1 (0, .skip)).2), (4, (l38.getD 2 (0, .skip)).2), (6, (l38.getD 3 (0, .skip)).2)] := by kernel_rfl
  rw [e]
  exact ⟨fun x d h => (w38_L0 x).trans h, fun x d h => (w38_L2 x).trans h, fun x d h => (w38_L4 x).trans h, fun x d h => (w38_L6 x).trans h, trivial⟩
theorem r38 (x : InsT c38.ins) : fnK Try.prog Γ t38 a38 Try.f38 c38 x = g38 x.1 := by kernel_rfl
theorem k38 : TblOk Try.prog t38 := tblOk_cons o67 (tblOk_cons o71 (tblOk_cons o72 (tblOk_nil)))
theorem o38 : Holds Try.prog 38 c38 := fn_holds (code := Try.f38.body.getD .skip) (by kernel_rfl) gamOk k38 Try.func38 (by kernel_rfl) (by kernel_rfl) (by kernel_rfl) (by kernel_rfl) v38 (fun x _ h => (r38 x).trans h)
/-! ### 73: loop.example/g00076/spec.ChanOk -/
noncomputable def t73 : Tbl := [(67, [], c67)]
noncomputable def a73 : Nat → Option LoopAnn := fun _ => none
noncomputable def g73 (x0 : Ta13) : Option ((Bool × Unit) × Unit) :=
  bif (!(f67 x0.2.1 (0 : Int) (5 : Int))) then
    some ((false, ()), ())
  else
    bif (!(f67 x0.2.2.1 (0 : Int) (5 : Int))) then
      some ((false, ()), ())
    else
      bif (x0.2.1 == x0.2.2.1) then
        some ((false, ()), ())
      else
        bif (x0.1 == (0 : Int)) then
          bif (x0.2.2.2.1 == (0 : Int)) then
            some ((true, ()), ())
          else
            bif (x0.1 == (1 : Int)) then
              some (((f67 x0.2.2.2.1 (1 : Int) (8 : Int)), ()), ())
            else
              some ((false, ()), ())
        else
          bif (x0.1 == (1 : Int)) then
            some (((f67 x0.2.2.2.1 (1 : Int) (8 : Int)), ()), ())
          else
            some ((false, ()), ())
noncomputable def f73 (x0 : Ta13) : Bool :=
  bif (!(f67 x0.2.1 (0 : Int) (5 : Int))) then
    false
  else
    bif (!(f67 x0.2.2.1 (0 : Int) (5 : Int))) then
      false
    else
      bif (x0.2.1 == x0.2.2.1) then
        false
      else
        bif (x0.1 == (0 : Int)) then
          bif (x0.2.2.2.1 == (0 : Int)) then
            true
          else
            bif (x0.1 == (1 : Int)) then
              (f67 x0.2.2.2.1 (1 : Int) (8 : Int))
            else
              false
        else
          bif (x0.1 == (1 : Int)) then
            (f67 x0.2.2.2.1 (1 : Int) (8 : Int))
          else
            false
theorem n73 (x0 : Ta13) : g73 x0 = some ((f73 x0, ()), ()) := by
  simp only [g73, f73, pull1]
noncomputable def c73 : Ctr := { ins := [.v Ty59], out := [.bool], F := fun x => some ((f73 x.1, ()), ()) }
theorem v73 : LoopsOk Try.prog Γ t73 a73 (loopsIn (Try.f73.body.getD .skip) 0) := loopsOk_nil (by kernel_rfl)
theorem r73 (x : InsT c73.ins) : fnK Try.prog Γ t73 a73 Try.f73 c73 x = g73 x.1 := by kernel_rfl
theorem k73 : TblOk Try.prog t73 := tblOk_cons o67 (tblOk_nil)
theorem o73 : Holds Try.prog 73 c73 := fn_holds (code := Try.f73.body.getD .skip) (by kernel_rfl) gamOk k73 Try.func73 (by kernel_rfl) (by kernel_rfl) (by kernel_rfl) (by kernel_rfl) v73 (fun x _ h => (r73 x).trans ((n73 x.1).trans h))
/-! ### 54: loop.example/g00076/spec.WorstPad -/
noncomputable def t54 : Tbl := [(69, [], c69), (68, [], c68), (73, [], c73)]
abbrev h54_L0 : Shape := { slots := [(2, .v Ty63), (3, .bx 3 0), (7, .v (.int .i64)), (8, .v (.int .i64))], boxes := [(3, .typ Ty87)] }
abbrev e54_L0 : List (XT × Shape) := [(.ret, { slots := [(6, .v (.int .i64))], boxes := [] }), (.exit 0, { slots := [(7, .v (.int .i64))], boxes := [] })]
noncomputable def q54_L0 (t2 : Ta18) (t7 : Int) (t8 : Int) (b3 : Ta38) : Option (Ta89 ⊕ (((Int × Unit) × Unit) ⊕ (((Int × Unit) × Unit) ⊕ Empty))) :=
  bif (decide (t8 < (t2.len : Int))) then
    bif (decide (0 ≤ t8) && decide (t8 < (t2.len : Int))) then
      bif (!(f73 (L.get t2 t8.toNat))) then
        some (.inr (.inl (((-1 : Int), ()), ())))
      else
        bif (decide (0 ≤ t8) && decide (t8 < (t2.len : Int))) then
          bif ((L.get t2 t8.toNat).1 == (0 : Int)) then
            some (.inl ((t2, ((), ((wI (t7 + b3.1)), ((wI (t8 + (1 : Int))), ())))), (b3, ())))
          else
            bif (decide (0 ≤ t8) && decide (t8 < (t2.len : Int))) then
              some (.inl ((t2, ((), ((wI (t7 + (wI (b3.1 * (L.get t2 t8.toNat).2.2.2.1)))), ((wI (t8 + (1 : Int))), ())))), (b3, ())))
            else
              none
        else
          none
    else
      none
  else
    some (.inr (.inr (.inl ((t7, ()), ()))))
noncomputable def s54_L0 (x : Ta89) : Option (Ta89 ⊕ (((Int × Unit) × Unit) ⊕ (((Int × Unit) × Unit) ⊕ Empty))) := q54_L0 x.1.1 x.1.2.2.1 x.1.2.2.2.1 x.2.1
noncomputable def a54 : Nat → Option LoopAnn := fun c => bif Nat.beq c 0 then some (.fix h54_L0 e54_L0 s54_L0) else none
noncomputable def g54 (x0 : Ta38) (x1 : Ta4) (x2 : Ta18) : Option ((Int × Unit) × Unit) :=
  bif (!(f69 x0)) then
    some (((-1 : Int), ()), ())
  else
    bif (!(f68 x1)) then
      some (((-1 : Int), ()), ())
    else
      bif (decide ((x2.len : Int) > (8 : Int))) then
        some (((-1 : Int), ()), ())
      else
        (fixO s54_L0 ((x2, ((), ((wI ((wI ((16 : Int) * x0.1)) + (wI ((wI (x1.1 * x1.2.1)) * x0.2.2.2.2.2.2.1)))), ((0 : Int), ())))), (x0, ()))).bind fun d2 => match d2 with
        | .inl y1 =>
          some ((y1.1.1, ()), ())
        | .inr (.inl y1) =>
          some ((y1.1.1, ()), ())
        | .inr (.inr e) => nomatch e
noncomputable def c54 : Ctr := { ins := [.v Ty87, .v Ty40, .v Ty63], out := [(.int .i64)], F := fun x => g54 x.1 x.2.1 x.2.2.1 }
noncomputable def l54 : List (Nat × Code) := loopsIn (Try.f54.body.getD .skip) 0
theorem w54_L0 (x : h54_L0.T) : runK Try.prog Γ t54 a54 (l54.getD 0 (0, .skip)).2 0 (pkSh h54_L0 x) (loopCls (sh := h54_L0) (es := e54_L0)) = (s54_L0 x : Option _) := by kernel_rfl
theorem v54 : LoopsOk Try.prog Γ t54 a54 (loopsIn (Try.f54.body.getD .skip) 0) := by
  have e : loopsIn (Try.f54.body.getD .skip) 0 = [(0, (l54.getD 0 (0, .skip)).2)] := by kernel_rfl
  rw [e]
  exact ⟨fun x d h => (w54_L0 x).trans h, trivial⟩
theorem r54 (x : InsT c54.ins) : fnK Try.prog Γ t54 a54 Try.f54 c54 x = g54 x.1 x.2.1 x.2.2.1 := by kernel_rfl
theorem k54 : TblOk Try.prog t54 := tblOk_cons o69 (tblOk_cons o68 (tblOk_cons o73 (tblOk_nil)))
theorem o54 : Holds Try.prog 54 c54 := fn_holds (code := Try.f54.body.getD .skip) (by kernel_rfl) gamOk k54 Try.func54 (by kernel_rfl) (by kernel_rfl) (by kernel_rfl) (by kernel_rfl) v54 (fun x _ h => (r54 x).trans h)
/-! ### 39: loop.example/g00076/spec.l13Chans -/
noncomputable def t39 : Tbl := [(67, [], c67), (73, [], c73), (54, [], c54)]
abbrev h39_L0 : Shape := { slots := [(1, .bx 1 0), (3, .v (.int .i64))], boxes := [(1, .typ Ty133)] }
abbrev e39_L0 : List (XT × Shape) := [(.ret, { slots := [(2, .v .bool)], boxes := [] }), (.exit 0, { slots := [(1, .bx 1 0)], boxes := [(1, .typ Ty133)] })]
noncomputable def q39_L0 (t3 : Int) (b1 : Ta114) : Option (Ta117 ⊕ (((Bool × Unit) × Unit) ⊕ (Ta116 ⊕ Empty))) :=
  bif (decide (t3 < (b1.2.2.2.2.2.2.2.2.1.len : Int))) then
    bif (decide (0 ≤ t3) && decide (t3 < (b1.2.2.2.2.2.2.2.2.1.len : Int))) then
      bif (!(f67 (L.get b1.2.2.2.2.2.2.2.2.1 t3.toNat) (0 : Int) (wI ((b1.2.2.2.2.2.2.2.1.len : Int) - (1 : Int))))) then
        some (.inr (.inl ((false, ()), ())))
      else
        some (.inl (((), ((wI (t3 + (1 : Int))), ())), (b1, ())))
    else
      none
  else
    some (.inr (.inr (.inl (((), ()), (b1, ())))))
noncomputable def s39_L0 (x : Ta117) : Option (Ta117 ⊕ (((Bool × Unit) × Unit) ⊕ (Ta116 ⊕ Empty))) := q39_L0 x.1.2.1 x.2.1
abbrev h39_L2 : Shape := { slots := [(1, .bx 1 0), (4, .v (.int .i64))], boxes := [(1, .typ Ty133)] }
abbrev e39_L2 : List (XT × Shape) := [(.ret, { slots := [(2, .v .bool)], boxes := [] }), (.exit 2, { slots := [(1, .bx 1 0)], boxes := [(1, .typ Ty133)] })]
noncomputable def q39_L2 (t4 : Int) (b1 : Ta114) : Option (Ta117 ⊕ (((Bool × Unit) × Unit) ⊕ (Ta116 ⊕ Empty))) :=
  bif (decide (t4 < (b1.2.2.2.2.2.2.2.2.2.1.len : Int))) then
    bif (decide (0 ≤ t4) && decide (t4 < (b1.2.2.2.2.2.2.2.2.2.1.len : Int))) then
      bif (!(f73 (L.get b1.2.2.2.2.2.2.2.2.2.1 t4.toNat))) then
        some (.inr (.inl ((false, ()), ())))
      else
        bif (decide (0 ≤ t4) && decide (t4 < (b1.2.2.2.2.2.2.2.2.2.1.len : Int))) then
          bif (decide ((L.get b1.2.2.2.2.2.2.2.2.2.1 t4.toNat).2.1 ≥ (b1.2.2.2.2.2.2.2.1.len : Int))) then
            some (.inr (.inl ((false, ()), ())))
          else
            bif (decide (0 ≤ t4) && decide (t4 < (b1.2.2.2.2.2.2.2.2.2.1.len : Int))) then
              bif (decide ((L.get b1.2.2.2.2.2.2.2.2.2.1 t4.toNat).2.2.1 ≥ (b1.2.2.2.2.2.2.2.1.len : Int))) then
                some (.inr (.inl ((false, ()), ())))
              else
                some (.inl (((), ((wI (t4 + (1 : Int))), ())), (b1, ())))
            else
              none
        else
          none
    else
      none
  else
    some (.inr (.inr (.inl (((), ()), (b1, ())))))
noncomputable def s39_L2 (x : Ta117) : Option (Ta117 ⊕ (((Bool × Unit) × Unit) ⊕ (Ta116 ⊕ Empty))) := q39_L2 x.1.2.1 x.2.1
noncomputable def a39 : Nat → Option LoopAnn := fun c => bif Nat.beq c 0 then some (.fix h39_L0 e39_L0 s39_L0) else bif Nat.beq c 2 then some (.fix h39_L2 e39_L2 s39_L2) else none
noncomputable def g39 (x0 : Ta114) : Option ((Bool × Unit) × Unit) :=
  bif (decide ((x0.2.2.2.2.2.2.2.2.1.len : Int) > (8 : Int))) then
    some ((false, ()), ())
  else
    bif (decide ((x0.2.2.2.2.2.2.2.2.2.1.len : Int) > (8 : Int))) then
      some ((false, ()), ())
    else
      (fixO s39_L0 (((), ((0 : Int), ())), (x0, ()))).bind fun d5 => match d5 with
      | .inl y1 =>
        some ((y1.1.1, ()), ())
      | .inr (.inl y1) =>
        (fixO s39_L2 (((), ((0 : Int), ())), y1.2)).bind fun d4 => match d4 with
        | .inl y2 =>
          some ((y2.1.1, ()), ())
        | .inr (.inl y2) =>
          (g54 y2.2.1.2.2.2.1 y2.2.1.2.1 y2.2.1.2.2.2.2.2.2.2.2.2.1).bind fun y3 =>
            some (((decide (y2.2.1.2.2.2.2.1 ≥ y3.1.1)), ()), ())
        | .inr (.inr e) => nomatch e
      | .inr (.inr e) => nomatch e
noncomputable def c39 : Ctr := { ins := [.v Ty133], out := [.bool], F := fun x => g39 x.1 }
noncomputable def l39 : List (Nat × Code) := loopsIn (Try.f39.body.getD .skip) 0
theorem w39_L0 (x : h39_L0.T) : runK Try.prog Γ t39 a39 (l39.getD 0 (0, .skip)).2 0 (pkSh h39_L0 x) (loopCls (sh := h39_L0) (es := e39_L0)) = (s39_L0 x : Option _) := by kernel_rfl
theorem w39_L2 (x : h39_L2.T) : runK Try.prog Γ t39 a39 (l39.getD 1 (0, .skip)).2 2 (pkSh h39_L2 x) (loopCls (sh := h39_L2) (es := e39_L2)) = (s39_L2 x : Option _) := by kernel_rfl
theorem v39 : LoopsOk Try.prog Γ t39 a39 (loopsIn (Try.f39.body.getD .skip) 0) := by
  have e : loopsIn (Try.f39.body.getD .skip) 0 = [(0, (l39.getD 0 (0, .skip)).2), (2, (l39.getD 1 (0, .skip)).2)] := by kernel_rfl
  rw [e]
  exact ⟨fun x d h => (w39_L0 x).trans h, fun x d h => (w39_L2 x).trans h, trivial⟩
theorem r39 (x : InsT c39.ins) : fnK Try.prog Γ t39 a39 Try.f39 c39 x = g39 x.1 := by kernel_rfl
theorem k39 : TblOk Try.prog t39 := tblOk_cons o67 (tblOk_cons o73 (tblOk_cons o54 (tblOk_nil)))
theorem o39 : Holds Try.prog 39 c39 := fn_holds (code := Try.f39.body.getD .skip) (by kernel_rfl) gamOk k39 Try.func39 (by kernel_rfl) (by kernel_rfl) (by kernel_rfl) (by kernel_rfl) v39 (fun x _ h => (r39 x).trans h)
/-! ### 40: loop.example/g00076/spec.l13Slots -/
noncomputable def t40 : Tbl := [(67, [], c67)]
abbrev h40_L0 : Shape := { slots := [(1, .bx 1 0), (3, .v (.int .i64)), (4, .v (.int .i64))], boxes := [(1, .typ Ty133)] }
abbrev e40_L0 : List (XT × Shape) := [(.ret, { slots := [(2, .v .bool)], boxes := [] }), (.exit 0, { slots := [], boxes := [] })]
noncomputable def q40_L0 (t3 : Int) (t4 : Int) (b1 : Ta114) : Option (Ta119 ⊕ (((Bool × Unit) × Unit) ⊕ ((Unit × Unit) ⊕ Empty))) :=
  bif (decide (t4 < (b1.2.2.2.2.2.2.2.2.2.2.1.len : Int))) then
    bif (decide (0 ≤ t4) && decide (t4 < (b1.2.2.2.2.2.2.2.2.2.2.1.len : Int))) then
      bif (!(f67 (L.get b1.2.2.2.2.2.2.2.2.2.2.1 t4.toNat).1 (0 : Int) (wI ((b1.2.2.2.2.2.2.2.1.len : Int) - (1 : Int))))) then
        some (.inr (.inl ((false, ()), ())))
      else
        bif (!(f67 (L.get b1.2.2.2.2.2.2.2.2.2.2.1 t4.toNat).2.1 t3 (5000 : Int))) then
          some (.inr (.inl ((false, ()), ())))
        else
          bif (!(f67 (L.get b1.2.2.2.2.2.2.2.2.2.2.1 t4.toNat).2.2.1 (wI ((wI (b1.2.2.2.2.1 + b1.2.2.2.2.2.1)) + (1 : Int))) (5000 : Int))) then
            some (.inr (.inl ((false, ()), ())))
          else
            bif (decide ((wI ((L.get b1.2.2.2.2.2.2.2.2.2.2.1 t4.toNat).2.1 + (L.get b1.2.2.2.2.2.2.2.2.2.2.1 t4.toNat).2.2.1)) > b1.2.2.2.2.2.2.1)) then
              some (.inr (.inl ((false, ()), ())))
            else
              some (.inl (((), ((wI ((L.get b1.2.2.2.2.2.2.2.2.2.2.1 t4.toNat).2.1 + (L.get b1.2.2.2.2.2.2.2.2.2.2.1 t4.toNat).2.2.1)), ((wI (t4 + (1 : Int))), ()))), (b1, ())))
    else
      none
  else
    some (.inr (.inr (.inl ((), ()))))
noncomputable def s40_L0 (x : Ta119) : Option (Ta119 ⊕ (((Bool × Unit) × Unit) ⊕ ((Unit × Unit) ⊕ Empty))) := q40_L0 x.1.2.1 x.1.2.2.1 x.2.1
noncomputable def a40 : Nat → Option LoopAnn := fun c => bif Nat.beq c 0 then some (.fix h40_L0 e40_L0 s40_L0) else none
noncomputable def g40 (x0 : Ta114) : Option ((Bool × Unit) × Unit) :=
  bif (!(f67 (x0.2.2.2.2.2.2.2.2.2.2.1.len : Int) (1 : Int) (16 : Int))) then
    some ((false, ()), ())
  else
    (fixO s40_L0 (((), ((0 : Int), ((0 : Int), ()))), (x0, ()))).bind fun d2 => match d2 with
    | .inl y1 =>
      some ((y1.1.1, ()), ())
    | .inr (.inl y1) =>
      some ((true, ()), ())
    | .inr (.inr e) => nomatch e
noncomputable def c40 : Ctr := { ins := [.v Ty133], out := [.bool], F := fun x => g40 x.1 }
noncomputable def l40 : List (Nat × Code) := loopsIn (Try.f40.body.getD .skip) 0
theorem w40_L0 (x : h40_L0.T) : runK Try.prog Γ t40 a40 (l40.getD 0 (0, .skip)).2 0 (pkSh h40_L0 x) (loopCls (sh := h40_L0) (es := e40_L0)) = (s40_L0 x : Option _) := by kernel_rfl
theorem v40 : LoopsOk Try.prog Γ t40 a40 (loopsIn (Try.f40.body.getD .skip) 0) := by
  have e : loopsIn (Try.f40.body.getD .skip) 0 = [(0, (l40.getD 0 (0, .skip)).2)] := by kernel_rfl
  rw [e]
  exact ⟨fun x d h => (w40_L0 x).trans h, trivial⟩
theorem r40 (x : InsT c40.ins) : fnK Try.prog Γ t40 a40 Try.f40 c40 x = g40 x.1 := by kernel_rfl
theorem k40 : TblOk Try.prog t40 := tblOk_cons o67 (tblOk_nil)
theorem o40 : Holds Try.prog 40 c40 := fn_holds (code := Try.f40.body.getD .skip) (by kernel_rfl) gamOk k40 Try.func40 (by kernel_rfl) (by kernel_rfl) (by kernel_rfl) (by kernel_rfl) v40 (fun x _ h => (r40 x).trans h)
/-! ### 13: loop.example/g00076/spec.Sound -/
noncomputable def t13 : Tbl := [(37, [], c37), (38, [], c38), (39, [], c39), (40, [], c40)]
noncomputable def a13 : Nat → Option LoopAnn := fun _ => none
noncomputable def g13 (x0 : Ta114) : Option ((Bool × Unit) × Unit) :=
  (g37 x0).bind fun y1 =>
    bif y1.1.1 then
      (g38 x0).bind fun y2 =>
        bif y2.1.1 then
          (g39 x0).bind fun y3 =>
            bif y3.1.1 then
              (g40 x0).bind fun y4 =>
                some ((y4.1.1, ()), ())
            else
              some ((false, ()), ())
        else
          some ((false, ()), ())
    else
      some ((false, ()), ())
noncomputable def c13 : Ctr := { ins := [.v Ty133], out := [.bool], F := fun x => g13 x.1 }
theorem v13 : LoopsOk Try.prog Γ t13 a13 (loopsIn (Try.f13.body.getD .skip) 0) := loopsOk_nil (by kernel_rfl)
theorem r13 (x : InsT c13.ins) : fnK Try.prog Γ t13 a13 Try.f13 c13 x = g13 x.1 := by kernel_rfl
theorem k13 : TblOk Try.prog t13 := tblOk_cons o37 (tblOk_cons o38 (tblOk_cons o39 (tblOk_cons o40 (tblOk_nil))))
theorem o13 : Holds Try.prog 13 c13 := fn_holds (code := Try.f13.body.getD .skip) (by kernel_rfl) gamOk k13 Try.func13 (by kernel_rfl) (by kernel_rfl) (by kernel_rfl) (by kernel_rfl) v13 (fun x _ h => (r13 x).trans h)
/-! ### 56: loop.example/g00076/spec.l15Ok -/
noncomputable def t56 : Tbl := [(13, [], c13), (67, [], c67)]
noncomputable def a56 : Nat → Option LoopAnn := fun _ => none
noncomputable def g56 (x0 : Ta114) (x1 : Int) : Option ((Bool × Unit) × Unit) :=
  (g13 x0).bind fun y1 =>
    bif y1.1.1 then
      some (((f67 x1 (0 : Int) (50000 : Int)), ()), ())
    else
      some ((false, ()), ())
noncomputable def c56 : Ctr := { ins := [.v Ty133, .v (.int .i64)], out := [.bool], F := fun x => g56 x.1 x.2.1 }
theorem v56 : LoopsOk Try.prog Γ t56 a56 (loopsIn (Try.f56.body.getD .skip) 0) := loopsOk_nil (by kernel_rfl)
theorem r56 (x : InsT c56.ins) : fnK Try.prog Γ t56 a56 Try.f56 c56 x = g56 x.1 x.2.1 := by kernel_rfl
theorem k56 : TblOk Try.prog t56 := tblOk_cons o13 (tblOk_cons o67 (tblOk_nil))
theorem o56 : Holds Try.prog 56 c56 := fn_holds (code := Try.f56.body.getD .skip) (by kernel_rfl) gamOk k56 Try.func56 (by kernel_rfl) (by kernel_rfl) (by kernel_rfl) (by kernel_rfl) v56 (fun x _ h => (r56 x).trans h)
/-! ### 64: loop.example/g00076/spec.l15First -/
noncomputable def t64 : Tbl := []
abbrev h64_L0 : Shape := { slots := [(1, .v (.int .i64)), (2, .bx 2 0), (5, .v (.int .i64))], boxes := [(2, .typ Ty133)] }
abbrev e64_L0 : List (XT × Shape) := [(.ret, { slots := [(4, .v (.int .i64))], boxes := [] }), (.exit 0, { slots := [], boxes := [] })]
noncomputable def q64_L0 (t1 : Int) (t5 : Int) (b2 : Ta114) : Option (Ta120 ⊕ (((Int × Unit) × Unit) ⊕ ((Unit × Unit) ⊕ Empty))) :=
  bif (decide (t5 < (b2.2.2.2.2.2.2.2.2.2.2.1.len : Int))) then
    bif (decide (0 ≤ t5) && decide (t5 < (b2.2.2.2.2.2.2.2.2.2.2.1.len : Int))) then
      bif (!decide (b2.2.2.2.2.2.2.1 = 0)) then
        bif ((L.get b2.2.2.2.2.2.2.2.2.2.2.1 t5.toNat).2.1 == (Int.tmod t1 b2.2.2.2.2.2.2.1)) then
          bif (decide (0 ≤ t5) && decide (t5 < (b2.2.2.2.2.2.2.2.2.2.2.1.len : Int))) then
            some (.inr (.inl (((L.get b2.2.2.2.2.2.2.2.2.2.2.1 t5.toNat).1, ()), ())))
          else
            none
        else
          some (.inl ((t1, ((), ((wI (t5 + (1 : Int))), ()))), (b2, ())))
      else
        none
    else
      none
  else
    some (.inr (.inr (.inl ((), ()))))
noncomputable def s64_L0 (x : Ta120) : Option (Ta120 ⊕ (((Int × Unit) × Unit) ⊕ ((Unit × Unit) ⊕ Empty))) := q64_L0 x.1.1 x.1.2.2.1 x.2.1
noncomputable def a64 : Nat → Option LoopAnn := fun c => bif Nat.beq c 0 then some (.fix h64_L0 e64_L0 s64_L0) else none
noncomputable def g64 (x0 : Ta114) (x1 : Int) : Option ((Int × Unit) × Unit) :=
  (fixO s64_L0 ((x1, ((), ((0 : Int), ()))), (x0, ()))).bind fun d2 => match d2 with
  | .inl y1 =>
    some ((y1.1.1, ()), ())
  | .inr (.inl y1) =>
    some (((-1 : Int), ()), ())
  | .inr (.inr e) => nomatch e
noncomputable def c64 : Ctr := { ins := [.v Ty133, .v (.int .i64)], out := [(.int .i64)], F := fun x => g64 x.1 x.2.1 }
noncomputable def l64 : List (Nat × Code) := loopsIn (Try.f64.body.getD .skip) 0
theorem w64_L0 (x : h64_L0.T) : runK Try.prog Γ t64 a64 (l64.getD 0 (0, .skip)).2 0 (pkSh h64_L0 x) (loopCls (sh := h64_L0) (es := e64_L0)) = (s64_L0 x : Option _) := by kernel_rfl
theorem v64 : LoopsOk Try.prog Γ t64 a64 (loopsIn (Try.f64.body.getD .skip) 0) := by
  have e : loopsIn (Try.f64.body.getD .skip) 0 = [(0, (l64.getD 0 (0, .skip)).2)] := by kernel_rfl
  rw [e]
  exact ⟨fun x d h => (w64_L0 x).trans h, trivial⟩
theorem r64 (x : InsT c64.ins) : fnK Try.prog Γ t64 a64 Try.f64 c64 x = g64 x.1 x.2.1 := by kernel_rfl
theorem k64 : TblOk Try.prog t64 := tblOk_nil
theorem o64 : Holds Try.prog 64 c64 := fn_holds (code := Try.f64.body.getD .skip) (by kernel_rfl) gamOk k64 Try.func64 (by kernel_rfl) (by kernel_rfl) (by kernel_rfl) (by kernel_rfl) v64 (fun x _ h => (r64 x).trans h)
/-! ### 31: loop.example/g00076/spec.NextSwitch -/
noncomputable def t31 : Tbl := [(56, [], c56), (64, [], c64)]
abbrev h31_L0 : Shape := { slots := [(1, .v (.int .i64)), (2, .bx 2 0)], boxes := [(2, .typ Ty133)] }
abbrev e31_L0 : List (XT × Shape) := [(.exit 0, { slots := [(1, .v (.int .i64))], boxes := [] })]
noncomputable def q31_L0 (t1 : Int) (b2 : Ta114) : Option (Ta118 ⊕ (((Int × Unit) × Unit) ⊕ Empty)) :=
  (g64 b2 t1).bind fun y2 =>
    bif (decide (y2.1.1 < (0 : Int))) then
      some (.inl (((wI (t1 + (1 : Int))), ((), ())), (b2, ())))
    else
      some (.inr (.inl ((t1, ()), ())))
noncomputable def s31_L0 (x : Ta118) : Option (Ta118 ⊕ (((Int × Unit) × Unit) ⊕ Empty)) := q31_L0 x.1.1 x.2.1
noncomputable def a31 : Nat → Option LoopAnn := fun c => bif Nat.beq c 0 then some (.fix h31_L0 e31_L0 s31_L0) else none
noncomputable def g31 (x0 : Ta114) (x1 : Int) : Option ((Int × Unit) × Unit) :=
  (g56 x0 x1).bind fun y1 =>
    bif (!y1.1.1) then
      some (((-1 : Int), ()), ())
    else
      (fixO s31_L0 ((x1, ((), ())), (x0, ()))).bind fun d4 => match d4 with
      | .inl y3 =>
        some ((y3.1.1, ()), ())
      | .inr e => nomatch e
noncomputable def c31 : Ctr := { ins := [.v Ty133, .v (.int .i64)], out := [(.int .i64)], F := fun x => g31 x.1 x.2.1 }
noncomputable def l31 : List (Nat × Code) := loopsIn (Try.f31.body.getD .skip) 0
theorem w31_L0 (x : h31_L0.T) : runK Try.prog Γ t31 a31 (l31.getD 0 (0, .skip)).2 0 (pkSh h31_L0 x) (loopCls (sh := h31_L0) (es := e31_L0)) = (s31_L0 x : Option _) := by kernel_rfl
theorem v31 : LoopsOk Try.prog Γ t31 a31 (loopsIn (Try.f31.body.getD .skip) 0) := by
  have e : loopsIn (Try.f31.body.getD .skip) 0 = [(0, (l31.getD 0 (0, .skip)).2)] := by kernel_rfl
  rw [e]
  exact ⟨fun x d h => (w31_L0 x).trans h, trivial⟩
theorem r31 (x : InsT c31.ins) : fnK Try.prog Γ t31 a31 Try.f31 c31 x = g31 x.1 x.2.1 := by kernel_rfl
theorem k31 : TblOk Try.prog t31 := tblOk_cons o56 (tblOk_cons o64 (tblOk_nil))
theorem o31 : Holds Try.prog 31 c31 := fn_holds (code := Try.f31.body.getD .skip) (by kernel_rfl) gamOk k31 Try.func31 (by kernel_rfl) (by kernel_rfl) (by kernel_rfl) (by kernel_rfl) v31 (fun x _ h => (r31 x).trans h)
/-! ### 79: loop.example/g00076/impl.within -/
noncomputable def t79 : Tbl := []
noncomputable def a79 : Nat → Option LoopAnn := fun _ => none
noncomputable def g79 (x0 : Int) (x1 : Int) (x2 : Int) : Option ((Bool × Unit) × Unit) :=
  bif (decide (x0 ≥ x1)) then
    some (((decide (x0 ≤ x2)), ()), ())
  else
    some ((false, ()), ())
noncomputable def f79 (x0 : Int) (x1 : Int) (x2 : Int) : Bool :=
  bif (decide (x0 ≥ x1)) then
    (decide (x0 ≤ x2))
  else
    false
theorem n79 (x0 : Int) (x1 : Int) (x2 : Int) : g79 x0 x1 x2 = some ((f79 x0 x1 x2, ()), ()) := by
  simp only [g79, f79, pull1]
noncomputable def c79 : Ctr := { ins := [.v (.int .i64), .v (.int .i64), .v (.int .i64)], out := [.bool], F := fun x => some ((f79 x.1 x.2.1 x.2.2.1, ()), ()) }
theorem v79 : LoopsOk Try.prog Γ t79 a79 (loopsIn (Try.f79.body.getD .skip) 0) := loopsOk_nil (by kernel_rfl)
theorem r79 (x : InsT c79.ins) : fnK Try.prog Γ t79 a79 Try.f79 c79 x = g79 x.1 x.2.1 x.2.2.1 := by kernel_rfl
theorem k79 : TblOk Try.prog t79 := tblOk_nil
theorem o79 : Holds Try.prog 79 c79 := fn_holds (code := Try.f79.body.getD .skip) (by kernel_rfl) gamOk k79 Try.func79 (by kernel_rfl) (by kernel_rfl) (by kernel_rfl) (by kernel_rfl) v79 (fun x _ h => (r79 x).trans ((n79 x.1 x.2.1 x.2.2.1).trans h))
/-! ### 77: loop.example/g00076/impl.isMem -/
noncomputable def t77 : Tbl := [(79, [], c79)]
noncomputable def a77 : Nat → Option LoopAnn := fun _ => none
noncomputable def g77 (x0 : Int) : Option ((Bool × Unit) × Unit) :=
  bif (f79 x0 (64 : Int) (2048 : Int)) then
    some ((((Int.tmod x0 (4 : Int)) == (0 : Int)), ()), ())
  else
    some ((false, ()), ())
noncomputable def f77 (x0 : Int) : Bool :=
  bif (f79 x0 (64 : Int) (2048 : Int)) then
    ((Int.tmod x0 (4 : Int)) == (0 : Int))
  else
    false
theorem n77 (x0 : Int) : g77 x0 = some ((f77 x0, ()), ()) := by
  simp only [g77, f77, pull1]
noncomputable def c77 : Ctr := { ins := [.v (.int .i64)], out := [.bool], F := fun x => some ((f77 x.1, ()), ()) }
theorem v77 : LoopsOk Try.prog Γ t77 a77 (loopsIn (Try.f77.body.getD .skip) 0) := loopsOk_nil (by kernel_rfl)
theorem r77 (x : InsT c77.ins) : fnK Try.prog Γ t77 a77 Try.f77 c77 x = g77 x.1 := by kernel_rfl
theorem k77 : TblOk Try.prog t77 := tblOk_cons o79 (tblOk_nil)
theorem o77 : Holds Try.prog 77 c77 := fn_holds (code := Try.f77.body.getD .skip) (by kernel_rfl) gamOk k77 Try.func77 (by kernel_rfl) (by kernel_rfl) (by kernel_rfl) (by kernel_rfl) v77 (fun x _ h => (r77 x).trans ((n77 x.1).trans h))
/-! ### 106: loop.example/g00076/impl.isPower -/
noncomputable def t106 : Tbl := []
noncomputable def a106 : Nat → Option LoopAnn := fun _ => none
noncomputable def g106 (x0 : Int) : Option ((Bool × Unit) × Unit) :=
  bif (decide (x0 > (0 : Int))) then
    some ((((andOf .i64 x0 (wI (x0 - (1 : Int)))) == (0 : Int)), ()), ())
  else
    some ((false, ()), ())
noncomputable def f106 (x0 : Int) : Bool :=
  bif (decide (x0 > (0 : Int))) then
    ((andOf .i64 x0 (wI (x0 - (1 : Int)))) == (0 : Int))
  else
    false
theorem n106 (x0 : Int) : g106 x0 = some ((f106 x0, ()), ()) := by
  simp only [g106, f106, pull1]
noncomputable def c106 : Ctr := { ins := [.v (.int .i64)], out := [.bool], F := fun x => some ((f106 x.1, ()), ()) }
theorem v106 : LoopsOk Try.prog Γ t106 a106 (loopsIn (Try.f106.body.getD .skip) 0) := loopsOk_nil (by kernel_rfl)
theorem r106 (x : InsT c106.ins) : fnK Try.prog Γ t106 a106 Try.f106 c106 x = g106 x.1 := by kernel_rfl
theorem k106 : TblOk Try.prog t106 := tblOk_nil
theorem o106 : Holds Try.prog 106 c106 := fn_holds (code := Try.f106.body.getD .skip) (by kernel_rfl) gamOk k106 Try.func106 (by kernel_rfl) (by kernel_rfl) (by kernel_rfl) (by kernel_rfl) v106 (fun x _ h => (r106 x).trans ((n106 x.1).trans h))
/-! ### 78: loop.example/g00076/impl.isShape -/
noncomputable def t78 : Tbl := [(79, [], c79), (106, [], c106)]
noncomputable def a78 : Nat → Option LoopAnn := fun _ => none
noncomputable def g78 (x0 : Ta4) : Option ((Bool × Unit) × Unit) :=
  bif (f79 x0.1 (1 : Int) (16 : Int)) then
    bif (f106 x0.1) then
      bif (f79 x0.2.1 (1 : Int) (4 : Int)) then
        bif (f79 x0.2.2.1 (4 : Int) (32 : Int)) then
          some (((f106 x0.2.2.1), ()), ())
        else
          some ((false, ()), ())
      else
        some ((false, ()), ())
    else
      some ((false, ()), ())
  else
    some ((false, ()), ())
noncomputable def f78 (x0 : Ta4) : Bool :=
  bif (f79 x0.1 (1 : Int) (16 : Int)) then
    bif (f106 x0.1) then
      bif (f79 x0.2.1 (1 : Int) (4 : Int)) then
        bif (f79 x0.2.2.1 (4 : Int) (32 : Int)) then
          (f106 x0.2.2.1)
        else
          false
      else
        false
    else
      false
  else
    false
theorem n78 (x0 : Ta4) : g78 x0 = some ((f78 x0, ()), ()) := by
  simp only [g78, f78, pull1]
noncomputable def c78 : Ctr := { ins := [.v Ty40], out := [.bool], F := fun x => some ((f78 x.1, ()), ()) }
theorem v78 : LoopsOk Try.prog Γ t78 a78 (loopsIn (Try.f78.body.getD .skip) 0) := loopsOk_nil (by kernel_rfl)
theorem r78 (x : InsT c78.ins) : fnK Try.prog Γ t78 a78 Try.f78 c78 x = g78 x.1 := by kernel_rfl
theorem k78 : TblOk Try.prog t78 := tblOk_cons o79 (tblOk_cons o106 (tblOk_nil))
theorem o78 : Holds Try.prog 78 c78 := fn_holds (code := Try.f78.body.getD .skip) (by kernel_rfl) gamOk k78 Try.func78 (by kernel_rfl) (by kernel_rfl) (by kernel_rfl) (by kernel_rfl) v78 (fun x _ h => (r78 x).trans ((n78 x.1).trans h))
/-! ### 80: loop.example/g00076/impl.areCosts -/
noncomputable def t80 : Tbl := [(79, [], c79)]
noncomputable def a80 : Nat → Option LoopAnn := fun c => bif Nat.beq c 0 then some (.unroll 7 [1, 17, 18] [1]) else none
noncomputable def g80 (x0 : Ta38) : Option ((Bool × Unit) × Unit) :=
  bif (!(f79 x0.2.1 (0 : Int) (50 : Int))) then
    some ((false, ()), ())
  else
    bif (!(f79 x0.2.2.1 (0 : Int) (50 : Int))) then
      some ((false, ()), ())
    else
      bif (!(f79 x0.2.2.2.1 (0 : Int) (50 : Int))) then
        some ((false, ()), ())
      else
        bif (!(f79 x0.2.2.2.2.1 (0 : Int) (50 : Int))) then
          some ((false, ()), ())
        else
          bif (!(f79 x0.2.2.2.2.2.1 (0 : Int) (50 : Int))) then
            some ((false, ()), ())
          else
            bif (!(f79 x0.2.2.2.2.2.2.1 (0 : Int) (50 : Int))) then
              some ((false, ()), ())
            else
              some (((f79 x0.1 (1 : Int) (20 : Int)), ()), ())
noncomputable def f80 (x0 : Ta38) : Bool :=
  bif (!(f79 x0.2.1 (0 : Int) (50 : Int))) then
    false
  else
    bif (!(f79 x0.2.2.1 (0 : Int) (50 : Int))) then
      false
    else
      bif (!(f79 x0.2.2.2.1 (0 : Int) (50 : Int))) then
        false
      else
        bif (!(f79 x0.2.2.2.2.1 (0 : Int) (50 : Int))) then
          false
        else
          bif (!(f79 x0.2.2.2.2.2.1 (0 : Int) (50 : Int))) then
            false
          else
            bif (!(f79 x0.2.2.2.2.2.2.1 (0 : Int) (50 : Int))) then
              false
            else
              (f79 x0.1 (1 : Int) (20 : Int))
theorem n80 (x0 : Ta38) : g80 x0 = some ((f80 x0, ()), ()) := by
  simp only [g80, f80, pull1]
noncomputable def c80 : Ctr := { ins := [.v Ty87], out := [.bool], F := fun x => some ((f80 x.1, ()), ()) }
noncomputable def l80 : List (Nat × Code) := loopsIn (Try.f80.body.getD .skip) 0
theorem v80 : LoopsOk Try.prog Γ t80 a80 (loopsIn (Try.f80.body.getD .skip) 0) := by
  have e : loopsIn (Try.f80.body.getD .skip) 0 = [(0, (l80.getD 0 (0, .skip)).2)] := by kernel_rfl
  rw [e]
  exact ⟨trivial, trivial⟩
theorem r80 (x : InsT c80.ins) : fnK Try.prog Γ t80 a80 Try.f80 c80 x = g80 x.1 := by kernel_rfl
theorem k80 : TblOk Try.prog t80 := tblOk_cons o79 (tblOk_nil)
theorem o80 : Holds Try.prog 80 c80 := fn_holds (code := Try.f80.body.getD .skip) (by kernel_rfl) gamOk k80 Try.func80 (by kernel_rfl) (by kernel_rfl) (by kernel_rfl) (by kernel_rfl) v80 (fun x _ h => (r80 x).trans ((n80 x.1).trans h))
/-! ### 81: loop.example/g00076/impl.isSpan -/
noncomputable def t81 : Tbl := [(79, [], c79)]
noncomputable def a81 : Nat → Option LoopAnn := fun _ => none
noncomputable def g81 (x0 : Int) : Option ((Bool × Unit) × Unit) :=
  some (((f79 x0 (1 : Int) (5000 : Int)), ()), ())
noncomputable def f81 (x0 : Int) : Bool :=
  (f79 x0 (1 : Int) (5000 : Int))
theorem n81 (x0 : Int) : g81 x0 = some ((f81 x0, ()), ()) := by
  simp only [g81, f81, pull1]
noncomputable def c81 : Ctr := { ins := [.v (.int .i64)], out := [.bool], F := fun x => some ((f81 x.1, ()), ()) }
theorem v81 : LoopsOk Try.prog Γ t81 a81 (loopsIn (Try.f81.body.getD .skip) 0) := loopsOk_nil (by kernel_rfl)
theorem r81 (x : InsT c81.ins) : fnK Try.prog Γ t81 a81 Try.f81 c81 x = g81 x.1 := by kernel_rfl
theorem k81 : TblOk Try.prog t81 := tblOk_cons o79 (tblOk_nil)
theorem o81 : Holds Try.prog 81 c81 := fn_holds (code := Try.f81.body.getD .skip) (by kernel_rfl) gamOk k81 Try.func81 (by kernel_rfl) (by kernel_rfl) (by kernel_rfl) (by kernel_rfl) v81 (fun x _ h => (r81 x).trans ((n81 x.1).trans h))
/-! ### 124: loop.example/g00076/impl.opCost -/
noncomputable def t124 : Tbl := [(79, [], c79)]
noncomputable def a124 : Nat → Option LoopAnn := fun _ => none
noncomputable def g124 (x0 : Ta38) (x1 : Int) : Option ((Int × Unit) × Unit) :=
  bif (x1 == (9 : Int)) then
    some (((wI (x0.1 + x0.2.1)), ()), ())
  else
    bif (x1 == (10 : Int)) then
      some (((wI (x0.1 + x0.2.1)), ()), ())
    else
      bif (f79 x1 (15 : Int) (18 : Int)) then
        some (((wI (x0.1 + x0.2.2.1)), ()), ())
      else
        bif (decide (x1 ≥ (25 : Int))) then
          some (((wI (x0.1 + x0.2.2.2.2.2.1)), ()), ())
        else
          some ((x0.1, ()), ())
noncomputable def f124 (x0 : Ta38) (x1 : Int) : Int :=
  bif (x1 == (9 : Int)) then
    (wI (x0.1 + x0.2.1))
  else
    bif (x1 == (10 : Int)) then
      (wI (x0.1 + x0.2.1))
    else
      bif (f79 x1 (15 : Int) (18 : Int)) then
        (wI (x0.1 + x0.2.2.1))
      else
        bif (decide (x1 ≥ (25 : Int))) then
          (wI (x0.1 + x0.2.2.2.2.2.1))
        else
          x0.1
theorem n124 (x0 : Ta38) (x1 : Int) : g124 x0 x1 = some ((f124 x0 x1, ()), ()) := by
  simp only [g124, f124, pull1]
noncomputable def c124 : Ctr := { ins := [.v Ty87, .v (.int .i64)], out := [(.int .i64)], F := fun x => some ((f124 x.1 x.2.1, ()), ()) }
theorem v124 : LoopsOk Try.prog Γ t124 a124 (loopsIn (Try.f124.body.getD .skip) 0) := loopsOk_nil (by kernel_rfl)
theorem r124 (x : InsT c124.ins) : fnK Try.prog Γ t124 a124 Try.f124 c124 x = g124 x.1 x.2.1 := by kernel_rfl
theorem k124 : TblOk Try.prog t124 := tblOk_cons o79 (tblOk_nil)
theorem o124 : Holds Try.prog 124 c124 := fn_holds (code := Try.f124.body.getD .skip) (by kernel_rfl) gamOk k124 Try.func124 (by kernel_rfl) (by kernel_rfl) (by kernel_rfl) (by kernel_rfl) v124 (fun x _ h => (r124 x).trans ((n124 x.1 x.2.1).trans h))
/-! ### 125: loop.example/g00076/impl.accessCost -/
noncomputable def t125 : Tbl := []
noncomputable def a125 : Nat → Option LoopAnn := fun _ => none
noncomputable def g125 (x0 : Ta38) (x1 : Ta8) : Option ((Int × Unit) × Unit) :=
  bif (!x1.1) then
    bif (!x1.2.1) then
      bif x1.2.2.1 then
        some (((wI ((wI ((wI ((0 : Int) + x0.2.2.2.1)) + x0.2.2.2.2.1)) + x0.2.2.2.2.2.2.1)), ()), ())
      else
        some (((wI ((wI ((0 : Int) + x0.2.2.2.1)) + x0.2.2.2.2.1)), ()), ())
    else
      bif x1.2.2.1 then
        some (((wI ((wI ((0 : Int) + x0.2.2.2.1)) + x0.2.2.2.2.2.2.1)), ()), ())
      else
        some (((wI ((0 : Int) + x0.2.2.2.1)), ()), ())
  else
    bif (!x1.2.1) then
      bif x1.2.2.1 then
        some (((wI ((wI ((0 : Int) + x0.2.2.2.2.1)) + x0.2.2.2.2.2.2.1)), ()), ())
      else
        some (((wI ((0 : Int) + x0.2.2.2.2.1)), ()), ())
    else
      bif x1.2.2.1 then
        some (((wI ((0 : Int) + x0.2.2.2.2.2.2.1)), ()), ())
      else
        some (((0 : Int), ()), ())
noncomputable def f125 (x0 : Ta38) (x1 : Ta8) : Int :=
  bif (!x1.1) then
    bif (!x1.2.1) then
      bif x1.2.2.1 then
        (wI ((wI ((wI ((0 : Int) + x0.2.2.2.1)) + x0.2.2.2.2.1)) + x0.2.2.2.2.2.2.1))
      else
        (wI ((wI ((0 : Int) + x0.2.2.2.1)) + x0.2.2.2.2.1))
    else
      bif x1.2.2.1 then
        (wI ((wI ((0 : Int) + x0.2.2.2.1)) + x0.2.2.2.2.2.2.1))
      else
        (wI ((0 : Int) + x0.2.2.2.1))
  else
    bif (!x1.2.1) then
      bif x1.2.2.1 then
        (wI ((wI ((0 : Int) + x0.2.2.2.2.1)) + x0.2.2.2.2.2.2.1))
      else
        (wI ((0 : Int) + x0.2.2.2.2.1))
    else
      bif x1.2.2.1 then
        (wI ((0 : Int) + x0.2.2.2.2.2.2.1))
      else
        (0 : Int)
theorem n125 (x0 : Ta38) (x1 : Ta8) : g125 x0 x1 = some ((f125 x0 x1, ()), ()) := by
  simp only [g125, f125, pull1]
noncomputable def c125 : Ctr := { ins := [.v Ty87, .v (.pair .bool (.pair .bool (.pair .bool .unit)))], out := [(.int .i64)], F := fun x => some ((f125 x.1 x.2.1, ()), ()) }
theorem v125 : LoopsOk Try.prog Γ t125 a125 (loopsIn (Try.f125.body.getD .skip) 0) := loopsOk_nil (by kernel_rfl)
theorem r125 (x : InsT c125.ins) : fnK Try.prog Γ t125 a125 Try.f125 c125 x = g125 x.1 x.2.1 := by kernel_rfl
theorem k125 : TblOk Try.prog t125 := tblOk_nil
theorem o125 : Holds Try.prog 125 c125 := fn_holds (code := Try.f125.body.getD .skip) (by kernel_rfl) gamOk k125 Try.func125 (by kernel_rfl) (by kernel_rfl) (by kernel_rfl) (by kernel_rfl) v125 (fun x _ h => (r125 x).trans ((n125 x.1 x.2.1).trans h))
/-! ### 107: loop.example/g00076/impl.WorstStep -/
noncomputable def t107 : Tbl := [(80, [], c80), (124, [], c124), (125, [], c125)]
abbrev h107_L0 : Shape := { slots := [(1, .bx 1 0), (3, .v (.int .i64)), (8, .v (.int .i64))], boxes := [(1, .typ Ty87)] }
abbrev e107_L0 : List (XT × Shape) := [(.exit 0, { slots := [(1, .bx 1 0), (3, .v (.int .i64))], boxes := [(1, .typ Ty87)] })]
noncomputable def q107_L0 (t3 : Int) (t8 : Int) (b1 : Ta38) : Option (Ta73 ⊕ (Ta66 ⊕ Empty)) :=
  bif (decide (t8 < (33 : Int))) then
    some (.inl (((), ((if (f124 b1 t8) > t3 then (f124 b1 t8) else t3), ((wI (t8 + (1 : Int))), ()))), (b1, ())))
  else
    some (.inr (.inl (((), (t3, ())), (b1, ()))))
noncomputable def s107_L0 (x : Ta73) : Option (Ta73 ⊕ (Ta66 ⊕ Empty)) := q107_L0 x.1.2.1 x.1.2.2.1 x.2.1
noncomputable def a107 : Nat → Option LoopAnn := fun c => bif Nat.beq c 0 then some (.fix h107_L0 e107_L0 s107_L0) else none
noncomputable def g107 (x0 : Ta38) : Option ((Int × Unit) × Unit) :=
  bif (!(f80 x0)) then
    some (((-1 : Int), ()), ())
  else
    (fixO s107_L0 (((), ((0 : Int), ((0 : Int), ()))), (x0, ()))).bind fun d2 => match d2 with
    | .inl y1 =>
      some (((wI ((wI (y1.1.2.1 + (wI ((2 : Int) * (f125 y1.2.1 (false, (false, (true, ())))))))) + y1.2.1.2.2.2.2.2.1)), ()), ())
    | .inr e => nomatch e
noncomputable def c107 : Ctr := { ins := [.v Ty87], out := [(.int .i64)], F := fun x => g107 x.1 }
noncomputable def l107 : List (Nat × Code) := loopsIn (Try.f107.body.getD .skip) 0
theorem w107_L0 (x : h107_L0.T) : runK Try.prog Γ t107 a107 (l107.getD 0 (0, .skip)).2 0 (pkSh h107_L0 x) (loopCls (sh := h107_L0) (es := e107_L0)) = (s107_L0 x : Option _) := by kernel_rfl
theorem v107 : LoopsOk Try.prog Γ t107 a107 (loopsIn (Try.f107.body.getD .skip) 0) := by
  have e : loopsIn (Try.f107.body.getD .skip) 0 = [(0, (l107.getD 0 (0, .skip)).2)] := by kernel_rfl
  rw [e]
  exact ⟨fun x d h => (w107_L0 x).trans h, trivial⟩
theorem r107 (x : InsT c107.ins) : fnK Try.prog Γ t107 a107 Try.f107 c107 x = g107 x.1 := by kernel_rfl
theorem k107 : TblOk Try.prog t107 := tblOk_cons o80 (tblOk_cons o124 (tblOk_cons o125 (tblOk_nil)))
theorem o107 : Holds Try.prog 107 c107 := fn_holds (code := Try.f107.body.getD .skip) (by kernel_rfl) gamOk k107 Try.func107 (by kernel_rfl) (by kernel_rfl) (by kernel_rfl) (by kernel_rfl) v107 (fun x _ h => (r107 x).trans h)
/-! ### 82: loop.example/g00076/impl.worstStep -/
noncomputable def t82 : Tbl := [(107, [], c107)]
noncomputable def a82 : Nat → Option LoopAnn := fun _ => none
noncomputable def g82 (x0 : Ta38) : Option ((Int × Unit) × Unit) :=
  (g107 x0).bind fun y1 =>
    some ((y1.1.1, ()), ())
noncomputable def c82 : Ctr := { ins := [.v Ty87], out := [(.int .i64)], F := fun x => g82 x.1 }
theorem v82 : LoopsOk Try.prog Γ t82 a82 (loopsIn (Try.f82.body.getD .skip) 0) := loopsOk_nil (by kernel_rfl)
theorem r82 (x : InsT c82.ins) : fnK Try.prog Γ t82 a82 Try.f82 c82 x = g82 x.1 := by kernel_rfl
theorem k82 : TblOk Try.prog t82 := tblOk_cons o107 (tblOk_nil)
theorem o82 : Holds Try.prog 82 c82 := fn_holds (code := Try.f82.body.getD .skip) (by kernel_rfl) gamOk k82 Try.func82 (by kernel_rfl) (by kernel_rfl) (by kernel_rfl) (by kernel_rfl) v82 (fun x _ h => (r82 x).trans h)
/-! ### 126: loop.example/g00076/impl.isLabel -/
noncomputable def t126 : Tbl := [(79, [], c79)]
abbrev h126_L0 : Shape := { slots := [(0, .v .str), (5, .v (.int .i64)), (6, .v (.int .i64))], boxes := [] }
abbrev e126_L0 : List (XT × Shape) := [(.ret, { slots := [(2, .v .bool)], boxes := [] }), (.exit 0, { slots := [(0, .v .str)], boxes := [] })]
noncomputable def q126_L0 (t0 : ByteArray) (t5 : Int) (t6 : Int) : Option (Ta20 ⊕ (((Bool × Unit) × Unit) ⊕ (Ta3 ⊕ Empty))) :=
  bif (decide (t6 < t5)) then
    bif (decide (0 ≤ t6) && decide (t6 < t0.size)) then
      bif (decide ((bt t0 t6) < (97 : Int))) then
        some (.inr (.inl ((false, ()), ())))
      else
        bif (decide (0 ≤ t6) && decide (t6 < t0.size)) then
          bif (decide ((bt t0 t6) > (122 : Int))) then
            some (.inr (.inl ((false, ()), ())))
          else
            some (.inl ((t0, (t5, ((wI (t6 + (1 : Int))), ()))), ()))
        else
          none
    else
      none
  else
    some (.inr (.inr (.inl ((t0, ()), ()))))
noncomputable def s126_L0 (x : Ta20) : Option (Ta20 ⊕ (((Bool × Unit) × Unit) ⊕ (Ta3 ⊕ Empty))) := q126_L0 x.1.1 x.1.2.1 x.1.2.2.1
noncomputable def a126 : Nat → Option LoopAnn := fun c => bif Nat.beq c 0 then some (.fix h126_L0 e126_L0 s126_L0) else none
noncomputable def g126 (x0 : ByteArray) : Option ((Bool × Unit) × Unit) :=
  (fixO s126_L0 ((x0, ((x0.size : Int), ((0 : Int), ()))), ())).bind fun d2 => match d2 with
  | .inl y1 =>
    some ((y1.1.1, ()), ())
  | .inr (.inl y1) =>
    some (((f79 (y1.1.1.size : Int) (1 : Int) (12 : Int)), ()), ())
  | .inr (.inr e) => nomatch e
noncomputable def c126 : Ctr := { ins := [.v .str], out := [.bool], F := fun x => g126 x.1 }
noncomputable def l126 : List (Nat × Code) := loopsIn (Try.f126.body.getD .skip) 0
theorem w126_L0 (x : h126_L0.T) : runK Try.prog Γ t126 a126 (l126.getD 0 (0, .skip)).2 0 (pkSh h126_L0 x) (loopCls (sh := h126_L0) (es := e126_L0)) = (s126_L0 x : Option _) := by kernel_rfl
theorem v126 : LoopsOk Try.prog Γ t126 a126 (loopsIn (Try.f126.body.getD .skip) 0) := by
  have e : loopsIn (Try.f126.body.getD .skip) 0 = [(0, (l126.getD 0 (0, .skip)).2)] := by kernel_rfl
  rw [e]
  exact ⟨fun x d h => (w126_L0 x).trans h, trivial⟩
theorem r126 (x : InsT c126.ins) : fnK Try.prog Γ t126 a126 Try.f126 c126 x = g126 x.1 := by kernel_rfl
theorem k126 : TblOk Try.prog t126 := tblOk_cons o79 (tblOk_nil)
theorem o126 : Holds Try.prog 126 c126 := fn_holds (code := Try.f126.body.getD .skip) (by kernel_rfl) gamOk k126 Try.func126 (by kernel_rfl) (by kernel_rfl) (by kernel_rfl) (by kernel_rfl) v126 (fun x _ h => (r126 x).trans h)
/-! ### 108: loop.example/g00076/impl.isName -/
noncomputable def t108 : Tbl := [(126, [], c126)]
noncomputable def a108 : Nat → Option LoopAnn := fun _ => none
noncomputable def g108 (x0 : ByteArray) : Option ((Bool × Unit) × Unit) :=
  (g126 x0).bind fun y1 =>
    bif y1.1.1 then
      some (((decide ((x0.size : Int) ≤ (8 : Int))), ()), ())
    else
      some ((false, ()), ())
noncomputable def c108 : Ctr := { ins := [.v .str], out := [.bool], F := fun x => g108 x.1 }
theorem v108 : LoopsOk Try.prog Γ t108 a108 (loopsIn (Try.f108.body.getD .skip) 0) := loopsOk_nil (by kernel_rfl)
theorem r108 (x : InsT c108.ins) : fnK Try.prog Γ t108 a108 Try.f108 c108 x = g108 x.1 := by kernel_rfl
theorem k108 : TblOk Try.prog t108 := tblOk_cons o126 (tblOk_nil)
theorem o108 : Holds Try.prog 108 c108 := fn_holds (code := Try.f108.body.getD .skip) (by kernel_rfl) gamOk k108 Try.func108 (by kernel_rfl) (by kernel_rfl) (by kernel_rfl) (by kernel_rfl) v108 (fun x _ h => (r108 x).trans h)
/-! ### 94: loop.example/g00076/impl.partNamed$1 -/
noncomputable def t94 : Tbl := []
noncomputable def a94 : Nat → Option LoopAnn := fun _ => none
noncomputable def g94 (x0 : Ta62) (x1 : ByteArray) : Option ((Bool × Unit) × Unit) :=
  some (((strEq x0.1 x1), ()), ())
noncomputable def f94 (x0 : Ta62) (x1 : ByteArray) : Bool :=
  (strEq x0.1 x1)
theorem n94 (x0 : Ta62) (x1 : ByteArray) : g94 x0 x1 = some ((f94 x0 x1, ()), ()) := by
  simp only [g94, f94, pull1]
noncomputable def c94 : Ctr := { ins := [.v Ty97, .rf .str], out := [.bool], F := fun x => some ((f94 x.1 x.2.1, ()), ()) }
theorem v94 : LoopsOk Try.prog Γ t94 a94 (loopsIn (Try.f94.body.getD .skip) 0) := loopsOk_nil (by kernel_rfl)
theorem r94 (x : InsT c94.ins) : fnK Try.prog Γ t94 a94 Try.f94 c94 x = g94 x.1 x.2.1 := by kernel_rfl
theorem k94 : TblOk Try.prog t94 := tblOk_nil
theorem o94 : Holds Try.prog 94 c94 := fn_holds (code := Try.f94.body.getD .skip) (by kernel_rfl) gamOk k94 Try.func94 (by kernel_rfl) (by kernel_rfl) (by kernel_rfl) (by kernel_rfl) v94 (fun x _ h => (r94 x).trans ((n94 x.1 x.2.1).trans h))
/-! ### 60: slices.IndexFunc[[]loop.example/g00076/impl.PartRow,loop.example/g00076/impl.PartRow] -/
noncomputable def t60_94 : Tbl := [(94, [], c94)]
abbrev h60_94_L0 : Shape := { slots := [(0, .v Ty98), (1, .clo 94 [.str]), (7, .v (.int .i64)), (8, .v (.int .i64))], boxes := [] }
abbrev e60_94_L0 : List (XT × Shape) := [(.ret, { slots := [(4, .v (.int .i64))], boxes := [] }), (.exit 0, { slots := [], boxes := [] })]
noncomputable def q60_94_L0 (t0 : Ta65) (t1 : (ByteArray × Unit)) (t7 : Int) (t8 : Int) : Option (Ta90 ⊕ (((Int × Unit) × Unit) ⊕ ((Unit × Unit) ⊕ Empty))) :=
  bif (decide (t8 < t7)) then
    bif (decide (0 ≤ t8) && decide (t8 < (t0.len : Int))) then
      bif (f94 (L.get t0 t8.toNat) t1.1) then
        some (.inr (.inl ((t8, ()), ())))
      else
        some (.inl ((t0, (t1, (t7, ((wI (t8 + (1 : Int))), ())))), ()))
    else
      none
  else
    some (.inr (.inr (.inl ((), ()))))
noncomputable def s60_94_L0 (x : Ta90) : Option (Ta90 ⊕ (((Int × Unit) × Unit) ⊕ ((Unit × Unit) ⊕ Empty))) := q60_94_L0 x.1.1 x.1.2.1 x.1.2.2.1 x.1.2.2.2.1
noncomputable def a60_94 : Nat → Option LoopAnn := fun c => bif Nat.beq c 0 then some (.fix h60_94_L0 e60_94_L0 s60_94_L0) else none
noncomputable def g60_94 (x0 : Ta65) (x1 : (ByteArray × Unit)) : Option ((Int × Unit) × Unit) :=
  (fixO s60_94_L0 ((x0, (x1, ((x0.len : Int), ((0 : Int), ())))), ())).bind fun d2 => match d2 with
  | .inl y1 =>
    some ((y1.1.1, ()), ())
  | .inr (.inl y1) =>
    some (((-1 : Int), ()), ())
  | .inr (.inr e) => nomatch e
noncomputable def c60_94 : Ctr := { ins := [.v Ty98, .clo 94 [.str]], out := [(.int .i64)], F := fun x => g60_94 x.1 x.2.1 }
noncomputable def l60_94 : List (Nat × Code) := loopsIn (Try.f60.body.getD .skip) 0
theorem w60_94_L0 (x : h60_94_L0.T) : runK Try.prog Γ t60_94 a60_94 (l60_94.getD 0 (0, .skip)).2 0 (pkSh h60_94_L0 x) (loopCls (sh := h60_94_L0) (es := e60_94_L0)) = (s60_94_L0 x : Option _) := by kernel_rfl
theorem v60_94 : LoopsOk Try.prog Γ t60_94 a60_94 (loopsIn (Try.f60.body.getD .skip) 0) := by
  have e : loopsIn (Try.f60.body.getD .skip) 0 = [(0, (l60_94.getD 0 (0, .skip)).2)] := by kernel_rfl
  rw [e]
  exact ⟨fun x d h => (w60_94_L0 x).trans h, trivial⟩
theorem r60_94 (x : InsT c60_94.ins) : fnK Try.prog Γ t60_94 a60_94 Try.f60 c60_94 x = g60_94 x.1 x.2.1 := by kernel_rfl
theorem k60_94 : TblOk Try.prog t60_94 := tblOk_cons o94 (tblOk_nil)
theorem o60_94 : Holds Try.prog 60 c60_94 := fn_holds (code := Try.f60.body.getD .skip) (by kernel_rfl) gamOk k60_94 Try.func60 (by kernel_rfl) (by kernel_rfl) (by kernel_rfl) (by kernel_rfl) v60_94 (fun x _ h => (r60_94 x).trans h)
/-! ### 58: loop.example/g00076/impl.partNamed -/
noncomputable def t58 : Tbl := [(60, [94], c60_94)]
noncomputable def a58 : Nat → Option LoopAnn := fun _ => none
noncomputable def g58 (x0 : Ta114) (x1 : ByteArray) : Option ((Int × Unit) × Unit) :=
  (g60_94 x0.2.2.2.2.2.2.2.1 (x1, ())).bind fun y1 =>
    some ((y1.1.1, ()), ())
noncomputable def c58 : Ctr := { ins := [.v Ty133, .v .str], out := [(.int .i64)], F := fun x => g58 x.1 x.2.1 }
theorem v58 : LoopsOk Try.prog Γ t58 a58 (loopsIn (Try.f58.body.getD .skip) 0) := loopsOk_nil (by kernel_rfl)
theorem r58 (x : InsT c58.ins) : fnK Try.prog Γ t58 a58 Try.f58 c58 x = g58 x.1 x.2.1 := by kernel_rfl
theorem k58 : TblOk Try.prog t58 := tblOk_cons o60_94 (tblOk_nil)
theorem o58 : Holds Try.prog 58 c58 := fn_holds (code := Try.f58.body.getD .skip) (by kernel_rfl) gamOk k58 Try.func58 (by kernel_rfl) (by kernel_rfl) (by kernel_rfl) (by kernel_rfl) v58 (fun x _ h => (r58 x).trans h)
/-! ### 109: loop.example/g00076/impl.isPolicy -/
noncomputable def t109 : Tbl := [(79, [], c79)]
noncomputable def a109 : Nat → Option LoopAnn := fun _ => none
noncomputable def g109 (x0 : (Int × (Int × Unit))) : Option ((Bool × Unit) × Unit) :=
  bif (x0.1 == (1 : Int)) then
    some (((f79 x0.2.1 (0 : Int) (100 : Int)), ()), ())
  else
    bif (x0.1 == (0 : Int)) then
      some (((x0.2.1 == (0 : Int)), ()), ())
    else
      bif (x0.1 == (2 : Int)) then
        some (((x0.2.1 == (0 : Int)), ()), ())
      else
        some ((false, ()), ())
noncomputable def f109 (x0 : (Int × (Int × Unit))) : Bool :=
  bif (x0.1 == (1 : Int)) then
    (f79 x0.2.1 (0 : Int) (100 : Int))
  else
    bif (x0.1 == (0 : Int)) then
      (x0.2.1 == (0 : Int))
    else
      bif (x0.1 == (2 : Int)) then
        (x0.2.1 == (0 : Int))
      else
        false
theorem n109 (x0 : (Int × (Int × Unit))) : g109 x0 = some ((f109 x0, ()), ()) := by
  simp only [g109, f109, pull1]
noncomputable def c109 : Ctr := { ins := [.v Ty23], out := [.bool], F := fun x => some ((f109 x.1, ()), ()) }
theorem v109 : LoopsOk Try.prog Γ t109 a109 (loopsIn (Try.f109.body.getD .skip) 0) := loopsOk_nil (by kernel_rfl)
theorem r109 (x : InsT c109.ins) : fnK Try.prog Γ t109 a109 Try.f109 c109 x = g109 x.1 := by kernel_rfl
theorem k109 : TblOk Try.prog t109 := tblOk_cons o79 (tblOk_nil)
theorem o109 : Holds Try.prog 109 c109 := fn_holds (code := Try.f109.body.getD .skip) (by kernel_rfl) gamOk k109 Try.func109 (by kernel_rfl) (by kernel_rfl) (by kernel_rfl) (by kernel_rfl) v109 (fun x _ h => (r109 x).trans ((n109 x.1).trans h))
/-! ### 110: loop.example/g00076/impl.isWindow -/
noncomputable def t110 : Tbl := [(79, [], c79)]
noncomputable def a110 : Nat → Option LoopAnn := fun _ => none
noncomputable def g110 (x0 : Ta4) : Option ((Bool × Unit) × Unit) :=
  bif (f79 x0.2.1 (4 : Int) (2048 : Int)) then
    bif ((Int.tmod x0.2.1 (4 : Int)) == (0 : Int)) then
      bif (f79 x0.1 (0 : Int) (wI ((2048 : Int) - x0.2.1))) then
        bif ((Int.tmod x0.1 (4 : Int)) == (0 : Int)) then
          some (((f79 x0.2.2.1 (1 : Int) (7 : Int)), ()), ())
        else
          some ((false, ()), ())
      else
        some ((false, ()), ())
    else
      some ((false, ()), ())
  else
    some ((false, ()), ())
noncomputable def f110 (x0 : Ta4) : Bool :=
  bif (f79 x0.2.1 (4 : Int) (2048 : Int)) then
    bif ((Int.tmod x0.2.1 (4 : Int)) == (0 : Int)) then
      bif (f79 x0.1 (0 : Int) (wI ((2048 : Int) - x0.2.1))) then
        bif ((Int.tmod x0.1 (4 : Int)) == (0 : Int)) then
          (f79 x0.2.2.1 (1 : Int) (7 : Int))
        else
          false
      else
        false
    else
      false
  else
    false
theorem n110 (x0 : Ta4) : g110 x0 = some ((f110 x0, ()), ()) := by
  simp only [g110, f110, pull1]
noncomputable def c110 : Ctr := { ins := [.v Ty40], out := [.bool], F := fun x => some ((f110 x.1, ()), ()) }
theorem v110 : LoopsOk Try.prog Γ t110 a110 (loopsIn (Try.f110.body.getD .skip) 0) := loopsOk_nil (by kernel_rfl)
theorem r110 (x : InsT c110.ins) : fnK Try.prog Γ t110 a110 Try.f110 c110 x = g110 x.1 := by kernel_rfl
theorem k110 : TblOk Try.prog t110 := tblOk_cons o79 (tblOk_nil)
theorem o110 : Holds Try.prog 110 c110 := fn_holds (code := Try.f110.body.getD .skip) (by kernel_rfl) gamOk k110 Try.func110 (by kernel_rfl) (by kernel_rfl) (by kernel_rfl) (by kernel_rfl) v110 (fun x _ h => (r110 x).trans ((n110 x.1).trans h))
/-! ### 113: loop.example/g00076/impl.areApart -/
noncomputable def t113 : Tbl := []
noncomputable def a113 : Nat → Option LoopAnn := fun _ => none
noncomputable def g113 (x0 : Ta4) (x1 : Ta4) : Option ((Bool × Unit) × Unit) :=
  bif (decide ((wI (x0.1 + x0.2.1)) ≤ x1.1)) then
    some ((true, ()), ())
  else
    some (((decide ((wI (x1.1 + x1.2.1)) ≤ x0.1)), ()), ())
noncomputable def f113 (x0 : Ta4) (x1 : Ta4) : Bool :=
  bif (decide ((wI (x0.1 + x0.2.1)) ≤ x1.1)) then
    true
  else
    (decide ((wI (x1.1 + x1.2.1)) ≤ x0.1))
theorem n113 (x0 : Ta4) (x1 : Ta4) : g113 x0 x1 = some ((f113 x0 x1, ()), ()) := by
  simp only [g113, f113, pull1]
noncomputable def c113 : Ctr := { ins := [.v Ty40, .v Ty40], out := [.bool], F := fun x => some ((f113 x.1 x.2.1, ()), ()) }
theorem v113 : LoopsOk Try.prog Γ t113 a113 (loopsIn (Try.f113.body.getD .skip) 0) := loopsOk_nil (by kernel_rfl)
theorem r113 (x : InsT c113.ins) : fnK Try.prog Γ t113 a113 Try.f113 c113 x = g113 x.1 x.2.1 := by kernel_rfl
theorem k113 : TblOk Try.prog t113 := tblOk_nil
theorem o113 : Holds Try.prog 113 c113 := fn_holds (code := Try.f113.body.getD .skip) (by kernel_rfl) gamOk k113 Try.func113 (by kernel_rfl) (by kernel_rfl) (by kernel_rfl) (by kernel_rfl) v113 (fun x _ h => (r113 x).trans ((n113 x.1 x.2.1).trans h))
/-! ### 112: loop.example/g00076/impl.areParts$1 -/
noncomputable def t112 : Tbl := [(113, [], c113)]
noncomputable def a112 : Nat → Option LoopAnn := fun _ => none
noncomputable def g112 (x0 : Ta4) (x1 : Ta4) : Option ((Bool × Unit) × Unit) :=
  some (((!(f113 x0 x1)), ()), ())
noncomputable def f112 (x0 : Ta4) (x1 : Ta4) : Bool :=
  (!(f113 x0 x1))
theorem n112 (x0 : Ta4) (x1 : Ta4) : g112 x0 x1 = some ((f112 x0 x1, ()), ()) := by
  simp only [g112, f112, pull1]
noncomputable def c112 : Ctr := { ins := [.v Ty40, .rf Ty40], out := [.bool], F := fun x => some ((f112 x.1 x.2.1, ()), ()) }
theorem v112 : LoopsOk Try.prog Γ t112 a112 (loopsIn (Try.f112.body.getD .skip) 0) := loopsOk_nil (by kernel_rfl)
theorem r112 (x : InsT c112.ins) : fnK Try.prog Γ t112 a112 Try.f112 c112 x = g112 x.1 x.2.1 := by kernel_rfl
theorem k112 : TblOk Try.prog t112 := tblOk_cons o113 (tblOk_nil)
theorem o112 : Holds Try.prog 112 c112 := fn_holds (code := Try.f112.body.getD .skip) (by kernel_rfl) gamOk k112 Try.func112 (by kernel_rfl) (by kernel_rfl) (by kernel_rfl) (by kernel_rfl) v112 (fun x _ h => (r112 x).trans ((n112 x.1 x.2.1).trans h))
/-! ### 96: slices.IndexFunc[[]loop.example/g00076/impl.Window,loop.example/g00076/impl.Window] -/
noncomputable def t96_112 : Tbl := [(112, [], c112)]
abbrev h96_112_L0 : Shape := { slots := [(0, .v Ty47), (1, .clo 112 [Ty40]), (7, .v (.int .i64)), (8, .v (.int .i64))], boxes := [] }
abbrev e96_112_L0 : List (XT × Shape) := [(.ret, { slots := [(4, .v (.int .i64))], boxes := [] }), (.exit 0, { slots := [], boxes := [] })]
noncomputable def q96_112_L0 (t0 : Ta9) (t1 : Ta15) (t7 : Int) (t8 : Int) : Option (Ta76 ⊕ (((Int × Unit) × Unit) ⊕ ((Unit × Unit) ⊕ Empty))) :=
  bif (decide (t8 < t7)) then
    bif (decide (0 ≤ t8) && decide (t8 < (t0.len : Int))) then
      bif (f112 (L.get t0 t8.toNat) t1.1) then
        some (.inr (.inl ((t8, ()), ())))
      else
        some (.inl ((t0, (t1, (t7, ((wI (t8 + (1 : Int))), ())))), ()))
    else
      none
  else
    some (.inr (.inr (.inl ((), ()))))
noncomputable def s96_112_L0 (x : Ta76) : Option (Ta76 ⊕ (((Int × Unit) × Unit) ⊕ ((Unit × Unit) ⊕ Empty))) := q96_112_L0 x.1.1 x.1.2.1 x.1.2.2.1 x.1.2.2.2.1
noncomputable def a96_112 : Nat → Option LoopAnn := fun c => bif Nat.beq c 0 then some (.fix h96_112_L0 e96_112_L0 s96_112_L0) else none
noncomputable def g96_112 (x0 : Ta9) (x1 : Ta15) : Option ((Int × Unit) × Unit) :=
  (fixO s96_112_L0 ((x0, (x1, ((x0.len : Int), ((0 : Int), ())))), ())).bind fun d2 => match d2 with
  | .inl y1 =>
    some ((y1.1.1, ()), ())
  | .inr (.inl y1) =>
    some (((-1 : Int), ()), ())
  | .inr (.inr e) => nomatch e
noncomputable def c96_112 : Ctr := { ins := [.v Ty47, .clo 112 [Ty40]], out := [(.int .i64)], F := fun x => g96_112 x.1 x.2.1 }
noncomputable def l96_112 : List (Nat × Code) := loopsIn (Try.f96.body.getD .skip) 0
theorem w96_112_L0 (x : h96_112_L0.T) : runK Try.prog Γ t96_112 a96_112 (l96_112.getD 0 (0, .skip)).2 0 (pkSh h96_112_L0 x) (loopCls (sh := h96_112_L0) (es := e96_112_L0)) = (s96_112_L0 x : Option _) := by kernel_rfl
theorem v96_112 : LoopsOk Try.prog Γ t96_112 a96_112 (loopsIn (Try.f96.body.getD .skip) 0) := by
  have e : loopsIn (Try.f96.body.getD .skip) 0 = [(0, (l96_112.getD 0 (0, .skip)).2)] := by kernel_rfl
  rw [e]
  exact ⟨fun x d h => (w96_112_L0 x).trans h, trivial⟩
theorem r96_112 (x : InsT c96_112.ins) : fnK Try.prog Γ t96_112 a96_112 Try.f96 c96_112 x = g96_112 x.1 x.2.1 := by kernel_rfl
theorem k96_112 : TblOk Try.prog t96_112 := tblOk_cons o112 (tblOk_nil)
theorem o96_112 : Holds Try.prog 96 c96_112 := fn_holds (code := Try.f96.body.getD .skip) (by kernel_rfl) gamOk k96_112 Try.func96 (by kernel_rfl) (by kernel_rfl) (by kernel_rfl) (by kernel_rfl) v96_112 (fun x _ h => (r96_112 x).trans h)
/-! ### 111: slices.ContainsFunc[[]loop.example/g00076/impl.Window,loop.example/g00076/impl.Window] -/
noncomputable def t111_112 : Tbl := [(96, [112], c96_112)]
noncomputable def a111_112 : Nat → Option LoopAnn := fun _ => none
noncomputable def g111_112 (x0 : Ta9) (x1 : Ta15) : Option ((Bool × Unit) × Unit) :=
  (g96_112 x0 x1).bind fun y1 =>
    some (((decide (y1.1.1 ≥ (0 : Int))), ()), ())
noncomputable def c111_112 : Ctr := { ins := [.v Ty47, .clo 112 [Ty40]], out := [.bool], F := fun x => g111_112 x.1 x.2.1 }
theorem v111_112 : LoopsOk Try.prog Γ t111_112 a111_112 (loopsIn (Try.f111.body.getD .skip) 0) := loopsOk_nil (by kernel_rfl)
theorem r111_112 (x : InsT c111_112.ins) : fnK Try.prog Γ t111_112 a111_112 Try.f111 c111_112 x = g111_112 x.1 x.2.1 := by kernel_rfl
theorem k111_112 : TblOk Try.prog t111_112 := tblOk_cons o96_112 (tblOk_nil)
theorem o111_112 : Holds Try.prog 111 c111_112 := fn_holds (code := Try.f111.body.getD .skip) (by kernel_rfl) gamOk k111_112 Try.func111 (by kernel_rfl) (by kernel_rfl) (by kernel_rfl) (by kernel_rfl) v111_112 (fun x _ h => (r111_112 x).trans h)
/-! ### 97: loop.example/g00076/impl.windowAt$1 -/
noncomputable def t97 : Tbl := []
noncomputable def a97 : Nat → Option LoopAnn := fun _ => none
noncomputable def g97 (x0 : Ta4) (x1 : Int) : Option ((Bool × Unit) × Unit) :=
  bif (decide (x0.1 ≤ x1)) then
    some (((decide (x1 < (wI (x0.1 + x0.2.1)))), ()), ())
  else
    some ((false, ()), ())
noncomputable def f97 (x0 : Ta4) (x1 : Int) : Bool :=
  bif (decide (x0.1 ≤ x1)) then
    (decide (x1 < (wI (x0.1 + x0.2.1))))
  else
    false
theorem n97 (x0 : Ta4) (x1 : Int) : g97 x0 x1 = some ((f97 x0 x1, ()), ()) := by
  simp only [g97, f97, pull1]
noncomputable def c97 : Ctr := { ins := [.v Ty40, .rf (.int .i64)], out := [.bool], F := fun x => some ((f97 x.1 x.2.1, ()), ()) }
theorem v97 : LoopsOk Try.prog Γ t97 a97 (loopsIn (Try.f97.body.getD .skip) 0) := loopsOk_nil (by kernel_rfl)
theorem r97 (x : InsT c97.ins) : fnK Try.prog Γ t97 a97 Try.f97 c97 x = g97 x.1 x.2.1 := by kernel_rfl
theorem k97 : TblOk Try.prog t97 := tblOk_nil
theorem o97 : Holds Try.prog 97 c97 := fn_holds (code := Try.f97.body.getD .skip) (by kernel_rfl) gamOk k97 Try.func97 (by kernel_rfl) (by kernel_rfl) (by kernel_rfl) (by kernel_rfl) v97 (fun x _ h => (r97 x).trans ((n97 x.1 x.2.1).trans h))
/-! ### 96: slices.IndexFunc[[]loop.example/g00076/impl.Window,loop.example/g00076/impl.Window] -/
noncomputable def t96_97 : Tbl := [(97, [], c97)]
abbrev h96_97_L0 : Shape := { slots := [(0, .v Ty47), (1, .clo 97 [(.int .i64)]), (7, .v (.int .i64)), (8, .v (.int .i64))], boxes := [] }
abbrev e96_97_L0 : List (XT × Shape) := [(.ret, { slots := [(4, .v (.int .i64))], boxes := [] }), (.exit 0, { slots := [], boxes := [] })]
noncomputable def q96_97_L0 (t0 : Ta9) (t1 : (Int × Unit)) (t7 : Int) (t8 : Int) : Option (Ta57 ⊕ (((Int × Unit) × Unit) ⊕ ((Unit × Unit) ⊕ Empty))) :=
  bif (decide (t8 < t7)) then
    bif (decide (0 ≤ t8) && decide (t8 < (t0.len : Int))) then
      bif (f97 (L.get t0 t8.toNat) t1.1) then
        some (.inr (.inl ((t8, ()), ())))
      else
        some (.inl ((t0, (t1, (t7, ((wI (t8 + (1 : Int))), ())))), ()))
    else
      none
  else
    some (.inr (.inr (.inl ((), ()))))
noncomputable def s96_97_L0 (x : Ta57) : Option (Ta57 ⊕ (((Int × Unit) × Unit) ⊕ ((Unit × Unit) ⊕ Empty))) := q96_97_L0 x.1.1 x.1.2.1 x.1.2.2.1 x.1.2.2.2.1
noncomputable def a96_97 : Nat → Option LoopAnn := fun c => bif Nat.beq c 0 then some (.fix h96_97_L0 e96_97_L0 s96_97_L0) else none
noncomputable def g96_97 (x0 : Ta9) (x1 : (Int × Unit)) : Option ((Int × Unit) × Unit) :=
  (fixO s96_97_L0 ((x0, (x1, ((x0.len : Int), ((0 : Int), ())))), ())).bind fun d2 => match d2 with
  | .inl y1 =>
    some ((y1.1.1, ()), ())
  | .inr (.inl y1) =>
    some (((-1 : Int), ()), ())
  | .inr (.inr e) => nomatch e
noncomputable def c96_97 : Ctr := { ins := [.v Ty47, .clo 97 [(.int .i64)]], out := [(.int .i64)], F := fun x => g96_97 x.1 x.2.1 }
noncomputable def l96_97 : List (Nat × Code) := loopsIn (Try.f96.body.getD .skip) 0
theorem w96_97_L0 (x : h96_97_L0.T) : runK Try.prog Γ t96_97 a96_97 (l96_97.getD 0 (0, .skip)).2 0 (pkSh h96_97_L0 x) (loopCls (sh := h96_97_L0) (es := e96_97_L0)) = (s96_97_L0 x : Option _) := by kernel_rfl
theorem v96_97 : LoopsOk Try.prog Γ t96_97 a96_97 (loopsIn (Try.f96.body.getD .skip) 0) := by
  have e : loopsIn (Try.f96.body.getD .skip) 0 = [(0, (l96_97.getD 0 (0, .skip)).2)] := by kernel_rfl
  rw [e]
  exact ⟨fun x d h => (w96_97_L0 x).trans h, trivial⟩
theorem r96_97 (x : InsT c96_97.ins) : fnK Try.prog Γ t96_97 a96_97 Try.f96 c96_97 x = g96_97 x.1 x.2.1 := by kernel_rfl
theorem k96_97 : TblOk Try.prog t96_97 := tblOk_cons o97 (tblOk_nil)
theorem o96_97 : Holds Try.prog 96 c96_97 := fn_holds (code := Try.f96.body.getD .skip) (by kernel_rfl) gamOk k96_97 Try.func96 (by kernel_rfl) (by kernel_rfl) (by kernel_rfl) (by kernel_rfl) v96_97 (fun x _ h => (r96_97 x).trans h)
/-! ### 62: loop.example/g00076/impl.windowAt -/
noncomputable def t62 : Tbl := [(96, [97], c96_97)]
noncomputable def a62 : Nat → Option LoopAnn := fun _ => none
noncomputable def g62 (x0 : Ta9) (x1 : Int) : Option ((Int × Unit) × Unit) :=
  (g96_97 x0 (x1, ())).bind fun y1 =>
    some ((y1.1.1, ()), ())
noncomputable def c62 : Ctr := { ins := [.v Ty47, .v (.int .i64)], out := [(.int .i64)], F := fun x => g62 x.1 x.2.1 }
theorem v62 : LoopsOk Try.prog Γ t62 a62 (loopsIn (Try.f62.body.getD .skip) 0) := loopsOk_nil (by kernel_rfl)
theorem r62 (x : InsT c62.ins) : fnK Try.prog Γ t62 a62 Try.f62 c62 x = g62 x.1 x.2.1 := by kernel_rfl
theorem k62 : TblOk Try.prog t62 := tblOk_cons o96_97 (tblOk_nil)
theorem o62 : Holds Try.prog 62 c62 := fn_holds (code := Try.f62.body.getD .skip) (by kernel_rfl) gamOk k62 Try.func62 (by kernel_rfl) (by kernel_rfl) (by kernel_rfl) (by kernel_rfl) v62 (fun x _ h => (r62 x).trans h)
/-! ### 114: loop.example/g00076/impl.runsAt -/
noncomputable def t114 : Tbl := [(62, [], c62)]
noncomputable def a114 : Nat → Option LoopAnn := fun _ => none
noncomputable def g114 (x0 : Ta62) (x1 : Int) : Option ((Bool × Unit) × Unit) :=
  (g62 x0.2.2.2.1 x1).bind fun y1 =>
    bif (decide (y1.1.1 ≥ (0 : Int))) then
      bif (decide (0 ≤ y1.1.1) && decide (y1.1.1 < (x0.2.2.2.1.len : Int))) then
        some ((((andOf .i64 (L.get x0.2.2.2.1 y1.1.1.toNat).2.2.1 (4 : Int)) != (0 : Int)), ()), ())
      else
        none
    else
      some ((false, ()), ())
noncomputable def c114 : Ctr := { ins := [.v Ty97, .v (.int .i64)], out := [.bool], F := fun x => g114 x.1 x.2.1 }
theorem v114 : LoopsOk Try.prog Γ t114 a114 (loopsIn (Try.f114.body.getD .skip) 0) := loopsOk_nil (by kernel_rfl)
theorem r114 (x : InsT c114.ins) : fnK Try.prog Γ t114 a114 Try.f114 c114 x = g114 x.1 x.2.1 := by kernel_rfl
theorem k114 : TblOk Try.prog t114 := tblOk_cons o62 (tblOk_nil)
theorem o114 : Holds Try.prog 114 c114 := fn_holds (code := Try.f114.body.getD .skip) (by kernel_rfl) gamOk k114 Try.func114 (by kernel_rfl) (by kernel_rfl) (by kernel_rfl) (by kernel_rfl) v114 (fun x _ h => (r114 x).trans h)
/-! ### 83: loop.example/g00076/impl.areParts -/
noncomputable def t83 : Tbl := [(108, [], c108), (58, [], c58), (109, [], c109), (79, [], c79), (110, [], c110), (111, [112], c111_112), (114, [], c114)]
abbrev h83_L2 : Shape := { slots := [(1, .bx 1 0), (3, .ext Ty40 50003), (5, .bx 5 0), (9, .v Ty98), (10, .v (.int .i64)), (11, .v (.int .i64)), (42, .v Ty47), (43, .v (.int .i64)), (44, .v (.int .i64))], boxes := [(1, .typ Ty133), (5, .typ Ty97)] }
abbrev e83_L2 : List (XT × Shape) := [(.ret, { slots := [(2, .v .bool)], boxes := [] }), (.exit 2, { slots := [(1, .bx 1 0), (3, .ext Ty40 50003), (5, .bx 5 0), (9, .v Ty98), (10, .v (.int .i64)), (11, .v (.int .i64))], boxes := [(1, .typ Ty133), (5, .typ Ty97)] })]
noncomputable def q83_L2 (t3 : Ta9) (t9 : Ta65) (t10 : Int) (t11 : Int) (t42 : Ta9) (t43 : Int) (t44 : Int) (b1 : Ta114) (b5 : Ta62) : Option (Ta131 ⊕ (((Bool × Unit) × Unit) ⊕ (((Unit × (Ta9 × (Unit × Ta79))) × Ta125) ⊕ Empty))) :=
  bif (decide (t44 < t43)) then
    bif (decide (0 ≤ t44) && decide (t44 < (t42.len : Int))) then
      bif (!(f110 (L.get t42 t44.toNat))) then
        some (.inr (.inl ((false, ()), ())))
      else
        bif (decide ((wI ((L.get t42 t44.toNat).1 + (L.get t42 t44.toNat).2.1)) > b1.1)) then
          some (.inr (.inl ((false, ()), ())))
        else
          (g111_112 t3 ((L.get t42 t44.toNat), ())).bind fun y3 =>
            bif y3.1.1 then
              some (.inr (.inl ((false, ()), ())))
            else
              bif (decide (t3.len + (L.of (Ty.zero Ty40) [(L.get t42 t44.toNat)]).len ≤ most)) then
                some (.inl (((), ((L.app t3 (L.of (Ty.zero Ty40) [(L.get t42 t44.toNat)])), ((), (t9, (t10, (t11, (t42, (t43, ((wI (t44 + (1 : Int))), ()))))))))), (b1, (b5, ()))))
              else
                none
    else
      none
  else
    some (.inr (.inr (.inl (((), (t3, ((), (t9, (t10, (t11, ())))))), (b1, (b5, ()))))))
noncomputable def s83_L2 (x : Ta131) : Option (Ta131 ⊕ (((Bool × Unit) × Unit) ⊕ (((Unit × (Ta9 × (Unit × Ta79))) × Ta125) ⊕ Empty))) := q83_L2 x.1.2.1 x.1.2.2.2.1 x.1.2.2.2.2.1 x.1.2.2.2.2.2.1 x.1.2.2.2.2.2.2.1 x.1.2.2.2.2.2.2.2.1 x.1.2.2.2.2.2.2.2.2.1 x.2.1 x.2.2.1
abbrev h83_L0 : Shape := { slots := [(1, .bx 1 0), (3, .ext Ty40 50003), (9, .v Ty98), (10, .v (.int .i64)), (11, .v (.int .i64))], boxes := [(1, .typ Ty133)] }
abbrev e83_L0 : List (XT × Shape) := [(.ret, { slots := [(2, .v .bool)], boxes := [] }), (.exit 0, { slots := [], boxes := [] })]
noncomputable def q83_L0 (t3 : Ta9) (t9 : Ta65) (t10 : Int) (t11 : Int) (b1 : Ta114) : Option (Ta128 ⊕ (((Bool × Unit) × Unit) ⊕ ((Unit × Unit) ⊕ Empty))) :=
  bif (decide (t11 < t10)) then
    bif (decide (0 ≤ t11) && decide (t11 < (t9.len : Int))) then
      (g108 (L.get t9 t11.toNat).1).bind fun y1 =>
        bif (!y1.1.1) then
          some (.inr (.inl ((false, ()), ())))
        else
          (g58 b1 (L.get t9 t11.toNat).1).bind fun y2 =>
            bif (decide (y2.1.1 < t11)) then
              some (.inr (.inl ((false, ()), ())))
            else
              bif (!(f109 (L.get t9 t11.toNat).2.2.1)) then
                some (.inr (.inl ((false, ()), ())))
              else
                bif (!(f79 ((L.get t9 t11.toNat).2.2.2.1.len : Int) (1 : Int) (4 : Int))) then
                  some (.inr (.inl ((false, ()), ())))
                else
                  (fixO s83_L2 (((), (t3, ((), (t9, (t10, (t11, ((L.get t9 t11.toNat).2.2.2.1, (((L.get t9 t11.toNat).2.2.2.1.len : Int), ((0 : Int), ()))))))))), (b1, ((L.get t9 t11.toNat), ())))).bind fun d6 => match d6 with
                  | .inl y4 =>
                    some (.inr (.inl y4))
                  | .inr (.inl y4) =>
                    bif ((Int.tmod y4.2.2.1.2.1 (4 : Int)) != (0 : Int)) then
                      some (.inr (.inl ((false, ()), ())))
                    else
                      (g114 y4.2.2.1 y4.2.2.1.2.1).bind fun y5 =>
                        bif (!y5.1.1) then
                          some (.inr (.inl ((false, ()), ())))
                        else
                          some (.inl (((), (y4.1.2.1, (y4.1.2.2.2.1, (y4.1.2.2.2.2.1, ((wI (y4.1.2.2.2.2.2.1 + (1 : Int))), ()))))), (y4.2.1, ())))
                  | .inr (.inr e) => nomatch e
    else
      none
  else
    some (.inr (.inr (.inl ((), ()))))
noncomputable def s83_L0 (x : Ta128) : Option (Ta128 ⊕ (((Bool × Unit) × Unit) ⊕ ((Unit × Unit) ⊕ Empty))) := q83_L0 x.1.2.1 x.1.2.2.1 x.1.2.2.2.1 x.1.2.2.2.2.1 x.2.1
noncomputable def a83 : Nat → Option LoopAnn := fun c => bif Nat.beq c 2 then some (.fix h83_L2 e83_L2 s83_L2) else bif Nat.beq c 0 then some (.fix h83_L0 e83_L0 s83_L0) else none
noncomputable def g83 (x0 : Ta114) : Option ((Bool × Unit) × Unit) :=
  (fixO s83_L0 (((), ((nilL Ty40), (x0.2.2.2.2.2.2.2.1, ((x0.2.2.2.2.2.2.2.1.len : Int), ((0 : Int), ()))))), (x0, ()))).bind fun d8 => match d8 with
  | .inl y7 =>
    some ((y7.1.1, ()), ())
  | .inr (.inl y7) =>
    some ((true, ()), ())
  | .inr (.inr e) => nomatch e
noncomputable def c83 : Ctr := { ins := [.v Ty133], out := [.bool], F := fun x => g83 x.1 }
noncomputable def l83 : List (Nat × Code) := loopsIn (Try.f83.body.getD .skip) 0
theorem w83_L2 (x : h83_L2.T) : runK Try.prog Γ t83 a83 (l83.getD 1 (0, .skip)).2 2 (pkSh h83_L2 x) (loopCls (sh := h83_L2) (es := e83_L2)) = (s83_L2 x : Option _) := by kernel_rfl
theorem w83_L0 (x : h83_L0.T) : runK Try.prog Γ t83 a83 (l83.getD 0 (0, .skip)).2 0 (pkSh h83_L0 x) (loopCls (sh := h83_L0) (es := e83_L0)) = (s83_L0 x : Option _) := by kernel_rfl
theorem v83 : LoopsOk Try.prog Γ t83 a83 (loopsIn (Try.f83.body.getD .skip) 0) := by
  have e : loopsIn (Try.f83.body.getD .skip) 0 = [(0, (l83.getD 0 (0, .skip)).2), (2, (l83.getD 1 (0, .skip)).2)] := by kernel_rfl
  rw [e]
  exact ⟨fun x d h => (w83_L0 x).trans h, fun x d h => (w83_L2 x).trans h, trivial⟩
theorem r83 (x : InsT c83.ins) : fnK Try.prog Γ t83 a83 Try.f83 c83 x = g83 x.1 := by kernel_rfl
theorem k83 : TblOk Try.prog t83 := tblOk_cons o108 (tblOk_cons o58 (tblOk_cons o109 (tblOk_cons o79 (tblOk_cons o110 (tblOk_cons o111_112 (tblOk_cons o114 (tblOk_nil)))))))
theorem o83 : Holds Try.prog 83 c83 := fn_holds (code := Try.f83.body.getD .skip) (by kernel_rfl) gamOk k83 Try.func83 (by kernel_rfl) (by kernel_rfl) (by kernel_rfl) (by kernel_rfl) v83 (fun x _ h => (r83 x).trans h)
/-! ### 85: loop.example/g00076/impl.isSound$1 -/
noncomputable def t85 : Tbl := [(79, [], c79)]
noncomputable def a85 : Nat → Option LoopAnn := fun _ => none
noncomputable def g85 (x0 : Int) (x1 : Int) : Option ((Bool × Unit) × Unit) :=
  some (((!(f79 x0 (0 : Int) (wI (x1 - (1 : Int))))), ()), ())
noncomputable def f85 (x0 : Int) (x1 : Int) : Bool :=
  (!(f79 x0 (0 : Int) (wI (x1 - (1 : Int)))))
theorem n85 (x0 : Int) (x1 : Int) : g85 x0 x1 = some ((f85 x0 x1, ()), ()) := by
  simp only [g85, f85, pull1]
noncomputable def c85 : Ctr := { ins := [.v (.int .i64), .rf (.int .i64)], out := [.bool], F := fun x => some ((f85 x.1 x.2.1, ()), ()) }
theorem v85 : LoopsOk Try.prog Γ t85 a85 (loopsIn (Try.f85.body.getD .skip) 0) := loopsOk_nil (by kernel_rfl)
theorem r85 (x : InsT c85.ins) : fnK Try.prog Γ t85 a85 Try.f85 c85 x = g85 x.1 x.2.1 := by kernel_rfl
theorem k85 : TblOk Try.prog t85 := tblOk_cons o79 (tblOk_nil)
theorem o85 : Holds Try.prog 85 c85 := fn_holds (code := Try.f85.body.getD .skip) (by kernel_rfl) gamOk k85 Try.func85 (by kernel_rfl) (by kernel_rfl) (by kernel_rfl) (by kernel_rfl) v85 (fun x _ h => (r85 x).trans ((n85 x.1 x.2.1).trans h))
/-! ### 115: slices.IndexFunc[[]int,int] -/
noncomputable def t115_85 : Tbl := [(85, [], c85)]
abbrev h115_85_L0 : Shape := { slots := [(0, .v (.sl (.int .i64))), (1, .clo 85 [(.int .i64)]), (7, .v (.int .i64)), (8, .v (.int .i64))], boxes := [] }
abbrev e115_85_L0 : List (XT × Shape) := [(.ret, { slots := [(4, .v (.int .i64))], boxes := [] }), (.exit 0, { slots := [], boxes := [] })]
noncomputable def q115_85_L0 (t0 : (L Int)) (t1 : (Int × Unit)) (t7 : Int) (t8 : Int) : Option (Ta36 ⊕ (((Int × Unit) × Unit) ⊕ ((Unit × Unit) ⊕ Empty))) :=
  bif (decide (t8 < t7)) then
    bif (decide (0 ≤ t8) && decide (t8 < (t0.len : Int))) then
      bif (f85 (L.get t0 t8.toNat) t1.1) then
        some (.inr (.inl ((t8, ()), ())))
      else
        some (.inl ((t0, (t1, (t7, ((wI (t8 + (1 : Int))), ())))), ()))
    else
      none
  else
    some (.inr (.inr (.inl ((), ()))))
noncomputable def s115_85_L0 (x : Ta36) : Option (Ta36 ⊕ (((Int × Unit) × Unit) ⊕ ((Unit × Unit) ⊕ Empty))) := q115_85_L0 x.1.1 x.1.2.1 x.1.2.2.1 x.1.2.2.2.1
noncomputable def a115_85 : Nat → Option LoopAnn := fun c => bif Nat.beq c 0 then some (.fix h115_85_L0 e115_85_L0 s115_85_L0) else none
noncomputable def g115_85 (x0 : (L Int)) (x1 : (Int × Unit)) : Option ((Int × Unit) × Unit) :=
  (fixO s115_85_L0 ((x0, (x1, ((x0.len : Int), ((0 : Int), ())))), ())).bind fun d2 => match d2 with
  | .inl y1 =>
    some ((y1.1.1, ()), ())
  | .inr (.inl y1) =>
    some (((-1 : Int), ()), ())
  | .inr (.inr e) => nomatch e
noncomputable def c115_85 : Ctr := { ins := [.v (.sl (.int .i64)), .clo 85 [(.int .i64)]], out := [(.int .i64)], F := fun x => g115_85 x.1 x.2.1 }
noncomputable def l115_85 : List (Nat × Code) := loopsIn (Try.f115.body.getD .skip) 0
theorem w115_85_L0 (x : h115_85_L0.T) : runK Try.prog Γ t115_85 a115_85 (l115_85.getD 0 (0, .skip)).2 0 (pkSh h115_85_L0 x) (loopCls (sh := h115_85_L0) (es := e115_85_L0)) = (s115_85_L0 x : Option _) := by kernel_rfl
theorem v115_85 : LoopsOk Try.prog Γ t115_85 a115_85 (loopsIn (Try.f115.body.getD .skip) 0) := by
  have e : loopsIn (Try.f115.body.getD .skip) 0 = [(0, (l115_85.getD 0 (0, .skip)).2)] := by kernel_rfl
  rw [e]
  exact ⟨fun x d h => (w115_85_L0 x).trans h, trivial⟩
theorem r115_85 (x : InsT c115_85.ins) : fnK Try.prog Γ t115_85 a115_85 Try.f115 c115_85 x = g115_85 x.1 x.2.1 := by kernel_rfl
theorem k115_85 : TblOk Try.prog t115_85 := tblOk_cons o85 (tblOk_nil)
theorem o115_85 : Holds Try.prog 115 c115_85 := fn_holds (code := Try.f115.body.getD .skip) (by kernel_rfl) gamOk k115_85 Try.func115 (by kernel_rfl) (by kernel_rfl) (by kernel_rfl) (by kernel_rfl) v115_85 (fun x _ h => (r115_85 x).trans h)
/-! ### 84: slices.ContainsFunc[[]int,int] -/
noncomputable def t84_85 : Tbl := [(115, [85], c115_85)]
noncomputable def a84_85 : Nat → Option LoopAnn := fun _ => none
noncomputable def g84_85 (x0 : (L Int)) (x1 : (Int × Unit)) : Option ((Bool × Unit) × Unit) :=
  (g115_85 x0 x1).bind fun y1 =>
    some (((decide (y1.1.1 ≥ (0 : Int))), ()), ())
noncomputable def c84_85 : Ctr := { ins := [.v (.sl (.int .i64)), .clo 85 [(.int .i64)]], out := [.bool], F := fun x => g84_85 x.1 x.2.1 }
theorem v84_85 : LoopsOk Try.prog Γ t84_85 a84_85 (loopsIn (Try.f84.body.getD .skip) 0) := loopsOk_nil (by kernel_rfl)
theorem r84_85 (x : InsT c84_85.ins) : fnK Try.prog Γ t84_85 a84_85 Try.f84 c84_85 x = g84_85 x.1 x.2.1 := by kernel_rfl
theorem k84_85 : TblOk Try.prog t84_85 := tblOk_cons o115_85 (tblOk_nil)
theorem o84_85 : Holds Try.prog 84 c84_85 := fn_holds (code := Try.f84.body.getD .skip) (by kernel_rfl) gamOk k84_85 Try.func84 (by kernel_rfl) (by kernel_rfl) (by kernel_rfl) (by kernel_rfl) v84_85 (fun x _ h => (r84_85 x).trans h)
/-! ### 88: loop.example/g00076/impl.isChan -/
noncomputable def t88 : Tbl := [(79, [], c79)]
noncomputable def a88 : Nat → Option LoopAnn := fun _ => none
noncomputable def g88 (x0 : Ta13) : Option ((Bool × Unit) × Unit) :=
  bif (!(f79 x0.2.1 (0 : Int) (5 : Int))) then
    some ((false, ()), ())
  else
    bif (!(f79 x0.2.2.1 (0 : Int) (5 : Int))) then
      some ((false, ()), ())
    else
      bif (x0.2.1 == x0.2.2.1) then
        some ((false, ()), ())
      else
        bif (x0.1 == (0 : Int)) then
          bif (x0.2.2.2.1 == (0 : Int)) then
            some ((true, ()), ())
          else
            bif (x0.1 == (1 : Int)) then
              some (((f79 x0.2.2.2.1 (1 : Int) (8 : Int)), ()), ())
            else
              some ((false, ()), ())
        else
          bif (x0.1 == (1 : Int)) then
            some (((f79 x0.2.2.2.1 (1 : Int) (8 : Int)), ()), ())
          else
            some ((false, ()), ())
noncomputable def f88 (x0 : Ta13) : Bool :=
  bif (!(f79 x0.2.1 (0 : Int) (5 : Int))) then
    false
  else
    bif (!(f79 x0.2.2.1 (0 : Int) (5 : Int))) then
      false
    else
      bif (x0.2.1 == x0.2.2.1) then
        false
      else
        bif (x0.1 == (0 : Int)) then
          bif (x0.2.2.2.1 == (0 : Int)) then
            true
          else
            bif (x0.1 == (1 : Int)) then
              (f79 x0.2.2.2.1 (1 : Int) (8 : Int))
            else
              false
        else
          bif (x0.1 == (1 : Int)) then
            (f79 x0.2.2.2.1 (1 : Int) (8 : Int))
          else
            false
theorem n88 (x0 : Ta13) : g88 x0 = some ((f88 x0, ()), ()) := by
  simp only [g88, f88, pull1]
noncomputable def c88 : Ctr := { ins := [.v Ty59], out := [.bool], F := fun x => some ((f88 x.1, ()), ()) }
theorem v88 : LoopsOk Try.prog Γ t88 a88 (loopsIn (Try.f88.body.getD .skip) 0) := loopsOk_nil (by kernel_rfl)
theorem r88 (x : InsT c88.ins) : fnK Try.prog Γ t88 a88 Try.f88 c88 x = g88 x.1 := by kernel_rfl
theorem k88 : TblOk Try.prog t88 := tblOk_cons o79 (tblOk_nil)
theorem o88 : Holds Try.prog 88 c88 := fn_holds (code := Try.f88.body.getD .skip) (by kernel_rfl) gamOk k88 Try.func88 (by kernel_rfl) (by kernel_rfl) (by kernel_rfl) (by kernel_rfl) v88 (fun x _ h => (r88 x).trans ((n88 x.1).trans h))
/-! ### 87: loop.example/g00076/impl.isSound$2 -/
noncomputable def t87 : Tbl := [(88, [], c88)]
noncomputable def a87 : Nat → Option LoopAnn := fun _ => none
noncomputable def g87 (x0 : Ta13) (x1 : Int) : Option ((Bool × Unit) × Unit) :=
  bif (!(f88 x0)) then
    some ((true, ()), ())
  else
    bif (decide (x0.2.1 ≥ x1)) then
      some ((true, ()), ())
    else
      some (((decide (x0.2.2.1 ≥ x1)), ()), ())
noncomputable def f87 (x0 : Ta13) (x1 : Int) : Bool :=
  bif (!(f88 x0)) then
    true
  else
    bif (decide (x0.2.1 ≥ x1)) then
      true
    else
      (decide (x0.2.2.1 ≥ x1))
theorem n87 (x0 : Ta13) (x1 : Int) : g87 x0 x1 = some ((f87 x0 x1, ()), ()) := by
  simp only [g87, f87, pull1]
noncomputable def c87 : Ctr := { ins := [.v Ty59, .rf (.int .i64)], out := [.bool], F := fun x => some ((f87 x.1 x.2.1, ()), ()) }
theorem v87 : LoopsOk Try.prog Γ t87 a87 (loopsIn (Try.f87.body.getD .skip) 0) := loopsOk_nil (by kernel_rfl)
theorem r87 (x : InsT c87.ins) : fnK Try.prog Γ t87 a87 Try.f87 c87 x = g87 x.1 x.2.1 := by kernel_rfl
theorem k87 : TblOk Try.prog t87 := tblOk_cons o88 (tblOk_nil)
theorem o87 : Holds Try.prog 87 c87 := fn_holds (code := Try.f87.body.getD .skip) (by kernel_rfl) gamOk k87 Try.func87 (by kernel_rfl) (by kernel_rfl) (by kernel_rfl) (by kernel_rfl) v87 (fun x _ h => (r87 x).trans ((n87 x.1 x.2.1).trans h))
/-! ### 116: slices.IndexFunc[[]loop.example/g00076/impl.ChanRow,loop.example/g00076/impl.ChanRow] -/
noncomputable def t116_87 : Tbl := [(87, [], c87)]
abbrev h116_87_L0 : Shape := { slots := [(0, .v Ty63), (1, .clo 87 [(.int .i64)]), (7, .v (.int .i64)), (8, .v (.int .i64))], boxes := [] }
abbrev e116_87_L0 : List (XT × Shape) := [(.ret, { slots := [(4, .v (.int .i64))], boxes := [] }), (.exit 0, { slots := [], boxes := [] })]
noncomputable def q116_87_L0 (t0 : Ta18) (t1 : (Int × Unit)) (t7 : Int) (t8 : Int) : Option (Ta64 ⊕ (((Int × Unit) × Unit) ⊕ ((Unit × Unit) ⊕ Empty))) :=
  bif (decide (t8 < t7)) then
    bif (decide (0 ≤ t8) && decide (t8 < (t0.len : Int))) then
      bif (f87 (L.get t0 t8.toNat) t1.1) then
        some (.inr (.inl ((t8, ()), ())))
      else
        some (.inl ((t0, (t1, (t7, ((wI (t8 + (1 : Int))), ())))), ()))
    else
      none
  else
    some (.inr (.inr (.inl ((), ()))))
noncomputable def s116_87_L0 (x : Ta64) : Option (Ta64 ⊕ (((Int × Unit) × Unit) ⊕ ((Unit × Unit) ⊕ Empty))) := q116_87_L0 x.1.1 x.1.2.1 x.1.2.2.1 x.1.2.2.2.1
noncomputable def a116_87 : Nat → Option LoopAnn := fun c => bif Nat.beq c 0 then some (.fix h116_87_L0 e116_87_L0 s116_87_L0) else none
noncomputable def g116_87 (x0 : Ta18) (x1 : (Int × Unit)) : Option ((Int × Unit) × Unit) :=
  (fixO s116_87_L0 ((x0, (x1, ((x0.len : Int), ((0 : Int), ())))), ())).bind fun d2 => match d2 with
  | .inl y1 =>
    some ((y1.1.1, ()), ())
  | .inr (.inl y1) =>
    some (((-1 : Int), ()), ())
  | .inr (.inr e) => nomatch e
noncomputable def c116_87 : Ctr := { ins := [.v Ty63, .clo 87 [(.int .i64)]], out := [(.int .i64)], F := fun x => g116_87 x.1 x.2.1 }
noncomputable def l116_87 : List (Nat × Code) := loopsIn (Try.f116.body.getD .skip) 0
theorem w116_87_L0 (x : h116_87_L0.T) : runK Try.prog Γ t116_87 a116_87 (l116_87.getD 0 (0, .skip)).2 0 (pkSh h116_87_L0 x) (loopCls (sh := h116_87_L0) (es := e116_87_L0)) = (s116_87_L0 x : Option _) := by kernel_rfl
theorem v116_87 : LoopsOk Try.prog Γ t116_87 a116_87 (loopsIn (Try.f116.body.getD .skip) 0) := by
  have e : loopsIn (Try.f116.body.getD .skip) 0 = [(0, (l116_87.getD 0 (0, .skip)).2)] := by kernel_rfl
  rw [e]
  exact ⟨fun x d h => (w116_87_L0 x).trans h, trivial⟩
theorem r116_87 (x : InsT c116_87.ins) : fnK Try.prog Γ t116_87 a116_87 Try.f116 c116_87 x = g116_87 x.1 x.2.1 := by kernel_rfl
theorem k116_87 : TblOk Try.prog t116_87 := tblOk_cons o87 (tblOk_nil)
theorem o116_87 : Holds Try.prog 116 c116_87 := fn_holds (code := Try.f116.body.getD .skip) (by kernel_rfl) gamOk k116_87 Try.func116 (by kernel_rfl) (by kernel_rfl) (by kernel_rfl) (by kernel_rfl) v116_87 (fun x _ h => (r116_87 x).trans h)
/-! ### 86: slices.ContainsFunc[[]loop.example/g00076/impl.ChanRow,loop.example/g00076/impl.ChanRow] -/
noncomputable def t86_87 : Tbl := [(116, [87], c116_87)]
noncomputable def a86_87 : Nat → Option LoopAnn := fun _ => none
noncomputable def g86_87 (x0 : Ta18) (x1 : (Int × Unit)) : Option ((Bool × Unit) × Unit) :=
  (g116_87 x0 x1).bind fun y1 =>
    some (((decide (y1.1.1 ≥ (0 : Int))), ()), ())
noncomputable def c86_87 : Ctr := { ins := [.v Ty63, .clo 87 [(.int .i64)]], out := [.bool], F := fun x => g86_87 x.1 x.2.1 }
theorem v86_87 : LoopsOk Try.prog Γ t86_87 a86_87 (loopsIn (Try.f86.body.getD .skip) 0) := loopsOk_nil (by kernel_rfl)
theorem r86_87 (x : InsT c86_87.ins) : fnK Try.prog Γ t86_87 a86_87 Try.f86 c86_87 x = g86_87 x.1 x.2.1 := by kernel_rfl
theorem k86_87 : TblOk Try.prog t86_87 := tblOk_cons o116_87 (tblOk_nil)
theorem o86_87 : Holds Try.prog 86 c86_87 := fn_holds (code := Try.f86.body.getD .skip) (by kernel_rfl) gamOk k86_87 Try.func86 (by kernel_rfl) (by kernel_rfl) (by kernel_rfl) (by kernel_rfl) v86_87 (fun x _ h => (r86_87 x).trans h)
/-! ### 93: loop.example/g00076/impl.depthOf -/
noncomputable def t93 : Tbl := []
noncomputable def a93 : Nat → Option LoopAnn := fun _ => none
noncomputable def g93 (x0 : Ta13) : Option ((Int × Unit) × Unit) :=
  some (((if x0.2.2.2.1 > (1 : Int) then x0.2.2.2.1 else (1 : Int)), ()), ())
noncomputable def f93 (x0 : Ta13) : Int :=
  (if x0.2.2.2.1 > (1 : Int) then x0.2.2.2.1 else (1 : Int))
theorem n93 (x0 : Ta13) : g93 x0 = some ((f93 x0, ()), ()) := by
  simp only [g93, f93, pull1]
noncomputable def c93 : Ctr := { ins := [.v Ty59], out := [(.int .i64)], F := fun x => some ((f93 x.1, ()), ()) }
theorem v93 : LoopsOk Try.prog Γ t93 a93 (loopsIn (Try.f93.body.getD .skip) 0) := loopsOk_nil (by kernel_rfl)
theorem r93 (x : InsT c93.ins) : fnK Try.prog Γ t93 a93 Try.f93 c93 x = g93 x.1 := by kernel_rfl
theorem k93 : TblOk Try.prog t93 := tblOk_nil
theorem o93 : Holds Try.prog 93 c93 := fn_holds (code := Try.f93.body.getD .skip) (by kernel_rfl) gamOk k93 Try.func93 (by kernel_rfl) (by kernel_rfl) (by kernel_rfl) (by kernel_rfl) v93 (fun x _ h => (r93 x).trans ((n93 x.1).trans h))
/-! ### 55: loop.example/g00076/impl.worstPad -/
noncomputable def t55 : Tbl := [(93, [], c93)]
abbrev h55_L0 : Shape := { slots := [(3, .bx 3 0), (7, .v (.int .i64)), (22, .v Ty63), (23, .v (.int .i64)), (24, .v (.int .i64))], boxes := [(3, .typ Ty87)] }
abbrev e55_L0 : List (XT × Shape) := [(.exit 0, { slots := [(7, .v (.int .i64))], boxes := [] })]
noncomputable def q55_L0 (t7 : Int) (t22 : Ta18) (t23 : Int) (t24 : Int) (b3 : Ta38) : Option (Ta93 ⊕ (((Int × Unit) × Unit) ⊕ Empty)) :=
  bif (decide (t24 < t23)) then
    bif (decide (0 ≤ t24) && decide (t24 < (t22.len : Int))) then
      some (.inl (((), ((wI (t7 + (wI (b3.1 * (f93 (L.get t22 t24.toNat)))))), (t22, (t23, ((wI (t24 + (1 : Int))), ()))))), (b3, ())))
    else
      none
  else
    some (.inr (.inl ((t7, ()), ())))
noncomputable def s55_L0 (x : Ta93) : Option (Ta93 ⊕ (((Int × Unit) × Unit) ⊕ Empty)) := q55_L0 x.1.2.1 x.1.2.2.1 x.1.2.2.2.1 x.1.2.2.2.2.1 x.2.1
noncomputable def a55 : Nat → Option LoopAnn := fun c => bif Nat.beq c 0 then some (.fix h55_L0 e55_L0 s55_L0) else none
noncomputable def g55 (x0 : Ta38) (x1 : Ta4) (x2 : Ta18) : Option ((Int × Unit) × Unit) :=
  (fixO s55_L0 (((), ((wI ((wI ((16 : Int) * x0.1)) + (wI ((wI (x1.1 * x1.2.1)) * x0.2.2.2.2.2.2.1)))), (x2, ((x2.len : Int), ((0 : Int), ()))))), (x0, ()))).bind fun d2 => match d2 with
  | .inl y1 =>
    some ((y1.1.1, ()), ())
  | .inr e => nomatch e
noncomputable def c55 : Ctr := { ins := [.v Ty87, .v Ty40, .v Ty63], out := [(.int .i64)], F := fun x => g55 x.1 x.2.1 x.2.2.1 }
noncomputable def l55 : List (Nat × Code) := loopsIn (Try.f55.body.getD .skip) 0
theorem w55_L0 (x : h55_L0.T) : runK Try.prog Γ t55 a55 (l55.getD 0 (0, .skip)).2 0 (pkSh h55_L0 x) (loopCls (sh := h55_L0) (es := e55_L0)) = (s55_L0 x : Option _) := by kernel_rfl
theorem v55 : LoopsOk Try.prog Γ t55 a55 (loopsIn (Try.f55.body.getD .skip) 0) := by
  have e : loopsIn (Try.f55.body.getD .skip) 0 = [(0, (l55.getD 0 (0, .skip)).2)] := by kernel_rfl
  rw [e]
  exact ⟨fun x d h => (w55_L0 x).trans h, trivial⟩
theorem r55 (x : InsT c55.ins) : fnK Try.prog Γ t55 a55 Try.f55 c55 x = g55 x.1 x.2.1 x.2.2.1 := by kernel_rfl
theorem k55 : TblOk Try.prog t55 := tblOk_cons o93 (tblOk_nil)
theorem o55 : Holds Try.prog 55 c55 := fn_holds (code := Try.f55.body.getD .skip) (by kernel_rfl) gamOk k55 Try.func55 (by kernel_rfl) (by kernel_rfl) (by kernel_rfl) (by kernel_rfl) v55 (fun x _ h => (r55 x).trans h)
/-! ### 117: loop.example/g00076/impl.isSlotAt -/
noncomputable def t117 : Tbl := []
noncomputable def a117 : Nat → Option LoopAnn := fun _ => none
noncomputable def g117 (x0 : Ta114) (x1 : Ta4) (x2 : Int) : Option ((Bool × Unit) × Unit) :=
  bif (decide (x1.2.2.1 > (wI (x0.2.2.2.2.1 + x0.2.2.2.2.2.1)))) then
    bif (decide (x1.2.2.1 ≤ x0.2.2.2.2.2.2.1)) then
      bif (decide (x1.2.1 ≥ x2)) then
        some (((decide (x1.2.1 ≤ (wI (x0.2.2.2.2.2.2.1 - x1.2.2.1)))), ()), ())
      else
        some ((false, ()), ())
    else
      some ((false, ()), ())
  else
    some ((false, ()), ())
noncomputable def f117 (x0 : Ta114) (x1 : Ta4) (x2 : Int) : Bool :=
  bif (decide (x1.2.2.1 > (wI (x0.2.2.2.2.1 + x0.2.2.2.2.2.1)))) then
    bif (decide (x1.2.2.1 ≤ x0.2.2.2.2.2.2.1)) then
      bif (decide (x1.2.1 ≥ x2)) then
        (decide (x1.2.1 ≤ (wI (x0.2.2.2.2.2.2.1 - x1.2.2.1))))
      else
        false
    else
      false
  else
    false
theorem n117 (x0 : Ta114) (x1 : Ta4) (x2 : Int) : g117 x0 x1 x2 = some ((f117 x0 x1 x2, ()), ()) := by
  simp only [g117, f117, pull1]
noncomputable def c117 : Ctr := { ins := [.v Ty133, .v Ty40, .v (.int .i64)], out := [.bool], F := fun x => some ((f117 x.1 x.2.1 x.2.2.1, ()), ()) }
theorem v117 : LoopsOk Try.prog Γ t117 a117 (loopsIn (Try.f117.body.getD .skip) 0) := loopsOk_nil (by kernel_rfl)
theorem r117 (x : InsT c117.ins) : fnK Try.prog Γ t117 a117 Try.f117 c117 x = g117 x.1 x.2.1 x.2.2.1 := by kernel_rfl
theorem k117 : TblOk Try.prog t117 := tblOk_nil
theorem o117 : Holds Try.prog 117 c117 := fn_holds (code := Try.f117.body.getD .skip) (by kernel_rfl) gamOk k117 Try.func117 (by kernel_rfl) (by kernel_rfl) (by kernel_rfl) (by kernel_rfl) v117 (fun x _ h => (r117 x).trans ((n117 x.1 x.2.1 x.2.2.1).trans h))
/-! ### 89: loop.example/g00076/impl.areSlots -/
noncomputable def t89 : Tbl := [(79, [], c79), (117, [], c117)]
abbrev h89_L0 : Shape := { slots := [(1, .bx 1 0), (3, .v (.int .i64)), (7, .v Ty47), (8, .v (.int .i64)), (9, .v (.int .i64))], boxes := [(1, .typ Ty133)] }
abbrev e89_L0 : List (XT × Shape) := [(.ret, { slots := [(2, .v .bool)], boxes := [] }), (.exit 0, { slots := [(1, .bx 1 0)], boxes := [(1, .typ Ty133)] })]
noncomputable def q89_L0 (t3 : Int) (t7 : Ta9) (t8 : Int) (t9 : Int) (b1 : Ta114) : Option (Ta123 ⊕ (((Bool × Unit) × Unit) ⊕ (Ta116 ⊕ Empty))) :=
  bif (decide (t9 < t8)) then
    bif (decide (0 ≤ t9) && decide (t9 < (t7.len : Int))) then
      bif (!(f79 (L.get t7 t9.toNat).1 (0 : Int) (wI ((b1.2.2.2.2.2.2.2.1.len : Int) - (1 : Int))))) then
        some (.inr (.inl ((false, ()), ())))
      else
        bif (!(f117 b1 (L.get t7 t9.toNat) t3)) then
          some (.inr (.inl ((false, ()), ())))
        else
          some (.inl (((), ((wI ((L.get t7 t9.toNat).2.1 + (L.get t7 t9.toNat).2.2.1)), (t7, (t8, ((wI (t9 + (1 : Int))), ()))))), (b1, ())))
    else
      none
  else
    some (.inr (.inr (.inl (((), ()), (b1, ())))))
noncomputable def s89_L0 (x : Ta123) : Option (Ta123 ⊕ (((Bool × Unit) × Unit) ⊕ (Ta116 ⊕ Empty))) := q89_L0 x.1.2.1 x.1.2.2.1 x.1.2.2.2.1 x.1.2.2.2.2.1 x.2.1
noncomputable def a89 : Nat → Option LoopAnn := fun c => bif Nat.beq c 0 then some (.fix h89_L0 e89_L0 s89_L0) else none
noncomputable def g89 (x0 : Ta114) : Option ((Bool × Unit) × Unit) :=
  (fixO s89_L0 (((), ((0 : Int), (x0.2.2.2.2.2.2.2.2.2.2.1, ((x0.2.2.2.2.2.2.2.2.2.2.1.len : Int), ((0 : Int), ()))))), (x0, ()))).bind fun d2 => match d2 with
  | .inl y1 =>
    some ((y1.1.1, ()), ())
  | .inr (.inl y1) =>
    some (((f79 (y1.2.1.2.2.2.2.2.2.2.2.2.2.1.len : Int) (1 : Int) (16 : Int)), ()), ())
  | .inr (.inr e) => nomatch e
noncomputable def c89 : Ctr := { ins := [.v Ty133], out := [.bool], F := fun x => g89 x.1 }
noncomputable def l89 : List (Nat × Code) := loopsIn (Try.f89.body.getD .skip) 0
theorem w89_L0 (x : h89_L0.T) : runK Try.prog Γ t89 a89 (l89.getD 0 (0, .skip)).2 0 (pkSh h89_L0 x) (loopCls (sh := h89_L0) (es := e89_L0)) = (s89_L0 x : Option _) := by kernel_rfl
theorem v89 : LoopsOk Try.prog Γ t89 a89 (loopsIn (Try.f89.body.getD .skip) 0) := by
  have e : loopsIn (Try.f89.body.getD .skip) 0 = [(0, (l89.getD 0 (0, .skip)).2)] := by kernel_rfl
  rw [e]
  exact ⟨fun x d h => (w89_L0 x).trans h, trivial⟩
theorem r89 (x : InsT c89.ins) : fnK Try.prog Γ t89 a89 Try.f89 c89 x = g89 x.1 := by kernel_rfl
theorem k89 : TblOk Try.prog t89 := tblOk_cons o79 (tblOk_cons o117 (tblOk_nil))
theorem o89 : Holds Try.prog 89 c89 := fn_holds (code := Try.f89.body.getD .skip) (by kernel_rfl) gamOk k89 Try.func89 (by kernel_rfl) (by kernel_rfl) (by kernel_rfl) (by kernel_rfl) v89 (fun x _ h => (r89 x).trans h)
/-! ### 47: loop.example/g00076/impl.isSound -/
noncomputable def t47 : Tbl := [(77, [], c77), (78, [], c78), (79, [], c79), (80, [], c80), (81, [], c81), (82, [], c82), (83, [], c83), (84, [85], c84_85), (86, [87], c86_87), (55, [], c55), (89, [], c89)]
noncomputable def a47 : Nat → Option LoopAnn := fun _ => none
noncomputable def g47 (x0 : Ta114) : Option ((Bool × Unit) × Unit) :=
  bif (!(f77 x0.1)) then
    some ((false, ()), ())
  else
    bif (!(f78 x0.2.1)) then
      some ((false, ()), ())
    else
      bif (!(f79 x0.2.2.1 (1 : Int) (8 : Int))) then
        some ((false, ()), ())
      else
        bif (!(f80 x0.2.2.2.1)) then
          some ((false, ()), ())
        else
          bif (!(f81 x0.2.2.2.2.1)) then
            some ((false, ()), ())
          else
            bif (!(f81 x0.2.2.2.2.2.1)) then
              some ((false, ()), ())
            else
              bif (!(f81 x0.2.2.2.2.2.2.1)) then
                some ((false, ()), ())
              else
                (g82 x0.2.2.2.1).bind fun y1 =>
                  bif (decide (x0.2.2.2.2.2.1 < y1.1.1)) then
                    some ((false, ()), ())
                  else
                    bif (!(f79 (x0.2.2.2.2.2.2.2.1.len : Int) (1 : Int) (6 : Int))) then
                      some ((false, ()), ())
                    else
                      (g83 x0).bind fun y2 =>
                        bif (!y2.1.1) then
                          some ((false, ()), ())
                        else
                          bif (decide ((x0.2.2.2.2.2.2.2.2.1.len : Int) > (8 : Int))) then
                            some ((false, ()), ())
                          else
                            (g84_85 x0.2.2.2.2.2.2.2.2.1 ((x0.2.2.2.2.2.2.2.1.len : Int), ())).bind fun y3 =>
                              bif y3.1.1 then
                                some ((false, ()), ())
                              else
                                bif (decide ((x0.2.2.2.2.2.2.2.2.2.1.len : Int) > (8 : Int))) then
                                  some ((false, ()), ())
                                else
                                  (g86_87 x0.2.2.2.2.2.2.2.2.2.1 ((x0.2.2.2.2.2.2.2.1.len : Int), ())).bind fun y4 =>
                                    bif y4.1.1 then
                                      some ((false, ()), ())
                                    else
                                      (g55 x0.2.2.2.1 x0.2.1 x0.2.2.2.2.2.2.2.2.2.1).bind fun y5 =>
                                        bif (decide (x0.2.2.2.2.1 < y5.1.1)) then
                                          some ((false, ()), ())
                                        else
                                          (g89 x0).bind fun y6 =>
                                            some ((y6.1.1, ()), ())
noncomputable def c47 : Ctr := { ins := [.v Ty133], out := [.bool], F := fun x => g47 x.1 }
theorem v47 : LoopsOk Try.prog Γ t47 a47 (loopsIn (Try.f47.body.getD .skip) 0) := loopsOk_nil (by kernel_rfl)
theorem r47 (x : InsT c47.ins) : fnK Try.prog Γ t47 a47 Try.f47 c47 x = g47 x.1 := by kernel_rfl
theorem k47 : TblOk Try.prog t47 := tblOk_cons o77 (tblOk_cons o78 (tblOk_cons o79 (tblOk_cons o80 (tblOk_cons o81 (tblOk_cons o82 (tblOk_cons o83 (tblOk_cons o84_85 (tblOk_cons o86_87 (tblOk_cons o55 (tblOk_cons o89 (tblOk_nil)))))))))))
theorem o47 : Holds Try.prog 47 c47 := fn_holds (code := Try.f47.body.getD .skip) (by kernel_rfl) gamOk k47 Try.func47 (by kernel_rfl) (by kernel_rfl) (by kernel_rfl) (by kernel_rfl) v47 (fun x _ h => (r47 x).trans h)
/-! ### 57: loop.example/g00076/impl.isCycle -/
noncomputable def t57 : Tbl := [(79, [], c79)]
noncomputable def a57 : Nat → Option LoopAnn := fun _ => none
noncomputable def g57 (x0 : Int) : Option ((Bool × Unit) × Unit) :=
  some (((f79 x0 (0 : Int) (50000 : Int)), ()), ())
noncomputable def f57 (x0 : Int) : Bool :=
  (f79 x0 (0 : Int) (50000 : Int))
theorem n57 (x0 : Int) : g57 x0 = some ((f57 x0, ()), ()) := by
  simp only [g57, f57, pull1]
noncomputable def c57 : Ctr := { ins := [.v (.int .i64)], out := [.bool], F := fun x => some ((f57 x.1, ()), ()) }
theorem v57 : LoopsOk Try.prog Γ t57 a57 (loopsIn (Try.f57.body.getD .skip) 0) := loopsOk_nil (by kernel_rfl)
theorem r57 (x : InsT c57.ins) : fnK Try.prog Γ t57 a57 Try.f57 c57 x = g57 x.1 := by kernel_rfl
theorem k57 : TblOk Try.prog t57 := tblOk_cons o79 (tblOk_nil)
theorem o57 : Holds Try.prog 57 c57 := fn_holds (code := Try.f57.body.getD .skip) (by kernel_rfl) gamOk k57 Try.func57 (by kernel_rfl) (by kernel_rfl) (by kernel_rfl) (by kernel_rfl) v57 (fun x _ h => (r57 x).trans ((n57 x.1).trans h))
/-! ### 65: loop.example/g00076/impl.nextSwitch -/
noncomputable def t65 : Tbl := []
abbrev h65_L0 : Shape := { slots := [(1, .v (.int .i64)), (2, .bx 2 0), (5, .v (.int .i64)), (15, .v Ty47), (16, .v (.int .i64)), (17, .v (.int .i64))], boxes := [(2, .typ Ty133)] }
abbrev e65_L0 : List (XT × Shape) := [(.ret, { slots := [(4, .v (.int .i64))], boxes := [] }), (.exit 0, { slots := [(2, .bx 2 0), (5, .v (.int .i64))], boxes := [(2, .typ Ty133)] })]
noncomputable def q65_L0 (t1 : Int) (t5 : Int) (t15 : Ta9) (t16 : Int) (t17 : Int) (b2 : Ta114) : Option (Ta124 ⊕ (((Int × Unit) × Unit) ⊕ (Ta117 ⊕ Empty))) :=
  bif (decide (t17 < t16)) then
    bif (decide (0 ≤ t17) && decide (t17 < (t15.len : Int))) then
      bif (decide ((wI (t5 + (L.get t15 t17.toNat).2.1)) ≥ t1)) then
        some (.inr (.inl (((wI (t5 + (L.get t15 t17.toNat).2.1)), ()), ())))
      else
        some (.inl ((t1, ((), (t5, (t15, (t16, ((wI (t17 + (1 : Int))), ())))))), (b2, ())))
    else
      none
  else
    some (.inr (.inr (.inl (((), (t5, ())), (b2, ())))))
noncomputable def s65_L0 (x : Ta124) : Option (Ta124 ⊕ (((Int × Unit) × Unit) ⊕ (Ta117 ⊕ Empty))) := q65_L0 x.1.1 x.1.2.2.1 x.1.2.2.2.1 x.1.2.2.2.2.1 x.1.2.2.2.2.2.1 x.2.1
noncomputable def a65 : Nat → Option LoopAnn := fun c => bif Nat.beq c 0 then some (.fix h65_L0 e65_L0 s65_L0) else none
noncomputable def g65 (x0 : Ta114) (x1 : Int) : Option ((Int × Unit) × Unit) :=
  bif (!decide (x0.2.2.2.2.2.2.1 = 0)) then
    (fixO s65_L0 ((x1, ((), ((wI (x1 - (Int.tmod x1 x0.2.2.2.2.2.2.1))), (x0.2.2.2.2.2.2.2.2.2.2.1, ((x0.2.2.2.2.2.2.2.2.2.2.1.len : Int), ((0 : Int), ())))))), (x0, ()))).bind fun d2 => match d2 with
    | .inl y1 =>
      some ((y1.1.1, ()), ())
    | .inr (.inl y1) =>
      bif (decide ((0 : Int) < (y1.2.1.2.2.2.2.2.2.2.2.2.2.1.len : Int))) then
        some (((wI ((wI (y1.1.2.1 + y1.2.1.2.2.2.2.2.2.1)) + (L.get y1.2.1.2.2.2.2.2.2.2.2.2.2.1 (0 : Int).toNat).2.1)), ()), ())
      else
        none
    | .inr (.inr e) => nomatch e
  else
    none
noncomputable def c65 : Ctr := { ins := [.v Ty133, .v (.int .i64)], out := [(.int .i64)], F := fun x => g65 x.1 x.2.1 }
noncomputable def l65 : List (Nat × Code) := loopsIn (Try.f65.body.getD .skip) 0
theorem w65_L0 (x : h65_L0.T) : runK Try.prog Γ t65 a65 (l65.getD 0 (0, .skip)).2 0 (pkSh h65_L0 x) (loopCls (sh := h65_L0) (es := e65_L0)) = (s65_L0 x : Option _) := by kernel_rfl
theorem v65 : LoopsOk Try.prog Γ t65 a65 (loopsIn (Try.f65.body.getD .skip) 0) := by
  have e : loopsIn (Try.f65.body.getD .skip) 0 = [(0, (l65.getD 0 (0, .skip)).2)] := by kernel_rfl
  rw [e]
  exact ⟨fun x d h => (w65_L0 x).trans h, trivial⟩
theorem r65 (x : InsT c65.ins) : fnK Try.prog Γ t65 a65 Try.f65 c65 x = g65 x.1 x.2.1 := by kernel_rfl
theorem k65 : TblOk Try.prog t65 := tblOk_nil
theorem o65 : Holds Try.prog 65 c65 := fn_holds (code := Try.f65.body.getD .skip) (by kernel_rfl) gamOk k65 Try.func65 (by kernel_rfl) (by kernel_rfl) (by kernel_rfl) (by kernel_rfl) v65 (fun x _ h => (r65 x).trans h)
/-! ### 32: loop.example/g00076/impl.NextSwitch -/
noncomputable def t32 : Tbl := [(47, [], c47), (57, [], c57), (65, [], c65)]
noncomputable def a32 : Nat → Option LoopAnn := fun _ => none
noncomputable def g32 (x0 : Ta114) (x1 : Int) : Option ((Int × Unit) × Unit) :=
  (g47 x0).bind fun y1 =>
    bif (!y1.1.1) then
      some (((-1 : Int), ()), ())
    else
      bif (!(f57 x1)) then
        some (((-1 : Int), ()), ())
      else
        (g65 x0 x1).bind fun y2 =>
          some ((y2.1.1, ()), ())
noncomputable def c32 : Ctr := { ins := [.v Ty133, .v (.int .i64)], out := [(.int .i64)], F := fun x => g32 x.1 x.2.1 }
theorem v32 : LoopsOk Try.prog Γ t32 a32 (loopsIn (Try.f32.body.getD .skip) 0) := loopsOk_nil (by kernel_rfl)
theorem r32 (x : InsT c32.ins) : fnK Try.prog Γ t32 a32 Try.f32 c32 x = g32 x.1 x.2.1 := by kernel_rfl
theorem k32 : TblOk Try.prog t32 := tblOk_cons o47 (tblOk_cons o57 (tblOk_cons o65 (tblOk_nil)))
theorem o32 : Holds Try.prog 32 c32 := fn_holds (code := Try.f32.body.getD .skip) (by kernel_rfl) gamOk k32 Try.func32 (by kernel_rfl) (by kernel_rfl) (by kernel_rfl) (by kernel_rfl) v32 (fun x _ h => (r32 x).trans h)
/-! ### 48: loop.example/g00076/laws.eqShape -/
noncomputable def t48 : Tbl := []
noncomputable def a48 : Nat → Option LoopAnn := fun _ => none
noncomputable def g48 (x0 : Ta4) (x1 : Ta4) : Option ((Bool × Unit) × Unit) :=
  bif (x0.1 != x1.1) then
    some ((false, ()), ())
  else
    bif (x0.2.1 != x1.2.1) then
      some ((false, ()), ())
    else
      bif (x0.2.2.1 != x1.2.2.1) then
        some ((false, ()), ())
      else
        some ((true, ()), ())
noncomputable def f48 (x0 : Ta4) (x1 : Ta4) : Bool :=
  bif (x0.1 != x1.1) then
    false
  else
    bif (x0.2.1 != x1.2.1) then
      false
    else
      bif (x0.2.2.1 != x1.2.2.1) then
        false
      else
        true
theorem n48 (x0 : Ta4) (x1 : Ta4) : g48 x0 x1 = some ((f48 x0 x1, ()), ()) := by
  simp only [g48, f48, pull1]
noncomputable def c48 : Ctr := { ins := [.v Ty40, .v Ty40], out := [.bool], F := fun x => some ((f48 x.1 x.2.1, ()), ()) }
theorem v48 : LoopsOk Try.prog Γ t48 a48 (loopsIn (Try.f48.body.getD .skip) 0) := loopsOk_nil (by kernel_rfl)
theorem r48 (x : InsT c48.ins) : fnK Try.prog Γ t48 a48 Try.f48 c48 x = g48 x.1 x.2.1 := by kernel_rfl
theorem k48 : TblOk Try.prog t48 := tblOk_nil
theorem o48 : Holds Try.prog 48 c48 := fn_holds (code := Try.f48.body.getD .skip) (by kernel_rfl) gamOk k48 Try.func48 (by kernel_rfl) (by kernel_rfl) (by kernel_rfl) (by kernel_rfl) v48 (fun x _ h => (r48 x).trans ((n48 x.1 x.2.1).trans h))
/-! ### 49: loop.example/g00076/laws.eqCosts -/
noncomputable def t49 : Tbl := []
noncomputable def a49 : Nat → Option LoopAnn := fun _ => none
noncomputable def g49 (x0 : Ta38) (x1 : Ta38) : Option ((Bool × Unit) × Unit) :=
  bif (x0.1 != x1.1) then
    some ((false, ()), ())
  else
    bif (x0.2.1 != x1.2.1) then
      some ((false, ()), ())
    else
      bif (x0.2.2.1 != x1.2.2.1) then
        some ((false, ()), ())
      else
        bif (x0.2.2.2.1 != x1.2.2.2.1) then
          some ((false, ()), ())
        else
          bif (x0.2.2.2.2.1 != x1.2.2.2.2.1) then
            some ((false, ()), ())
          else
            bif (x0.2.2.2.2.2.1 != x1.2.2.2.2.2.1) then
              some ((false, ()), ())
            else
              bif (x0.2.2.2.2.2.2.1 != x1.2.2.2.2.2.2.1) then
                some ((false, ()), ())
              else
                some ((true, ()), ())
noncomputable def f49 (x0 : Ta38) (x1 : Ta38) : Bool :=
  bif (x0.1 != x1.1) then
    false
  else
    bif (x0.2.1 != x1.2.1) then
      false
    else
      bif (x0.2.2.1 != x1.2.2.1) then
        false
      else
        bif (x0.2.2.2.1 != x1.2.2.2.1) then
          false
        else
          bif (x0.2.2.2.2.1 != x1.2.2.2.2.1) then
            false
          else
            bif (x0.2.2.2.2.2.1 != x1.2.2.2.2.2.1) then
              false
            else
              bif (x0.2.2.2.2.2.2.1 != x1.2.2.2.2.2.2.1) then
                false
              else
                true
theorem n49 (x0 : Ta38) (x1 : Ta38) : g49 x0 x1 = some ((f49 x0 x1, ()), ()) := by
  simp only [g49, f49, pull1]
noncomputable def c49 : Ctr := { ins := [.v Ty87, .v Ty87], out := [.bool], F := fun x => some ((f49 x.1 x.2.1, ()), ()) }
theorem v49 : LoopsOk Try.prog Γ t49 a49 (loopsIn (Try.f49.body.getD .skip) 0) := loopsOk_nil (by kernel_rfl)
theorem r49 (x : InsT c49.ins) : fnK Try.prog Γ t49 a49 Try.f49 c49 x = g49 x.1 x.2.1 := by kernel_rfl
theorem k49 : TblOk Try.prog t49 := tblOk_nil
theorem o49 : Holds Try.prog 49 c49 := fn_holds (code := Try.f49.body.getD .skip) (by kernel_rfl) gamOk k49 Try.func49 (by kernel_rfl) (by kernel_rfl) (by kernel_rfl) (by kernel_rfl) v49 (fun x _ h => (r49 x).trans ((n49 x.1 x.2.1).trans h))
/-! ### 118: loop.example/g00076/laws.eqPolicy -/
noncomputable def t118 : Tbl := []
noncomputable def a118 : Nat → Option LoopAnn := fun _ => none
noncomputable def g118 (x0 : (Int × (Int × Unit))) (x1 : (Int × (Int × Unit))) : Option ((Bool × Unit) × Unit) :=
  bif (x0.1 != x1.1) then
    some ((false, ()), ())
  else
    bif (x0.2.1 != x1.2.1) then
      some ((false, ()), ())
    else
      some ((true, ()), ())
noncomputable def f118 (x0 : (Int × (Int × Unit))) (x1 : (Int × (Int × Unit))) : Bool :=
  bif (x0.1 != x1.1) then
    false
  else
    bif (x0.2.1 != x1.2.1) then
      false
    else
      true
theorem n118 (x0 : (Int × (Int × Unit))) (x1 : (Int × (Int × Unit))) : g118 x0 x1 = some ((f118 x0 x1, ()), ()) := by
  simp only [g118, f118, pull1]
noncomputable def c118 : Ctr := { ins := [.v Ty23, .v Ty23], out := [.bool], F := fun x => some ((f118 x.1 x.2.1, ()), ()) }
theorem v118 : LoopsOk Try.prog Γ t118 a118 (loopsIn (Try.f118.body.getD .skip) 0) := loopsOk_nil (by kernel_rfl)
theorem r118 (x : InsT c118.ins) : fnK Try.prog Γ t118 a118 Try.f118 c118 x = g118 x.1 x.2.1 := by kernel_rfl
theorem k118 : TblOk Try.prog t118 := tblOk_nil
theorem o118 : Holds Try.prog 118 c118 := fn_holds (code := Try.f118.body.getD .skip) (by kernel_rfl) gamOk k118 Try.func118 (by kernel_rfl) (by kernel_rfl) (by kernel_rfl) (by kernel_rfl) v118 (fun x _ h => (r118 x).trans ((n118 x.1 x.2.1).trans h))
/-! ### 127: loop.example/g00076/laws.eqWindow -/
noncomputable def t127 : Tbl := []
noncomputable def a127 : Nat → Option LoopAnn := fun _ => none
noncomputable def g127 (x0 : Ta4) (x1 : Ta4) : Option ((Bool × Unit) × Unit) :=
  bif (x0.1 != x1.1) then
    some ((false, ()), ())
  else
    bif (x0.2.1 != x1.2.1) then
      some ((false, ()), ())
    else
      bif (x0.2.2.1 != x1.2.2.1) then
        some ((false, ()), ())
      else
        some ((true, ()), ())
noncomputable def f127 (x0 : Ta4) (x1 : Ta4) : Bool :=
  bif (x0.1 != x1.1) then
    false
  else
    bif (x0.2.1 != x1.2.1) then
      false
    else
      bif (x0.2.2.1 != x1.2.2.1) then
        false
      else
        true
theorem n127 (x0 : Ta4) (x1 : Ta4) : g127 x0 x1 = some ((f127 x0 x1, ()), ()) := by
  simp only [g127, f127, pull1]
noncomputable def c127 : Ctr := { ins := [.v Ty40, .v Ty40], out := [.bool], F := fun x => some ((f127 x.1 x.2.1, ()), ()) }
theorem v127 : LoopsOk Try.prog Γ t127 a127 (loopsIn (Try.f127.body.getD .skip) 0) := loopsOk_nil (by kernel_rfl)
theorem r127 (x : InsT c127.ins) : fnK Try.prog Γ t127 a127 Try.f127 c127 x = g127 x.1 x.2.1 := by kernel_rfl
theorem k127 : TblOk Try.prog t127 := tblOk_nil
theorem o127 : Holds Try.prog 127 c127 := fn_holds (code := Try.f127.body.getD .skip) (by kernel_rfl) gamOk k127 Try.func127 (by kernel_rfl) (by kernel_rfl) (by kernel_rfl) (by kernel_rfl) v127 (fun x _ h => (r127 x).trans ((n127 x.1 x.2.1).trans h))
/-! ### 119: loop.example/g00076/laws.eqWindowS -/
noncomputable def t119 : Tbl := [(127, [], c127)]
abbrev h119_L0 : Shape := { slots := [(0, .v Ty47), (1, .v Ty47), (5, .v (.int .i64))], boxes := [] }
abbrev e119_L0 : List (XT × Shape) := [(.ret, { slots := [(4, .v .bool)], boxes := [] }), (.exit 0, { slots := [], boxes := [] })]
noncomputable def q119_L0 (t0 : Ta9) (t1 : Ta9) (t5 : Int) : Option (Ta67 ⊕ (((Bool × Unit) × Unit) ⊕ ((Unit × Unit) ⊕ Empty))) :=
  bif (decide (t5 < (t0.len : Int))) then
    bif (decide (0 ≤ t5) && decide (t5 < (t0.len : Int))) then
      bif (decide (0 ≤ t5) && decide (t5 < (t1.len : Int))) then
        bif (!(f127 (L.get t0 t5.toNat) (L.get t1 t5.toNat))) then
          some (.inr (.inl ((false, ()), ())))
        else
          some (.inl ((t0, (t1, ((wI (t5 + (1 : Int))), ()))), ()))
      else
        none
    else
      none
  else
    some (.inr (.inr (.inl ((), ()))))
noncomputable def s119_L0 (x : Ta67) : Option (Ta67 ⊕ (((Bool × Unit) × Unit) ⊕ ((Unit × Unit) ⊕ Empty))) := q119_L0 x.1.1 x.1.2.1 x.1.2.2.1
noncomputable def a119 : Nat → Option LoopAnn := fun c => bif Nat.beq c 0 then some (.fix h119_L0 e119_L0 s119_L0) else none
noncomputable def g119 (x0 : Ta9) (x1 : Ta9) : Option ((Bool × Unit) × Unit) :=
  bif ((x0.len : Int) != (x1.len : Int)) then
    some ((false, ()), ())
  else
    (fixO s119_L0 ((x0, (x1, ((0 : Int), ()))), ())).bind fun d2 => match d2 with
    | .inl y1 =>
      some ((y1.1.1, ()), ())
    | .inr (.inl y1) =>
      some ((true, ()), ())
    | .inr (.inr e) => nomatch e
noncomputable def c119 : Ctr := { ins := [.v Ty47, .v Ty47], out := [.bool], F := fun x => g119 x.1 x.2.1 }
noncomputable def l119 : List (Nat × Code) := loopsIn (Try.f119.body.getD .skip) 0
theorem w119_L0 (x : h119_L0.T) : runK Try.prog Γ t119 a119 (l119.getD 0 (0, .skip)).2 0 (pkSh h119_L0 x) (loopCls (sh := h119_L0) (es := e119_L0)) = (s119_L0 x : Option _) := by kernel_rfl
theorem v119 : LoopsOk Try.prog Γ t119 a119 (loopsIn (Try.f119.body.getD .skip) 0) := by
  have e : loopsIn (Try.f119.body.getD .skip) 0 = [(0, (l119.getD 0 (0, .skip)).2)] := by kernel_rfl
  rw [e]
  exact ⟨fun x d h => (w119_L0 x).trans h, trivial⟩
theorem r119 (x : InsT c119.ins) : fnK Try.prog Γ t119 a119 Try.f119 c119 x = g119 x.1 x.2.1 := by kernel_rfl
theorem k119 : TblOk Try.prog t119 := tblOk_cons o127 (tblOk_nil)
theorem o119 : Holds Try.prog 119 c119 := fn_holds (code := Try.f119.body.getD .skip) (by kernel_rfl) gamOk k119 Try.func119 (by kernel_rfl) (by kernel_rfl) (by kernel_rfl) (by kernel_rfl) v119 (fun x _ h => (r119 x).trans h)
/-! ### 90: loop.example/g00076/laws.eqPartRow -/
noncomputable def t90 : Tbl := [(118, [], c118), (119, [], c119)]
noncomputable def a90 : Nat → Option LoopAnn := fun _ => none
noncomputable def g90 (x0 : Ta62) (x1 : Ta62) : Option ((Bool × Unit) × Unit) :=
  bif (!strEq x0.1 x1.1) then
    some ((false, ()), ())
  else
    bif (x0.2.1 != x1.2.1) then
      some ((false, ()), ())
    else
      bif (!(f118 x0.2.2.1 x1.2.2.1)) then
        some ((false, ()), ())
      else
        (g119 x0.2.2.2.1 x1.2.2.2.1).bind fun y1 =>
          bif (!y1.1.1) then
            some ((false, ()), ())
          else
            some ((true, ()), ())
noncomputable def c90 : Ctr := { ins := [.v Ty97, .v Ty97], out := [.bool], F := fun x => g90 x.1 x.2.1 }
theorem v90 : LoopsOk Try.prog Γ t90 a90 (loopsIn (Try.f90.body.getD .skip) 0) := loopsOk_nil (by kernel_rfl)
theorem r90 (x : InsT c90.ins) : fnK Try.prog Γ t90 a90 Try.f90 c90 x = g90 x.1 x.2.1 := by kernel_rfl
theorem k90 : TblOk Try.prog t90 := tblOk_cons o118 (tblOk_cons o119 (tblOk_nil))
theorem o90 : Holds Try.prog 90 c90 := fn_holds (code := Try.f90.body.getD .skip) (by kernel_rfl) gamOk k90 Try.func90 (by kernel_rfl) (by kernel_rfl) (by kernel_rfl) (by kernel_rfl) v90 (fun x _ h => (r90 x).trans h)
/-! ### 50: loop.example/g00076/laws.eqPartRowS -/
noncomputable def t50 : Tbl := [(90, [], c90)]
abbrev h50_L0 : Shape := { slots := [(0, .v Ty98), (1, .v Ty98), (5, .v (.int .i64))], boxes := [] }
abbrev e50_L0 : List (XT × Shape) := [(.ret, { slots := [(4, .v .bool)], boxes := [] }), (.exit 0, { slots := [], boxes := [] })]
noncomputable def q50_L0 (t0 : Ta65) (t1 : Ta65) (t5 : Int) : Option (Ta106 ⊕ (((Bool × Unit) × Unit) ⊕ ((Unit × Unit) ⊕ Empty))) :=
  bif (decide (t5 < (t0.len : Int))) then
    bif (decide (0 ≤ t5) && decide (t5 < (t0.len : Int))) then
      bif (decide (0 ≤ t5) && decide (t5 < (t1.len : Int))) then
        (g90 (L.get t0 t5.toNat) (L.get t1 t5.toNat)).bind fun y1 =>
          bif (!y1.1.1) then
            some (.inr (.inl ((false, ()), ())))
          else
            some (.inl ((t0, (t1, ((wI (t5 + (1 : Int))), ()))), ()))
      else
        none
    else
      none
  else
    some (.inr (.inr (.inl ((), ()))))
noncomputable def s50_L0 (x : Ta106) : Option (Ta106 ⊕ (((Bool × Unit) × Unit) ⊕ ((Unit × Unit) ⊕ Empty))) := q50_L0 x.1.1 x.1.2.1 x.1.2.2.1
noncomputable def a50 : Nat → Option LoopAnn := fun c => bif Nat.beq c 0 then some (.fix h50_L0 e50_L0 s50_L0) else none
noncomputable def g50 (x0 : Ta65) (x1 : Ta65) : Option ((Bool × Unit) × Unit) :=
  bif ((x0.len : Int) != (x1.len : Int)) then
    some ((false, ()), ())
  else
    (fixO s50_L0 ((x0, (x1, ((0 : Int), ()))), ())).bind fun d3 => match d3 with
    | .inl y2 =>
      some ((y2.1.1, ()), ())
    | .inr (.inl y2) =>
      some ((true, ()), ())
    | .inr (.inr e) => nomatch e
noncomputable def c50 : Ctr := { ins := [.v Ty98, .v Ty98], out := [.bool], F := fun x => g50 x.1 x.2.1 }
noncomputable def l50 : List (Nat × Code) := loopsIn (Try.f50.body.getD .skip) 0
theorem w50_L0 (x : h50_L0.T) : runK Try.prog Γ t50 a50 (l50.getD 0 (0, .skip)).2 0 (pkSh h50_L0 x) (loopCls (sh := h50_L0) (es := e50_L0)) = (s50_L0 x : Option _) := by kernel_rfl
theorem v50 : LoopsOk Try.prog Γ t50 a50 (loopsIn (Try.f50.body.getD .skip) 0) := by
  have e : loopsIn (Try.f50.body.getD .skip) 0 = [(0, (l50.getD 0 (0, .skip)).2)] := by kernel_rfl
  rw [e]
  exact ⟨fun x d h => (w50_L0 x).trans h, trivial⟩
theorem r50 (x : InsT c50.ins) : fnK Try.prog Γ t50 a50 Try.f50 c50 x = g50 x.1 x.2.1 := by kernel_rfl
theorem k50 : TblOk Try.prog t50 := tblOk_cons o90 (tblOk_nil)
theorem o50 : Holds Try.prog 50 c50 := fn_holds (code := Try.f50.body.getD .skip) (by kernel_rfl) gamOk k50 Try.func50 (by kernel_rfl) (by kernel_rfl) (by kernel_rfl) (by kernel_rfl) v50 (fun x _ h => (r50 x).trans h)
/-! ### 51: loop.example/g00076/laws.eqIntS -/
noncomputable def t51 : Tbl := []
abbrev h51_L0 : Shape := { slots := [(0, .v (.sl (.int .i64))), (1, .v (.sl (.int .i64))), (5, .v (.int .i64))], boxes := [] }
abbrev e51_L0 : List (XT × Shape) := [(.ret, { slots := [(4, .v .bool)], boxes := [] }), (.exit 0, { slots := [], boxes := [] })]
noncomputable def q51_L0 (t0 : (L Int)) (t1 : (L Int)) (t5 : Int) : Option (Ta24 ⊕ (((Bool × Unit) × Unit) ⊕ ((Unit × Unit) ⊕ Empty))) :=
  bif (decide (t5 < (t0.len : Int))) then
    bif (decide (0 ≤ t5) && decide (t5 < (t0.len : Int))) then
      bif (decide (0 ≤ t5) && decide (t5 < (t1.len : Int))) then
        bif ((L.get t0 t5.toNat) != (L.get t1 t5.toNat)) then
          some (.inr (.inl ((false, ()), ())))
        else
          some (.inl ((t0, (t1, ((wI (t5 + (1 : Int))), ()))), ()))
      else
        none
    else
      none
  else
    some (.inr (.inr (.inl ((), ()))))
noncomputable def s51_L0 (x : Ta24) : Option (Ta24 ⊕ (((Bool × Unit) × Unit) ⊕ ((Unit × Unit) ⊕ Empty))) := q51_L0 x.1.1 x.1.2.1 x.1.2.2.1
noncomputable def a51 : Nat → Option LoopAnn := fun c => bif Nat.beq c 0 then some (.fix h51_L0 e51_L0 s51_L0) else none
noncomputable def g51 (x0 : (L Int)) (x1 : (L Int)) : Option ((Bool × Unit) × Unit) :=
  bif ((x0.len : Int) != (x1.len : Int)) then
    some ((false, ()), ())
  else
    (fixO s51_L0 ((x0, (x1, ((0 : Int), ()))), ())).bind fun d2 => match d2 with
    | .inl y1 =>
      some ((y1.1.1, ()), ())
    | .inr (.inl y1) =>
      some ((true, ()), ())
    | .inr (.inr e) => nomatch e
noncomputable def c51 : Ctr := { ins := [.v (.sl (.int .i64)), .v (.sl (.int .i64))], out := [.bool], F := fun x => g51 x.1 x.2.1 }
noncomputable def l51 : List (Nat × Code) := loopsIn (Try.f51.body.getD .skip) 0
theorem w51_L0 (x : h51_L0.T) : runK Try.prog Γ t51 a51 (l51.getD 0 (0, .skip)).2 0 (pkSh h51_L0 x) (loopCls (sh := h51_L0) (es := e51_L0)) = (s51_L0 x : Option _) := by kernel_rfl
theorem v51 : LoopsOk Try.prog Γ t51 a51 (loopsIn (Try.f51.body.getD .skip) 0) := by
  have e : loopsIn (Try.f51.body.getD .skip) 0 = [(0, (l51.getD 0 (0, .skip)).2)] := by kernel_rfl
  rw [e]
  exact ⟨fun x d h => (w51_L0 x).trans h, trivial⟩
theorem r51 (x : InsT c51.ins) : fnK Try.prog Γ t51 a51 Try.f51 c51 x = g51 x.1 x.2.1 := by kernel_rfl
theorem k51 : TblOk Try.prog t51 := tblOk_nil
theorem o51 : Holds Try.prog 51 c51 := fn_holds (code := Try.f51.body.getD .skip) (by kernel_rfl) gamOk k51 Try.func51 (by kernel_rfl) (by kernel_rfl) (by kernel_rfl) (by kernel_rfl) v51 (fun x _ h => (r51 x).trans h)
/-! ### 91: loop.example/g00076/laws.eqChanRow -/
noncomputable def t91 : Tbl := []
noncomputable def a91 : Nat → Option LoopAnn := fun _ => none
noncomputable def g91 (x0 : Ta13) (x1 : Ta13) : Option ((Bool × Unit) × Unit) :=
  bif (x0.1 != x1.1) then
    some ((false, ()), ())
  else
    bif (x0.2.1 != x1.2.1) then
      some ((false, ()), ())
    else
      bif (x0.2.2.1 != x1.2.2.1) then
        some ((false, ()), ())
      else
        bif (x0.2.2.2.1 != x1.2.2.2.1) then
          some ((false, ()), ())
        else
          some ((true, ()), ())
noncomputable def f91 (x0 : Ta13) (x1 : Ta13) : Bool :=
  bif (x0.1 != x1.1) then
    false
  else
    bif (x0.2.1 != x1.2.1) then
      false
    else
      bif (x0.2.2.1 != x1.2.2.1) then
        false
      else
        bif (x0.2.2.2.1 != x1.2.2.2.1) then
          false
        else
          true
theorem n91 (x0 : Ta13) (x1 : Ta13) : g91 x0 x1 = some ((f91 x0 x1, ()), ()) := by
  simp only [g91, f91, pull1]
noncomputable def c91 : Ctr := { ins := [.v Ty59, .v Ty59], out := [.bool], F := fun x => some ((f91 x.1 x.2.1, ()), ()) }
theorem v91 : LoopsOk Try.prog Γ t91 a91 (loopsIn (Try.f91.body.getD .skip) 0) := loopsOk_nil (by kernel_rfl)
theorem r91 (x : InsT c91.ins) : fnK Try.prog Γ t91 a91 Try.f91 c91 x = g91 x.1 x.2.1 := by kernel_rfl
theorem k91 : TblOk Try.prog t91 := tblOk_nil
theorem o91 : Holds Try.prog 91 c91 := fn_holds (code := Try.f91.body.getD .skip) (by kernel_rfl) gamOk k91 Try.func91 (by kernel_rfl) (by kernel_rfl) (by kernel_rfl) (by kernel_rfl) v91 (fun x _ h => (r91 x).trans ((n91 x.1 x.2.1).trans h))
/-! ### 52: loop.example/g00076/laws.eqChanRowS -/
noncomputable def t52 : Tbl := [(91, [], c91)]
abbrev h52_L0 : Shape := { slots := [(0, .v Ty63), (1, .v Ty63), (5, .v (.int .i64))], boxes := [] }
abbrev e52_L0 : List (XT × Shape) := [(.ret, { slots := [(4, .v .bool)], boxes := [] }), (.exit 0, { slots := [], boxes := [] })]
noncomputable def q52_L0 (t0 : Ta18) (t1 : Ta18) (t5 : Int) : Option (Ta78 ⊕ (((Bool × Unit) × Unit) ⊕ ((Unit × Unit) ⊕ Empty))) :=
  bif (decide (t5 < (t0.len : Int))) then
    bif (decide (0 ≤ t5) && decide (t5 < (t0.len : Int))) then
      bif (decide (0 ≤ t5) && decide (t5 < (t1.len : Int))) then
        bif (!(f91 (L.get t0 t5.toNat) (L.get t1 t5.toNat))) then
          some (.inr (.inl ((false, ()), ())))
        else
          some (.inl ((t0, (t1, ((wI (t5 + (1 : Int))), ()))), ()))
      else
        none
    else
      none
  else
    some (.inr (.inr (.inl ((), ()))))
noncomputable def s52_L0 (x : Ta78) : Option (Ta78 ⊕ (((Bool × Unit) × Unit) ⊕ ((Unit × Unit) ⊕ Empty))) := q52_L0 x.1.1 x.1.2.1 x.1.2.2.1
noncomputable def a52 : Nat → Option LoopAnn := fun c => bif Nat.beq c 0 then some (.fix h52_L0 e52_L0 s52_L0) else none
noncomputable def g52 (x0 : Ta18) (x1 : Ta18) : Option ((Bool × Unit) × Unit) :=
  bif ((x0.len : Int) != (x1.len : Int)) then
    some ((false, ()), ())
  else
    (fixO s52_L0 ((x0, (x1, ((0 : Int), ()))), ())).bind fun d2 => match d2 with
    | .inl y1 =>
      some ((y1.1.1, ()), ())
    | .inr (.inl y1) =>
      some ((true, ()), ())
    | .inr (.inr e) => nomatch e
noncomputable def c52 : Ctr := { ins := [.v Ty63, .v Ty63], out := [.bool], F := fun x => g52 x.1 x.2.1 }
noncomputable def l52 : List (Nat × Code) := loopsIn (Try.f52.body.getD .skip) 0
theorem w52_L0 (x : h52_L0.T) : runK Try.prog Γ t52 a52 (l52.getD 0 (0, .skip)).2 0 (pkSh h52_L0 x) (loopCls (sh := h52_L0) (es := e52_L0)) = (s52_L0 x : Option _) := by kernel_rfl
theorem v52 : LoopsOk Try.prog Γ t52 a52 (loopsIn (Try.f52.body.getD .skip) 0) := by
  have e : loopsIn (Try.f52.body.getD .skip) 0 = [(0, (l52.getD 0 (0, .skip)).2)] := by kernel_rfl
  rw [e]
  exact ⟨fun x d h => (w52_L0 x).trans h, trivial⟩
theorem r52 (x : InsT c52.ins) : fnK Try.prog Γ t52 a52 Try.f52 c52 x = g52 x.1 x.2.1 := by kernel_rfl
theorem k52 : TblOk Try.prog t52 := tblOk_cons o91 (tblOk_nil)
theorem o52 : Holds Try.prog 52 c52 := fn_holds (code := Try.f52.body.getD .skip) (by kernel_rfl) gamOk k52 Try.func52 (by kernel_rfl) (by kernel_rfl) (by kernel_rfl) (by kernel_rfl) v52 (fun x _ h => (r52 x).trans h)
/-! ### 92: loop.example/g00076/laws.eqSlot -/
noncomputable def t92 : Tbl := []
noncomputable def a92 : Nat → Option LoopAnn := fun _ => none
noncomputable def g92 (x0 : Ta4) (x1 : Ta4) : Option ((Bool × Unit) × Unit) :=
  bif (x0.1 != x1.1) then
    some ((false, ()), ())
  else
    bif (x0.2.1 != x1.2.1) then
      some ((false, ()), ())
    else
      bif (x0.2.2.1 != x1.2.2.1) then
        some ((false, ()), ())
      else
        some ((true, ()), ())
noncomputable def f92 (x0 : Ta4) (x1 : Ta4) : Bool :=
  bif (x0.1 != x1.1) then
    false
  else
    bif (x0.2.1 != x1.2.1) then
      false
    else
      bif (x0.2.2.1 != x1.2.2.1) then
        false
      else
        true
theorem n92 (x0 : Ta4) (x1 : Ta4) : g92 x0 x1 = some ((f92 x0 x1, ()), ()) := by
  simp only [g92, f92, pull1]
noncomputable def c92 : Ctr := { ins := [.v Ty40, .v Ty40], out := [.bool], F := fun x => some ((f92 x.1 x.2.1, ()), ()) }
theorem v92 : LoopsOk Try.prog Γ t92 a92 (loopsIn (Try.f92.body.getD .skip) 0) := loopsOk_nil (by kernel_rfl)
theorem r92 (x : InsT c92.ins) : fnK Try.prog Γ t92 a92 Try.f92 c92 x = g92 x.1 x.2.1 := by kernel_rfl
theorem k92 : TblOk Try.prog t92 := tblOk_nil
theorem o92 : Holds Try.prog 92 c92 := fn_holds (code := Try.f92.body.getD .skip) (by kernel_rfl) gamOk k92 Try.func92 (by kernel_rfl) (by kernel_rfl) (by kernel_rfl) (by kernel_rfl) v92 (fun x _ h => (r92 x).trans ((n92 x.1 x.2.1).trans h))
/-! ### 53: loop.example/g00076/laws.eqSlotS -/
noncomputable def t53 : Tbl := [(92, [], c92)]
abbrev h53_L0 : Shape := { slots := [(0, .v Ty47), (1, .v Ty47), (5, .v (.int .i64))], boxes := [] }
abbrev e53_L0 : List (XT × Shape) := [(.ret, { slots := [(4, .v .bool)], boxes := [] }), (.exit 0, { slots := [], boxes := [] })]
noncomputable def q53_L0 (t0 : Ta9) (t1 : Ta9) (t5 : Int) : Option (Ta67 ⊕ (((Bool × Unit) × Unit) ⊕ ((Unit × Unit) ⊕ Empty))) :=
  bif (decide (t5 < (t0.len : Int))) then
    bif (decide (0 ≤ t5) && decide (t5 < (t0.len : Int))) then
      bif (decide (0 ≤ t5) && decide (t5 < (t1.len : Int))) then
        bif (!(f92 (L.get t0 t5.toNat) (L.get t1 t5.toNat))) then
          some (.inr (.inl ((false, ()), ())))
        else
          some (.inl ((t0, (t1, ((wI (t5 + (1 : Int))), ()))), ()))
      else
        none
    else
      none
  else
    some (.inr (.inr (.inl ((), ()))))
noncomputable def s53_L0 (x : Ta67) : Option (Ta67 ⊕ (((Bool × Unit) × Unit) ⊕ ((Unit × Unit) ⊕ Empty))) := q53_L0 x.1.1 x.1.2.1 x.1.2.2.1
noncomputable def a53 : Nat → Option LoopAnn := fun c => bif Nat.beq c 0 then some (.fix h53_L0 e53_L0 s53_L0) else none
noncomputable def g53 (x0 : Ta9) (x1 : Ta9) : Option ((Bool × Unit) × Unit) :=
  bif ((x0.len : Int) != (x1.len : Int)) then
    some ((false, ()), ())
  else
    (fixO s53_L0 ((x0, (x1, ((0 : Int), ()))), ())).bind fun d2 => match d2 with
    | .inl y1 =>
      some ((y1.1.1, ()), ())
    | .inr (.inl y1) =>
      some ((true, ()), ())
    | .inr (.inr e) => nomatch e
noncomputable def c53 : Ctr := { ins := [.v Ty47, .v Ty47], out := [.bool], F := fun x => g53 x.1 x.2.1 }
noncomputable def l53 : List (Nat × Code) := loopsIn (Try.f53.body.getD .skip) 0
theorem w53_L0 (x : h53_L0.T) : runK Try.prog Γ t53 a53 (l53.getD 0 (0, .skip)).2 0 (pkSh h53_L0 x) (loopCls (sh := h53_L0) (es := e53_L0)) = (s53_L0 x : Option _) := by kernel_rfl
theorem v53 : LoopsOk Try.prog Γ t53 a53 (loopsIn (Try.f53.body.getD .skip) 0) := by
  have e : loopsIn (Try.f53.body.getD .skip) 0 = [(0, (l53.getD 0 (0, .skip)).2)] := by kernel_rfl
  rw [e]
  exact ⟨fun x d h => (w53_L0 x).trans h, trivial⟩
theorem r53 (x : InsT c53.ins) : fnK Try.prog Γ t53 a53 Try.f53 c53 x = g53 x.1 x.2.1 := by kernel_rfl
theorem k53 : TblOk Try.prog t53 := tblOk_cons o92 (tblOk_nil)
theorem o53 : Holds Try.prog 53 c53 := fn_holds (code := Try.f53.body.getD .skip) (by kernel_rfl) gamOk k53 Try.func53 (by kernel_rfl) (by kernel_rfl) (by kernel_rfl) (by kernel_rfl) v53 (fun x _ h => (r53 x).trans h)
/-! ### 16: loop.example/g00076/laws.eqTables -/
noncomputable def t16 : Tbl := [(48, [], c48), (49, [], c49), (50, [], c50), (51, [], c51), (52, [], c52), (53, [], c53)]
noncomputable def a16 : Nat → Option LoopAnn := fun _ => none
noncomputable def g16 (x0 : Ta114) (x1 : Ta114) : Option ((Bool × Unit) × Unit) :=
  bif (x0.1 != x1.1) then
    some ((false, ()), ())
  else
    bif (!(f48 x0.2.1 x1.2.1)) then
      some ((false, ()), ())
    else
      bif (x0.2.2.1 != x1.2.2.1) then
        some ((false, ()), ())
      else
        bif (!(f49 x0.2.2.2.1 x1.2.2.2.1)) then
          some ((false, ()), ())
        else
          bif (x0.2.2.2.2.1 != x1.2.2.2.2.1) then
            some ((false, ()), ())
          else
            bif (x0.2.2.2.2.2.1 != x1.2.2.2.2.2.1) then
              some ((false, ()), ())
            else
              bif (x0.2.2.2.2.2.2.1 != x1.2.2.2.2.2.2.1) then
                some ((false, ()), ())
              else
                (g50 x0.2.2.2.2.2.2.2.1 x1.2.2.2.2.2.2.2.1).bind fun y1 =>
                  bif (!y1.1.1) then
                    some ((false, ()), ())
                  else
                    (g51 x0.2.2.2.2.2.2.2.2.1 x1.2.2.2.2.2.2.2.2.1).bind fun y2 =>
                      bif (!y2.1.1) then
                        some ((false, ()), ())
                      else
                        (g52 x0.2.2.2.2.2.2.2.2.2.1 x1.2.2.2.2.2.2.2.2.2.1).bind fun y3 =>
                          bif (!y3.1.1) then
                            some ((false, ()), ())
                          else
                            (g53 x0.2.2.2.2.2.2.2.2.2.2.1 x1.2.2.2.2.2.2.2.2.2.2.1).bind fun y4 =>
                              bif (!y4.1.1) then
                                some ((false, ()), ())
                              else
                                some ((true, ()), ())
noncomputable def c16 : Ctr := { ins := [.v Ty133, .v Ty133], out := [.bool], F := fun x => g16 x.1 x.2.1 }
theorem v16 : LoopsOk Try.prog Γ t16 a16 (loopsIn (Try.f16.body.getD .skip) 0) := loopsOk_nil (by kernel_rfl)
theorem r16 (x : InsT c16.ins) : fnK Try.prog Γ t16 a16 Try.f16 c16 x = g16 x.1 x.2.1 := by kernel_rfl
theorem k16 : TblOk Try.prog t16 := tblOk_cons o48 (tblOk_cons o49 (tblOk_cons o50 (tblOk_cons o51 (tblOk_cons o52 (tblOk_cons o53 (tblOk_nil))))))
theorem o16 : Holds Try.prog 16 c16 := fn_holds (code := Try.f16.body.getD .skip) (by kernel_rfl) gamOk k16 Try.func16 (by kernel_rfl) (by kernel_rfl) (by kernel_rfl) (by kernel_rfl) v16 (fun x _ h => (r16 x).trans h)
/-! ### 11: loop.example/g00076/laws.FnExactNextSwitch -/
noncomputable def t11 : Tbl := [(12, [], c12), (14, [], c14), (31, [], c31), (32, [], c32), (16, [], c16)]
noncomputable def a11 : Nat → Option LoopAnn := fun _ => none
noncomputable def g11 (x0 : Ta114) (x1 : Int) : Option ((Bool × Unit) × Unit) :=
  (g12 x0 (1048576 : Int)).bind fun y1 =>
    bif (decide (y1.1.1 < (0 : Int))) then
      some ((true, ()), ())
    else
      (g14 x0).bind fun y2 =>
        (g31 y2.1.1 x1).bind fun y3 =>
          (g14 x0).bind fun y4 =>
            (g32 y4.1.1 x1).bind fun y5 =>
              bif (y5.1.1 != y3.1.1) then
                some ((false, ()), ())
              else
                (g14 x0).bind fun y6 =>
                  (g16 y4.1.1 y6.1.1).bind fun y7 =>
                    bif (!y7.1.1) then
                      some ((false, ()), ())
                    else
                      some ((true, ()), ())
noncomputable def c11 : Ctr := { ins := [.v Ty133, .v (.int .i64)], out := [.bool], F := fun x => g11 x.1 x.2.1 }
theorem v11 : LoopsOk Try.prog Γ t11 a11 (loopsIn (Try.f11.body.getD .skip) 0) := loopsOk_nil (by kernel_rfl)
theorem r11 (x : InsT c11.ins) : fnK Try.prog Γ t11 a11 Try.f11 c11 x = g11 x.1 x.2.1 := by kernel_rfl
theorem k11 : TblOk Try.prog t11 := tblOk_cons o12 (tblOk_cons o14 (tblOk_cons o31 (tblOk_cons o32 (tblOk_cons o16 (tblOk_nil)))))
theorem o11 : Holds Try.prog 11 c11 := fn_holds (code := Try.f11.body.getD .skip) (by kernel_rfl) gamOk k11 Try.func11 (by kernel_rfl) (by kernel_rfl) (by kernel_rfl) (by kernel_rfl) v11 (fun x _ h => (r11 x).trans h)
end Go.VE.VFnExactNextSwitch
