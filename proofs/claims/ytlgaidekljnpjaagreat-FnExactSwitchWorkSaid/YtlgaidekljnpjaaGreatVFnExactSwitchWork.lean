import Derived.Test.YtlgaidekljnpjaaGreatVeZ
import Derived.Test.YtlgaidekljnpjaaGreatProg
/- What the functions do that laws.FnExactSwitchWork reaches, as plain functions, and that they do it. -/
set_option linter.unusedVariables false
set_option linter.unusedSimpArgs false
namespace Go.VE.VFnExactSwitchWork
open Go.Proofs Go.VE
abbrev Ta0 : Type := ((L Int) × (Int × Unit))
abbrev Ty1 : Ty := (.pair (.int .i64) .unit)
abbrev Ta2 : Type := (L (Int × (Bool × Unit)))
abbrev Ta3 : Type := (ByteArray × (Int × Unit))
abbrev Ta4 : Type := ((ByteArray × Unit) × Unit)
abbrev Ta5 : Type := (Int × (Int × (Int × Unit)))
abbrev Ta6 : Type := (L Ta2)
abbrev Ta7 : Type := (Unit × (Int × (Int × Unit)))
abbrev Ta8 : Type := (Unit × (Bool × (Int × Unit)))
abbrev Ta9 : Type := (Unit × (Unit × (Int × Unit)))
abbrev Ta10 : Type := (Bool × (Bool × (Bool × Unit)))
abbrev Ta11 : Type := (L Ta5)
abbrev Ta12 : Type := ((L Int) × (Unit × (Int × Unit)))
abbrev Ta13 : Type := (Ta2 × Unit)
abbrev Ta14 : Type := (ByteArray × (Int × (Int × Unit)))
abbrev Ta15 : Type := (Ta3 × Unit)
abbrev Ta16 : Type := (Int × Ta5)
abbrev Ta17 : Type := ((L Int) × Ta0)
abbrev Ta18 : Type := (Ta5 × Unit)
abbrev Ta19 : Type := (Unit × Ta5)
abbrev Ta20 : Type := ((Int × Unit) × (Int × (Int × Unit)))
abbrev Ta21 : Type := (Ta6 × Unit)
abbrev Ta22 : Type := (Int × Ta8)
abbrev Ta23 : Type := (Unit × Ta7)
abbrev Ty24 : Ty := (.pair (.int .i64) (.pair .bool .unit))
abbrev Ta25 : Type := (Unit × Ta9)
abbrev Ta26 : Type := (L Ta16)
abbrev Ta27 : Type := (Ta11 × Unit)
abbrev Ta28 : Type := (Ta2 × (Int × Unit))
abbrev Ta29 : Type := (Ta14 × Unit)
abbrev Ta30 : Type := ((ByteArray × Unit) × (Int × (Int × Unit)))
abbrev Ta31 : Type := (Int × Ta16)
abbrev Ty32 : Ty := (.pair (.int .i64) Ty1)
abbrev Ty33 : Ty := (.sl Ty24)
abbrev Ta34 : Type := (Ta16 × Unit)
abbrev Ta35 : Type := (Ta17 × Unit)
abbrev Ta36 : Type := (Ta18 × Unit)
abbrev Ta37 : Type := (Int × Ta21)
abbrev Ta38 : Type := (Unit × Ta19)
abbrev Ta39 : Type := (Ta6 × (Int × Unit))
abbrev Ta40 : Type := (Ta26 × Unit)
abbrev Ta41 : Type := (Ta11 × (Int × Unit))
abbrev Ta42 : Type := ((L Int) × Ta20)
abbrev Ta43 : Type := (Ta27 × Unit)
abbrev Ta44 : Type := (Ta2 × (Int × (Int × Unit)))
abbrev Ta45 : Type := (Int × Ta28)
abbrev Ty46 : Ty := (.sl Ty33)
abbrev Ta47 : Type := (Ta2 × (Unit × (Int × Unit)))
abbrev Ta48 : Type := (Int × Ta31)
abbrev Ta49 : Type := (Ta6 × (Int × (Int × Unit)))
abbrev Ta50 : Type := (Ta12 × ((L Int) × Unit))
abbrev Ta51 : Type := (Ta34 × Unit)
abbrev Ta52 : Type := (Int × Ta37)
abbrev Ta53 : Type := (Ta6 × (Unit × (Int × Unit)))
abbrev Ta54 : Type := (Ta11 × (Int × (Int × Unit)))
abbrev Ta55 : Type := (Ta26 × (Int × Unit))
abbrev Ta56 : Type := (Ta11 × (Unit × (Int × Unit)))
abbrev Ta57 : Type := (Int × Ta44)
abbrev Ta58 : Type := (Ta41 × Unit)
abbrev Ta59 : Type := (Ta42 × Unit)
abbrev Ta60 : Type := ((Unit × Unit) × Ta27)
abbrev Ta61 : Type := (Unit × Ta45)
abbrev Ta62 : Type := (Int × Ta48)
abbrev Ta63 : Type := (Int × Ta52)
abbrev Ta64 : Type := (Ta18 × (Int × (Int × Unit)))
abbrev Ta65 : Type := (Int × Ta49)
abbrev Ta66 : Type := (Ta49 × Unit)
abbrev Ta67 : Type := (Unit × Ta49)
abbrev Ty68 : Ty := (.pair (.int .i64) Ty32)
abbrev Ty69 : Ty := (.pair Ty46 .unit)
abbrev Ta70 : Type := (Int × Ta54)
abbrev Ta71 : Type := (Ta26 × (Int × (Int × Unit)))
abbrev Ta72 : Type := ((Int × (Int × Unit)) × Ta27)
abbrev Ta73 : Type := (Ta26 × (Unit × (Int × Unit)))
abbrev Ta74 : Type := (Ta54 × Unit)
abbrev Ta75 : Type := (Int × Ta57)
abbrev Ta76 : Type := (Unit × Ta57)
abbrev Ta77 : Type := (Ta2 × Ta20)
abbrev Ta78 : Type := (Ta62 × Unit)
abbrev Ty79 : Ty := (.sl Ty68)
abbrev Ta80 : Type := (Ta5 × Ta21)
abbrev Ta81 : Type := (Ta63 × Unit)
abbrev Ta82 : Type := (Ta65 × Unit)
abbrev Ta83 : Type := (Ta2 × Ta28)
abbrev Ta84 : Type := (Int × Ta70)
abbrev Ta85 : Type := (Int × Ta71)
abbrev Ta86 : Type := (Int × Ta72)
abbrev Ta87 : Type := (Ta26 × Ta7)
abbrev Ta88 : Type := (Ta11 × Ta20)
abbrev Ta89 : Type := (Unit × Ta70)
abbrev Ta90 : Type := (Ta77 × Unit)
abbrev Ta91 : Type := (Ta80 × Unit)
abbrev Ta92 : Type := (Ta6 × Ta39)
abbrev Ta93 : Type := (Ta83 × Unit)
abbrev Ta94 : Type := (Ta26 × Ta20)
abbrev Ta95 : Type := (Unit × Ta85)
abbrev Ta96 : Type := (Ta85 × Unit)
abbrev Ta97 : Type := (Ta88 × Unit)
abbrev Ty98 : Ty := (.pair Ty79 .unit)
abbrev Ty99 : Ty := (.pair (.int .i64) Ty68)
abbrev Ta100 : Type := (Ta26 × Ta27)
abbrev Ta101 : Type := (Ta11 × Ta41)
abbrev Ta102 : Type := (ByteArray × Ta86)
abbrev Ta103 : Type := (Ta92 × Unit)
abbrev Ta104 : Type := (Ta47 × Ta13)
abbrev Ty105 : Ty := (.sl Ty99)
abbrev Ta106 : Type := (Ta94 × Unit)
abbrev Ta107 : Type := (L Ta102)
abbrev Ta108 : Type := ((Unit × (Int × Unit)) × Ta78)
abbrev Ta109 : Type := (Ta101 × Unit)
abbrev Ta110 : Type := (Ta102 × Unit)
abbrev Ta111 : Type := ((L Int) × Ta100)
abbrev Ta112 : Type := (Ta53 × Ta21)
abbrev Ta113 : Type := (Ta11 × Ta64)
abbrev Ta114 : Type := (Ta6 × Ta75)
abbrev Ta115 : Type := (Ta107 × Unit)
abbrev Ta116 : Type := (Ta26 × Ta55)
abbrev Ta117 : Type := (Ta7 × Ta78)
abbrev Ta118 : Type := (Ta56 × Ta27)
abbrev Ty119 : Ty := (.pair (.int .i64) Ty99)
abbrev Ta120 : Type := ((Unit × (Int × Unit)) × Ta91)
abbrev Ta121 : Type := (Ta113 × Unit)
abbrev Ta122 : Type := (Int × Ta114)
abbrev Ta123 : Type := (Ta107 × (Int × Unit))
abbrev Ta124 : Type := (Ta116 × Unit)
abbrev Ta125 : Type := (Ta107 × (Int × (Int × Unit)))
abbrev Ta126 : Type := (Ta122 × Unit)
abbrev Ta127 : Type := (Ta107 × (Unit × (Int × Unit)))
abbrev Ta128 : Type := (Ta73 × Ta40)
abbrev Ty129 : Ty := (.pair (.int .i64) Ty119)
abbrev Ta130 : Type := (Ta125 × Unit)
abbrev Ta131 : Type := (Ta2 × Ta114)
abbrev Ta132 : Type := (Ta63 × Ta81)
abbrev Ty133 : Ty := (.pair Ty32 Ty98)
abbrev Ty134 : Ty := (.pair Ty68 Ty69)
abbrev Ta135 : Type := (Unit × Ta131)
abbrev Ta136 : Type := (Ta22 × Ta110)
abbrev Ta137 : Type := (Ta107 × Ta30)
abbrev Ta138 : Type := (Ta61 × Ta91)
abbrev Ty139 : Ty := (.pair (.int .i64) Ty129)
abbrev Ta140 : Type := (Ta107 × Ta41)
abbrev Ta141 : Type := (Ta80 × Ta81)
abbrev Ta142 : Type := (Ta87 × Ta78)
abbrev Ta143 : Type := (Ta67 × Ta91)
abbrev Ta144 : Type := (Ta137 × Unit)
abbrev Ta145 : Type := (Ta76 × Ta91)
abbrev Ta146 : Type := (Ta11 × Ta125)
abbrev Ta147 : Type := (Ta140 × Unit)
abbrev Ta148 : Type := (Ta95 × Ta78)
abbrev Ty149 : Ty := (.pair (.int .i64) Ty133)
abbrev Ta150 : Type := (Unit × Ta146)
abbrev Ta151 : Type := (Ta107 × Ta84)
abbrev Ta152 : Type := (Ta5 × Ta132)
abbrev Ty153 : Ty := (.pair .str Ty149)
abbrev Ty154 : Ty := (.sl Ty153)
abbrev Ta155 : Type := (Unit × Ta151)
abbrev Ty156 : Ty := (.pair Ty105 Ty98)
abbrev Ta157 : Type := (Ta23 × Ta141)
abbrev Ta158 : Type := (Ta107 × Ta111)
abbrev Ta159 : Type := (Ta38 × Ta141)
abbrev Ta160 : Type := (Int × Ta158)
abbrev Ta161 : Type := (Ta107 × Ta123)
abbrev Ta162 : Type := (Int × Ta160)
abbrev Ty163 : Ty := (.pair (.sl (.int .i64)) Ty156)
abbrev Ta164 : Type := (Ta25 × Ta152)
abbrev Ta165 : Type := (Ta161 × Unit)
abbrev Ta166 : Type := (Ta11 × Ta155)
abbrev Ta167 : Type := (Int × Ta162)
abbrev Ta168 : Type := (Ta127 × Ta115)
abbrev Ta169 : Type := (Ta135 × Ta91)
abbrev Ta170 : Type := (Unit × Ta166)
abbrev Ta171 : Type := (Ta62 × Ta167)
abbrev Ta172 : Type := (Int × Ta171)
abbrev Ta173 : Type := (Ta5 × Ta172)
abbrev Ta174 : Type := (Int × Ta173)
abbrev Ta175 : Type := (Ta174 × Unit)
abbrev Ta176 : Type := ((Unit × Unit) × Ta175)
abbrev Ta177 : Type := ((Unit × (Int × Unit)) × Ta175)
abbrev Ta178 : Type := (Ta7 × Ta175)
abbrev Ty179 : Ty := (.pair Ty154 Ty163)
abbrev Ty180 : Ty := (.pair (.int .i64) Ty179)
abbrev Ta181 : Type := (Ta89 × Ta175)
abbrev Ta182 : Type := (Ta174 × Ta110)
abbrev Ty183 : Ty := (.pair (.int .i64) Ty180)
abbrev Ty184 : Ty := (.pair (.int .i64) Ty183)
abbrev Ta185 : Type := (Ta150 × Ta175)
abbrev Ty186 : Ty := (.pair Ty139 Ty184)
abbrev Ty187 : Ty := (.pair (.int .i64) Ty186)
abbrev Ta188 : Type := (Ta170 × Ta182)
abbrev Ty189 : Ty := (.pair Ty68 Ty187)
abbrev Ty190 : Ty := (.pair (.int .i64) Ty189)
def Γ : TypeId → Option Ty := fun e => bif Nat.beq e 3 then some (.int .i64) else bif Nat.beq e 131 then some Ty68 else bif Nat.beq e 167 then some Ty153 else bif Nat.beq e 188 then some Ty153 else bif Nat.beq e 191 then some Ty99 else bif Nat.beq e 193 then some Ty99 else bif Nat.beq e 195 then some Ty68 else bif Nat.beq e 208 then some Ty68 else bif Nat.beq e 215 then some Ty33 else bif Nat.beq e 216 then some Ty33 else bif Nat.beq e 218 then some Ty24 else bif Nat.beq e 269 then some Ty24 else bif Nat.beq e 275 then some Ty68 else none
theorem gamOk : GamOk Tryz.prog Γ := gamOk_of [3, 131, 167, 188, 191, 193, 195, 208, 215, 216, 218, 269, 275] (fun e ty h => by
  simp only [Γ] at h
  cases h3 : Nat.beq e 3 with
  | true => simp [Nat.eq_of_beq_eq_true h3]
  | false =>
  simp only [h3, cond_false] at h
  cases h131 : Nat.beq e 131 with
  | true => simp [Nat.eq_of_beq_eq_true h131]
  | false =>
  simp only [h131, cond_false] at h
  cases h167 : Nat.beq e 167 with
  | true => simp [Nat.eq_of_beq_eq_true h167]
  | false =>
  simp only [h167, cond_false] at h
  cases h188 : Nat.beq e 188 with
  | true => simp [Nat.eq_of_beq_eq_true h188]
  | false =>
  simp only [h188, cond_false] at h
  cases h191 : Nat.beq e 191 with
  | true => simp [Nat.eq_of_beq_eq_true h191]
  | false =>
  simp only [h191, cond_false] at h
  cases h193 : Nat.beq e 193 with
  | true => simp [Nat.eq_of_beq_eq_true h193]
  | false =>
  simp only [h193, cond_false] at h
  cases h195 : Nat.beq e 195 with
  | true => simp [Nat.eq_of_beq_eq_true h195]
  | false =>
  simp only [h195, cond_false] at h
  cases h208 : Nat.beq e 208 with
  | true => simp [Nat.eq_of_beq_eq_true h208]
  | false =>
  simp only [h208, cond_false] at h
  cases h215 : Nat.beq e 215 with
  | true => simp [Nat.eq_of_beq_eq_true h215]
  | false =>
  simp only [h215, cond_false] at h
  cases h216 : Nat.beq e 216 with
  | true => simp [Nat.eq_of_beq_eq_true h216]
  | false =>
  simp only [h216, cond_false] at h
  cases h218 : Nat.beq e 218 with
  | true => simp [Nat.eq_of_beq_eq_true h218]
  | false =>
  simp only [h218, cond_false] at h
  cases h269 : Nat.beq e 269 with
  | true => simp [Nat.eq_of_beq_eq_true h269]
  | false =>
  simp only [h269, cond_false] at h
  cases h275 : Nat.beq e 275 with
  | true => simp [Nat.eq_of_beq_eq_true h275]
  | false =>
  simp only [h275, cond_false] at h
  cases h) (by kernel_rfl)
/-! ### 187: loop.example/g00076/laws.szWindowS -/
noncomputable def t187 : Tbl := []
noncomputable def a187 : Nat → Option LoopAnn := fun _ => none
noncomputable def g187 (x0 : Ta11) (x1 : Int) : Option ((Int × Unit) × Unit) :=
  bif (decide ((wI (x1 - (x0.len : Int))) < (0 : Int))) then
    some (((-1 : Int), ()), ())
  else
    some (((wI (x1 - (x0.len : Int))), ()), ())
noncomputable def f187 (x0 : Ta11) (x1 : Int) : Int :=
  bif (decide ((wI (x1 - (x0.len : Int))) < (0 : Int))) then
    (-1 : Int)
  else
    (wI (x1 - (x0.len : Int)))
theorem n187 (x0 : Ta11) (x1 : Int) : g187 x0 x1 = some ((f187 x0 x1, ()), ()) := by
  simp only [g187, f187, pull1]
noncomputable def c187 : Ctr := { ins := [.v Ty79, .v (.int .i64)], out := [(.int .i64)], F := fun x => some ((f187 x.1 x.2.1, ()), ()) }
theorem v187 : LoopsOk Tryz.prog Γ t187 a187 (loopsIn (Tryz.f187.body.getD .skip) 0) := loopsOk_nil (by kernel_rfl)
theorem r187 (x : InsT c187.ins) : fnK Tryz.prog Γ t187 a187 Tryz.f187 c187 x = g187 x.1 x.2.1 := by kernel_rfl
theorem k187 : TblOk Tryz.prog t187 := tblOk_nil
theorem o187 : Holds Tryz.prog 187 c187 := fn_holds (code := Tryz.f187.body.getD .skip) (by kernel_rfl) gamOk k187 Tryz.func187 (by kernel_rfl) (by kernel_rfl) (by kernel_rfl) (by kernel_rfl) v187 (fun x _ h => (r187 x).trans ((n187 x.1 x.2.1).trans h))
/-! ### 127: loop.example/g00076/laws.szPartRow -/
noncomputable def t127 : Tbl := [(187, [], c187)]
noncomputable def a127 : Nat → Option LoopAnn := fun _ => none
noncomputable def g127 (x0 : Ta102) (x1 : Int) : Option ((Int × Unit) × Unit) :=
  bif (decide ((wI (x1 - (x0.1.size : Int))) < (0 : Int))) then
    some (((-1 : Int), ()), ())
  else
    bif (decide ((f187 x0.2.2.2.1 (wI (x1 - (x0.1.size : Int)))) < (0 : Int))) then
      some (((-1 : Int), ()), ())
    else
      some (((f187 x0.2.2.2.1 (wI (x1 - (x0.1.size : Int)))), ()), ())
noncomputable def f127 (x0 : Ta102) (x1 : Int) : Int :=
  bif (decide ((wI (x1 - (x0.1.size : Int))) < (0 : Int))) then
    (-1 : Int)
  else
    bif (decide ((f187 x0.2.2.2.1 (wI (x1 - (x0.1.size : Int)))) < (0 : Int))) then
      (-1 : Int)
    else
      (f187 x0.2.2.2.1 (wI (x1 - (x0.1.size : Int))))
theorem n127 (x0 : Ta102) (x1 : Int) : g127 x0 x1 = some ((f127 x0 x1, ()), ()) := by
  simp only [g127, f127, pull1]
noncomputable def c127 : Ctr := { ins := [.v Ty153, .v (.int .i64)], out := [(.int .i64)], F := fun x => some ((f127 x.1 x.2.1, ()), ()) }
theorem v127 : LoopsOk Tryz.prog Γ t127 a127 (loopsIn (Tryz.f127.body.getD .skip) 0) := loopsOk_nil (by kernel_rfl)
theorem r127 (x : InsT c127.ins) : fnK Tryz.prog Γ t127 a127 Tryz.f127 c127 x = g127 x.1 x.2.1 := by kernel_rfl
theorem k127 : TblOk Tryz.prog t127 := tblOk_cons o187 (tblOk_nil)
theorem o127 : Holds Tryz.prog 127 c127 := fn_holds (code := Tryz.f127.body.getD .skip) (by kernel_rfl) gamOk k127 Tryz.func127 (by kernel_rfl) (by kernel_rfl) (by kernel_rfl) (by kernel_rfl) v127 (fun x _ h => (r127 x).trans ((n127 x.1 x.2.1).trans h))
/-! ### 52: loop.example/g00076/laws.szPartRowS -/
noncomputable def t52 : Tbl := [(127, [], c127)]
abbrev h52_L0 : Shape := { slots := [(0, .v Ty154), (1, .v (.int .i64)), (5, .v (.int .i64))], boxes := [] }
abbrev e52_L0 : List (XT × Shape) := [(.ret, { slots := [(4, .v (.int .i64))], boxes := [] }), (.exit 0, { slots := [(1, .v (.int .i64))], boxes := [] })]
noncomputable def q52_L0 (t0 : Ta107) (t1 : Int) (t5 : Int) : Option (Ta130 ⊕ (((Int × Unit) × Unit) ⊕ (((Int × Unit) × Unit) ⊕ Empty))) :=
  bif (decide (t5 < (t0.len : Int))) then
    bif (decide (0 ≤ t5) && decide (t5 < (t0.len : Int))) then
      bif (decide ((f127 (L.get t0 t5.toNat) t1) < (0 : Int))) then
        some (.inr (.inl (((-1 : Int), ()), ())))
      else
        some (.inl ((t0, ((f127 (L.get t0 t5.toNat) t1), ((wI (t5 + (1 : Int))), ()))), ()))
    else
      none
  else
    some (.inr (.inr (.inl ((t1, ()), ()))))
noncomputable def s52_L0 (x : Ta130) : Option (Ta130 ⊕ (((Int × Unit) × Unit) ⊕ (((Int × Unit) × Unit) ⊕ Empty))) := q52_L0 x.1.1 x.1.2.1 x.1.2.2.1
noncomputable def a52 : Nat → Option LoopAnn := fun c => bif Nat.beq c 0 then some (.fix h52_L0 e52_L0 s52_L0) else none
noncomputable def g52 (x0 : Ta107) (x1 : Int) : Option ((Int × Unit) × Unit) :=
  bif (decide ((wI (x1 - (x0.len : Int))) < (0 : Int))) then
    some (((-1 : Int), ()), ())
  else
    (fixO s52_L0 ((x0, ((wI (x1 - (x0.len : Int))), ((0 : Int), ()))), ())).bind fun d2 => match d2 with
    | .inl y1 =>
      some ((y1.1.1, ()), ())
    | .inr (.inl y1) =>
      some ((y1.1.1, ()), ())
    | .inr (.inr e) => nomatch e
noncomputable def c52 : Ctr := { ins := [.v Ty154, .v (.int .i64)], out := [(.int .i64)], F := fun x => g52 x.1 x.2.1 }
noncomputable def l52 : List (Nat × Code) := loopsIn (Tryz.f52.body.getD .skip) 0
theorem w52_L0 (x : h52_L0.T) : runK Tryz.prog Γ t52 a52 (l52.getD 0 (0, .skip)).2 0 (pkSh h52_L0 x) (loopCls (sh := h52_L0) (es := e52_L0)) = (s52_L0 x : Option _) := by kernel_rfl
theorem v52 : LoopsOk Tryz.prog Γ t52 a52 (loopsIn (Tryz.f52.body.getD .skip) 0) := by
  have e : loopsIn (Tryz.f52.body.getD .skip) 0 = [(0, (l52.getD 0 (0, .skip)).2)] := by kernel_rfl
  rw [e]
  exact ⟨fun x d h => (w52_L0 x).trans h, trivial⟩
theorem r52 (x : InsT c52.ins) : fnK Tryz.prog Γ t52 a52 Tryz.f52 c52 x = g52 x.1 x.2.1 := by kernel_rfl
theorem k52 : TblOk Tryz.prog t52 := tblOk_cons o127 (tblOk_nil)
theorem o52 : Holds Tryz.prog 52 c52 := fn_holds (code := Tryz.f52.body.getD .skip) (by kernel_rfl) gamOk k52 Tryz.func52 (by kernel_rfl) (by kernel_rfl) (by kernel_rfl) (by kernel_rfl) v52 (fun x _ h => (r52 x).trans h)
/-! ### 53: loop.example/g00076/laws.szIntS -/
noncomputable def t53 : Tbl := []
noncomputable def a53 : Nat → Option LoopAnn := fun _ => none
noncomputable def g53 (x0 : (L Int)) (x1 : Int) : Option ((Int × Unit) × Unit) :=
  bif (decide ((wI (x1 - (x0.len : Int))) < (0 : Int))) then
    some (((-1 : Int), ()), ())
  else
    some (((wI (x1 - (x0.len : Int))), ()), ())
noncomputable def f53 (x0 : (L Int)) (x1 : Int) : Int :=
  bif (decide ((wI (x1 - (x0.len : Int))) < (0 : Int))) then
    (-1 : Int)
  else
    (wI (x1 - (x0.len : Int)))
theorem n53 (x0 : (L Int)) (x1 : Int) : g53 x0 x1 = some ((f53 x0 x1, ()), ()) := by
  simp only [g53, f53, pull1]
noncomputable def c53 : Ctr := { ins := [.v (.sl (.int .i64)), .v (.int .i64)], out := [(.int .i64)], F := fun x => some ((f53 x.1 x.2.1, ()), ()) }
theorem v53 : LoopsOk Tryz.prog Γ t53 a53 (loopsIn (Tryz.f53.body.getD .skip) 0) := loopsOk_nil (by kernel_rfl)
theorem r53 (x : InsT c53.ins) : fnK Tryz.prog Γ t53 a53 Tryz.f53 c53 x = g53 x.1 x.2.1 := by kernel_rfl
theorem k53 : TblOk Tryz.prog t53 := tblOk_nil
theorem o53 : Holds Tryz.prog 53 c53 := fn_holds (code := Tryz.f53.body.getD .skip) (by kernel_rfl) gamOk k53 Tryz.func53 (by kernel_rfl) (by kernel_rfl) (by kernel_rfl) (by kernel_rfl) v53 (fun x _ h => (r53 x).trans ((n53 x.1 x.2.1).trans h))
/-! ### 54: loop.example/g00076/laws.szChanRowS -/
noncomputable def t54 : Tbl := []
noncomputable def a54 : Nat → Option LoopAnn := fun _ => none
noncomputable def g54 (x0 : Ta26) (x1 : Int) : Option ((Int × Unit) × Unit) :=
  bif (decide ((wI (x1 - (x0.len : Int))) < (0 : Int))) then
    some (((-1 : Int), ()), ())
  else
    some (((wI (x1 - (x0.len : Int))), ()), ())
noncomputable def f54 (x0 : Ta26) (x1 : Int) : Int :=
  bif (decide ((wI (x1 - (x0.len : Int))) < (0 : Int))) then
    (-1 : Int)
  else
    (wI (x1 - (x0.len : Int)))
theorem n54 (x0 : Ta26) (x1 : Int) : g54 x0 x1 = some ((f54 x0 x1, ()), ()) := by
  simp only [g54, f54, pull1]
noncomputable def c54 : Ctr := { ins := [.v Ty105, .v (.int .i64)], out := [(.int .i64)], F := fun x => some ((f54 x.1 x.2.1, ()), ()) }
theorem v54 : LoopsOk Tryz.prog Γ t54 a54 (loopsIn (Tryz.f54.body.getD .skip) 0) := loopsOk_nil (by kernel_rfl)
theorem r54 (x : InsT c54.ins) : fnK Tryz.prog Γ t54 a54 Tryz.f54 c54 x = g54 x.1 x.2.1 := by kernel_rfl
theorem k54 : TblOk Tryz.prog t54 := tblOk_nil
theorem o54 : Holds Tryz.prog 54 c54 := fn_holds (code := Tryz.f54.body.getD .skip) (by kernel_rfl) gamOk k54 Tryz.func54 (by kernel_rfl) (by kernel_rfl) (by kernel_rfl) (by kernel_rfl) v54 (fun x _ h => (r54 x).trans ((n54 x.1 x.2.1).trans h))
/-! ### 55: loop.example/g00076/laws.szSlotS -/
noncomputable def t55 : Tbl := []
noncomputable def a55 : Nat → Option LoopAnn := fun _ => none
noncomputable def g55 (x0 : Ta11) (x1 : Int) : Option ((Int × Unit) × Unit) :=
  bif (decide ((wI (x1 - (x0.len : Int))) < (0 : Int))) then
    some (((-1 : Int), ()), ())
  else
    some (((wI (x1 - (x0.len : Int))), ()), ())
noncomputable def f55 (x0 : Ta11) (x1 : Int) : Int :=
  bif (decide ((wI (x1 - (x0.len : Int))) < (0 : Int))) then
    (-1 : Int)
  else
    (wI (x1 - (x0.len : Int)))
theorem n55 (x0 : Ta11) (x1 : Int) : g55 x0 x1 = some ((f55 x0 x1, ()), ()) := by
  simp only [g55, f55, pull1]
noncomputable def c55 : Ctr := { ins := [.v Ty79, .v (.int .i64)], out := [(.int .i64)], F := fun x => some ((f55 x.1 x.2.1, ()), ()) }
theorem v55 : LoopsOk Tryz.prog Γ t55 a55 (loopsIn (Tryz.f55.body.getD .skip) 0) := loopsOk_nil (by kernel_rfl)
theorem r55 (x : InsT c55.ins) : fnK Tryz.prog Γ t55 a55 Tryz.f55 c55 x = g55 x.1 x.2.1 := by kernel_rfl
theorem k55 : TblOk Tryz.prog t55 := tblOk_nil
theorem o55 : Holds Tryz.prog 55 c55 := fn_holds (code := Tryz.f55.body.getD .skip) (by kernel_rfl) gamOk k55 Tryz.func55 (by kernel_rfl) (by kernel_rfl) (by kernel_rfl) (by kernel_rfl) v55 (fun x _ h => (r55 x).trans ((n55 x.1 x.2.1).trans h))
/-! ### 13: loop.example/g00076/laws.szTables -/
noncomputable def t13 : Tbl := [(52, [], c52), (53, [], c53), (54, [], c54), (55, [], c55)]
noncomputable def a13 : Nat → Option LoopAnn := fun _ => none
noncomputable def g13 (x0 : Ta174) (x1 : Int) : Option ((Int × Unit) × Unit) :=
  (g52 x0.2.2.2.2.2.2.2.1 x1).bind fun y1 =>
    bif (decide (y1.1.1 < (0 : Int))) then
      some (((-1 : Int), ()), ())
    else
      bif (decide ((f53 x0.2.2.2.2.2.2.2.2.1 y1.1.1) < (0 : Int))) then
        some (((-1 : Int), ()), ())
      else
        bif (decide ((f54 x0.2.2.2.2.2.2.2.2.2.1 (f53 x0.2.2.2.2.2.2.2.2.1 y1.1.1)) < (0 : Int))) then
          some (((-1 : Int), ()), ())
        else
          bif (decide ((f55 x0.2.2.2.2.2.2.2.2.2.2.1 (f54 x0.2.2.2.2.2.2.2.2.2.1 (f53 x0.2.2.2.2.2.2.2.2.1 y1.1.1))) < (0 : Int))) then
            some (((-1 : Int), ()), ())
          else
            some (((f55 x0.2.2.2.2.2.2.2.2.2.2.1 (f54 x0.2.2.2.2.2.2.2.2.2.1 (f53 x0.2.2.2.2.2.2.2.2.1 y1.1.1))), ()), ())
noncomputable def c13 : Ctr := { ins := [.v Ty190, .v (.int .i64)], out := [(.int .i64)], F := fun x => g13 x.1 x.2.1 }
theorem v13 : LoopsOk Tryz.prog Γ t13 a13 (loopsIn (Tryz.f13.body.getD .skip) 0) := loopsOk_nil (by kernel_rfl)
theorem r13 (x : InsT c13.ins) : fnK Tryz.prog Γ t13 a13 Tryz.f13 c13 x = g13 x.1 x.2.1 := by kernel_rfl
theorem k13 : TblOk Tryz.prog t13 := tblOk_cons o52 (tblOk_cons o53 (tblOk_cons o54 (tblOk_cons o55 (tblOk_nil))))
theorem o13 : Holds Tryz.prog 13 c13 := fn_holds (code := Tryz.f13.body.getD .skip) (by kernel_rfl) gamOk k13 Tryz.func13 (by kernel_rfl) (by kernel_rfl) (by kernel_rfl) (by kernel_rfl) v13 (fun x _ h => (r13 x).trans h)
/-! ### 161: loop.example/g00076/laws.szWayS -/
noncomputable def t161 : Tbl := []
noncomputable def a161 : Nat → Option LoopAnn := fun _ => none
noncomputable def g161 (x0 : Ta2) (x1 : Int) : Option ((Int × Unit) × Unit) :=
  bif (decide ((wI (x1 - (x0.len : Int))) < (0 : Int))) then
    some (((-1 : Int), ()), ())
  else
    some (((wI (x1 - (x0.len : Int))), ()), ())
noncomputable def f161 (x0 : Ta2) (x1 : Int) : Int :=
  bif (decide ((wI (x1 - (x0.len : Int))) < (0 : Int))) then
    (-1 : Int)
  else
    (wI (x1 - (x0.len : Int)))
theorem n161 (x0 : Ta2) (x1 : Int) : g161 x0 x1 = some ((f161 x0 x1, ()), ()) := by
  simp only [g161, f161, pull1]
noncomputable def c161 : Ctr := { ins := [.v Ty33, .v (.int .i64)], out := [(.int .i64)], F := fun x => some ((f161 x.1 x.2.1, ()), ()) }
theorem v161 : LoopsOk Tryz.prog Γ t161 a161 (loopsIn (Tryz.f161.body.getD .skip) 0) := loopsOk_nil (by kernel_rfl)
theorem r161 (x : InsT c161.ins) : fnK Tryz.prog Γ t161 a161 Tryz.f161 c161 x = g161 x.1 x.2.1 := by kernel_rfl
theorem k161 : TblOk Tryz.prog t161 := tblOk_nil
theorem o161 : Holds Tryz.prog 161 c161 := fn_holds (code := Tryz.f161.body.getD .skip) (by kernel_rfl) gamOk k161 Tryz.func161 (by kernel_rfl) (by kernel_rfl) (by kernel_rfl) (by kernel_rfl) v161 (fun x _ h => (r161 x).trans ((n161 x.1 x.2.1).trans h))
/-! ### 94: loop.example/g00076/laws.szWaySS -/
noncomputable def t94 : Tbl := [(161, [], c161)]
abbrev h94_L0 : Shape := { slots := [(0, .v Ty46), (1, .v (.int .i64)), (5, .v (.int .i64))], boxes := [] }
abbrev e94_L0 : List (XT × Shape) := [(.ret, { slots := [(4, .v (.int .i64))], boxes := [] }), (.exit 0, { slots := [(1, .v (.int .i64))], boxes := [] })]
noncomputable def q94_L0 (t0 : Ta6) (t1 : Int) (t5 : Int) : Option (Ta66 ⊕ (((Int × Unit) × Unit) ⊕ (((Int × Unit) × Unit) ⊕ Empty))) :=
  bif (decide (t5 < (t0.len : Int))) then
    bif (decide (0 ≤ t5) && decide (t5 < (t0.len : Int))) then
      bif (decide ((f161 (L.get t0 t5.toNat) t1) < (0 : Int))) then
        some (.inr (.inl (((-1 : Int), ()), ())))
      else
        some (.inl ((t0, ((f161 (L.get t0 t5.toNat) t1), ((wI (t5 + (1 : Int))), ()))), ()))
    else
      none
  else
    some (.inr (.inr (.inl ((t1, ()), ()))))
noncomputable def s94_L0 (x : Ta66) : Option (Ta66 ⊕ (((Int × Unit) × Unit) ⊕ (((Int × Unit) × Unit) ⊕ Empty))) := q94_L0 x.1.1 x.1.2.1 x.1.2.2.1
noncomputable def a94 : Nat → Option LoopAnn := fun c => bif Nat.beq c 0 then some (.fix h94_L0 e94_L0 s94_L0) else none
noncomputable def g94 (x0 : Ta6) (x1 : Int) : Option ((Int × Unit) × Unit) :=
  bif (decide ((wI (x1 - (x0.len : Int))) < (0 : Int))) then
    some (((-1 : Int), ()), ())
  else
    (fixO s94_L0 ((x0, ((wI (x1 - (x0.len : Int))), ((0 : Int), ()))), ())).bind fun d2 => match d2 with
    | .inl y1 =>
      some ((y1.1.1, ()), ())
    | .inr (.inl y1) =>
      some ((y1.1.1, ()), ())
    | .inr (.inr e) => nomatch e
noncomputable def c94 : Ctr := { ins := [.v Ty46, .v (.int .i64)], out := [(.int .i64)], F := fun x => g94 x.1 x.2.1 }
noncomputable def l94 : List (Nat × Code) := loopsIn (Tryz.f94.body.getD .skip) 0
theorem w94_L0 (x : h94_L0.T) : runK Tryz.prog Γ t94 a94 (l94.getD 0 (0, .skip)).2 0 (pkSh h94_L0 x) (loopCls (sh := h94_L0) (es := e94_L0)) = (s94_L0 x : Option _) := by kernel_rfl
theorem v94 : LoopsOk Tryz.prog Γ t94 a94 (loopsIn (Tryz.f94.body.getD .skip) 0) := by
  have e : loopsIn (Tryz.f94.body.getD .skip) 0 = [(0, (l94.getD 0 (0, .skip)).2)] := by kernel_rfl
  rw [e]
  exact ⟨fun x d h => (w94_L0 x).trans h, trivial⟩
theorem r94 (x : InsT c94.ins) : fnK Tryz.prog Γ t94 a94 Tryz.f94 c94 x = g94 x.1 x.2.1 := by kernel_rfl
theorem k94 : TblOk Tryz.prog t94 := tblOk_cons o161 (tblOk_nil)
theorem o94 : Holds Tryz.prog 94 c94 := fn_holds (code := Tryz.f94.body.getD .skip) (by kernel_rfl) gamOk k94 Tryz.func94 (by kernel_rfl) (by kernel_rfl) (by kernel_rfl) (by kernel_rfl) v94 (fun x _ h => (r94 x).trans h)
/-! ### 41: loop.example/g00076/laws.szCache -/
noncomputable def t41 : Tbl := [(94, [], c94)]
noncomputable def a41 : Nat → Option LoopAnn := fun _ => none
noncomputable def g41 (x0 : Ta80) (x1 : Int) : Option ((Int × Unit) × Unit) :=
  (g94 x0.2.1 x1).bind fun y1 =>
    bif (decide (y1.1.1 < (0 : Int))) then
      some (((-1 : Int), ()), ())
    else
      some ((y1.1.1, ()), ())
noncomputable def c41 : Ctr := { ins := [.v Ty134, .v (.int .i64)], out := [(.int .i64)], F := fun x => g41 x.1 x.2.1 }
theorem v41 : LoopsOk Tryz.prog Γ t41 a41 (loopsIn (Tryz.f41.body.getD .skip) 0) := loopsOk_nil (by kernel_rfl)
theorem r41 (x : InsT c41.ins) : fnK Tryz.prog Γ t41 a41 Tryz.f41 c41 x = g41 x.1 x.2.1 := by kernel_rfl
theorem k41 : TblOk Tryz.prog t41 := tblOk_cons o94 (tblOk_nil)
theorem o41 : Holds Tryz.prog 41 c41 := fn_holds (code := Tryz.f41.body.getD .skip) (by kernel_rfl) gamOk k41 Tryz.func41 (by kernel_rfl) (by kernel_rfl) (by kernel_rfl) (by kernel_rfl) v41 (fun x _ h => (r41 x).trans h)
/-! ### 58: loop.example/g00076/laws.toShape -/
noncomputable def t58 : Tbl := []
noncomputable def a58 : Nat → Option LoopAnn := fun _ => none
noncomputable def g58 (x0 : Ta5) : Option Ta36 :=
  some ((x0, ()), ())
noncomputable def f58 (x0 : Ta5) : Ta5 :=
  x0
theorem n58 (x0 : Ta5) : g58 x0 = some ((f58 x0, ()), ()) := by
  simp only [g58, f58, pull1]
noncomputable def c58 : Ctr := { ins := [.v Ty68], out := [Ty68], F := fun x => some ((f58 x.1, ()), ()) }
theorem v58 : LoopsOk Tryz.prog Γ t58 a58 (loopsIn (Tryz.f58.body.getD .skip) 0) := loopsOk_nil (by kernel_rfl)
theorem r58 (x : InsT c58.ins) : fnK Tryz.prog Γ t58 a58 Tryz.f58 c58 x = g58 x.1 := by kernel_rfl
theorem k58 : TblOk Tryz.prog t58 := tblOk_nil
theorem o58 : Holds Tryz.prog 58 c58 := fn_holds (code := Tryz.f58.body.getD .skip) (by kernel_rfl) gamOk k58 Tryz.func58 (by kernel_rfl) (by kernel_rfl) (by kernel_rfl) (by kernel_rfl) v58 (fun x _ h => (r58 x).trans ((n58 x.1).trans h))
/-! ### 59: loop.example/g00076/laws.toCosts -/
noncomputable def t59 : Tbl := []
noncomputable def a59 : Nat → Option LoopAnn := fun _ => none
noncomputable def g59 (x0 : Ta62) : Option (Ta78 × Unit) :=
  some ((x0, ()), ())
noncomputable def f59 (x0 : Ta62) : Ta62 :=
  x0
theorem n59 (x0 : Ta62) : g59 x0 = some ((f59 x0, ()), ()) := by
  simp only [g59, f59, pull1]
noncomputable def c59 : Ctr := { ins := [.v Ty139], out := [Ty139], F := fun x => some ((f59 x.1, ()), ()) }
theorem v59 : LoopsOk Tryz.prog Γ t59 a59 (loopsIn (Tryz.f59.body.getD .skip) 0) := loopsOk_nil (by kernel_rfl)
theorem r59 (x : InsT c59.ins) : fnK Tryz.prog Γ t59 a59 Tryz.f59 c59 x = g59 x.1 := by kernel_rfl
theorem k59 : TblOk Tryz.prog t59 := tblOk_nil
theorem o59 : Holds Tryz.prog 59 c59 := fn_holds (code := Tryz.f59.body.getD .skip) (by kernel_rfl) gamOk k59 Tryz.func59 (by kernel_rfl) (by kernel_rfl) (by kernel_rfl) (by kernel_rfl) v59 (fun x _ h => (r59 x).trans ((n59 x.1).trans h))
/-! ### 188: loop.example/g00076/laws.toPolicy -/
noncomputable def t188 : Tbl := []
noncomputable def a188 : Nat → Option LoopAnn := fun _ => none
noncomputable def g188 (x0 : (Int × (Int × Unit))) : Option (((Int × (Int × Unit)) × Unit) × Unit) :=
  some ((x0, ()), ())
noncomputable def f188 (x0 : (Int × (Int × Unit))) : (Int × (Int × Unit)) :=
  x0
theorem n188 (x0 : (Int × (Int × Unit))) : g188 x0 = some ((f188 x0, ()), ()) := by
  simp only [g188, f188, pull1]
noncomputable def c188 : Ctr := { ins := [.v Ty32], out := [Ty32], F := fun x => some ((f188 x.1, ()), ()) }
theorem v188 : LoopsOk Tryz.prog Γ t188 a188 (loopsIn (Tryz.f188.body.getD .skip) 0) := loopsOk_nil (by kernel_rfl)
theorem r188 (x : InsT c188.ins) : fnK Tryz.prog Γ t188 a188 Tryz.f188 c188 x = g188 x.1 := by kernel_rfl
theorem k188 : TblOk Tryz.prog t188 := tblOk_nil
theorem o188 : Holds Tryz.prog 188 c188 := fn_holds (code := Tryz.f188.body.getD .skip) (by kernel_rfl) gamOk k188 Tryz.func188 (by kernel_rfl) (by kernel_rfl) (by kernel_rfl) (by kernel_rfl) v188 (fun x _ h => (r188 x).trans ((n188 x.1).trans h))
/-! ### 226: loop.example/g00076/laws.toWindow -/
noncomputable def t226 : Tbl := []
noncomputable def a226 : Nat → Option LoopAnn := fun _ => none
noncomputable def g226 (x0 : Ta5) : Option Ta36 :=
  some ((x0, ()), ())
noncomputable def f226 (x0 : Ta5) : Ta5 :=
  x0
theorem n226 (x0 : Ta5) : g226 x0 = some ((f226 x0, ()), ()) := by
  simp only [g226, f226, pull1]
noncomputable def c226 : Ctr := { ins := [.v Ty68], out := [Ty68], F := fun x => some ((f226 x.1, ()), ()) }
theorem v226 : LoopsOk Tryz.prog Γ t226 a226 (loopsIn (Tryz.f226.body.getD .skip) 0) := loopsOk_nil (by kernel_rfl)
theorem r226 (x : InsT c226.ins) : fnK Tryz.prog Γ t226 a226 Tryz.f226 c226 x = g226 x.1 := by kernel_rfl
theorem k226 : TblOk Tryz.prog t226 := tblOk_nil
theorem o226 : Holds Tryz.prog 226 c226 := fn_holds (code := Tryz.f226.body.getD .skip) (by kernel_rfl) gamOk k226 Tryz.func226 (by kernel_rfl) (by kernel_rfl) (by kernel_rfl) (by kernel_rfl) v226 (fun x _ h => (r226 x).trans ((n226 x.1).trans h))
/-! ### 189: loop.example/g00076/laws.toWindowS -/
noncomputable def t189 : Tbl := [(226, [], c226)]
abbrev h189_L0 : Shape := { slots := [(0, .v Ty79), (3, .ms 7), (4, .v (.int .i64))], boxes := [(7, .arr Ty68)] }
abbrev e189_L0 : List (XT × Shape) := [(.exit 0, { slots := [(3, .ms 7)], boxes := [(7, .arr Ty68)] })]
noncomputable def q189_L0 (t0 : Ta11) (t4 : Int) (r7 : Ta11) : Option (Ta118 ⊕ (Ta60 ⊕ Empty)) :=
  bif (decide (t4 < (t0.len : Int))) then
    bif (decide (0 ≤ t4) && decide (t4 < (t0.len : Int))) then
      bif (decide (0 ≤ t4) && decide (t4 < (r7.len : Int))) then
        some (.inl ((t0, ((), ((wI (t4 + (1 : Int))), ()))), ((L.set r7 t4.toNat (f226 (L.get t0 t4.toNat))), ())))
      else
        none
    else
      none
  else
    some (.inr (.inl (((), ()), (r7, ()))))
noncomputable def s189_L0 (x : Ta118) : Option (Ta118 ⊕ (Ta60 ⊕ Empty)) := q189_L0 x.1.1 x.1.2.2.1 x.2.1
noncomputable def a189 : Nat → Option LoopAnn := fun c => bif Nat.beq c 0 then some (.fix h189_L0 e189_L0 s189_L0) else none
noncomputable def g189 (x0 : Ta11) : Option Ta43 :=
  bif (decide ((x0.len : Int) = (x0.len : Int)) && (decide (0 ≤ (x0.len : Int)) && (decide ((x0.len : Int) ≤ 2 ^ 40) && decide (24 * (x0.len : Int) ≤ 2 ^ 48)))) then
    (fixO s189_L0 ((x0, ((), ((0 : Int), ()))), ((L.rep (x0.len : Int).toNat (Ty.zero Ty68)), ()))).bind fun d2 => match d2 with
    | .inl y1 =>
      some ((y1.2.1, ()), ())
    | .inr e => nomatch e
  else
    none
noncomputable def c189 : Ctr := { ins := [.v Ty79], out := [Ty79], F := fun x => g189 x.1 }
noncomputable def l189 : List (Nat × Code) := loopsIn (Tryz.f189.body.getD .skip) 0
theorem w189_L0 (x : h189_L0.T) : runK Tryz.prog Γ t189 a189 (l189.getD 0 (0, .skip)).2 0 (pkSh h189_L0 x) (loopCls (sh := h189_L0) (es := e189_L0)) = (s189_L0 x : Option _) := by kernel_rfl
theorem v189 : LoopsOk Tryz.prog Γ t189 a189 (loopsIn (Tryz.f189.body.getD .skip) 0) := by
  have e : loopsIn (Tryz.f189.body.getD .skip) 0 = [(0, (l189.getD 0 (0, .skip)).2)] := by kernel_rfl
  rw [e]
  exact ⟨fun x d h => (w189_L0 x).trans h, trivial⟩
theorem r189 (x : InsT c189.ins) : fnK Tryz.prog Γ t189 a189 Tryz.f189 c189 x = g189 x.1 := by kernel_rfl
theorem k189 : TblOk Tryz.prog t189 := tblOk_cons o226 (tblOk_nil)
theorem o189 : Holds Tryz.prog 189 c189 := fn_holds (code := Tryz.f189.body.getD .skip) (by kernel_rfl) gamOk k189 Tryz.func189 (by kernel_rfl) (by kernel_rfl) (by kernel_rfl) (by kernel_rfl) v189 (fun x _ h => (r189 x).trans h)
/-! ### 128: loop.example/g00076/laws.toPartRow -/
noncomputable def t128 : Tbl := [(188, [], c188), (189, [], c189)]
noncomputable def a128 : Nat → Option LoopAnn := fun _ => none
noncomputable def g128 (x0 : Ta102) : Option (Ta110 × Unit) :=
  (g189 x0.2.2.2.1).bind fun y1 =>
    some (((x0.1, (x0.2.1, ((f188 x0.2.2.1), y1.1))), ()), ())
noncomputable def c128 : Ctr := { ins := [.v Ty153], out := [Ty153], F := fun x => g128 x.1 }
theorem v128 : LoopsOk Tryz.prog Γ t128 a128 (loopsIn (Tryz.f128.body.getD .skip) 0) := loopsOk_nil (by kernel_rfl)
theorem r128 (x : InsT c128.ins) : fnK Tryz.prog Γ t128 a128 Tryz.f128 c128 x = g128 x.1 := by kernel_rfl
theorem k128 : TblOk Tryz.prog t128 := tblOk_cons o188 (tblOk_cons o189 (tblOk_nil))
theorem o128 : Holds Tryz.prog 128 c128 := fn_holds (code := Tryz.f128.body.getD .skip) (by kernel_rfl) gamOk k128 Tryz.func128 (by kernel_rfl) (by kernel_rfl) (by kernel_rfl) (by kernel_rfl) v128 (fun x _ h => (r128 x).trans h)
/-! ### 60: loop.example/g00076/laws.toPartRowS -/
noncomputable def t60 : Tbl := [(128, [], c128)]
abbrev h60_L0 : Shape := { slots := [(0, .v Ty154), (3, .ms 7), (4, .v (.int .i64))], boxes := [(7, .arr Ty153)] }
abbrev e60_L0 : List (XT × Shape) := [(.exit 0, { slots := [(3, .ms 7)], boxes := [(7, .arr Ty153)] })]
noncomputable def q60_L0 (t0 : Ta107) (t4 : Int) (r7 : Ta107) : Option (Ta168 ⊕ (((Unit × Unit) × Ta115) ⊕ Empty)) :=
  bif (decide (t4 < (t0.len : Int))) then
    bif (decide (0 ≤ t4) && decide (t4 < (t0.len : Int))) then
      (g128 (L.get t0 t4.toNat)).bind fun y1 =>
        bif (decide (0 ≤ t4) && decide (t4 < (r7.len : Int))) then
          some (.inl ((t0, ((), ((wI (t4 + (1 : Int))), ()))), ((L.set r7 t4.toNat y1.1.1), ())))
        else
          none
    else
      none
  else
    some (.inr (.inl (((), ()), (r7, ()))))
noncomputable def s60_L0 (x : Ta168) : Option (Ta168 ⊕ (((Unit × Unit) × Ta115) ⊕ Empty)) := q60_L0 x.1.1 x.1.2.2.1 x.2.1
noncomputable def a60 : Nat → Option LoopAnn := fun c => bif Nat.beq c 0 then some (.fix h60_L0 e60_L0 s60_L0) else none
noncomputable def g60 (x0 : Ta107) : Option (Ta115 × Unit) :=
  bif (decide ((x0.len : Int) = (x0.len : Int)) && (decide (0 ≤ (x0.len : Int)) && (decide ((x0.len : Int) ≤ 2 ^ 40) && decide (64 * (x0.len : Int) ≤ 2 ^ 48)))) then
    (fixO s60_L0 ((x0, ((), ((0 : Int), ()))), ((L.rep (x0.len : Int).toNat (Ty.zero Ty153)), ()))).bind fun d3 => match d3 with
    | .inl y2 =>
      some ((y2.2.1, ()), ())
    | .inr e => nomatch e
  else
    none
noncomputable def c60 : Ctr := { ins := [.v Ty154], out := [Ty154], F := fun x => g60 x.1 }
noncomputable def l60 : List (Nat × Code) := loopsIn (Tryz.f60.body.getD .skip) 0
theorem w60_L0 (x : h60_L0.T) : runK Tryz.prog Γ t60 a60 (l60.getD 0 (0, .skip)).2 0 (pkSh h60_L0 x) (loopCls (sh := h60_L0) (es := e60_L0)) = (s60_L0 x : Option _) := by kernel_rfl
theorem v60 : LoopsOk Tryz.prog Γ t60 a60 (loopsIn (Tryz.f60.body.getD .skip) 0) := by
  have e : loopsIn (Tryz.f60.body.getD .skip) 0 = [(0, (l60.getD 0 (0, .skip)).2)] := by kernel_rfl
  rw [e]
  exact ⟨fun x d h => (w60_L0 x).trans h, trivial⟩
theorem r60 (x : InsT c60.ins) : fnK Tryz.prog Γ t60 a60 Tryz.f60 c60 x = g60 x.1 := by kernel_rfl
theorem k60 : TblOk Tryz.prog t60 := tblOk_cons o128 (tblOk_nil)
theorem o60 : Holds Tryz.prog 60 c60 := fn_holds (code := Tryz.f60.body.getD .skip) (by kernel_rfl) gamOk k60 Tryz.func60 (by kernel_rfl) (by kernel_rfl) (by kernel_rfl) (by kernel_rfl) v60 (fun x _ h => (r60 x).trans h)
/-! ### 61: loop.example/g00076/laws.toIntS -/
noncomputable def t61 : Tbl := []
abbrev h61_L0 : Shape := { slots := [(0, .v (.sl (.int .i64))), (3, .ms 7), (4, .v (.int .i64))], boxes := [(7, .arr (.int .i64))] }
abbrev e61_L0 : List (XT × Shape) := [(.exit 0, { slots := [(3, .ms 7)], boxes := [(7, .arr (.int .i64))] })]
noncomputable def q61_L0 (t0 : (L Int)) (t4 : Int) (r7 : (L Int)) : Option (Ta50 ⊕ (((Unit × Unit) × ((L Int) × Unit)) ⊕ Empty)) :=
  bif (decide (t4 < (t0.len : Int))) then
    bif (decide (0 ≤ t4) && decide (t4 < (t0.len : Int))) then
      bif (decide (0 ≤ t4) && decide (t4 < (r7.len : Int))) then
        some (.inl ((t0, ((), ((wI (t4 + (1 : Int))), ()))), ((L.set r7 t4.toNat (L.get t0 t4.toNat)), ())))
      else
        none
    else
      none
  else
    some (.inr (.inl (((), ()), (r7, ()))))
noncomputable def s61_L0 (x : Ta50) : Option (Ta50 ⊕ (((Unit × Unit) × ((L Int) × Unit)) ⊕ Empty)) := q61_L0 x.1.1 x.1.2.2.1 x.2.1
noncomputable def a61 : Nat → Option LoopAnn := fun c => bif Nat.beq c 0 then some (.fix h61_L0 e61_L0 s61_L0) else none
noncomputable def g61 (x0 : (L Int)) : Option (((L Int) × Unit) × Unit) :=
  bif (decide ((x0.len : Int) = (x0.len : Int)) && (decide (0 ≤ (x0.len : Int)) && (decide ((x0.len : Int) ≤ 2 ^ 40) && decide (8 * (x0.len : Int) ≤ 2 ^ 48)))) then
    (fixO s61_L0 ((x0, ((), ((0 : Int), ()))), ((L.rep (x0.len : Int).toNat (Ty.zero (.int .i64))), ()))).bind fun d2 => match d2 with
    | .inl y1 =>
      some ((y1.2.1, ()), ())
    | .inr e => nomatch e
  else
    none
noncomputable def c61 : Ctr := { ins := [.v (.sl (.int .i64))], out := [(.sl (.int .i64))], F := fun x => g61 x.1 }
noncomputable def l61 : List (Nat × Code) := loopsIn (Tryz.f61.body.getD .skip) 0
theorem w61_L0 (x : h61_L0.T) : runK Tryz.prog Γ t61 a61 (l61.getD 0 (0, .skip)).2 0 (pkSh h61_L0 x) (loopCls (sh := h61_L0) (es := e61_L0)) = (s61_L0 x : Option _) := by kernel_rfl
theorem v61 : LoopsOk Tryz.prog Γ t61 a61 (loopsIn (Tryz.f61.body.getD .skip) 0) := by
  have e : loopsIn (Tryz.f61.body.getD .skip) 0 = [(0, (l61.getD 0 (0, .skip)).2)] := by kernel_rfl
  rw [e]
  exact ⟨fun x d h => (w61_L0 x).trans h, trivial⟩
theorem r61 (x : InsT c61.ins) : fnK Tryz.prog Γ t61 a61 Tryz.f61 c61 x = g61 x.1 := by kernel_rfl
theorem k61 : TblOk Tryz.prog t61 := tblOk_nil
theorem o61 : Holds Tryz.prog 61 c61 := fn_holds (code := Tryz.f61.body.getD .skip) (by kernel_rfl) gamOk k61 Tryz.func61 (by kernel_rfl) (by kernel_rfl) (by kernel_rfl) (by kernel_rfl) v61 (fun x _ h => (r61 x).trans h)
/-! ### 129: loop.example/g00076/laws.toChanRow -/
noncomputable def t129 : Tbl := []
noncomputable def a129 : Nat → Option LoopAnn := fun _ => none
noncomputable def g129 (x0 : Ta16) : Option Ta51 :=
  some ((x0, ()), ())
noncomputable def f129 (x0 : Ta16) : Ta16 :=
  x0
theorem n129 (x0 : Ta16) : g129 x0 = some ((f129 x0, ()), ()) := by
  simp only [g129, f129, pull1]
noncomputable def c129 : Ctr := { ins := [.v Ty99], out := [Ty99], F := fun x => some ((f129 x.1, ()), ()) }
theorem v129 : LoopsOk Tryz.prog Γ t129 a129 (loopsIn (Tryz.f129.body.getD .skip) 0) := loopsOk_nil (by kernel_rfl)
theorem r129 (x : InsT c129.ins) : fnK Tryz.prog Γ t129 a129 Tryz.f129 c129 x = g129 x.1 := by kernel_rfl
theorem k129 : TblOk Tryz.prog t129 := tblOk_nil
theorem o129 : Holds Tryz.prog 129 c129 := fn_holds (code := Tryz.f129.body.getD .skip) (by kernel_rfl) gamOk k129 Tryz.func129 (by kernel_rfl) (by kernel_rfl) (by kernel_rfl) (by kernel_rfl) v129 (fun x _ h => (r129 x).trans ((n129 x.1).trans h))
/-! ### 62: loop.example/g00076/laws.toChanRowS -/
noncomputable def t62 : Tbl := [(129, [], c129)]
abbrev h62_L0 : Shape := { slots := [(0, .v Ty105), (3, .ms 7), (4, .v (.int .i64))], boxes := [(7, .arr Ty99)] }
abbrev e62_L0 : List (XT × Shape) := [(.exit 0, { slots := [(3, .ms 7)], boxes := [(7, .arr Ty99)] })]
noncomputable def q62_L0 (t0 : Ta26) (t4 : Int) (r7 : Ta26) : Option (Ta128 ⊕ (((Unit × Unit) × Ta40) ⊕ Empty)) :=
  bif (decide (t4 < (t0.len : Int))) then
    bif (decide (0 ≤ t4) && decide (t4 < (t0.len : Int))) then
      bif (decide (0 ≤ t4) && decide (t4 < (r7.len : Int))) then
        some (.inl ((t0, ((), ((wI (t4 + (1 : Int))), ()))), ((L.set r7 t4.toNat (f129 (L.get t0 t4.toNat))), ())))
      else
        none
    else
      none
  else
    some (.inr (.inl (((), ()), (r7, ()))))
noncomputable def s62_L0 (x : Ta128) : Option (Ta128 ⊕ (((Unit × Unit) × Ta40) ⊕ Empty)) := q62_L0 x.1.1 x.1.2.2.1 x.2.1
noncomputable def a62 : Nat → Option LoopAnn := fun c => bif Nat.beq c 0 then some (.fix h62_L0 e62_L0 s62_L0) else none
noncomputable def g62 (x0 : Ta26) : Option (Ta40 × Unit) :=
  bif (decide ((x0.len : Int) = (x0.len : Int)) && (decide (0 ≤ (x0.len : Int)) && (decide ((x0.len : Int) ≤ 2 ^ 40) && decide (32 * (x0.len : Int) ≤ 2 ^ 48)))) then
    (fixO s62_L0 ((x0, ((), ((0 : Int), ()))), ((L.rep (x0.len : Int).toNat (Ty.zero Ty99)), ()))).bind fun d2 => match d2 with
    | .inl y1 =>
      some ((y1.2.1, ()), ())
    | .inr e => nomatch e
  else
    none
noncomputable def c62 : Ctr := { ins := [.v Ty105], out := [Ty105], F := fun x => g62 x.1 }
noncomputable def l62 : List (Nat × Code) := loopsIn (Tryz.f62.body.getD .skip) 0
theorem w62_L0 (x : h62_L0.T) : runK Tryz.prog Γ t62 a62 (l62.getD 0 (0, .skip)).2 0 (pkSh h62_L0 x) (loopCls (sh := h62_L0) (es := e62_L0)) = (s62_L0 x : Option _) := by kernel_rfl
theorem v62 : LoopsOk Tryz.prog Γ t62 a62 (loopsIn (Tryz.f62.body.getD .skip) 0) := by
  have e : loopsIn (Tryz.f62.body.getD .skip) 0 = [(0, (l62.getD 0 (0, .skip)).2)] := by kernel_rfl
  rw [e]
  exact ⟨fun x d h => (w62_L0 x).trans h, trivial⟩
theorem r62 (x : InsT c62.ins) : fnK Tryz.prog Γ t62 a62 Tryz.f62 c62 x = g62 x.1 := by kernel_rfl
theorem k62 : TblOk Tryz.prog t62 := tblOk_cons o129 (tblOk_nil)
theorem o62 : Holds Tryz.prog 62 c62 := fn_holds (code := Tryz.f62.body.getD .skip) (by kernel_rfl) gamOk k62 Tryz.func62 (by kernel_rfl) (by kernel_rfl) (by kernel_rfl) (by kernel_rfl) v62 (fun x _ h => (r62 x).trans h)
/-! ### 130: loop.example/g00076/laws.toSlot -/
noncomputable def t130 : Tbl := []
noncomputable def a130 : Nat → Option LoopAnn := fun _ => none
noncomputable def g130 (x0 : Ta5) : Option Ta36 :=
  some ((x0, ()), ())
noncomputable def f130 (x0 : Ta5) : Ta5 :=
  x0
theorem n130 (x0 : Ta5) : g130 x0 = some ((f130 x0, ()), ()) := by
  simp only [g130, f130, pull1]
noncomputable def c130 : Ctr := { ins := [.v Ty68], out := [Ty68], F := fun x => some ((f130 x.1, ()), ()) }
theorem v130 : LoopsOk Tryz.prog Γ t130 a130 (loopsIn (Tryz.f130.body.getD .skip) 0) := loopsOk_nil (by kernel_rfl)
theorem r130 (x : InsT c130.ins) : fnK Tryz.prog Γ t130 a130 Tryz.f130 c130 x = g130 x.1 := by kernel_rfl
theorem k130 : TblOk Tryz.prog t130 := tblOk_nil
theorem o130 : Holds Tryz.prog 130 c130 := fn_holds (code := Tryz.f130.body.getD .skip) (by kernel_rfl) gamOk k130 Tryz.func130 (by kernel_rfl) (by kernel_rfl) (by kernel_rfl) (by kernel_rfl) v130 (fun x _ h => (r130 x).trans ((n130 x.1).trans h))
/-! ### 63: loop.example/g00076/laws.toSlotS -/
noncomputable def t63 : Tbl := [(130, [], c130)]
abbrev h63_L0 : Shape := { slots := [(0, .v Ty79), (3, .ms 7), (4, .v (.int .i64))], boxes := [(7, .arr Ty68)] }
abbrev e63_L0 : List (XT × Shape) := [(.exit 0, { slots := [(3, .ms 7)], boxes := [(7, .arr Ty68)] })]
noncomputable def q63_L0 (t0 : Ta11) (t4 : Int) (r7 : Ta11) : Option (Ta118 ⊕ (Ta60 ⊕ Empty)) :=
  bif (decide (t4 < (t0.len : Int))) then
    bif (decide (0 ≤ t4) && decide (t4 < (t0.len : Int))) then
      bif (decide (0 ≤ t4) && decide (t4 < (r7.len : Int))) then
        some (.inl ((t0, ((), ((wI (t4 + (1 : Int))), ()))), ((L.set r7 t4.toNat (f130 (L.get t0 t4.toNat))), ())))
      else
        none
    else
      none
  else
    some (.inr (.inl (((), ()), (r7, ()))))
noncomputable def s63_L0 (x : Ta118) : Option (Ta118 ⊕ (Ta60 ⊕ Empty)) := q63_L0 x.1.1 x.1.2.2.1 x.2.1
noncomputable def a63 : Nat → Option LoopAnn := fun c => bif Nat.beq c 0 then some (.fix h63_L0 e63_L0 s63_L0) else none
noncomputable def g63 (x0 : Ta11) : Option Ta43 :=
  bif (decide ((x0.len : Int) = (x0.len : Int)) && (decide (0 ≤ (x0.len : Int)) && (decide ((x0.len : Int) ≤ 2 ^ 40) && decide (24 * (x0.len : Int) ≤ 2 ^ 48)))) then
    (fixO s63_L0 ((x0, ((), ((0 : Int), ()))), ((L.rep (x0.len : Int).toNat (Ty.zero Ty68)), ()))).bind fun d2 => match d2 with
    | .inl y1 =>
      some ((y1.2.1, ()), ())
    | .inr e => nomatch e
  else
    none
noncomputable def c63 : Ctr := { ins := [.v Ty79], out := [Ty79], F := fun x => g63 x.1 }
noncomputable def l63 : List (Nat × Code) := loopsIn (Tryz.f63.body.getD .skip) 0
theorem w63_L0 (x : h63_L0.T) : runK Tryz.prog Γ t63 a63 (l63.getD 0 (0, .skip)).2 0 (pkSh h63_L0 x) (loopCls (sh := h63_L0) (es := e63_L0)) = (s63_L0 x : Option _) := by kernel_rfl
theorem v63 : LoopsOk Tryz.prog Γ t63 a63 (loopsIn (Tryz.f63.body.getD .skip) 0) := by
  have e : loopsIn (Tryz.f63.body.getD .skip) 0 = [(0, (l63.getD 0 (0, .skip)).2)] := by kernel_rfl
  rw [e]
  exact ⟨fun x d h => (w63_L0 x).trans h, trivial⟩
theorem r63 (x : InsT c63.ins) : fnK Tryz.prog Γ t63 a63 Tryz.f63 c63 x = g63 x.1 := by kernel_rfl
theorem k63 : TblOk Tryz.prog t63 := tblOk_cons o130 (tblOk_nil)
theorem o63 : Holds Tryz.prog 63 c63 := fn_holds (code := Tryz.f63.body.getD .skip) (by kernel_rfl) gamOk k63 Tryz.func63 (by kernel_rfl) (by kernel_rfl) (by kernel_rfl) (by kernel_rfl) v63 (fun x _ h => (r63 x).trans h)
/-! ### 15: loop.example/g00076/laws.toTables -/
noncomputable def t15 : Tbl := [(58, [], c58), (59, [], c59), (60, [], c60), (61, [], c61), (62, [], c62), (63, [], c63)]
noncomputable def a15 : Nat → Option LoopAnn := fun _ => none
noncomputable def g15 (x0 : Ta174) : Option (Ta175 × Unit) :=
  (g60 x0.2.2.2.2.2.2.2.1).bind fun y1 =>
    (g61 x0.2.2.2.2.2.2.2.2.1).bind fun y2 =>
      (g62 x0.2.2.2.2.2.2.2.2.2.1).bind fun y3 =>
        (g63 x0.2.2.2.2.2.2.2.2.2.2.1).bind fun y4 =>
          some (((x0.1, ((f58 x0.2.1), (x0.2.2.1, ((f59 x0.2.2.2.1), (x0.2.2.2.2.1, (x0.2.2.2.2.2.1, (x0.2.2.2.2.2.2.1, (y1.1.1, (y2.1.1, (y3.1.1, y4.1)))))))))), ()), ())
noncomputable def c15 : Ctr := { ins := [.v Ty190], out := [Ty190], F := fun x => g15 x.1 }
theorem v15 : LoopsOk Tryz.prog Γ t15 a15 (loopsIn (Tryz.f15.body.getD .skip) 0) := loopsOk_nil (by kernel_rfl)
theorem r15 (x : InsT c15.ins) : fnK Tryz.prog Γ t15 a15 Tryz.f15 c15 x = g15 x.1 := by kernel_rfl
theorem k15 : TblOk Tryz.prog t15 := tblOk_cons o58 (tblOk_cons o59 (tblOk_cons o60 (tblOk_cons o61 (tblOk_cons o62 (tblOk_cons o63 (tblOk_nil))))))
theorem o15 : Holds Tryz.prog 15 c15 := fn_holds (code := Tryz.f15.body.getD .skip) (by kernel_rfl) gamOk k15 Tryz.func15 (by kernel_rfl) (by kernel_rfl) (by kernel_rfl) (by kernel_rfl) v15 (fun x _ h => (r15 x).trans h)
/-! ### 215: loop.example/g00076/laws.toWay -/
noncomputable def t215 : Tbl := []
noncomputable def a215 : Nat → Option LoopAnn := fun _ => none
noncomputable def g215 (x0 : (Int × (Bool × Unit))) : Option (((Int × (Bool × Unit)) × Unit) × Unit) :=
  some ((x0, ()), ())
noncomputable def f215 (x0 : (Int × (Bool × Unit))) : (Int × (Bool × Unit)) :=
  x0
theorem n215 (x0 : (Int × (Bool × Unit))) : g215 x0 = some ((f215 x0, ()), ()) := by
  simp only [g215, f215, pull1]
noncomputable def c215 : Ctr := { ins := [.v Ty24], out := [Ty24], F := fun x => some ((f215 x.1, ()), ()) }
theorem v215 : LoopsOk Tryz.prog Γ t215 a215 (loopsIn (Tryz.f215.body.getD .skip) 0) := loopsOk_nil (by kernel_rfl)
theorem r215 (x : InsT c215.ins) : fnK Tryz.prog Γ t215 a215 Tryz.f215 c215 x = g215 x.1 := by kernel_rfl
theorem k215 : TblOk Tryz.prog t215 := tblOk_nil
theorem o215 : Holds Tryz.prog 215 c215 := fn_holds (code := Tryz.f215.body.getD .skip) (by kernel_rfl) gamOk k215 Tryz.func215 (by kernel_rfl) (by kernel_rfl) (by kernel_rfl) (by kernel_rfl) v215 (fun x _ h => (r215 x).trans ((n215 x.1).trans h))
/-! ### 164: loop.example/g00076/laws.toWayS -/
noncomputable def t164 : Tbl := [(215, [], c215)]
abbrev h164_L0 : Shape := { slots := [(0, .v Ty33), (3, .ms 7), (4, .v (.int .i64))], boxes := [(7, .arr Ty24)] }
abbrev e164_L0 : List (XT × Shape) := [(.exit 0, { slots := [(3, .ms 7)], boxes := [(7, .arr Ty24)] })]
noncomputable def q164_L0 (t0 : Ta2) (t4 : Int) (r7 : Ta2) : Option (Ta104 ⊕ (((Unit × Unit) × Ta13) ⊕ Empty)) :=
  bif (decide (t4 < (t0.len : Int))) then
    bif (decide (0 ≤ t4) && decide (t4 < (t0.len : Int))) then
      bif (decide (0 ≤ t4) && decide (t4 < (r7.len : Int))) then
        some (.inl ((t0, ((), ((wI (t4 + (1 : Int))), ()))), ((L.set r7 t4.toNat (f215 (L.get t0 t4.toNat))), ())))
      else
        none
    else
      none
  else
    some (.inr (.inl (((), ()), (r7, ()))))
noncomputable def s164_L0 (x : Ta104) : Option (Ta104 ⊕ (((Unit × Unit) × Ta13) ⊕ Empty)) := q164_L0 x.1.1 x.1.2.2.1 x.2.1
noncomputable def a164 : Nat → Option LoopAnn := fun c => bif Nat.beq c 0 then some (.fix h164_L0 e164_L0 s164_L0) else none
noncomputable def g164 (x0 : Ta2) : Option (Ta13 × Unit) :=
  bif (decide ((x0.len : Int) = (x0.len : Int)) && (decide (0 ≤ (x0.len : Int)) && (decide ((x0.len : Int) ≤ 2 ^ 40) && decide (16 * (x0.len : Int) ≤ 2 ^ 48)))) then
    (fixO s164_L0 ((x0, ((), ((0 : Int), ()))), ((L.rep (x0.len : Int).toNat (Ty.zero Ty24)), ()))).bind fun d2 => match d2 with
    | .inl y1 =>
      some ((y1.2.1, ()), ())
    | .inr e => nomatch e
  else
    none
noncomputable def c164 : Ctr := { ins := [.v Ty33], out := [Ty33], F := fun x => g164 x.1 }
noncomputable def l164 : List (Nat × Code) := loopsIn (Tryz.f164.body.getD .skip) 0
theorem w164_L0 (x : h164_L0.T) : runK Tryz.prog Γ t164 a164 (l164.getD 0 (0, .skip)).2 0 (pkSh h164_L0 x) (loopCls (sh := h164_L0) (es := e164_L0)) = (s164_L0 x : Option _) := by kernel_rfl
theorem v164 : LoopsOk Tryz.prog Γ t164 a164 (loopsIn (Tryz.f164.body.getD .skip) 0) := by
  have e : loopsIn (Tryz.f164.body.getD .skip) 0 = [(0, (l164.getD 0 (0, .skip)).2)] := by kernel_rfl
  rw [e]
  exact ⟨fun x d h => (w164_L0 x).trans h, trivial⟩
theorem r164 (x : InsT c164.ins) : fnK Tryz.prog Γ t164 a164 Tryz.f164 c164 x = g164 x.1 := by kernel_rfl
theorem k164 : TblOk Tryz.prog t164 := tblOk_cons o215 (tblOk_nil)
theorem o164 : Holds Tryz.prog 164 c164 := fn_holds (code := Tryz.f164.body.getD .skip) (by kernel_rfl) gamOk k164 Tryz.func164 (by kernel_rfl) (by kernel_rfl) (by kernel_rfl) (by kernel_rfl) v164 (fun x _ h => (r164 x).trans h)
/-! ### 98: loop.example/g00076/laws.toWaySS -/
noncomputable def t98 : Tbl := [(164, [], c164)]
abbrev h98_L0 : Shape := { slots := [(0, .v Ty46), (3, .ms 7), (4, .v (.int .i64))], boxes := [(7, .arr Ty33)] }
abbrev e98_L0 : List (XT × Shape) := [(.exit 0, { slots := [(3, .ms 7)], boxes := [(7, .arr Ty33)] })]
noncomputable def q98_L0 (t0 : Ta6) (t4 : Int) (r7 : Ta6) : Option (Ta112 ⊕ (((Unit × Unit) × Ta21) ⊕ Empty)) :=
  bif (decide (t4 < (t0.len : Int))) then
    bif (decide (0 ≤ t4) && decide (t4 < (t0.len : Int))) then
      (g164 (L.get t0 t4.toNat)).bind fun y1 =>
        bif (decide (0 ≤ t4) && decide (t4 < (r7.len : Int))) then
          some (.inl ((t0, ((), ((wI (t4 + (1 : Int))), ()))), ((L.set r7 t4.toNat y1.1.1), ())))
        else
          none
    else
      none
  else
    some (.inr (.inl (((), ()), (r7, ()))))
noncomputable def s98_L0 (x : Ta112) : Option (Ta112 ⊕ (((Unit × Unit) × Ta21) ⊕ Empty)) := q98_L0 x.1.1 x.1.2.2.1 x.2.1
noncomputable def a98 : Nat → Option LoopAnn := fun c => bif Nat.beq c 0 then some (.fix h98_L0 e98_L0 s98_L0) else none
noncomputable def g98 (x0 : Ta6) : Option (Ta21 × Unit) :=
  bif (decide ((x0.len : Int) = (x0.len : Int)) && (decide (0 ≤ (x0.len : Int)) && (decide ((x0.len : Int) ≤ 2 ^ 40) && decide (24 * (x0.len : Int) ≤ 2 ^ 48)))) then
    (fixO s98_L0 ((x0, ((), ((0 : Int), ()))), ((L.rep (x0.len : Int).toNat (Ty.zero Ty33)), ()))).bind fun d3 => match d3 with
    | .inl y2 =>
      some ((y2.2.1, ()), ())
    | .inr e => nomatch e
  else
    none
noncomputable def c98 : Ctr := { ins := [.v Ty46], out := [Ty46], F := fun x => g98 x.1 }
noncomputable def l98 : List (Nat × Code) := loopsIn (Tryz.f98.body.getD .skip) 0
theorem w98_L0 (x : h98_L0.T) : runK Tryz.prog Γ t98 a98 (l98.getD 0 (0, .skip)).2 0 (pkSh h98_L0 x) (loopCls (sh := h98_L0) (es := e98_L0)) = (s98_L0 x : Option _) := by kernel_rfl
theorem v98 : LoopsOk Tryz.prog Γ t98 a98 (loopsIn (Tryz.f98.body.getD .skip) 0) := by
  have e : loopsIn (Tryz.f98.body.getD .skip) 0 = [(0, (l98.getD 0 (0, .skip)).2)] := by kernel_rfl
  rw [e]
  exact ⟨fun x d h => (w98_L0 x).trans h, trivial⟩
theorem r98 (x : InsT c98.ins) : fnK Tryz.prog Γ t98 a98 Tryz.f98 c98 x = g98 x.1 := by kernel_rfl
theorem k98 : TblOk Tryz.prog t98 := tblOk_cons o164 (tblOk_nil)
theorem o98 : Holds Tryz.prog 98 c98 := fn_holds (code := Tryz.f98.body.getD .skip) (by kernel_rfl) gamOk k98 Tryz.func98 (by kernel_rfl) (by kernel_rfl) (by kernel_rfl) (by kernel_rfl) v98 (fun x _ h => (r98 x).trans h)
/-! ### 43: loop.example/g00076/laws.toCache -/
noncomputable def t43 : Tbl := [(58, [], c58), (98, [], c98)]
noncomputable def a43 : Nat → Option LoopAnn := fun _ => none
noncomputable def g43 (x0 : Ta80) : Option (Ta91 × Unit) :=
  (g98 x0.2.1).bind fun y1 =>
    some ((((f58 x0.1), y1.1), ()), ())
noncomputable def c43 : Ctr := { ins := [.v Ty134], out := [Ty134], F := fun x => g43 x.1 }
theorem v43 : LoopsOk Tryz.prog Γ t43 a43 (loopsIn (Tryz.f43.body.getD .skip) 0) := loopsOk_nil (by kernel_rfl)
theorem r43 (x : InsT c43.ins) : fnK Tryz.prog Γ t43 a43 Tryz.f43 c43 x = g43 x.1 := by kernel_rfl
theorem k43 : TblOk Tryz.prog t43 := tblOk_cons o58 (tblOk_cons o98 (tblOk_nil))
theorem o43 : Holds Tryz.prog 43 c43 := fn_holds (code := Tryz.f43.body.getD .skip) (by kernel_rfl) gamOk k43 Tryz.func43 (by kernel_rfl) (by kernel_rfl) (by kernel_rfl) (by kernel_rfl) v43 (fun x _ h => (r43 x).trans h)
/-! ### 77: loop.example/g00076/spec.l01In -/
noncomputable def t77 : Tbl := []
noncomputable def a77 : Nat → Option LoopAnn := fun _ => none
noncomputable def g77 (x0 : Int) (x1 : Int) (x2 : Int) : Option ((Bool × Unit) × Unit) :=
  bif (decide (x0 ≥ x1)) then
    some (((decide (x0 ≤ x2)), ()), ())
  else
    some ((false, ()), ())
noncomputable def f77 (x0 : Int) (x1 : Int) (x2 : Int) : Bool :=
  bif (decide (x0 ≥ x1)) then
    (decide (x0 ≤ x2))
  else
    false
theorem n77 (x0 : Int) (x1 : Int) (x2 : Int) : g77 x0 x1 x2 = some ((f77 x0 x1 x2, ()), ()) := by
  simp only [g77, f77, pull1]
noncomputable def c77 : Ctr := { ins := [.v (.int .i64), .v (.int .i64), .v (.int .i64)], out := [.bool], F := fun x => some ((f77 x.1 x.2.1 x.2.2.1, ()), ()) }
theorem v77 : LoopsOk Tryz.prog Γ t77 a77 (loopsIn (Tryz.f77.body.getD .skip) 0) := loopsOk_nil (by kernel_rfl)
theorem r77 (x : InsT c77.ins) : fnK Tryz.prog Γ t77 a77 Tryz.f77 c77 x = g77 x.1 x.2.1 x.2.2.1 := by kernel_rfl
theorem k77 : TblOk Tryz.prog t77 := tblOk_nil
theorem o77 : Holds Tryz.prog 77 c77 := fn_holds (code := Tryz.f77.body.getD .skip) (by kernel_rfl) gamOk k77 Tryz.func77 (by kernel_rfl) (by kernel_rfl) (by kernel_rfl) (by kernel_rfl) v77 (fun x _ h => (r77 x).trans ((n77 x.1 x.2.1 x.2.2.1).trans h))
/-! ### 162: loop.example/g00076/spec.ShapeOk -/
noncomputable def t162 : Tbl := [(77, [], c77)]
noncomputable def a162 : Nat → Option LoopAnn := fun _ => none
noncomputable def g162 (x0 : Ta5) : Option ((Bool × Unit) × Unit) :=
  bif (x0.1 == (1 : Int)) then
    bif (x0.2.2.1 == (4 : Int)) then
      some (((f77 x0.2.1 (1 : Int) (4 : Int)), ()), ())
    else
      bif (x0.2.2.1 == (8 : Int)) then
        some (((f77 x0.2.1 (1 : Int) (4 : Int)), ()), ())
      else
        bif (x0.2.2.1 == (16 : Int)) then
          some (((f77 x0.2.1 (1 : Int) (4 : Int)), ()), ())
        else
          bif (x0.2.2.1 == (32 : Int)) then
            some (((f77 x0.2.1 (1 : Int) (4 : Int)), ()), ())
          else
            some ((false, ()), ())
  else
    bif (x0.1 == (2 : Int)) then
      bif (x0.2.2.1 == (4 : Int)) then
        some (((f77 x0.2.1 (1 : Int) (4 : Int)), ()), ())
      else
        bif (x0.2.2.1 == (8 : Int)) then
          some (((f77 x0.2.1 (1 : Int) (4 : Int)), ()), ())
        else
          bif (x0.2.2.1 == (16 : Int)) then
            some (((f77 x0.2.1 (1 : Int) (4 : Int)), ()), ())
          else
            bif (x0.2.2.1 == (32 : Int)) then
              some (((f77 x0.2.1 (1 : Int) (4 : Int)), ()), ())
            else
              some ((false, ()), ())
    else
      bif (x0.1 == (4 : Int)) then
        bif (x0.2.2.1 == (4 : Int)) then
          some (((f77 x0.2.1 (1 : Int) (4 : Int)), ()), ())
        else
          bif (x0.2.2.1 == (8 : Int)) then
            some (((f77 x0.2.1 (1 : Int) (4 : Int)), ()), ())
          else
            bif (x0.2.2.1 == (16 : Int)) then
              some (((f77 x0.2.1 (1 : Int) (4 : Int)), ()), ())
            else
              bif (x0.2.2.1 == (32 : Int)) then
                some (((f77 x0.2.1 (1 : Int) (4 : Int)), ()), ())
              else
                some ((false, ()), ())
      else
        bif (x0.1 == (8 : Int)) then
          bif (x0.2.2.1 == (4 : Int)) then
            some (((f77 x0.2.1 (1 : Int) (4 : Int)), ()), ())
          else
            bif (x0.2.2.1 == (8 : Int)) then
              some (((f77 x0.2.1 (1 : Int) (4 : Int)), ()), ())
            else
              bif (x0.2.2.1 == (16 : Int)) then
                some (((f77 x0.2.1 (1 : Int) (4 : Int)), ()), ())
              else
                bif (x0.2.2.1 == (32 : Int)) then
                  some (((f77 x0.2.1 (1 : Int) (4 : Int)), ()), ())
                else
                  some ((false, ()), ())
        else
          bif (x0.2.2.1 == (4 : Int)) then
            bif (x0.1 == (16 : Int)) then
              some (((f77 x0.2.1 (1 : Int) (4 : Int)), ()), ())
            else
              some ((false, ()), ())
          else
            bif (x0.2.2.1 == (8 : Int)) then
              bif (x0.1 == (16 : Int)) then
                some (((f77 x0.2.1 (1 : Int) (4 : Int)), ()), ())
              else
                some ((false, ()), ())
            else
              bif (x0.2.2.1 == (16 : Int)) then
                bif (x0.1 == (16 : Int)) then
                  some (((f77 x0.2.1 (1 : Int) (4 : Int)), ()), ())
                else
                  some ((false, ()), ())
              else
                bif (x0.1 == (16 : Int)) then
                  bif (x0.2.2.1 == (32 : Int)) then
                    some (((f77 x0.2.1 (1 : Int) (4 : Int)), ()), ())
                  else
                    some ((false, ()), ())
                else
                  some ((false, ()), ())
noncomputable def f162 (x0 : Ta5) : Bool :=
  bif (x0.1 == (1 : Int)) then
    bif (x0.2.2.1 == (4 : Int)) then
      (f77 x0.2.1 (1 : Int) (4 : Int))
    else
      bif (x0.2.2.1 == (8 : Int)) then
        (f77 x0.2.1 (1 : Int) (4 : Int))
      else
        bif (x0.2.2.1 == (16 : Int)) then
          (f77 x0.2.1 (1 : Int) (4 : Int))
        else
          bif (x0.2.2.1 == (32 : Int)) then
            (f77 x0.2.1 (1 : Int) (4 : Int))
          else
            false
  else
    bif (x0.1 == (2 : Int)) then
      bif (x0.2.2.1 == (4 : Int)) then
        (f77 x0.2.1 (1 : Int) (4 : Int))
      else
        bif (x0.2.2.1 == (8 : Int)) then
          (f77 x0.2.1 (1 : Int) (4 : Int))
        else
          bif (x0.2.2.1 == (16 : Int)) then
            (f77 x0.2.1 (1 : Int) (4 : Int))
          else
            bif (x0.2.2.1 == (32 : Int)) then
              (f77 x0.2.1 (1 : Int) (4 : Int))
            else
              false
    else
      bif (x0.1 == (4 : Int)) then
        bif (x0.2.2.1 == (4 : Int)) then
          (f77 x0.2.1 (1 : Int) (4 : Int))
        else
          bif (x0.2.2.1 == (8 : Int)) then
            (f77 x0.2.1 (1 : Int) (4 : Int))
          else
            bif (x0.2.2.1 == (16 : Int)) then
              (f77 x0.2.1 (1 : Int) (4 : Int))
            else
              bif (x0.2.2.1 == (32 : Int)) then
                (f77 x0.2.1 (1 : Int) (4 : Int))
              else
                false
      else
        bif (x0.1 == (8 : Int)) then
          bif (x0.2.2.1 == (4 : Int)) then
            (f77 x0.2.1 (1 : Int) (4 : Int))
          else
            bif (x0.2.2.1 == (8 : Int)) then
              (f77 x0.2.1 (1 : Int) (4 : Int))
            else
              bif (x0.2.2.1 == (16 : Int)) then
                (f77 x0.2.1 (1 : Int) (4 : Int))
              else
                bif (x0.2.2.1 == (32 : Int)) then
                  (f77 x0.2.1 (1 : Int) (4 : Int))
                else
                  false
        else
          bif (x0.2.2.1 == (4 : Int)) then
            bif (x0.1 == (16 : Int)) then
              (f77 x0.2.1 (1 : Int) (4 : Int))
            else
              false
          else
            bif (x0.2.2.1 == (8 : Int)) then
              bif (x0.1 == (16 : Int)) then
                (f77 x0.2.1 (1 : Int) (4 : Int))
              else
                false
            else
              bif (x0.2.2.1 == (16 : Int)) then
                bif (x0.1 == (16 : Int)) then
                  (f77 x0.2.1 (1 : Int) (4 : Int))
                else
                  false
              else
                bif (x0.1 == (16 : Int)) then
                  bif (x0.2.2.1 == (32 : Int)) then
                    (f77 x0.2.1 (1 : Int) (4 : Int))
                  else
                    false
                else
                  false
theorem n162 (x0 : Ta5) : g162 x0 = some ((f162 x0, ()), ()) := by
  simp only [g162, f162, pull1]
noncomputable def c162 : Ctr := { ins := [.v Ty68], out := [.bool], F := fun x => some ((f162 x.1, ()), ()) }
theorem v162 : LoopsOk Tryz.prog Γ t162 a162 (loopsIn (Tryz.f162.body.getD .skip) 0) := loopsOk_nil (by kernel_rfl)
theorem r162 (x : InsT c162.ins) : fnK Tryz.prog Γ t162 a162 Tryz.f162 c162 x = g162 x.1 := by kernel_rfl
theorem k162 : TblOk Tryz.prog t162 := tblOk_cons o77 (tblOk_nil)
theorem o162 : Holds Tryz.prog 162 c162 := fn_holds (code := Tryz.f162.body.getD .skip) (by kernel_rfl) gamOk k162 Tryz.func162 (by kernel_rfl) (by kernel_rfl) (by kernel_rfl) (by kernel_rfl) v162 (fun x _ h => (r162 x).trans ((n162 x.1).trans h))
/-! ### 95: loop.example/g00076/spec.CacheOk -/
noncomputable def t95 : Tbl := [(162, [], c162), (77, [], c77)]
abbrev h95_L4 : Shape := { slots := [(1, .bx 1 0), (3, .v (.int .i64)), (4, .v Ty33), (5, .v (.int .i64)), (6, .v (.int .i64))], boxes := [(1, .typ Ty134)] }
abbrev e95_L4 : List (XT × Shape) := [(.ret, { slots := [(2, .v .bool)], boxes := [] }), (.exit 4, { slots := [(1, .bx 1 0), (3, .v (.int .i64)), (4, .v Ty33), (5, .v (.int .i64))], boxes := [(1, .typ Ty134)] })]
noncomputable def q95_L4 (t3 : Int) (t4 : Ta2) (t5 : Int) (t6 : Int) (b1 : Ta80) : Option (Ta145 ⊕ (((Bool × Unit) × Unit) ⊕ (Ta138 ⊕ Empty))) :=
  bif (decide (t6 < t5)) then
    bif (decide (0 ≤ t6) && decide (t6 < (t4.len : Int))) then
      bif (decide (0 ≤ t5) && decide (t5 < (t4.len : Int))) then
        bif ((L.get t4 t6.toNat).1 == (L.get t4 t5.toNat).1) then
          some (.inr (.inl ((false, ()), ())))
        else
          some (.inl (((), (t3, (t4, (t5, ((wI (t6 + (1 : Int))), ()))))), (b1, ())))
      else
        none
    else
      none
  else
    some (.inr (.inr (.inl (((), (t3, (t4, (t5, ())))), (b1, ())))))
noncomputable def s95_L4 (x : Ta145) : Option (Ta145 ⊕ (((Bool × Unit) × Unit) ⊕ (Ta138 ⊕ Empty))) := q95_L4 x.1.2.1 x.1.2.2.1 x.1.2.2.2.1 x.1.2.2.2.2.1 x.2.1
abbrev h95_L2 : Shape := { slots := [(1, .bx 1 0), (3, .v (.int .i64)), (4, .v Ty33), (5, .v (.int .i64))], boxes := [(1, .typ Ty134)] }
abbrev e95_L2 : List (XT × Shape) := [(.ret, { slots := [(2, .v .bool)], boxes := [] }), (.exit 2, { slots := [(1, .bx 1 0), (3, .v (.int .i64))], boxes := [(1, .typ Ty134)] })]
noncomputable def q95_L2 (t3 : Int) (t4 : Ta2) (t5 : Int) (b1 : Ta80) : Option (Ta138 ⊕ (((Bool × Unit) × Unit) ⊕ (Ta120 ⊕ Empty))) :=
  bif (decide (t5 < (t4.len : Int))) then
    bif (decide (0 ≤ t5) && decide (t5 < (t4.len : Int))) then
      bif (!(f77 (L.get t4 t5.toNat).1 (0 : Int) (65535 : Int))) then
        some (.inr (.inl ((false, ()), ())))
      else
        (fixO s95_L4 (((), (t3, (t4, (t5, ((0 : Int), ()))))), (b1, ()))).bind fun d2 => match d2 with
        | .inl y1 =>
          some (.inr (.inl y1))
        | .inr (.inl y1) =>
          some (.inl (((), (y1.1.2.1, (y1.1.2.2.1, ((wI (y1.1.2.2.2.1 + (1 : Int))), ())))), y1.2))
        | .inr (.inr e) => nomatch e
    else
      none
  else
    some (.inr (.inr (.inl (((), (t3, ())), (b1, ())))))
noncomputable def s95_L2 (x : Ta138) : Option (Ta138 ⊕ (((Bool × Unit) × Unit) ⊕ (Ta120 ⊕ Empty))) := q95_L2 x.1.2.1 x.1.2.2.1 x.1.2.2.2.1 x.2.1
abbrev h95_L0 : Shape := { slots := [(1, .bx 1 0), (3, .v (.int .i64))], boxes := [(1, .typ Ty134)] }
abbrev e95_L0 : List (XT × Shape) := [(.ret, { slots := [(2, .v .bool)], boxes := [] }), (.exit 0, { slots := [], boxes := [] })]
noncomputable def q95_L0 (t3 : Int) (b1 : Ta80) : Option (Ta120 ⊕ (((Bool × Unit) × Unit) ⊕ ((Unit × Unit) ⊕ Empty))) :=
  bif (decide (t3 < (b1.2.1.len : Int))) then
    bif (decide (0 ≤ t3) && decide (t3 < (b1.2.1.len : Int))) then
      bif (decide (((L.get b1.2.1 t3.toNat).len : Int) > b1.1.2.1)) then
        some (.inr (.inl ((false, ()), ())))
      else
        (fixO s95_L2 (((), (t3, ((L.get b1.2.1 t3.toNat), ((0 : Int), ())))), (b1, ()))).bind fun d4 => match d4 with
        | .inl y3 =>
          some (.inr (.inl y3))
        | .inr (.inl y3) =>
          some (.inl (((), ((wI (y3.1.2.1 + (1 : Int))), ())), y3.2))
        | .inr (.inr e) => nomatch e
    else
      none
  else
    some (.inr (.inr (.inl ((), ()))))
noncomputable def s95_L0 (x : Ta120) : Option (Ta120 ⊕ (((Bool × Unit) × Unit) ⊕ ((Unit × Unit) ⊕ Empty))) := q95_L0 x.1.2.1 x.2.1
noncomputable def a95 : Nat → Option LoopAnn := fun c => bif Nat.beq c 4 then some (.fix h95_L4 e95_L4 s95_L4) else bif Nat.beq c 2 then some (.fix h95_L2 e95_L2 s95_L2) else bif Nat.beq c 0 then some (.fix h95_L0 e95_L0 s95_L0) else none
noncomputable def g95 (x0 : Ta80) : Option ((Bool × Unit) × Unit) :=
  bif (!(f162 x0.1)) then
    some ((false, ()), ())
  else
    bif ((x0.2.1.len : Int) != x0.1.1) then
      some ((false, ()), ())
    else
      (fixO s95_L0 (((), ((0 : Int), ())), (x0, ()))).bind fun d6 => match d6 with
      | .inl y5 =>
        some ((y5.1.1, ()), ())
      | .inr (.inl y5) =>
        some ((true, ()), ())
      | .inr (.inr e) => nomatch e
noncomputable def c95 : Ctr := { ins := [.v Ty134], out := [.bool], F := fun x => g95 x.1 }
noncomputable def l95 : List (Nat × Code) := loopsIn (Tryz.f95.body.getD .skip) 0
theorem w95_L4 (x : h95_L4.T) : runK Tryz.prog Γ t95 a95 (l95.getD 2 (0, .skip)).2 4 (pkSh h95_L4 x) (loopCls (sh := h95_L4) (es := e95_L4)) = (s95_L4 x : Option _) := by kernel_rfl
theorem w95_L2 (x : h95_L2.T) : runK Tryz.prog Γ t95 a95 (l95.getD 1 (0, .skip)).2 2 (pkSh h95_L2 x) (loopCls (sh := h95_L2) (es := e95_L2)) = (s95_L2 x : Option _) := by kernel_rfl
theorem w95_L0 (x : h95_L0.T) : runK Tryz.prog Γ t95 a95 (l95.getD 0 (0, .skip)).2 0 (pkSh h95_L0 x) (loopCls (sh := h95_L0) (es := e95_L0)) = (s95_L0 x : Option _) := by kernel_rfl
theorem v95 : LoopsOk Tryz.prog Γ t95 a95 (loopsIn (Tryz.f95.body.getD .skip) 0) := by
  have e : loopsIn (Tryz.f95.body.getD .skip) 0 = [(0, (l95.getD 0 (0, .skip)).2), (2, (l95.getD 1 (0, .skip)).2), (4, (l95.getD 2 (0, .skip)).2)] := by kernel_rfl
  rw [e]
  exact ⟨fun x d h => (w95_L0 x).trans h, fun x d h => (w95_L2 x).trans h, fun x d h => (w95_L4 x).trans h, trivial⟩
theorem r95 (x : InsT c95.ins) : fnK Tryz.prog Γ t95 a95 Tryz.f95 c95 x = g95 x.1 := by kernel_rfl
theorem k95 : TblOk Tryz.prog t95 := tblOk_cons o162 (tblOk_cons o77 (tblOk_nil))
theorem o95 : Holds Tryz.prog 95 c95 := fn_holds (code := Tryz.f95.body.getD .skip) (by kernel_rfl) gamOk k95 Tryz.func95 (by kernel_rfl) (by kernel_rfl) (by kernel_rfl) (by kernel_rfl) v95 (fun x _ h => (r95 x).trans h)
/-! ### 152: loop.example/g00076/spec.CostsOk -/
noncomputable def t152 : Tbl := [(77, [], c77)]
noncomputable def a152 : Nat → Option LoopAnn := fun _ => none
noncomputable def g152 (x0 : Ta62) : Option ((Bool × Unit) × Unit) :=
  bif (f77 x0.1 (1 : Int) (20 : Int)) then
    bif (f77 x0.2.1 (0 : Int) (50 : Int)) then
      bif (f77 x0.2.2.1 (0 : Int) (50 : Int)) then
        bif (f77 x0.2.2.2.1 (0 : Int) (50 : Int)) then
          bif (f77 x0.2.2.2.2.1 (0 : Int) (50 : Int)) then
            bif (f77 x0.2.2.2.2.2.1 (0 : Int) (50 : Int)) then
              some (((f77 x0.2.2.2.2.2.2.1 (0 : Int) (50 : Int)), ()), ())
            else
              some ((false, ()), ())
          else
            some ((false, ()), ())
        else
          some ((false, ()), ())
      else
        some ((false, ()), ())
    else
      some ((false, ()), ())
  else
    some ((false, ()), ())
noncomputable def f152 (x0 : Ta62) : Bool :=
  bif (f77 x0.1 (1 : Int) (20 : Int)) then
    bif (f77 x0.2.1 (0 : Int) (50 : Int)) then
      bif (f77 x0.2.2.1 (0 : Int) (50 : Int)) then
        bif (f77 x0.2.2.2.1 (0 : Int) (50 : Int)) then
          bif (f77 x0.2.2.2.2.1 (0 : Int) (50 : Int)) then
            bif (f77 x0.2.2.2.2.2.1 (0 : Int) (50 : Int)) then
              (f77 x0.2.2.2.2.2.2.1 (0 : Int) (50 : Int))
            else
              false
          else
            false
        else
          false
      else
        false
    else
      false
  else
    false
theorem n152 (x0 : Ta62) : g152 x0 = some ((f152 x0, ()), ()) := by
  simp only [g152, f152, pull1]
noncomputable def c152 : Ctr := { ins := [.v Ty139], out := [.bool], F := fun x => some ((f152 x.1, ()), ()) }
theorem v152 : LoopsOk Tryz.prog Γ t152 a152 (loopsIn (Tryz.f152.body.getD .skip) 0) := loopsOk_nil (by kernel_rfl)
theorem r152 (x : InsT c152.ins) : fnK Tryz.prog Γ t152 a152 Tryz.f152 c152 x = g152 x.1 := by kernel_rfl
theorem k152 : TblOk Tryz.prog t152 := tblOk_cons o77 (tblOk_nil)
theorem o152 : Holds Tryz.prog 152 c152 := fn_holds (code := Tryz.f152.body.getD .skip) (by kernel_rfl) gamOk k152 Tryz.func152 (by kernel_rfl) (by kernel_rfl) (by kernel_rfl) (by kernel_rfl) v152 (fun x _ h => (r152 x).trans ((n152 x.1).trans h))
/-! ### 236: loop.example/g00076/spec.l02Forms -/
noncomputable def t236 : Tbl := []
noncomputable def a236 : Nat → Option LoopAnn := fun _ => none
noncomputable def g236 : Option (((L Int) × Unit) × Unit) :=
  some (((L.of (Ty.zero (.int .i64)) [(0 : Int), (7 : Int), (7 : Int), (7 : Int), (7 : Int), (7 : Int), (7 : Int), (7 : Int), (7 : Int), (7 : Int), (7 : Int), (7 : Int), (7 : Int), (11 : Int), (9 : Int), (11 : Int), (11 : Int), (11 : Int), (11 : Int), (11 : Int), (11 : Int), (11 : Int), (9 : Int), (10 : Int), (1 : Int), (11 : Int), (11 : Int), (11 : Int), (9 : Int), (9 : Int), (0 : Int), (0 : Int), (8 : Int)]), ()), ())
noncomputable def f236 : (L Int) :=
  (L.of (Ty.zero (.int .i64)) [(0 : Int), (7 : Int), (7 : Int), (7 : Int), (7 : Int), (7 : Int), (7 : Int), (7 : Int), (7 : Int), (7 : Int), (7 : Int), (7 : Int), (7 : Int), (11 : Int), (9 : Int), (11 : Int), (11 : Int), (11 : Int), (11 : Int), (11 : Int), (11 : Int), (11 : Int), (9 : Int), (10 : Int), (1 : Int), (11 : Int), (11 : Int), (11 : Int), (9 : Int), (9 : Int), (0 : Int), (0 : Int), (8 : Int)])
theorem n236 : g236 = some ((f236, ()), ()) := by
  simp only [g236, f236, pull1]
noncomputable def c236 : Ctr := { ins := [], out := [(.sl (.int .i64))], F := fun x => some ((f236, ()), ()) }
theorem v236 : LoopsOk Tryz.prog Γ t236 a236 (loopsIn (Tryz.f236.body.getD .skip) 0) := loopsOk_nil (by kernel_rfl)
theorem r236 (x : InsT c236.ins) : fnK Tryz.prog Γ t236 a236 Tryz.f236 c236 x = g236 := by kernel_rfl
theorem k236 : TblOk Tryz.prog t236 := tblOk_nil
theorem o236 : Holds Tryz.prog 236 c236 := fn_holds (code := Tryz.f236.body.getD .skip) (by kernel_rfl) gamOk k236 Tryz.func236 (by kernel_rfl) (by kernel_rfl) (by kernel_rfl) (by kernel_rfl) v236 (fun x _ h => (r236 x).trans ((n236).trans h))
/-! ### 208: loop.example/g00076/spec.FormOf -/
noncomputable def t208 : Tbl := [(77, [], c77), (236, [], c236)]
noncomputable def a208 : Nat → Option LoopAnn := fun _ => none
noncomputable def g208 (x0 : Int) : Option ((Int × Unit) × Unit) :=
  bif (!(f77 x0 (0 : Int) (32 : Int))) then
    some (((-1 : Int), ()), ())
  else
    bif (decide (0 ≤ x0) && decide (x0 < ((f236).len : Int))) then
      some (((L.get (f236) x0.toNat), ()), ())
    else
      none
noncomputable def c208 : Ctr := { ins := [.v (.int .i64)], out := [(.int .i64)], F := fun x => g208 x.1 }
theorem v208 : LoopsOk Tryz.prog Γ t208 a208 (loopsIn (Tryz.f208.body.getD .skip) 0) := loopsOk_nil (by kernel_rfl)
theorem r208 (x : InsT c208.ins) : fnK Tryz.prog Γ t208 a208 Tryz.f208 c208 x = g208 x.1 := by kernel_rfl
theorem k208 : TblOk Tryz.prog t208 := tblOk_cons o77 (tblOk_cons o236 (tblOk_nil))
theorem o208 : Holds Tryz.prog 208 c208 := fn_holds (code := Tryz.f208.body.getD .skip) (by kernel_rfl) gamOk k208 Tryz.func208 (by kernel_rfl) (by kernel_rfl) (by kernel_rfl) (by kernel_rfl) v208 (fun x _ h => (r208 x).trans h)
/-! ### 153: loop.example/g00076/spec.OpCost -/
noncomputable def t153 : Tbl := [(152, [], c152), (208, [], c208), (77, [], c77)]
noncomputable def a153 : Nat → Option LoopAnn := fun _ => none
noncomputable def g153 (x0 : Ta62) (x1 : Int) : Option ((Int × Unit) × Unit) :=
  bif (!(f152 x0)) then
    some (((-1 : Int), ()), ())
  else
    (g208 x1).bind fun y1 =>
      bif (decide (y1.1.1 < (0 : Int))) then
        some (((-1 : Int), ()), ())
      else
        bif (x1 == (9 : Int)) then
          some (((wI (x0.1 + x0.2.1)), ()), ())
        else
          bif (x1 == (10 : Int)) then
            some (((wI (x0.1 + x0.2.1)), ()), ())
          else
            bif (f77 x1 (15 : Int) (18 : Int)) then
              some (((wI (x0.1 + x0.2.2.1)), ()), ())
            else
              bif (decide (x1 ≥ (25 : Int))) then
                some (((wI (x0.1 + x0.2.2.2.2.2.1)), ()), ())
              else
                some ((x0.1, ()), ())
noncomputable def c153 : Ctr := { ins := [.v Ty139, .v (.int .i64)], out := [(.int .i64)], F := fun x => g153 x.1 x.2.1 }
theorem v153 : LoopsOk Tryz.prog Γ t153 a153 (loopsIn (Tryz.f153.body.getD .skip) 0) := loopsOk_nil (by kernel_rfl)
theorem r153 (x : InsT c153.ins) : fnK Tryz.prog Γ t153 a153 Tryz.f153 c153 x = g153 x.1 x.2.1 := by kernel_rfl
theorem k153 : TblOk Tryz.prog t153 := tblOk_cons o152 (tblOk_cons o208 (tblOk_cons o77 (tblOk_nil)))
theorem o153 : Holds Tryz.prog 153 c153 := fn_holds (code := Tryz.f153.body.getD .skip) (by kernel_rfl) gamOk k153 Tryz.func153 (by kernel_rfl) (by kernel_rfl) (by kernel_rfl) (by kernel_rfl) v153 (fun x _ h => (r153 x).trans h)
/-! ### 209: loop.example/g00076/spec.AccessCost -/
noncomputable def t209 : Tbl := [(152, [], c152)]
noncomputable def a209 : Nat → Option LoopAnn := fun _ => none
noncomputable def g209 (x0 : Ta62) (x1 : Ta10) : Option ((Int × Unit) × Unit) :=
  bif (!(f152 x0)) then
    some (((-1 : Int), ()), ())
  else
    bif (!x1.1) then
      bif (!x1.2.1) then
        bif x1.2.2.1 then
          some (((wI ((wI ((wI ((0 : Int) + x0.2.2.2.1)) + x0.2.2.2.2.1)) + x0.2.2.2.2.2.2.1)), ()), ())
        else
          some (((wI ((wI ((0 : Int) + x0.2.2.2.1)) + x0.2.2.2.2.1)), ()), ())
      else
        bif x1.2.2.1 then
          some (((wI ((wI ((0 : Int) + x0.2.2.2.1)) + x0.2.2.2.2.2.2.1)), ()), ())
        else
          some (((wI ((0 : Int) + x0.2.2.2.1)), ()), ())
    else
      bif (!x1.2.1) then
        bif x1.2.2.1 then
          some (((wI ((wI ((0 : Int) + x0.2.2.2.2.1)) + x0.2.2.2.2.2.2.1)), ()), ())
        else
          some (((wI ((0 : Int) + x0.2.2.2.2.1)), ()), ())
      else
        bif x1.2.2.1 then
          some (((wI ((0 : Int) + x0.2.2.2.2.2.2.1)), ()), ())
        else
          some (((0 : Int), ()), ())
noncomputable def f209 (x0 : Ta62) (x1 : Ta10) : Int :=
  bif (!(f152 x0)) then
    (-1 : Int)
  else
    bif (!x1.1) then
      bif (!x1.2.1) then
        bif x1.2.2.1 then
          (wI ((wI ((wI ((0 : Int) + x0.2.2.2.1)) + x0.2.2.2.2.1)) + x0.2.2.2.2.2.2.1))
        else
          (wI ((wI ((0 : Int) + x0.2.2.2.1)) + x0.2.2.2.2.1))
      else
        bif x1.2.2.1 then
          (wI ((wI ((0 : Int) + x0.2.2.2.1)) + x0.2.2.2.2.2.2.1))
        else
          (wI ((0 : Int) + x0.2.2.2.1))
    else
      bif (!x1.2.1) then
        bif x1.2.2.1 then
          (wI ((wI ((0 : Int) + x0.2.2.2.2.1)) + x0.2.2.2.2.2.2.1))
        else
          (wI ((0 : Int) + x0.2.2.2.2.1))
      else
        bif x1.2.2.1 then
          (wI ((0 : Int) + x0.2.2.2.2.2.2.1))
        else
          (0 : Int)
theorem n209 (x0 : Ta62) (x1 : Ta10) : g209 x0 x1 = some ((f209 x0 x1, ()), ()) := by
  simp only [g209, f209, pull1]
noncomputable def c209 : Ctr := { ins := [.v Ty139, .v (.pair .bool (.pair .bool (.pair .bool .unit)))], out := [(.int .i64)], F := fun x => some ((f209 x.1 x.2.1, ()), ()) }
theorem v209 : LoopsOk Tryz.prog Γ t209 a209 (loopsIn (Tryz.f209.body.getD .skip) 0) := loopsOk_nil (by kernel_rfl)
theorem r209 (x : InsT c209.ins) : fnK Tryz.prog Γ t209 a209 Tryz.f209 c209 x = g209 x.1 x.2.1 := by kernel_rfl
theorem k209 : TblOk Tryz.prog t209 := tblOk_cons o152 (tblOk_nil)
theorem o209 : Holds Tryz.prog 209 c209 := fn_holds (code := Tryz.f209.body.getD .skip) (by kernel_rfl) gamOk k209 Tryz.func209 (by kernel_rfl) (by kernel_rfl) (by kernel_rfl) (by kernel_rfl) v209 (fun x _ h => (r209 x).trans ((n209 x.1 x.2.1).trans h))
/-! ### 154: loop.example/g00076/spec.WorstAccess -/
noncomputable def t154 : Tbl := [(209, [], c209)]
abbrev h154_L0 : Shape := { slots := [(1, .bx 1 0), (3, .v (.int .i64)), (4, .v (.int .i64))], boxes := [(1, .typ Ty139)] }
abbrev e154_L0 : List (XT × Shape) := [(.exit 0, { slots := [(3, .v (.int .i64))], boxes := [] })]
noncomputable def q154_L0 (t3 : Int) (t4 : Int) (b1 : Ta62) : Option (Ta117 ⊕ (((Int × Unit) × Unit) ⊕ Empty)) :=
  bif (decide (t4 < (8 : Int))) then
    bif (decide ((f209 b1 (((Int.tmod t4 (2 : Int)) == (1 : Int)), (((Int.tmod (wI (Int.tdiv t4 (2 : Int))) (2 : Int)) == (1 : Int)), (((wI (Int.tdiv t4 (4 : Int))) == (1 : Int)), ())))) > t3)) then
      some (.inl (((), ((f209 b1 (((Int.tmod t4 (2 : Int)) == (1 : Int)), (((Int.tmod (wI (Int.tdiv t4 (2 : Int))) (2 : Int)) == (1 : Int)), (((wI (Int.tdiv t4 (4 : Int))) == (1 : Int)), ())))), ((wI (t4 + (1 : Int))), ()))), (b1, ())))
    else
      some (.inl (((), (t3, ((wI (t4 + (1 : Int))), ()))), (b1, ())))
  else
    some (.inr (.inl ((t3, ()), ())))
noncomputable def s154_L0 (x : Ta117) : Option (Ta117 ⊕ (((Int × Unit) × Unit) ⊕ Empty)) := q154_L0 x.1.2.1 x.1.2.2.1 x.2.1
noncomputable def a154 : Nat → Option LoopAnn := fun c => bif Nat.beq c 0 then some (.fix h154_L0 e154_L0 s154_L0) else none
noncomputable def g154 (x0 : Ta62) : Option ((Int × Unit) × Unit) :=
  (fixO s154_L0 (((), ((-1 : Int), ((0 : Int), ()))), (x0, ()))).bind fun d2 => match d2 with
  | .inl y1 =>
    some ((y1.1.1, ()), ())
  | .inr e => nomatch e
noncomputable def c154 : Ctr := { ins := [.v Ty139], out := [(.int .i64)], F := fun x => g154 x.1 }
noncomputable def l154 : List (Nat × Code) := loopsIn (Tryz.f154.body.getD .skip) 0
theorem w154_L0 (x : h154_L0.T) : runK Tryz.prog Γ t154 a154 (l154.getD 0 (0, .skip)).2 0 (pkSh h154_L0 x) (loopCls (sh := h154_L0) (es := e154_L0)) = (s154_L0 x : Option _) := by kernel_rfl
theorem v154 : LoopsOk Tryz.prog Γ t154 a154 (loopsIn (Tryz.f154.body.getD .skip) 0) := by
  have e : loopsIn (Tryz.f154.body.getD .skip) 0 = [(0, (l154.getD 0 (0, .skip)).2)] := by kernel_rfl
  rw [e]
  exact ⟨fun x d h => (w154_L0 x).trans h, trivial⟩
theorem r154 (x : InsT c154.ins) : fnK Tryz.prog Γ t154 a154 Tryz.f154 c154 x = g154 x.1 := by kernel_rfl
theorem k154 : TblOk Tryz.prog t154 := tblOk_cons o209 (tblOk_nil)
theorem o154 : Holds Tryz.prog 154 c154 := fn_holds (code := Tryz.f154.body.getD .skip) (by kernel_rfl) gamOk k154 Tryz.func154 (by kernel_rfl) (by kernel_rfl) (by kernel_rfl) (by kernel_rfl) v154 (fun x _ h => (r154 x).trans h)
/-! ### 84: loop.example/g00076/spec.WorstStep -/
noncomputable def t84 : Tbl := [(152, [], c152), (153, [], c153), (154, [], c154)]
abbrev h84_L0 : Shape := { slots := [(1, .bx 1 0), (3, .v (.int .i64)), (4, .v (.int .i64))], boxes := [(1, .typ Ty139)] }
abbrev e84_L0 : List (XT × Shape) := [(.exit 0, { slots := [(1, .bx 1 0), (3, .v (.int .i64))], boxes := [(1, .typ Ty139)] })]
noncomputable def q84_L0 (t3 : Int) (t4 : Int) (b1 : Ta62) : Option (Ta117 ⊕ (Ta108 ⊕ Empty)) :=
  bif (decide (t4 < (33 : Int))) then
    (g153 b1 t4).bind fun y1 =>
      bif (decide (y1.1.1 > t3)) then
        (g153 b1 t4).bind fun y2 =>
          some (.inl (((), (y2.1.1, ((wI (t4 + (1 : Int))), ()))), (b1, ())))
      else
        some (.inl (((), (t3, ((wI (t4 + (1 : Int))), ()))), (b1, ())))
  else
    some (.inr (.inl (((), (t3, ())), (b1, ()))))
noncomputable def s84_L0 (x : Ta117) : Option (Ta117 ⊕ (Ta108 ⊕ Empty)) := q84_L0 x.1.2.1 x.1.2.2.1 x.2.1
noncomputable def a84 : Nat → Option LoopAnn := fun c => bif Nat.beq c 0 then some (.fix h84_L0 e84_L0 s84_L0) else none
noncomputable def g84 (x0 : Ta62) : Option ((Int × Unit) × Unit) :=
  bif (!(f152 x0)) then
    some (((-1 : Int), ()), ())
  else
    (fixO s84_L0 (((), ((0 : Int), ((0 : Int), ()))), (x0, ()))).bind fun d5 => match d5 with
    | .inl y3 =>
      (g154 y3.2.1).bind fun y4 =>
        some (((wI ((wI (y3.1.2.1 + (wI ((2 : Int) * y4.1.1)))) + y3.2.1.2.2.2.2.2.1)), ()), ())
    | .inr e => nomatch e
noncomputable def c84 : Ctr := { ins := [.v Ty139], out := [(.int .i64)], F := fun x => g84 x.1 }
noncomputable def l84 : List (Nat × Code) := loopsIn (Tryz.f84.body.getD .skip) 0
theorem w84_L0 (x : h84_L0.T) : runK Tryz.prog Γ t84 a84 (l84.getD 0 (0, .skip)).2 0 (pkSh h84_L0 x) (loopCls (sh := h84_L0) (es := e84_L0)) = (s84_L0 x : Option _) := by kernel_rfl
theorem v84 : LoopsOk Tryz.prog Γ t84 a84 (loopsIn (Tryz.f84.body.getD .skip) 0) := by
  have e : loopsIn (Tryz.f84.body.getD .skip) 0 = [(0, (l84.getD 0 (0, .skip)).2)] := by kernel_rfl
  rw [e]
  exact ⟨fun x d h => (w84_L0 x).trans h, trivial⟩
theorem r84 (x : InsT c84.ins) : fnK Tryz.prog Γ t84 a84 Tryz.f84 c84 x = g84 x.1 := by kernel_rfl
theorem k84 : TblOk Tryz.prog t84 := tblOk_cons o152 (tblOk_cons o153 (tblOk_cons o154 (tblOk_nil)))
theorem o84 : Holds Tryz.prog 84 c84 := fn_holds (code := Tryz.f84.body.getD .skip) (by kernel_rfl) gamOk k84 Tryz.func84 (by kernel_rfl) (by kernel_rfl) (by kernel_rfl) (by kernel_rfl) v84 (fun x _ h => (r84 x).trans h)
/-! ### 148: loop.example/g00076/spec.l13Head -/
noncomputable def t148 : Tbl := [(77, [], c77), (162, [], c162), (152, [], c152), (84, [], c84)]
noncomputable def a148 : Nat → Option LoopAnn := fun _ => none
noncomputable def g148 (x0 : Ta174) : Option ((Bool × Unit) × Unit) :=
  bif (!(f77 x0.1 (64 : Int) (2048 : Int))) then
    some ((false, ()), ())
  else
    bif ((Int.tmod x0.1 (4 : Int)) != (0 : Int)) then
      some ((false, ()), ())
    else
      bif (!(f162 x0.2.1)) then
        some ((false, ()), ())
      else
        bif (!(f77 x0.2.2.1 (1 : Int) (8 : Int))) then
          some ((false, ()), ())
        else
          bif (!(f152 x0.2.2.2.1)) then
            some ((false, ()), ())
          else
            bif (f77 x0.2.2.2.2.1 (1 : Int) (5000 : Int)) then
              bif (f77 x0.2.2.2.2.2.1 (1 : Int) (5000 : Int)) then
                bif (f77 x0.2.2.2.2.2.2.1 (1 : Int) (5000 : Int)) then
                  (g84 x0.2.2.2.1).bind fun y1 =>
                    some (((decide (x0.2.2.2.2.2.1 ≥ y1.1.1)), ()), ())
                else
                  some ((false, ()), ())
              else
                some ((false, ()), ())
            else
              some ((false, ()), ())
noncomputable def c148 : Ctr := { ins := [.v Ty190], out := [.bool], F := fun x => g148 x.1 }
theorem v148 : LoopsOk Tryz.prog Γ t148 a148 (loopsIn (Tryz.f148.body.getD .skip) 0) := loopsOk_nil (by kernel_rfl)
theorem r148 (x : InsT c148.ins) : fnK Tryz.prog Γ t148 a148 Tryz.f148 c148 x = g148 x.1 := by kernel_rfl
theorem k148 : TblOk Tryz.prog t148 := tblOk_cons o77 (tblOk_cons o162 (tblOk_cons o152 (tblOk_cons o84 (tblOk_nil))))
theorem o148 : Holds Tryz.prog 148 c148 := fn_holds (code := Tryz.f148.body.getD .skip) (by kernel_rfl) gamOk k148 Tryz.func148 (by kernel_rfl) (by kernel_rfl) (by kernel_rfl) (by kernel_rfl) v148 (fun x _ h => (r148 x).trans h)
/-! ### 240: loop.example/g00076/spec.LabelOk -/
noncomputable def t240 : Tbl := [(77, [], c77)]
abbrev h240_L0 : Shape := { slots := [(0, .v .str), (3, .v (.int .i64))], boxes := [] }
abbrev e240_L0 : List (XT × Shape) := [(.ret, { slots := [(2, .v .bool)], boxes := [] }), (.exit 0, { slots := [(0, .v .str)], boxes := [] })]
noncomputable def q240_L0 (t0 : ByteArray) (t3 : Int) : Option (Ta15 ⊕ (((Bool × Unit) × Unit) ⊕ (Ta4 ⊕ Empty))) :=
  bif (decide (t3 < (t0.size : Int))) then
    bif (decide (t3 < (13 : Int))) then
      bif (decide (0 ≤ t3) && decide (t3 < t0.size)) then
        bif (!(f77 (wI ((bt t0 t3))) (97 : Int) (122 : Int))) then
          some (.inr (.inl ((false, ()), ())))
        else
          some (.inl ((t0, ((wI (t3 + (1 : Int))), ())), ()))
      else
        none
    else
      some (.inr (.inr (.inl ((t0, ()), ()))))
  else
    some (.inr (.inr (.inl ((t0, ()), ()))))
noncomputable def s240_L0 (x : Ta15) : Option (Ta15 ⊕ (((Bool × Unit) × Unit) ⊕ (Ta4 ⊕ Empty))) := q240_L0 x.1.1 x.1.2.1
noncomputable def a240 : Nat → Option LoopAnn := fun c => bif Nat.beq c 0 then some (.fix h240_L0 e240_L0 s240_L0) else none
noncomputable def g240 (x0 : ByteArray) : Option ((Bool × Unit) × Unit) :=
  (fixO s240_L0 ((x0, ((0 : Int), ())), ())).bind fun d2 => match d2 with
  | .inl y1 =>
    some ((y1.1.1, ()), ())
  | .inr (.inl y1) =>
    some (((f77 (y1.1.1.size : Int) (1 : Int) (12 : Int)), ()), ())
  | .inr (.inr e) => nomatch e
noncomputable def c240 : Ctr := { ins := [.v .str], out := [.bool], F := fun x => g240 x.1 }
noncomputable def l240 : List (Nat × Code) := loopsIn (Tryz.f240.body.getD .skip) 0
theorem w240_L0 (x : h240_L0.T) : runK Tryz.prog Γ t240 a240 (l240.getD 0 (0, .skip)).2 0 (pkSh h240_L0 x) (loopCls (sh := h240_L0) (es := e240_L0)) = (s240_L0 x : Option _) := by kernel_rfl
theorem v240 : LoopsOk Tryz.prog Γ t240 a240 (loopsIn (Tryz.f240.body.getD .skip) 0) := by
  have e : loopsIn (Tryz.f240.body.getD .skip) 0 = [(0, (l240.getD 0 (0, .skip)).2)] := by kernel_rfl
  rw [e]
  exact ⟨fun x d h => (w240_L0 x).trans h, trivial⟩
theorem r240 (x : InsT c240.ins) : fnK Tryz.prog Γ t240 a240 Tryz.f240 c240 x = g240 x.1 := by kernel_rfl
theorem k240 : TblOk Tryz.prog t240 := tblOk_cons o77 (tblOk_nil)
theorem o240 : Holds Tryz.prog 240 c240 := fn_holds (code := Tryz.f240.body.getD .skip) (by kernel_rfl) gamOk k240 Tryz.func240 (by kernel_rfl) (by kernel_rfl) (by kernel_rfl) (by kernel_rfl) v240 (fun x _ h => (r240 x).trans h)
/-! ### 233: loop.example/g00076/spec.NameOk -/
noncomputable def t233 : Tbl := [(240, [], c240)]
noncomputable def a233 : Nat → Option LoopAnn := fun _ => none
noncomputable def g233 (x0 : ByteArray) : Option ((Bool × Unit) × Unit) :=
  bif (decide ((x0.size : Int) ≤ (8 : Int))) then
    (g240 x0).bind fun y1 =>
      some ((y1.1.1, ()), ())
  else
    some ((false, ()), ())
noncomputable def c233 : Ctr := { ins := [.v .str], out := [.bool], F := fun x => g233 x.1 }
theorem v233 : LoopsOk Tryz.prog Γ t233 a233 (loopsIn (Tryz.f233.body.getD .skip) 0) := loopsOk_nil (by kernel_rfl)
theorem r233 (x : InsT c233.ins) : fnK Tryz.prog Γ t233 a233 Tryz.f233 c233 x = g233 x.1 := by kernel_rfl
theorem k233 : TblOk Tryz.prog t233 := tblOk_cons o240 (tblOk_nil)
theorem o233 : Holds Tryz.prog 233 c233 := fn_holds (code := Tryz.f233.body.getD .skip) (by kernel_rfl) gamOk k233 Tryz.func233 (by kernel_rfl) (by kernel_rfl) (by kernel_rfl) (by kernel_rfl) v233 (fun x _ h => (r233 x).trans h)
/-! ### 234: loop.example/g00076/spec.PolicyOk -/
noncomputable def t234 : Tbl := [(77, [], c77)]
noncomputable def a234 : Nat → Option LoopAnn := fun _ => none
noncomputable def g234 (x0 : (Int × (Int × Unit))) : Option ((Bool × Unit) × Unit) :=
  bif (x0.1 == (1 : Int)) then
    some (((f77 x0.2.1 (0 : Int) (100 : Int)), ()), ())
  else
    bif (x0.1 == (0 : Int)) then
      some (((x0.2.1 == (0 : Int)), ()), ())
    else
      bif (x0.1 == (2 : Int)) then
        some (((x0.2.1 == (0 : Int)), ()), ())
      else
        some ((false, ()), ())
noncomputable def f234 (x0 : (Int × (Int × Unit))) : Bool :=
  bif (x0.1 == (1 : Int)) then
    (f77 x0.2.1 (0 : Int) (100 : Int))
  else
    bif (x0.1 == (0 : Int)) then
      (x0.2.1 == (0 : Int))
    else
      bif (x0.1 == (2 : Int)) then
        (x0.2.1 == (0 : Int))
      else
        false
theorem n234 (x0 : (Int × (Int × Unit))) : g234 x0 = some ((f234 x0, ()), ()) := by
  simp only [g234, f234, pull1]
noncomputable def c234 : Ctr := { ins := [.v Ty32], out := [.bool], F := fun x => some ((f234 x.1, ()), ()) }
theorem v234 : LoopsOk Tryz.prog Γ t234 a234 (loopsIn (Tryz.f234.body.getD .skip) 0) := loopsOk_nil (by kernel_rfl)
theorem r234 (x : InsT c234.ins) : fnK Tryz.prog Γ t234 a234 Tryz.f234 c234 x = g234 x.1 := by kernel_rfl
theorem k234 : TblOk Tryz.prog t234 := tblOk_cons o77 (tblOk_nil)
theorem o234 : Holds Tryz.prog 234 c234 := fn_holds (code := Tryz.f234.body.getD .skip) (by kernel_rfl) gamOk k234 Tryz.func234 (by kernel_rfl) (by kernel_rfl) (by kernel_rfl) (by kernel_rfl) v234 (fun x _ h => (r234 x).trans ((n234 x.1).trans h))
/-! ### 219: loop.example/g00076/spec.WindowOk -/
noncomputable def t219 : Tbl := [(77, [], c77)]
noncomputable def a219 : Nat → Option LoopAnn := fun _ => none
noncomputable def g219 (x0 : Ta5) : Option ((Bool × Unit) × Unit) :=
  bif (f77 x0.1 (0 : Int) (2048 : Int)) then
    bif (f77 x0.2.1 (4 : Int) (2048 : Int)) then
      bif ((Int.tmod x0.1 (4 : Int)) == (0 : Int)) then
        bif ((Int.tmod x0.2.1 (4 : Int)) == (0 : Int)) then
          bif (decide ((wI (x0.1 + x0.2.1)) ≤ (2048 : Int))) then
            some (((f77 x0.2.2.1 (1 : Int) (7 : Int)), ()), ())
          else
            some ((false, ()), ())
        else
          some ((false, ()), ())
      else
        some ((false, ()), ())
    else
      some ((false, ()), ())
  else
    some ((false, ()), ())
noncomputable def f219 (x0 : Ta5) : Bool :=
  bif (f77 x0.1 (0 : Int) (2048 : Int)) then
    bif (f77 x0.2.1 (4 : Int) (2048 : Int)) then
      bif ((Int.tmod x0.1 (4 : Int)) == (0 : Int)) then
        bif ((Int.tmod x0.2.1 (4 : Int)) == (0 : Int)) then
          bif (decide ((wI (x0.1 + x0.2.1)) ≤ (2048 : Int))) then
            (f77 x0.2.2.1 (1 : Int) (7 : Int))
          else
            false
        else
          false
      else
        false
    else
      false
  else
    false
theorem n219 (x0 : Ta5) : g219 x0 = some ((f219 x0, ()), ()) := by
  simp only [g219, f219, pull1]
noncomputable def c219 : Ctr := { ins := [.v Ty68], out := [.bool], F := fun x => some ((f219 x.1, ()), ()) }
theorem v219 : LoopsOk Tryz.prog Γ t219 a219 (loopsIn (Tryz.f219.body.getD .skip) 0) := loopsOk_nil (by kernel_rfl)
theorem r219 (x : InsT c219.ins) : fnK Tryz.prog Γ t219 a219 Tryz.f219 c219 x = g219 x.1 := by kernel_rfl
theorem k219 : TblOk Tryz.prog t219 := tblOk_cons o77 (tblOk_nil)
theorem o219 : Holds Tryz.prog 219 c219 := fn_holds (code := Tryz.f219.body.getD .skip) (by kernel_rfl) gamOk k219 Tryz.func219 (by kernel_rfl) (by kernel_rfl) (by kernel_rfl) (by kernel_rfl) v219 (fun x _ h => (r219 x).trans ((n219 x.1).trans h))
/-! ### 235: loop.example/g00076/spec.l07Has -/
noncomputable def t235 : Tbl := []
noncomputable def a235 : Nat → Option LoopAnn := fun _ => none
noncomputable def g235 (x0 : Ta5) (x1 : Int) : Option ((Bool × Unit) × Unit) :=
  bif (decide (x1 ≥ x0.1)) then
    some (((decide (x1 < (wI (x0.1 + x0.2.1)))), ()), ())
  else
    some ((false, ()), ())
noncomputable def f235 (x0 : Ta5) (x1 : Int) : Bool :=
  bif (decide (x1 ≥ x0.1)) then
    (decide (x1 < (wI (x0.1 + x0.2.1))))
  else
    false
theorem n235 (x0 : Ta5) (x1 : Int) : g235 x0 x1 = some ((f235 x0 x1, ()), ()) := by
  simp only [g235, f235, pull1]
noncomputable def c235 : Ctr := { ins := [.v Ty68, .v (.int .i64)], out := [.bool], F := fun x => some ((f235 x.1 x.2.1, ()), ()) }
theorem v235 : LoopsOk Tryz.prog Γ t235 a235 (loopsIn (Tryz.f235.body.getD .skip) 0) := loopsOk_nil (by kernel_rfl)
theorem r235 (x : InsT c235.ins) : fnK Tryz.prog Γ t235 a235 Tryz.f235 c235 x = g235 x.1 x.2.1 := by kernel_rfl
theorem k235 : TblOk Tryz.prog t235 := tblOk_nil
theorem o235 : Holds Tryz.prog 235 c235 := fn_holds (code := Tryz.f235.body.getD .skip) (by kernel_rfl) gamOk k235 Tryz.func235 (by kernel_rfl) (by kernel_rfl) (by kernel_rfl) (by kernel_rfl) v235 (fun x _ h => (r235 x).trans ((n235 x.1 x.2.1).trans h))
/-! ### 204: loop.example/g00076/spec.l13PartOk -/
noncomputable def t204 : Tbl := [(233, [], c233), (234, [], c234), (77, [], c77), (219, [], c219), (235, [], c235)]
abbrev h204_L0 : Shape := { slots := [(1, .v (.int .i64)), (2, .bx 2 0), (5, .v .bool), (6, .v (.int .i64))], boxes := [(2, .typ Ty153)] }
abbrev e204_L0 : List (XT × Shape) := [(.ret, { slots := [(4, .v .bool)], boxes := [] }), (.exit 0, { slots := [(2, .bx 2 0), (5, .v .bool)], boxes := [(2, .typ Ty153)] })]
noncomputable def q204_L0 (t1 : Int) (t5 : Bool) (t6 : Int) (b2 : Ta102) : Option (Ta136 ⊕ (((Bool × Unit) × Unit) ⊕ (((Unit × (Bool × Unit)) × Ta110) ⊕ Empty))) :=
  bif (decide (t6 < (b2.2.2.2.1.len : Int))) then
    bif (decide (0 ≤ t6) && decide (t6 < (b2.2.2.2.1.len : Int))) then
      bif (!(f219 (L.get b2.2.2.2.1 t6.toNat))) then
        some (.inr (.inl ((false, ()), ())))
      else
        bif (decide ((wI ((L.get b2.2.2.2.1 t6.toNat).1 + (L.get b2.2.2.2.1 t6.toNat).2.1)) > t1)) then
          some (.inr (.inl ((false, ()), ())))
        else
          bif (f235 (L.get b2.2.2.2.1 t6.toNat) b2.2.1) then
            bif ((wI (Int.tdiv (L.get b2.2.2.2.1 t6.toNat).2.2.1 (4 : Int))) == (1 : Int)) then
              some (.inl ((t1, ((), (true, ((wI (t6 + (1 : Int))), ())))), (b2, ())))
            else
              some (.inl ((t1, ((), (t5, ((wI (t6 + (1 : Int))), ())))), (b2, ())))
          else
            some (.inl ((t1, ((), (t5, ((wI (t6 + (1 : Int))), ())))), (b2, ())))
    else
      none
  else
    some (.inr (.inr (.inl (((), (t5, ())), (b2, ())))))
noncomputable def s204_L0 (x : Ta136) : Option (Ta136 ⊕ (((Bool × Unit) × Unit) ⊕ (((Unit × (Bool × Unit)) × Ta110) ⊕ Empty))) := q204_L0 x.1.1 x.1.2.2.1 x.1.2.2.2.1 x.2.1
noncomputable def a204 : Nat → Option LoopAnn := fun c => bif Nat.beq c 0 then some (.fix h204_L0 e204_L0 s204_L0) else none
noncomputable def g204 (x0 : Ta102) (x1 : Int) : Option ((Bool × Unit) × Unit) :=
  (g233 x0.1).bind fun y1 =>
    bif (!y1.1.1) then
      some ((false, ()), ())
    else
      bif (!(f234 x0.2.2.1)) then
        some ((false, ()), ())
      else
        bif (!(f77 (x0.2.2.2.1.len : Int) (1 : Int) (4 : Int))) then
          some ((false, ()), ())
        else
          (fixO s204_L0 ((x1, ((), (false, ((0 : Int), ())))), (x0, ()))).bind fun d3 => match d3 with
          | .inl y2 =>
            some ((y2.1.1, ()), ())
          | .inr (.inl y2) =>
            bif y2.1.2.1 then
              some ((((Int.tmod y2.2.1.2.1 (4 : Int)) == (0 : Int)), ()), ())
            else
              some ((false, ()), ())
          | .inr (.inr e) => nomatch e
noncomputable def c204 : Ctr := { ins := [.v Ty153, .v (.int .i64)], out := [.bool], F := fun x => g204 x.1 x.2.1 }
noncomputable def l204 : List (Nat × Code) := loopsIn (Tryz.f204.body.getD .skip) 0
theorem w204_L0 (x : h204_L0.T) : runK Tryz.prog Γ t204 a204 (l204.getD 0 (0, .skip)).2 0 (pkSh h204_L0 x) (loopCls (sh := h204_L0) (es := e204_L0)) = (s204_L0 x : Option _) := by kernel_rfl
theorem v204 : LoopsOk Tryz.prog Γ t204 a204 (loopsIn (Tryz.f204.body.getD .skip) 0) := by
  have e : loopsIn (Tryz.f204.body.getD .skip) 0 = [(0, (l204.getD 0 (0, .skip)).2)] := by kernel_rfl
  rw [e]
  exact ⟨fun x d h => (w204_L0 x).trans h, trivial⟩
theorem r204 (x : InsT c204.ins) : fnK Tryz.prog Γ t204 a204 Tryz.f204 c204 x = g204 x.1 x.2.1 := by kernel_rfl
theorem k204 : TblOk Tryz.prog t204 := tblOk_cons o233 (tblOk_cons o234 (tblOk_cons o77 (tblOk_cons o219 (tblOk_cons o235 (tblOk_nil)))))
theorem o204 : Holds Tryz.prog 204 c204 := fn_holds (code := Tryz.f204.body.getD .skip) (by kernel_rfl) gamOk k204 Tryz.func204 (by kernel_rfl) (by kernel_rfl) (by kernel_rfl) (by kernel_rfl) v204 (fun x _ h => (r204 x).trans h)
/-! ### 205: loop.example/g00076/spec.l13Windows -/
noncomputable def t205 : Tbl := []
abbrev h205_L0 : Shape := { slots := [(0, .v Ty154), (3, .ext Ty68 50003), (4, .v (.int .i64))], boxes := [] }
abbrev e205_L0 : List (XT × Shape) := [(.exit 0, { slots := [(3, .ext Ty68 50003)], boxes := [] })]
noncomputable def q205_L0 (t0 : Ta107) (t3 : Ta11) (t4 : Int) : Option (Ta147 ⊕ (Ta43 ⊕ Empty)) :=
  bif (decide (t4 < (t0.len : Int))) then
    bif (decide (0 ≤ t4) && decide (t4 < (t0.len : Int))) then
      bif (decide (t3.len + (L.get t0 t4.toNat).2.2.2.1.len ≤ most)) then
        some (.inl ((t0, ((L.app t3 (L.get t0 t4.toNat).2.2.2.1), ((wI (t4 + (1 : Int))), ()))), ()))
      else
        none
    else
      none
  else
    some (.inr (.inl ((t3, ()), ())))
noncomputable def s205_L0 (x : Ta147) : Option (Ta147 ⊕ (Ta43 ⊕ Empty)) := q205_L0 x.1.1 x.1.2.1 x.1.2.2.1
noncomputable def a205 : Nat → Option LoopAnn := fun c => bif Nat.beq c 0 then some (.fix h205_L0 e205_L0 s205_L0) else none
noncomputable def g205 (x0 : Ta107) : Option Ta43 :=
  (fixO s205_L0 ((x0, ((L.of (Ty.zero Ty68) []), ((0 : Int), ()))), ())).bind fun d2 => match d2 with
  | .inl y1 =>
    some ((y1.1.1, ()), ())
  | .inr e => nomatch e
noncomputable def c205 : Ctr := { ins := [.v Ty154], out := [Ty79], F := fun x => g205 x.1 }
noncomputable def l205 : List (Nat × Code) := loopsIn (Tryz.f205.body.getD .skip) 0
theorem w205_L0 (x : h205_L0.T) : runK Tryz.prog Γ t205 a205 (l205.getD 0 (0, .skip)).2 0 (pkSh h205_L0 x) (loopCls (sh := h205_L0) (es := e205_L0)) = (s205_L0 x : Option _) := by kernel_rfl
theorem v205 : LoopsOk Tryz.prog Γ t205 a205 (loopsIn (Tryz.f205.body.getD .skip) 0) := by
  have e : loopsIn (Tryz.f205.body.getD .skip) 0 = [(0, (l205.getD 0 (0, .skip)).2)] := by kernel_rfl
  rw [e]
  exact ⟨fun x d h => (w205_L0 x).trans h, trivial⟩
theorem r205 (x : InsT c205.ins) : fnK Tryz.prog Γ t205 a205 Tryz.f205 c205 x = g205 x.1 := by kernel_rfl
theorem k205 : TblOk Tryz.prog t205 := tblOk_nil
theorem o205 : Holds Tryz.prog 205 c205 := fn_holds (code := Tryz.f205.body.getD .skip) (by kernel_rfl) gamOk k205 Tryz.func205 (by kernel_rfl) (by kernel_rfl) (by kernel_rfl) (by kernel_rfl) v205 (fun x _ h => (r205 x).trans h)
/-! ### 149: loop.example/g00076/spec.l13Parts -/
noncomputable def t149 : Tbl := [(77, [], c77), (204, [], c204), (205, [], c205)]
abbrev h149_L2 : Shape := { slots := [(1, .bx 1 0), (3, .v (.int .i64)), (4, .v (.int .i64))], boxes := [(1, .typ Ty190)] }
abbrev e149_L2 : List (XT × Shape) := [(.ret, { slots := [(2, .v .bool)], boxes := [] }), (.exit 2, { slots := [(1, .bx 1 0), (3, .v (.int .i64))], boxes := [(1, .typ Ty190)] })]
noncomputable def q149_L2 (t3 : Int) (t4 : Int) (b1 : Ta174) : Option (Ta178 ⊕ (((Bool × Unit) × Unit) ⊕ (Ta177 ⊕ Empty))) :=
  bif (decide (t4 < t3)) then
    bif (decide (0 ≤ t4) && decide (t4 < (b1.2.2.2.2.2.2.2.1.len : Int))) then
      bif (decide (0 ≤ t3) && decide (t3 < (b1.2.2.2.2.2.2.2.1.len : Int))) then
        bif (strEq (L.get b1.2.2.2.2.2.2.2.1 t4.toNat).1 (L.get b1.2.2.2.2.2.2.2.1 t3.toNat).1) then
          some (.inr (.inl ((false, ()), ())))
        else
          some (.inl (((), (t3, ((wI (t4 + (1 : Int))), ()))), (b1, ())))
      else
        none
    else
      none
  else
    some (.inr (.inr (.inl (((), (t3, ())), (b1, ())))))
noncomputable def s149_L2 (x : Ta178) : Option (Ta178 ⊕ (((Bool × Unit) × Unit) ⊕ (Ta177 ⊕ Empty))) := q149_L2 x.1.2.1 x.1.2.2.1 x.2.1
abbrev h149_L0 : Shape := { slots := [(1, .bx 1 0), (3, .v (.int .i64))], boxes := [(1, .typ Ty190)] }
abbrev e149_L0 : List (XT × Shape) := [(.ret, { slots := [(2, .v .bool)], boxes := [] }), (.exit 0, { slots := [(1, .bx 1 0)], boxes := [(1, .typ Ty190)] })]
noncomputable def q149_L0 (t3 : Int) (b1 : Ta174) : Option (Ta177 ⊕ (((Bool × Unit) × Unit) ⊕ (Ta176 ⊕ Empty))) :=
  bif (decide (t3 < (b1.2.2.2.2.2.2.2.1.len : Int))) then
    bif (decide (0 ≤ t3) && decide (t3 < (b1.2.2.2.2.2.2.2.1.len : Int))) then
      (g204 (L.get b1.2.2.2.2.2.2.2.1 t3.toNat) b1.1).bind fun y1 =>
        bif (!y1.1.1) then
          some (.inr (.inl ((false, ()), ())))
        else
          (fixO s149_L2 (((), (t3, ((0 : Int), ()))), (b1, ()))).bind fun d3 => match d3 with
          | .inl y2 =>
            some (.inr (.inl y2))
          | .inr (.inl y2) =>
            some (.inl (((), ((wI (y2.1.2.1 + (1 : Int))), ())), y2.2))
          | .inr (.inr e) => nomatch e
    else
      none
  else
    some (.inr (.inr (.inl (((), ()), (b1, ())))))
noncomputable def s149_L0 (x : Ta177) : Option (Ta177 ⊕ (((Bool × Unit) × Unit) ⊕ (Ta176 ⊕ Empty))) := q149_L0 x.1.2.1 x.2.1
abbrev h149_L6 : Shape := { slots := [(5, .v Ty79), (6, .v (.int .i64)), (7, .v (.int .i64))], boxes := [] }
abbrev e149_L6 : List (XT × Shape) := [(.ret, { slots := [(2, .v .bool)], boxes := [] }), (.exit 6, { slots := [(5, .v Ty79), (6, .v (.int .i64))], boxes := [] })]
noncomputable def q149_L6 (t5 : Ta11) (t6 : Int) (t7 : Int) : Option (Ta74 ⊕ (((Bool × Unit) × Unit) ⊕ (Ta58 ⊕ Empty))) :=
  bif (decide (t7 < t6)) then
    bif (decide (0 ≤ t7) && decide (t7 < (t5.len : Int))) then
      bif (decide (0 ≤ t6) && decide (t6 < (t5.len : Int))) then
        bif (decide (0 ≤ t6) && decide (t6 < (t5.len : Int))) then
          bif (decide ((L.get t5 t7.toNat).1 < (wI ((L.get t5 t6.toNat).1 + (L.get t5 t6.toNat).2.1)))) then
            bif (decide (0 ≤ t6) && decide (t6 < (t5.len : Int))) then
              bif (decide (0 ≤ t7) && decide (t7 < (t5.len : Int))) then
                bif (decide (0 ≤ t7) && decide (t7 < (t5.len : Int))) then
                  bif (decide ((L.get t5 t6.toNat).1 < (wI ((L.get t5 t7.toNat).1 + (L.get t5 t7.toNat).2.1)))) then
                    some (.inr (.inl ((false, ()), ())))
                  else
                    some (.inl ((t5, (t6, ((wI (t7 + (1 : Int))), ()))), ()))
                else
                  none
              else
                none
            else
              none
          else
            some (.inl ((t5, (t6, ((wI (t7 + (1 : Int))), ()))), ()))
        else
          none
      else
        none
    else
      none
  else
    some (.inr (.inr (.inl ((t5, (t6, ())), ()))))
noncomputable def s149_L6 (x : Ta74) : Option (Ta74 ⊕ (((Bool × Unit) × Unit) ⊕ (Ta58 ⊕ Empty))) := q149_L6 x.1.1 x.1.2.1 x.1.2.2.1
abbrev h149_L4 : Shape := { slots := [(5, .v Ty79), (6, .v (.int .i64))], boxes := [] }
abbrev e149_L4 : List (XT × Shape) := [(.ret, { slots := [(2, .v .bool)], boxes := [] }), (.exit 4, { slots := [], boxes := [] })]
noncomputable def q149_L4 (t5 : Ta11) (t6 : Int) : Option (Ta58 ⊕ (((Bool × Unit) × Unit) ⊕ ((Unit × Unit) ⊕ Empty))) :=
  bif (decide (t6 < (t5.len : Int))) then
    (fixO s149_L6 ((t5, (t6, ((0 : Int), ()))), ())).bind fun d7 => match d7 with
    | .inl y6 =>
      some (.inr (.inl y6))
    | .inr (.inl y6) =>
      some (.inl ((y6.1.1, ((wI (y6.1.2.1 + (1 : Int))), ())), ()))
    | .inr (.inr e) => nomatch e
  else
    some (.inr (.inr (.inl ((), ()))))
noncomputable def s149_L4 (x : Ta58) : Option (Ta58 ⊕ (((Bool × Unit) × Unit) ⊕ ((Unit × Unit) ⊕ Empty))) := q149_L4 x.1.1 x.1.2.1
noncomputable def a149 : Nat → Option LoopAnn := fun c => bif Nat.beq c 2 then some (.fix h149_L2 e149_L2 s149_L2) else bif Nat.beq c 0 then some (.fix h149_L0 e149_L0 s149_L0) else bif Nat.beq c 6 then some (.fix h149_L6 e149_L6 s149_L6) else bif Nat.beq c 4 then some (.fix h149_L4 e149_L4 s149_L4) else none
noncomputable def g149 (x0 : Ta174) : Option ((Bool × Unit) × Unit) :=
  bif (!(f77 (x0.2.2.2.2.2.2.2.1.len : Int) (1 : Int) (6 : Int))) then
    some ((false, ()), ())
  else
    (fixO s149_L0 (((), ((0 : Int), ())), (x0, ()))).bind fun d10 => match d10 with
    | .inl y4 =>
      some ((y4.1.1, ()), ())
    | .inr (.inl y4) =>
      (g205 y4.2.1.2.2.2.2.2.2.2.1).bind fun y5 =>
        (fixO s149_L4 ((y5.1.1, ((0 : Int), ())), ())).bind fun d9 => match d9 with
        | .inl y8 =>
          some ((y8.1.1, ()), ())
        | .inr (.inl y8) =>
          some ((true, ()), ())
        | .inr (.inr e) => nomatch e
    | .inr (.inr e) => nomatch e
noncomputable def c149 : Ctr := { ins := [.v Ty190], out := [.bool], F := fun x => g149 x.1 }
noncomputable def l149 : List (Nat × Code) := loopsIn (Tryz.f149.body.getD .skip) 0
theorem w149_L2 (x : h149_L2.T) : runK Tryz.prog Γ t149 a149 (l149.getD 1 (0, .skip)).2 2 (pkSh h149_L2 x) (loopCls (sh := h149_L2) (es := e149_L2)) = (s149_L2 x : Option _) := by kernel_rfl
theorem w149_L0 (x : h149_L0.T) : runK Tryz.prog Γ t149 a149 (l149.getD 0 (0, .skip)).2 0 (pkSh h149_L0 x) (loopCls (sh := h149_L0) (es := e149_L0)) = (s149_L0 x : Option _) := by kernel_rfl
theorem w149_L6 (x : h149_L6.T) : runK Tryz.prog Γ t149 a149 (l149.getD 3 (0, .skip)).2 6 (pkSh h149_L6 x) (loopCls (sh := h149_L6) (es := e149_L6)) = (s149_L6 x : Option _) := by kernel_rfl
theorem w149_L4 (x : h149_L4.T) : runK Tryz.prog Γ t149 a149 (l149.getD 2 (0, .skip)).2 4 (pkSh h149_L4 x) (loopCls (sh := h149_L4) (es := e149_L4)) = (s149_L4 x : Option _) := by kernel_rfl
theorem v149 : LoopsOk Tryz.prog Γ t149 a149 (loopsIn (Tryz.f149.body.getD .skip) 0) := by
  have e : loopsIn (Tryz.f149.body.getD .skip) 0 = [(0, (l149.getD 0 (0, .skip)).2), (2, (l149.getD 1 (0, .skip)).2), (4, (l149.getD 2 (0, .skip)).2), (6, (l149.getD 3 (0, .skip)).2)] := by kernel_rfl
  rw [e]
  exact ⟨fun x d h => (w149_L0 x).trans h, fun x d h => (w149_L2 x).trans h, fun x d h => (w149_L4 x).trans h, fun x d h => (w149_L6 x).trans h, trivial⟩
theorem r149 (x : InsT c149.ins) : fnK Tryz.prog Γ t149 a149 Tryz.f149 c149 x = g149 x.1 := by kernel_rfl
theorem k149 : TblOk Tryz.prog t149 := tblOk_cons o77 (tblOk_cons o204 (tblOk_cons o205 (tblOk_nil)))
theorem o149 : Holds Tryz.prog 149 c149 := fn_holds (code := Tryz.f149.body.getD .skip) (by kernel_rfl) gamOk k149 Tryz.func149 (by kernel_rfl) (by kernel_rfl) (by kernel_rfl) (by kernel_rfl) v149 (fun x _ h => (r149 x).trans h)
/-! ### 206: loop.example/g00076/spec.ChanOk -/
noncomputable def t206 : Tbl := [(77, [], c77)]
noncomputable def a206 : Nat → Option LoopAnn := fun _ => none
noncomputable def g206 (x0 : Ta16) : Option ((Bool × Unit) × Unit) :=
  bif (!(f77 x0.2.1 (0 : Int) (5 : Int))) then
    some ((false, ()), ())
  else
    bif (!(f77 x0.2.2.1 (0 : Int) (5 : Int))) then
      some ((false, ()), ())
    else
      bif (x0.2.1 == x0.2.2.1) then
        some ((false, ()), ())
      else
        bif (x0.1 == (0 : Int)) then
          bif (x0.2.2.2.1 == (0 : Int)) then
            some ((true, ()), ())
          else
            bif (x0.1 == (1 : Int)) then
              some (((f77 x0.2.2.2.1 (1 : Int) (8 : Int)), ()), ())
            else
              some ((false, ()), ())
        else
          bif (x0.1 == (1 : Int)) then
            some (((f77 x0.2.2.2.1 (1 : Int) (8 : Int)), ()), ())
          else
            some ((false, ()), ())
noncomputable def f206 (x0 : Ta16) : Bool :=
  bif (!(f77 x0.2.1 (0 : Int) (5 : Int))) then
    false
  else
    bif (!(f77 x0.2.2.1 (0 : Int) (5 : Int))) then
      false
    else
      bif (x0.2.1 == x0.2.2.1) then
        false
      else
        bif (x0.1 == (0 : Int)) then
          bif (x0.2.2.2.1 == (0 : Int)) then
            true
          else
            bif (x0.1 == (1 : Int)) then
              (f77 x0.2.2.2.1 (1 : Int) (8 : Int))
            else
              false
        else
          bif (x0.1 == (1 : Int)) then
            (f77 x0.2.2.2.1 (1 : Int) (8 : Int))
          else
            false
theorem n206 (x0 : Ta16) : g206 x0 = some ((f206 x0, ()), ()) := by
  simp only [g206, f206, pull1]
noncomputable def c206 : Ctr := { ins := [.v Ty99], out := [.bool], F := fun x => some ((f206 x.1, ()), ()) }
theorem v206 : LoopsOk Tryz.prog Γ t206 a206 (loopsIn (Tryz.f206.body.getD .skip) 0) := loopsOk_nil (by kernel_rfl)
theorem r206 (x : InsT c206.ins) : fnK Tryz.prog Γ t206 a206 Tryz.f206 c206 x = g206 x.1 := by kernel_rfl
theorem k206 : TblOk Tryz.prog t206 := tblOk_cons o77 (tblOk_nil)
theorem o206 : Holds Tryz.prog 206 c206 := fn_holds (code := Tryz.f206.body.getD .skip) (by kernel_rfl) gamOk k206 Tryz.func206 (by kernel_rfl) (by kernel_rfl) (by kernel_rfl) (by kernel_rfl) v206 (fun x _ h => (r206 x).trans ((n206 x.1).trans h))
/-! ### 207: loop.example/g00076/spec.WorstPad -/
noncomputable def t207 : Tbl := [(152, [], c152), (162, [], c162), (206, [], c206)]
abbrev h207_L0 : Shape := { slots := [(2, .v Ty105), (3, .bx 3 0), (7, .v (.int .i64)), (8, .v (.int .i64))], boxes := [(3, .typ Ty139)] }
abbrev e207_L0 : List (XT × Shape) := [(.ret, { slots := [(6, .v (.int .i64))], boxes := [] }), (.exit 0, { slots := [(7, .v (.int .i64))], boxes := [] })]
noncomputable def q207_L0 (t2 : Ta26) (t7 : Int) (t8 : Int) (b3 : Ta62) : Option (Ta142 ⊕ (((Int × Unit) × Unit) ⊕ (((Int × Unit) × Unit) ⊕ Empty))) :=
  bif (decide (t8 < (t2.len : Int))) then
    bif (decide (0 ≤ t8) && decide (t8 < (t2.len : Int))) then
      bif (!(f206 (L.get t2 t8.toNat))) then
        some (.inr (.inl (((-1 : Int), ()), ())))
      else
        bif (decide (0 ≤ t8) && decide (t8 < (t2.len : Int))) then
          bif ((L.get t2 t8.toNat).1 == (0 : Int)) then
            some (.inl ((t2, ((), ((wI (t7 + b3.1)), ((wI (t8 + (1 : Int))), ())))), (b3, ())))
          else
            bif (decide (0 ≤ t8) && decide (t8 < (t2.len : Int))) then
              some (.inl ((t2, ((), ((wI (t7 + (wI (b3.1 * (L.get t2 t8.toNat).2.2.2.1)))), ((wI (t8 + (1 : Int))), ())))), (b3, ())))
            else
              none
        else
          none
    else
      none
  else
    some (.inr (.inr (.inl ((t7, ()), ()))))
noncomputable def s207_L0 (x : Ta142) : Option (Ta142 ⊕ (((Int × Unit) × Unit) ⊕ (((Int × Unit) × Unit) ⊕ Empty))) := q207_L0 x.1.1 x.1.2.2.1 x.1.2.2.2.1 x.2.1
noncomputable def a207 : Nat → Option LoopAnn := fun c => bif Nat.beq c 0 then some (.fix h207_L0 e207_L0 s207_L0) else none
noncomputable def g207 (x0 : Ta62) (x1 : Ta5) (x2 : Ta26) : Option ((Int × Unit) × Unit) :=
  bif (!(f152 x0)) then
    some (((-1 : Int), ()), ())
  else
    bif (!(f162 x1)) then
      some (((-1 : Int), ()), ())
    else
      bif (decide ((x2.len : Int) > (8 : Int))) then
        some (((-1 : Int), ()), ())
      else
        (fixO s207_L0 ((x2, ((), ((wI ((wI ((16 : Int) * x0.1)) + (wI ((wI (x1.1 * x1.2.1)) * x0.2.2.2.2.2.2.1)))), ((0 : Int), ())))), (x0, ()))).bind fun d2 => match d2 with
        | .inl y1 =>
          some ((y1.1.1, ()), ())
        | .inr (.inl y1) =>
          some ((y1.1.1, ()), ())
        | .inr (.inr e) => nomatch e
noncomputable def c207 : Ctr := { ins := [.v Ty139, .v Ty68, .v Ty105], out := [(.int .i64)], F := fun x => g207 x.1 x.2.1 x.2.2.1 }
noncomputable def l207 : List (Nat × Code) := loopsIn (Tryz.f207.body.getD .skip) 0
theorem w207_L0 (x : h207_L0.T) : runK Tryz.prog Γ t207 a207 (l207.getD 0 (0, .skip)).2 0 (pkSh h207_L0 x) (loopCls (sh := h207_L0) (es := e207_L0)) = (s207_L0 x : Option _) := by kernel_rfl
theorem v207 : LoopsOk Tryz.prog Γ t207 a207 (loopsIn (Tryz.f207.body.getD .skip) 0) := by
  have e : loopsIn (Tryz.f207.body.getD .skip) 0 = [(0, (l207.getD 0 (0, .skip)).2)] := by kernel_rfl
  rw [e]
  exact ⟨fun x d h => (w207_L0 x).trans h, trivial⟩
theorem r207 (x : InsT c207.ins) : fnK Tryz.prog Γ t207 a207 Tryz.f207 c207 x = g207 x.1 x.2.1 x.2.2.1 := by kernel_rfl
theorem k207 : TblOk Tryz.prog t207 := tblOk_cons o152 (tblOk_cons o162 (tblOk_cons o206 (tblOk_nil)))
theorem o207 : Holds Tryz.prog 207 c207 := fn_holds (code := Tryz.f207.body.getD .skip) (by kernel_rfl) gamOk k207 Tryz.func207 (by kernel_rfl) (by kernel_rfl) (by kernel_rfl) (by kernel_rfl) v207 (fun x _ h => (r207 x).trans h)
/-! ### 150: loop.example/g00076/spec.l13Chans -/
noncomputable def t150 : Tbl := [(77, [], c77), (206, [], c206), (207, [], c207)]
abbrev h150_L0 : Shape := { slots := [(1, .bx 1 0), (3, .v (.int .i64))], boxes := [(1, .typ Ty190)] }
abbrev e150_L0 : List (XT × Shape) := [(.ret, { slots := [(2, .v .bool)], boxes := [] }), (.exit 0, { slots := [(1, .bx 1 0)], boxes := [(1, .typ Ty190)] })]
noncomputable def q150_L0 (t3 : Int) (b1 : Ta174) : Option (Ta177 ⊕ (((Bool × Unit) × Unit) ⊕ (Ta176 ⊕ Empty))) :=
  bif (decide (t3 < (b1.2.2.2.2.2.2.2.2.1.len : Int))) then
    bif (decide (0 ≤ t3) && decide (t3 < (b1.2.2.2.2.2.2.2.2.1.len : Int))) then
      bif (!(f77 (L.get b1.2.2.2.2.2.2.2.2.1 t3.toNat) (0 : Int) (wI ((b1.2.2.2.2.2.2.2.1.len : Int) - (1 : Int))))) then
        some (.inr (.inl ((false, ()), ())))
      else
        some (.inl (((), ((wI (t3 + (1 : Int))), ())), (b1, ())))
    else
      none
  else
    some (.inr (.inr (.inl (((), ()), (b1, ())))))
noncomputable def s150_L0 (x : Ta177) : Option (Ta177 ⊕ (((Bool × Unit) × Unit) ⊕ (Ta176 ⊕ Empty))) := q150_L0 x.1.2.1 x.2.1
abbrev h150_L2 : Shape := { slots := [(1, .bx 1 0), (4, .v (.int .i64))], boxes := [(1, .typ Ty190)] }
abbrev e150_L2 : List (XT × Shape) := [(.ret, { slots := [(2, .v .bool)], boxes := [] }), (.exit 2, { slots := [(1, .bx 1 0)], boxes := [(1, .typ Ty190)] })]
noncomputable def q150_L2 (t4 : Int) (b1 : Ta174) : Option (Ta177 ⊕ (((Bool × Unit) × Unit) ⊕ (Ta176 ⊕ Empty))) :=
  bif (decide (t4 < (b1.2.2.2.2.2.2.2.2.2.1.len : Int))) then
    bif (decide (0 ≤ t4) && decide (t4 < (b1.2.2.2.2.2.2.2.2.2.1.len : Int))) then
      bif (!(f206 (L.get b1.2.2.2.2.2.2.2.2.2.1 t4.toNat))) then
        some (.inr (.inl ((false, ()), ())))
      else
        bif (decide (0 ≤ t4) && decide (t4 < (b1.2.2.2.2.2.2.2.2.2.1.len : Int))) then
          bif (decide ((L.get b1.2.2.2.2.2.2.2.2.2.1 t4.toNat).2.1 ≥ (b1.2.2.2.2.2.2.2.1.len : Int))) then
            some (.inr (.inl ((false, ()), ())))
          else
            bif (decide (0 ≤ t4) && decide (t4 < (b1.2.2.2.2.2.2.2.2.2.1.len : Int))) then
              bif (decide ((L.get b1.2.2.2.2.2.2.2.2.2.1 t4.toNat).2.2.1 ≥ (b1.2.2.2.2.2.2.2.1.len : Int))) then
                some (.inr (.inl ((false, ()), ())))
              else
                some (.inl (((), ((wI (t4 + (1 : Int))), ())), (b1, ())))
            else
              none
        else
          none
    else
      none
  else
    some (.inr (.inr (.inl (((), ()), (b1, ())))))
noncomputable def s150_L2 (x : Ta177) : Option (Ta177 ⊕ (((Bool × Unit) × Unit) ⊕ (Ta176 ⊕ Empty))) := q150_L2 x.1.2.1 x.2.1
noncomputable def a150 : Nat → Option LoopAnn := fun c => bif Nat.beq c 0 then some (.fix h150_L0 e150_L0 s150_L0) else bif Nat.beq c 2 then some (.fix h150_L2 e150_L2 s150_L2) else none
noncomputable def g150 (x0 : Ta174) : Option ((Bool × Unit) × Unit) :=
  bif (decide ((x0.2.2.2.2.2.2.2.2.1.len : Int) > (8 : Int))) then
    some ((false, ()), ())
  else
    bif (decide ((x0.2.2.2.2.2.2.2.2.2.1.len : Int) > (8 : Int))) then
      some ((false, ()), ())
    else
      (fixO s150_L0 (((), ((0 : Int), ())), (x0, ()))).bind fun d5 => match d5 with
      | .inl y1 =>
        some ((y1.1.1, ()), ())
      | .inr (.inl y1) =>
        (fixO s150_L2 (((), ((0 : Int), ())), y1.2)).bind fun d4 => match d4 with
        | .inl y2 =>
          some ((y2.1.1, ()), ())
        | .inr (.inl y2) =>
          (g207 y2.2.1.2.2.2.1 y2.2.1.2.1 y2.2.1.2.2.2.2.2.2.2.2.2.1).bind fun y3 =>
            some (((decide (y2.2.1.2.2.2.2.1 ≥ y3.1.1)), ()), ())
        | .inr (.inr e) => nomatch e
      | .inr (.inr e) => nomatch e
noncomputable def c150 : Ctr := { ins := [.v Ty190], out := [.bool], F := fun x => g150 x.1 }
noncomputable def l150 : List (Nat × Code) := loopsIn (Tryz.f150.body.getD .skip) 0
theorem w150_L0 (x : h150_L0.T) : runK Tryz.prog Γ t150 a150 (l150.getD 0 (0, .skip)).2 0 (pkSh h150_L0 x) (loopCls (sh := h150_L0) (es := e150_L0)) = (s150_L0 x : Option _) := by kernel_rfl
theorem w150_L2 (x : h150_L2.T) : runK Tryz.prog Γ t150 a150 (l150.getD 1 (0, .skip)).2 2 (pkSh h150_L2 x) (loopCls (sh := h150_L2) (es := e150_L2)) = (s150_L2 x : Option _) := by kernel_rfl
theorem v150 : LoopsOk Tryz.prog Γ t150 a150 (loopsIn (Tryz.f150.body.getD .skip) 0) := by
  have e : loopsIn (Tryz.f150.body.getD .skip) 0 = [(0, (l150.getD 0 (0, .skip)).2), (2, (l150.getD 1 (0, .skip)).2)] := by kernel_rfl
  rw [e]
  exact ⟨fun x d h => (w150_L0 x).trans h, fun x d h => (w150_L2 x).trans h, trivial⟩
theorem r150 (x : InsT c150.ins) : fnK Tryz.prog Γ t150 a150 Tryz.f150 c150 x = g150 x.1 := by kernel_rfl
theorem k150 : TblOk Tryz.prog t150 := tblOk_cons o77 (tblOk_cons o206 (tblOk_cons o207 (tblOk_nil)))
theorem o150 : Holds Tryz.prog 150 c150 := fn_holds (code := Tryz.f150.body.getD .skip) (by kernel_rfl) gamOk k150 Tryz.func150 (by kernel_rfl) (by kernel_rfl) (by kernel_rfl) (by kernel_rfl) v150 (fun x _ h => (r150 x).trans h)
/-! ### 151: loop.example/g00076/spec.l13Slots -/
noncomputable def t151 : Tbl := [(77, [], c77)]
abbrev h151_L0 : Shape := { slots := [(1, .bx 1 0), (3, .v (.int .i64)), (4, .v (.int .i64))], boxes := [(1, .typ Ty190)] }
abbrev e151_L0 : List (XT × Shape) := [(.ret, { slots := [(2, .v .bool)], boxes := [] }), (.exit 0, { slots := [], boxes := [] })]
noncomputable def q151_L0 (t3 : Int) (t4 : Int) (b1 : Ta174) : Option (Ta178 ⊕ (((Bool × Unit) × Unit) ⊕ ((Unit × Unit) ⊕ Empty))) :=
  bif (decide (t4 < (b1.2.2.2.2.2.2.2.2.2.2.1.len : Int))) then
    bif (decide (0 ≤ t4) && decide (t4 < (b1.2.2.2.2.2.2.2.2.2.2.1.len : Int))) then
      bif (!(f77 (L.get b1.2.2.2.2.2.2.2.2.2.2.1 t4.toNat).1 (0 : Int) (wI ((b1.2.2.2.2.2.2.2.1.len : Int) - (1 : Int))))) then
        some (.inr (.inl ((false, ()), ())))
      else
        bif (!(f77 (L.get b1.2.2.2.2.2.2.2.2.2.2.1 t4.toNat).2.1 t3 (5000 : Int))) then
          some (.inr (.inl ((false, ()), ())))
        else
          bif (!(f77 (L.get b1.2.2.2.2.2.2.2.2.2.2.1 t4.toNat).2.2.1 (wI ((wI (b1.2.2.2.2.1 + b1.2.2.2.2.2.1)) + (1 : Int))) (5000 : Int))) then
            some (.inr (.inl ((false, ()), ())))
          else
            bif (decide ((wI ((L.get b1.2.2.2.2.2.2.2.2.2.2.1 t4.toNat).2.1 + (L.get b1.2.2.2.2.2.2.2.2.2.2.1 t4.toNat).2.2.1)) > b1.2.2.2.2.2.2.1)) then
              some (.inr (.inl ((false, ()), ())))
            else
              some (.inl (((), ((wI ((L.get b1.2.2.2.2.2.2.2.2.2.2.1 t4.toNat).2.1 + (L.get b1.2.2.2.2.2.2.2.2.2.2.1 t4.toNat).2.2.1)), ((wI (t4 + (1 : Int))), ()))), (b1, ())))
    else
      none
  else
    some (.inr (.inr (.inl ((), ()))))
noncomputable def s151_L0 (x : Ta178) : Option (Ta178 ⊕ (((Bool × Unit) × Unit) ⊕ ((Unit × Unit) ⊕ Empty))) := q151_L0 x.1.2.1 x.1.2.2.1 x.2.1
noncomputable def a151 : Nat → Option LoopAnn := fun c => bif Nat.beq c 0 then some (.fix h151_L0 e151_L0 s151_L0) else none
noncomputable def g151 (x0 : Ta174) : Option ((Bool × Unit) × Unit) :=
  bif (!(f77 (x0.2.2.2.2.2.2.2.2.2.2.1.len : Int) (1 : Int) (16 : Int))) then
    some ((false, ()), ())
  else
    (fixO s151_L0 (((), ((0 : Int), ((0 : Int), ()))), (x0, ()))).bind fun d2 => match d2 with
    | .inl y1 =>
      some ((y1.1.1, ()), ())
    | .inr (.inl y1) =>
      some ((true, ()), ())
    | .inr (.inr e) => nomatch e
noncomputable def c151 : Ctr := { ins := [.v Ty190], out := [.bool], F := fun x => g151 x.1 }
noncomputable def l151 : List (Nat × Code) := loopsIn (Tryz.f151.body.getD .skip) 0
theorem w151_L0 (x : h151_L0.T) : runK Tryz.prog Γ t151 a151 (l151.getD 0 (0, .skip)).2 0 (pkSh h151_L0 x) (loopCls (sh := h151_L0) (es := e151_L0)) = (s151_L0 x : Option _) := by kernel_rfl
theorem v151 : LoopsOk Tryz.prog Γ t151 a151 (loopsIn (Tryz.f151.body.getD .skip) 0) := by
  have e : loopsIn (Tryz.f151.body.getD .skip) 0 = [(0, (l151.getD 0 (0, .skip)).2)] := by kernel_rfl
  rw [e]
  exact ⟨fun x d h => (w151_L0 x).trans h, trivial⟩
theorem r151 (x : InsT c151.ins) : fnK Tryz.prog Γ t151 a151 Tryz.f151 c151 x = g151 x.1 := by kernel_rfl
theorem k151 : TblOk Tryz.prog t151 := tblOk_cons o77 (tblOk_nil)
theorem o151 : Holds Tryz.prog 151 c151 := fn_holds (code := Tryz.f151.body.getD .skip) (by kernel_rfl) gamOk k151 Tryz.func151 (by kernel_rfl) (by kernel_rfl) (by kernel_rfl) (by kernel_rfl) v151 (fun x _ h => (r151 x).trans h)
/-! ### 79: loop.example/g00076/spec.Sound -/
noncomputable def t79 : Tbl := [(148, [], c148), (149, [], c149), (150, [], c150), (151, [], c151)]
noncomputable def a79 : Nat → Option LoopAnn := fun _ => none
noncomputable def g79 (x0 : Ta174) : Option ((Bool × Unit) × Unit) :=
  (g148 x0).bind fun y1 =>
    bif y1.1.1 then
      (g149 x0).bind fun y2 =>
        bif y2.1.1 then
          (g150 x0).bind fun y3 =>
            bif y3.1.1 then
              (g151 x0).bind fun y4 =>
                some ((y4.1.1, ()), ())
            else
              some ((false, ()), ())
        else
          some ((false, ()), ())
    else
      some ((false, ()), ())
noncomputable def c79 : Ctr := { ins := [.v Ty190], out := [.bool], F := fun x => g79 x.1 }
theorem v79 : LoopsOk Tryz.prog Γ t79 a79 (loopsIn (Tryz.f79.body.getD .skip) 0) := loopsOk_nil (by kernel_rfl)
theorem r79 (x : InsT c79.ins) : fnK Tryz.prog Γ t79 a79 Tryz.f79 c79 x = g79 x.1 := by kernel_rfl
theorem k79 : TblOk Tryz.prog t79 := tblOk_cons o148 (tblOk_cons o149 (tblOk_cons o150 (tblOk_cons o151 (tblOk_nil))))
theorem o79 : Holds Tryz.prog 79 c79 := fn_holds (code := Tryz.f79.body.getD .skip) (by kernel_rfl) gamOk k79 Tryz.func79 (by kernel_rfl) (by kernel_rfl) (by kernel_rfl) (by kernel_rfl) v79 (fun x _ h => (r79 x).trans h)
/-! ### 96: loop.example/g00076/spec.Carries -/
noncomputable def t96 : Tbl := [(79, [], c79)]
abbrev h96_L0 : Shape := { slots := [(1, .bx 1 0), (3, .v (.int .i64)), (4, .v (.int .i64))], boxes := [(1, .typ Ty190)] }
abbrev e96_L0 : List (XT × Shape) := [(.exit 0, { slots := [(3, .v (.int .i64))], boxes := [] })]
noncomputable def q96_L0 (t3 : Int) (t4 : Int) (b1 : Ta174) : Option (Ta178 ⊕ (((Int × Unit) × Unit) ⊕ Empty)) :=
  bif (decide (t4 < (b1.2.2.2.2.2.2.2.2.2.1.len : Int))) then
    bif (decide (0 ≤ t4) && decide (t4 < (b1.2.2.2.2.2.2.2.2.2.1.len : Int))) then
      bif ((L.get b1.2.2.2.2.2.2.2.2.2.1 t4.toNat).1 == (0 : Int)) then
        some (.inl (((), ((wI (t3 + (1 : Int))), ((wI (t4 + (1 : Int))), ()))), (b1, ())))
      else
        bif (decide (0 ≤ t4) && decide (t4 < (b1.2.2.2.2.2.2.2.2.2.1.len : Int))) then
          some (.inl (((), ((wI (t3 + (L.get b1.2.2.2.2.2.2.2.2.2.1 t4.toNat).2.2.2.1)), ((wI (t4 + (1 : Int))), ()))), (b1, ())))
        else
          none
    else
      none
  else
    some (.inr (.inl ((t3, ()), ())))
noncomputable def s96_L0 (x : Ta178) : Option (Ta178 ⊕ (((Int × Unit) × Unit) ⊕ Empty)) := q96_L0 x.1.2.1 x.1.2.2.1 x.2.1
noncomputable def a96 : Nat → Option LoopAnn := fun c => bif Nat.beq c 0 then some (.fix h96_L0 e96_L0 s96_L0) else none
noncomputable def g96 (x0 : Ta174) : Option ((Int × Unit) × Unit) :=
  (g79 x0).bind fun y1 =>
    bif (!y1.1.1) then
      some (((-1 : Int), ()), ())
    else
      (fixO s96_L0 (((), ((0 : Int), ((0 : Int), ()))), (x0, ()))).bind fun d3 => match d3 with
      | .inl y2 =>
        some ((y2.1.1, ()), ())
      | .inr e => nomatch e
noncomputable def c96 : Ctr := { ins := [.v Ty190], out := [(.int .i64)], F := fun x => g96 x.1 }
noncomputable def l96 : List (Nat × Code) := loopsIn (Tryz.f96.body.getD .skip) 0
theorem w96_L0 (x : h96_L0.T) : runK Tryz.prog Γ t96 a96 (l96.getD 0 (0, .skip)).2 0 (pkSh h96_L0 x) (loopCls (sh := h96_L0) (es := e96_L0)) = (s96_L0 x : Option _) := by kernel_rfl
theorem v96 : LoopsOk Tryz.prog Γ t96 a96 (loopsIn (Tryz.f96.body.getD .skip) 0) := by
  have e : loopsIn (Tryz.f96.body.getD .skip) 0 = [(0, (l96.getD 0 (0, .skip)).2)] := by kernel_rfl
  rw [e]
  exact ⟨fun x d h => (w96_L0 x).trans h, trivial⟩
theorem r96 (x : InsT c96.ins) : fnK Tryz.prog Γ t96 a96 Tryz.f96 c96 x = g96 x.1 := by kernel_rfl
theorem k96 : TblOk Tryz.prog t96 := tblOk_cons o79 (tblOk_nil)
theorem o96 : Holds Tryz.prog 96 c96 := fn_holds (code := Tryz.f96.body.getD .skip) (by kernel_rfl) gamOk k96 Tryz.func96 (by kernel_rfl) (by kernel_rfl) (by kernel_rfl) (by kernel_rfl) v96 (fun x _ h => (r96 x).trans h)
/-! ### 163: loop.example/g00076/spec.CacheEmpty -/
noncomputable def t163 : Tbl := [(162, [], c162)]
abbrev h163_L0 : Shape := { slots := [(1, .bx 1 0), (2, .bx 2 0), (3, .bx 3 0), (4, .v (.int .i64))], boxes := [(1, .typ Ty68), (2, .cells [.v (.int .i64), .v (.int .i64), .v (.int .i64), .ext Ty33 60131]), (3, .cells [.v (.int .i64), .v (.int .i64), .v (.int .i64), .ext Ty33 60195])] }
abbrev e163_L0 : List (XT × Shape) := [(.exit 0, { slots := [(2, .bx 2 0), (3, .bx 3 0)], boxes := [(2, .cells [.v (.int .i64), .v (.int .i64), .v (.int .i64), .ext Ty33 60131]), (3, .cells [.v (.int .i64), .v (.int .i64), .v (.int .i64), .ext Ty33 60195])] })]
noncomputable def q163_L0 (t4 : Int) (b1 : Ta5) (b2_0 : Int) (b2_1 : Int) (b2_2 : Int) (b2_3 : Ta6) (b3_0 : Int) (b3_1 : Int) (b3_2 : Int) (b3_3 : Ta6) : Option (Ta164 ⊕ (((Unit × (Unit × Unit)) × Ta132) ⊕ Empty)) :=
  bif (decide (t4 < b1.1)) then
    bif (decide (b3_3.len + (L.of (Ty.zero Ty33) [(L.of (Ty.zero Ty24) [])]).len ≤ most)) then
      some (.inl (((), ((), ((), ((wI (t4 + (1 : Int))), ())))), (b1, ((b2_0, (b2_1, (b2_2, (b2_3, ())))), ((b3_0, (b3_1, (b3_2, ((L.app b3_3 (L.of (Ty.zero Ty33) [(L.of (Ty.zero Ty24) [])])), ())))), ())))))
    else
      none
  else
    some (.inr (.inl (((), ((), ())), ((b2_0, (b2_1, (b2_2, (b2_3, ())))), ((b3_0, (b3_1, (b3_2, (b3_3, ())))), ())))))
noncomputable def s163_L0 (x : Ta164) : Option (Ta164 ⊕ (((Unit × (Unit × Unit)) × Ta132) ⊕ Empty)) := q163_L0 x.1.2.2.2.1 x.2.1 x.2.2.1.1 x.2.2.1.2.1 x.2.2.1.2.2.1 x.2.2.1.2.2.2.1 x.2.2.2.1.1 x.2.2.2.1.2.1 x.2.2.2.1.2.2.1 x.2.2.2.1.2.2.2.1
noncomputable def a163 : Nat → Option LoopAnn := fun c => bif Nat.beq c 0 then some (.fix h163_L0 e163_L0 s163_L0) else none
noncomputable def g163 (x0 : Ta5) : Option (Ta91 × Unit) :=
  bif (!(f162 x0)) then
    some (((((0 : Int), ((0 : Int), ((0 : Int), ()))), ((nilL Ty33), ())), ()), ())
  else
    (fixO s163_L0 (((), ((), ((), ((0 : Int), ())))), (x0, (((0 : Int), ((0 : Int), ((0 : Int), ((nilL Ty33), ())))), ((x0.1, (x0.2.1, (x0.2.2.1, ((nilL Ty33), ())))), ()))))).bind fun d2 => match d2 with
    | .inl y1 =>
      some ((((y1.2.2.1.1, (y1.2.2.1.2.1, (y1.2.2.1.2.2.1, ()))), y1.2.2.1.2.2.2), ()), ())
    | .inr e => nomatch e
noncomputable def c163 : Ctr := { ins := [.v Ty68], out := [Ty134], F := fun x => g163 x.1 }
noncomputable def l163 : List (Nat × Code) := loopsIn (Tryz.f163.body.getD .skip) 0
theorem w163_L0 (x : h163_L0.T) : runK Tryz.prog Γ t163 a163 (l163.getD 0 (0, .skip)).2 0 (pkSh h163_L0 x) (loopCls (sh := h163_L0) (es := e163_L0)) = (s163_L0 x : Option _) := by kernel_rfl
theorem v163 : LoopsOk Tryz.prog Γ t163 a163 (loopsIn (Tryz.f163.body.getD .skip) 0) := by
  have e : loopsIn (Tryz.f163.body.getD .skip) 0 = [(0, (l163.getD 0 (0, .skip)).2)] := by kernel_rfl
  rw [e]
  exact ⟨fun x d h => (w163_L0 x).trans h, trivial⟩
theorem r163 (x : InsT c163.ins) : fnK Tryz.prog Γ t163 a163 Tryz.f163 c163 x = g163 x.1 := by kernel_rfl
theorem k163 : TblOk Tryz.prog t163 := tblOk_cons o162 (tblOk_nil)
theorem o163 : Holds Tryz.prog 163 c163 := fn_holds (code := Tryz.f163.body.getD .skip) (by kernel_rfl) gamOk k163 Tryz.func163 (by kernel_rfl) (by kernel_rfl) (by kernel_rfl) (by kernel_rfl) v163 (fun x _ h => (r163 x).trans h)
/-! ### 97: loop.example/g00076/spec.CacheFlush -/
noncomputable def t97 : Tbl := [(95, [], c95), (163, [], c163)]
abbrev h97_L2 : Shape := { slots := [(1, .bx 1 0), (2, .bx 2 0), (4, .v (.int .i64)), (5, .v (.int .i64)), (6, .v (.int .i64))], boxes := [(1, .typ Ty134), (2, .cells [.v (.int .i64), .v (.int .i64), .v (.int .i64), .ext Ty33 60131])] }
abbrev e97_L2 : List (XT × Shape) := [(.exit 2, { slots := [(1, .bx 1 0), (2, .bx 2 0), (4, .v (.int .i64)), (5, .v (.int .i64))], boxes := [(1, .typ Ty134), (2, .cells [.v (.int .i64), .v (.int .i64), .v (.int .i64), .ext Ty33 60131])] })]
noncomputable def q97_L2 (t4 : Int) (t5 : Int) (t6 : Int) (b1 : Ta80) (b2_0 : Int) (b2_1 : Int) (b2_2 : Int) (b2_3 : Ta6) : Option (Ta159 ⊕ (Ta157 ⊕ Empty)) :=
  bif (decide (0 ≤ t5) && decide (t5 < (b1.2.1.len : Int))) then
    bif (decide (t6 < ((L.get b1.2.1 t5.toNat).len : Int))) then
      bif (decide (0 ≤ t5) && decide (t5 < (b1.2.1.len : Int))) then
        bif (decide (0 ≤ t6) && decide (t6 < ((L.get b1.2.1 t5.toNat).len : Int))) then
          bif (L.get (L.get b1.2.1 t5.toNat) t6.toNat).2.1 then
            some (.inl (((), ((), ((wI (t4 + (1 : Int))), (t5, ((wI (t6 + (1 : Int))), ()))))), (b1, ((b2_0, (b2_1, (b2_2, (b2_3, ())))), ()))))
          else
            some (.inl (((), ((), (t4, (t5, ((wI (t6 + (1 : Int))), ()))))), (b1, ((b2_0, (b2_1, (b2_2, (b2_3, ())))), ()))))
        else
          none
      else
        none
    else
      some (.inr (.inl (((), ((), (t4, (t5, ())))), (b1, ((b2_0, (b2_1, (b2_2, (b2_3, ())))), ())))))
  else
    none
noncomputable def s97_L2 (x : Ta159) : Option (Ta159 ⊕ (Ta157 ⊕ Empty)) := q97_L2 x.1.2.2.1 x.1.2.2.2.1 x.1.2.2.2.2.1 x.2.1 x.2.2.1.1 x.2.2.1.2.1 x.2.2.1.2.2.1 x.2.2.1.2.2.2.1
abbrev h97_L0 : Shape := { slots := [(1, .bx 1 0), (2, .bx 2 0), (4, .v (.int .i64)), (5, .v (.int .i64))], boxes := [(1, .typ Ty134), (2, .cells [.v (.int .i64), .v (.int .i64), .v (.int .i64), .ext Ty33 60131])] }
abbrev e97_L0 : List (XT × Shape) := [(.exit 0, { slots := [(1, .bx 1 0), (2, .bx 2 0), (4, .v (.int .i64))], boxes := [(1, .typ Ty134), (2, .cells [.v (.int .i64), .v (.int .i64), .v (.int .i64), .ext Ty33 60131])] })]
noncomputable def q97_L0 (t4 : Int) (t5 : Int) (b1 : Ta80) (b2_0 : Int) (b2_1 : Int) (b2_2 : Int) (b2_3 : Ta6) : Option (Ta157 ⊕ ((Ta9 × Ta141) ⊕ Empty)) :=
  bif (decide (t5 < (b1.2.1.len : Int))) then
    (fixO s97_L2 (((), ((), (t4, (t5, ((0 : Int), ()))))), (b1, ((b2_0, (b2_1, (b2_2, (b2_3, ())))), ())))).bind fun d3 => match d3 with
    | .inl y2 =>
      some (.inl (((), ((), (y2.1.2.2.1, ((wI (y2.1.2.2.2.1 + (1 : Int))), ())))), y2.2))
    | .inr e => nomatch e
  else
    some (.inr (.inl (((), ((), (t4, ()))), (b1, ((b2_0, (b2_1, (b2_2, (b2_3, ())))), ())))))
noncomputable def s97_L0 (x : Ta157) : Option (Ta157 ⊕ ((Ta9 × Ta141) ⊕ Empty)) := q97_L0 x.1.2.2.1 x.1.2.2.2.1 x.2.1 x.2.2.1.1 x.2.2.1.2.1 x.2.2.1.2.2.1 x.2.2.1.2.2.2.1
noncomputable def a97 : Nat → Option LoopAnn := fun c => bif Nat.beq c 2 then some (.fix h97_L2 e97_L2 s97_L2) else bif Nat.beq c 0 then some (.fix h97_L0 e97_L0 s97_L0) else none
noncomputable def g97 (x0 : Ta80) : Option ((Ta80 × (Int × Unit)) × Unit) :=
  (g95 x0).bind fun y1 =>
    bif (!y1.1.1) then
      some (((((0 : Int), ((0 : Int), ((0 : Int), ()))), ((nilL Ty33), ())), (0 : Int), ()), ())
    else
      (fixO s97_L0 (((), ((), ((0 : Int), ((0 : Int), ())))), (x0, (((0 : Int), ((0 : Int), ((0 : Int), ((nilL Ty33), ())))), ())))).bind fun d6 => match d6 with
      | .inl y4 =>
        (g163 y4.2.1.1).bind fun y5 =>
          some ((y5.1.1, y4.1.2.2.1, ()), ())
      | .inr e => nomatch e
noncomputable def c97 : Ctr := { ins := [.v Ty134], out := [Ty134, (.int .i64)], F := fun x => g97 x.1 }
noncomputable def l97 : List (Nat × Code) := loopsIn (Tryz.f97.body.getD .skip) 0
theorem w97_L2 (x : h97_L2.T) : runK Tryz.prog Γ t97 a97 (l97.getD 1 (0, .skip)).2 2 (pkSh h97_L2 x) (loopCls (sh := h97_L2) (es := e97_L2)) = (s97_L2 x : Option _) := by kernel_rfl
theorem w97_L0 (x : h97_L0.T) : runK Tryz.prog Γ t97 a97 (l97.getD 0 (0, .skip)).2 0 (pkSh h97_L0 x) (loopCls (sh := h97_L0) (es := e97_L0)) = (s97_L0 x : Option _) := by kernel_rfl
theorem v97 : LoopsOk Tryz.prog Γ t97 a97 (loopsIn (Tryz.f97.body.getD .skip) 0) := by
  have e : loopsIn (Tryz.f97.body.getD .skip) 0 = [(0, (l97.getD 0 (0, .skip)).2), (2, (l97.getD 1 (0, .skip)).2)] := by kernel_rfl
  rw [e]
  exact ⟨fun x d h => (w97_L0 x).trans h, fun x d h => (w97_L2 x).trans h, trivial⟩
theorem r97 (x : InsT c97.ins) : fnK Tryz.prog Γ t97 a97 Tryz.f97 c97 x = g97 x.1 := by kernel_rfl
theorem k97 : TblOk Tryz.prog t97 := tblOk_cons o95 (tblOk_cons o163 (tblOk_nil))
theorem o97 : Holds Tryz.prog 97 c97 := fn_holds (code := Tryz.f97.body.getD .skip) (by kernel_rfl) gamOk k97 Tryz.func97 (by kernel_rfl) (by kernel_rfl) (by kernel_rfl) (by kernel_rfl) v97 (fun x _ h => (r97 x).trans h)
/-! ### 42: loop.example/g00076/spec.SwitchWork -/
noncomputable def t42 : Tbl := [(95, [], c95), (96, [], c96), (77, [], c77), (97, [], c97)]
noncomputable def a42 : Nat → Option LoopAnn := fun _ => none
noncomputable def g42 (x0 : Ta174) (x1 : Ta80) (x2 : Int) : Option Ta51 :=
  (g95 x1).bind fun y1 =>
    bif (!y1.1.1) then
      some ((((0 : Int), ((0 : Int), ((0 : Int), ((0 : Int), ())))), ()), ())
    else
      bif (!((x1.1.1 == x0.2.1.1) && ((x1.1.2.1 == x0.2.1.2.1) && ((x1.1.2.2.1 == x0.2.1.2.2.1) && true)))) then
        some ((((0 : Int), ((0 : Int), ((0 : Int), ((0 : Int), ())))), ()), ())
      else
        (g96 x0).bind fun y2 =>
          bif (!(f77 x2 (0 : Int) y2.1.1)) then
            some ((((0 : Int), ((0 : Int), ((0 : Int), ((0 : Int), ())))), ()), ())
          else
            (g97 x1).bind fun y3 =>
              some ((((wI (x0.2.2.2.1.2.2.2.2.2.2.1 * y3.1.2.1)), ((wI ((16 : Int) * x0.2.2.2.1.1)), ((wI (x0.2.2.2.1.1 * x2)), ((wI ((wI ((wI (x0.2.2.2.2.1 - (wI (x0.2.2.2.1.2.2.2.2.2.2.1 * y3.1.2.1)))) - (wI ((16 : Int) * x0.2.2.2.1.1)))) - (wI (x0.2.2.2.1.1 * x2)))), ())))), ()), ())
noncomputable def c42 : Ctr := { ins := [.v Ty190, .v Ty134, .v (.int .i64)], out := [Ty99], F := fun x => g42 x.1 x.2.1 x.2.2.1 }
theorem v42 : LoopsOk Tryz.prog Γ t42 a42 (loopsIn (Tryz.f42.body.getD .skip) 0) := loopsOk_nil (by kernel_rfl)
theorem r42 (x : InsT c42.ins) : fnK Tryz.prog Γ t42 a42 Tryz.f42 c42 x = g42 x.1 x.2.1 x.2.2.1 := by kernel_rfl
theorem k42 : TblOk Tryz.prog t42 := tblOk_cons o95 (tblOk_cons o96 (tblOk_cons o77 (tblOk_cons o97 (tblOk_nil))))
theorem o42 : Holds Tryz.prog 42 c42 := fn_holds (code := Tryz.f42.body.getD .skip) (by kernel_rfl) gamOk k42 Tryz.func42 (by kernel_rfl) (by kernel_rfl) (by kernel_rfl) (by kernel_rfl) v42 (fun x _ h => (r42 x).trans h)
/-! ### 86: loop.example/g00076/impl.within -/
noncomputable def t86 : Tbl := []
noncomputable def a86 : Nat → Option LoopAnn := fun _ => none
noncomputable def g86 (x0 : Int) (x1 : Int) (x2 : Int) : Option ((Bool × Unit) × Unit) :=
  bif (decide (x0 ≥ x1)) then
    some (((decide (x0 ≤ x2)), ()), ())
  else
    some ((false, ()), ())
noncomputable def f86 (x0 : Int) (x1 : Int) (x2 : Int) : Bool :=
  bif (decide (x0 ≥ x1)) then
    (decide (x0 ≤ x2))
  else
    false
theorem n86 (x0 : Int) (x1 : Int) (x2 : Int) : g86 x0 x1 x2 = some ((f86 x0 x1 x2, ()), ()) := by
  simp only [g86, f86, pull1]
noncomputable def c86 : Ctr := { ins := [.v (.int .i64), .v (.int .i64), .v (.int .i64)], out := [.bool], F := fun x => some ((f86 x.1 x.2.1 x.2.2.1, ()), ()) }
theorem v86 : LoopsOk Tryz.prog Γ t86 a86 (loopsIn (Tryz.f86.body.getD .skip) 0) := loopsOk_nil (by kernel_rfl)
theorem r86 (x : InsT c86.ins) : fnK Tryz.prog Γ t86 a86 Tryz.f86 c86 x = g86 x.1 x.2.1 x.2.2.1 := by kernel_rfl
theorem k86 : TblOk Tryz.prog t86 := tblOk_nil
theorem o86 : Holds Tryz.prog 86 c86 := fn_holds (code := Tryz.f86.body.getD .skip) (by kernel_rfl) gamOk k86 Tryz.func86 (by kernel_rfl) (by kernel_rfl) (by kernel_rfl) (by kernel_rfl) v86 (fun x _ h => (r86 x).trans ((n86 x.1 x.2.1 x.2.2.1).trans h))
/-! ### 131: loop.example/g00076/impl.isMem -/
noncomputable def t131 : Tbl := [(86, [], c86)]
noncomputable def a131 : Nat → Option LoopAnn := fun _ => none
noncomputable def g131 (x0 : Int) : Option ((Bool × Unit) × Unit) :=
  bif (f86 x0 (64 : Int) (2048 : Int)) then
    some ((((Int.tmod x0 (4 : Int)) == (0 : Int)), ()), ())
  else
    some ((false, ()), ())
noncomputable def f131 (x0 : Int) : Bool :=
  bif (f86 x0 (64 : Int) (2048 : Int)) then
    ((Int.tmod x0 (4 : Int)) == (0 : Int))
  else
    false
theorem n131 (x0 : Int) : g131 x0 = some ((f131 x0, ()), ()) := by
  simp only [g131, f131, pull1]
noncomputable def c131 : Ctr := { ins := [.v (.int .i64)], out := [.bool], F := fun x => some ((f131 x.1, ()), ()) }
theorem v131 : LoopsOk Tryz.prog Γ t131 a131 (loopsIn (Tryz.f131.body.getD .skip) 0) := loopsOk_nil (by kernel_rfl)
theorem r131 (x : InsT c131.ins) : fnK Tryz.prog Γ t131 a131 Tryz.f131 c131 x = g131 x.1 := by kernel_rfl
theorem k131 : TblOk Tryz.prog t131 := tblOk_cons o86 (tblOk_nil)
theorem o131 : Holds Tryz.prog 131 c131 := fn_holds (code := Tryz.f131.body.getD .skip) (by kernel_rfl) gamOk k131 Tryz.func131 (by kernel_rfl) (by kernel_rfl) (by kernel_rfl) (by kernel_rfl) v131 (fun x _ h => (r131 x).trans ((n131 x.1).trans h))
/-! ### 190: loop.example/g00076/impl.isPower -/
noncomputable def t190 : Tbl := []
noncomputable def a190 : Nat → Option LoopAnn := fun _ => none
noncomputable def g190 (x0 : Int) : Option ((Bool × Unit) × Unit) :=
  bif (decide (x0 > (0 : Int))) then
    some ((((andOf .i64 x0 (wI (x0 - (1 : Int)))) == (0 : Int)), ()), ())
  else
    some ((false, ()), ())
noncomputable def f190 (x0 : Int) : Bool :=
  bif (decide (x0 > (0 : Int))) then
    ((andOf .i64 x0 (wI (x0 - (1 : Int)))) == (0 : Int))
  else
    false
theorem n190 (x0 : Int) : g190 x0 = some ((f190 x0, ()), ()) := by
  simp only [g190, f190, pull1]
noncomputable def c190 : Ctr := { ins := [.v (.int .i64)], out := [.bool], F := fun x => some ((f190 x.1, ()), ()) }
theorem v190 : LoopsOk Tryz.prog Γ t190 a190 (loopsIn (Tryz.f190.body.getD .skip) 0) := loopsOk_nil (by kernel_rfl)
theorem r190 (x : InsT c190.ins) : fnK Tryz.prog Γ t190 a190 Tryz.f190 c190 x = g190 x.1 := by kernel_rfl
theorem k190 : TblOk Tryz.prog t190 := tblOk_nil
theorem o190 : Holds Tryz.prog 190 c190 := fn_holds (code := Tryz.f190.body.getD .skip) (by kernel_rfl) gamOk k190 Tryz.func190 (by kernel_rfl) (by kernel_rfl) (by kernel_rfl) (by kernel_rfl) v190 (fun x _ h => (r190 x).trans ((n190 x.1).trans h))
/-! ### 132: loop.example/g00076/impl.isShape -/
noncomputable def t132 : Tbl := [(86, [], c86), (190, [], c190)]
noncomputable def a132 : Nat → Option LoopAnn := fun _ => none
noncomputable def g132 (x0 : Ta5) : Option ((Bool × Unit) × Unit) :=
  bif (f86 x0.1 (1 : Int) (16 : Int)) then
    bif (f190 x0.1) then
      bif (f86 x0.2.1 (1 : Int) (4 : Int)) then
        bif (f86 x0.2.2.1 (4 : Int) (32 : Int)) then
          some (((f190 x0.2.2.1), ()), ())
        else
          some ((false, ()), ())
      else
        some ((false, ()), ())
    else
      some ((false, ()), ())
  else
    some ((false, ()), ())
noncomputable def f132 (x0 : Ta5) : Bool :=
  bif (f86 x0.1 (1 : Int) (16 : Int)) then
    bif (f190 x0.1) then
      bif (f86 x0.2.1 (1 : Int) (4 : Int)) then
        bif (f86 x0.2.2.1 (4 : Int) (32 : Int)) then
          (f190 x0.2.2.1)
        else
          false
      else
        false
    else
      false
  else
    false
theorem n132 (x0 : Ta5) : g132 x0 = some ((f132 x0, ()), ()) := by
  simp only [g132, f132, pull1]
noncomputable def c132 : Ctr := { ins := [.v Ty68], out := [.bool], F := fun x => some ((f132 x.1, ()), ()) }
theorem v132 : LoopsOk Tryz.prog Γ t132 a132 (loopsIn (Tryz.f132.body.getD .skip) 0) := loopsOk_nil (by kernel_rfl)
theorem r132 (x : InsT c132.ins) : fnK Tryz.prog Γ t132 a132 Tryz.f132 c132 x = g132 x.1 := by kernel_rfl
theorem k132 : TblOk Tryz.prog t132 := tblOk_cons o86 (tblOk_cons o190 (tblOk_nil))
theorem o132 : Holds Tryz.prog 132 c132 := fn_holds (code := Tryz.f132.body.getD .skip) (by kernel_rfl) gamOk k132 Tryz.func132 (by kernel_rfl) (by kernel_rfl) (by kernel_rfl) (by kernel_rfl) v132 (fun x _ h => (r132 x).trans ((n132 x.1).trans h))
/-! ### 133: loop.example/g00076/impl.areCosts -/
noncomputable def t133 : Tbl := [(86, [], c86)]
noncomputable def a133 : Nat → Option LoopAnn := fun c => bif Nat.beq c 0 then some (.unroll 7 [1, 17, 18] [1]) else none
noncomputable def g133 (x0 : Ta62) : Option ((Bool × Unit) × Unit) :=
  bif (!(f86 x0.2.1 (0 : Int) (50 : Int))) then
    some ((false, ()), ())
  else
    bif (!(f86 x0.2.2.1 (0 : Int) (50 : Int))) then
      some ((false, ()), ())
    else
      bif (!(f86 x0.2.2.2.1 (0 : Int) (50 : Int))) then
        some ((false, ()), ())
      else
        bif (!(f86 x0.2.2.2.2.1 (0 : Int) (50 : Int))) then
          some ((false, ()), ())
        else
          bif (!(f86 x0.2.2.2.2.2.1 (0 : Int) (50 : Int))) then
            some ((false, ()), ())
          else
            bif (!(f86 x0.2.2.2.2.2.2.1 (0 : Int) (50 : Int))) then
              some ((false, ()), ())
            else
              some (((f86 x0.1 (1 : Int) (20 : Int)), ()), ())
noncomputable def f133 (x0 : Ta62) : Bool :=
  bif (!(f86 x0.2.1 (0 : Int) (50 : Int))) then
    false
  else
    bif (!(f86 x0.2.2.1 (0 : Int) (50 : Int))) then
      false
    else
      bif (!(f86 x0.2.2.2.1 (0 : Int) (50 : Int))) then
        false
      else
        bif (!(f86 x0.2.2.2.2.1 (0 : Int) (50 : Int))) then
          false
        else
          bif (!(f86 x0.2.2.2.2.2.1 (0 : Int) (50 : Int))) then
            false
          else
            bif (!(f86 x0.2.2.2.2.2.2.1 (0 : Int) (50 : Int))) then
              false
            else
              (f86 x0.1 (1 : Int) (20 : Int))
theorem n133 (x0 : Ta62) : g133 x0 = some ((f133 x0, ()), ()) := by
  simp only [g133, f133, pull1]
noncomputable def c133 : Ctr := { ins := [.v Ty139], out := [.bool], F := fun x => some ((f133 x.1, ()), ()) }
noncomputable def l133 : List (Nat × Code) := loopsIn (Tryz.f133.body.getD .skip) 0
theorem v133 : LoopsOk Tryz.prog Γ t133 a133 (loopsIn (Tryz.f133.body.getD .skip) 0) := by
  have e : loopsIn (Tryz.f133.body.getD .skip) 0 = [(0, (l133.getD 0 (0, .skip)).2)] := by kernel_rfl
  rw [e]
  exact ⟨trivial, trivial⟩
theorem r133 (x : InsT c133.ins) : fnK Tryz.prog Γ t133 a133 Tryz.f133 c133 x = g133 x.1 := by kernel_rfl
theorem k133 : TblOk Tryz.prog t133 := tblOk_cons o86 (tblOk_nil)
theorem o133 : Holds Tryz.prog 133 c133 := fn_holds (code := Tryz.f133.body.getD .skip) (by kernel_rfl) gamOk k133 Tryz.func133 (by kernel_rfl) (by kernel_rfl) (by kernel_rfl) (by kernel_rfl) v133 (fun x _ h => (r133 x).trans ((n133 x.1).trans h))
/-! ### 134: loop.example/g00076/impl.isSpan -/
noncomputable def t134 : Tbl := [(86, [], c86)]
noncomputable def a134 : Nat → Option LoopAnn := fun _ => none
noncomputable def g134 (x0 : Int) : Option ((Bool × Unit) × Unit) :=
  some (((f86 x0 (1 : Int) (5000 : Int)), ()), ())
noncomputable def f134 (x0 : Int) : Bool :=
  (f86 x0 (1 : Int) (5000 : Int))
theorem n134 (x0 : Int) : g134 x0 = some ((f134 x0, ()), ()) := by
  simp only [g134, f134, pull1]
noncomputable def c134 : Ctr := { ins := [.v (.int .i64)], out := [.bool], F := fun x => some ((f134 x.1, ()), ()) }
theorem v134 : LoopsOk Tryz.prog Γ t134 a134 (loopsIn (Tryz.f134.body.getD .skip) 0) := loopsOk_nil (by kernel_rfl)
theorem r134 (x : InsT c134.ins) : fnK Tryz.prog Γ t134 a134 Tryz.f134 c134 x = g134 x.1 := by kernel_rfl
theorem k134 : TblOk Tryz.prog t134 := tblOk_cons o86 (tblOk_nil)
theorem o134 : Holds Tryz.prog 134 c134 := fn_holds (code := Tryz.f134.body.getD .skip) (by kernel_rfl) gamOk k134 Tryz.func134 (by kernel_rfl) (by kernel_rfl) (by kernel_rfl) (by kernel_rfl) v134 (fun x _ h => (r134 x).trans ((n134 x.1).trans h))
/-! ### 210: loop.example/g00076/impl.opCost -/
noncomputable def t210 : Tbl := [(86, [], c86)]
noncomputable def a210 : Nat → Option LoopAnn := fun _ => none
noncomputable def g210 (x0 : Ta62) (x1 : Int) : Option ((Int × Unit) × Unit) :=
  bif (x1 == (9 : Int)) then
    some (((wI (x0.1 + x0.2.1)), ()), ())
  else
    bif (x1 == (10 : Int)) then
      some (((wI (x0.1 + x0.2.1)), ()), ())
    else
      bif (f86 x1 (15 : Int) (18 : Int)) then
        some (((wI (x0.1 + x0.2.2.1)), ()), ())
      else
        bif (decide (x1 ≥ (25 : Int))) then
          some (((wI (x0.1 + x0.2.2.2.2.2.1)), ()), ())
        else
          some ((x0.1, ()), ())
noncomputable def f210 (x0 : Ta62) (x1 : Int) : Int :=
  bif (x1 == (9 : Int)) then
    (wI (x0.1 + x0.2.1))
  else
    bif (x1 == (10 : Int)) then
      (wI (x0.1 + x0.2.1))
    else
      bif (f86 x1 (15 : Int) (18 : Int)) then
        (wI (x0.1 + x0.2.2.1))
      else
        bif (decide (x1 ≥ (25 : Int))) then
          (wI (x0.1 + x0.2.2.2.2.2.1))
        else
          x0.1
theorem n210 (x0 : Ta62) (x1 : Int) : g210 x0 x1 = some ((f210 x0 x1, ()), ()) := by
  simp only [g210, f210, pull1]
noncomputable def c210 : Ctr := { ins := [.v Ty139, .v (.int .i64)], out := [(.int .i64)], F := fun x => some ((f210 x.1 x.2.1, ()), ()) }
theorem v210 : LoopsOk Tryz.prog Γ t210 a210 (loopsIn (Tryz.f210.body.getD .skip) 0) := loopsOk_nil (by kernel_rfl)
theorem r210 (x : InsT c210.ins) : fnK Tryz.prog Γ t210 a210 Tryz.f210 c210 x = g210 x.1 x.2.1 := by kernel_rfl
theorem k210 : TblOk Tryz.prog t210 := tblOk_cons o86 (tblOk_nil)
theorem o210 : Holds Tryz.prog 210 c210 := fn_holds (code := Tryz.f210.body.getD .skip) (by kernel_rfl) gamOk k210 Tryz.func210 (by kernel_rfl) (by kernel_rfl) (by kernel_rfl) (by kernel_rfl) v210 (fun x _ h => (r210 x).trans ((n210 x.1 x.2.1).trans h))
/-! ### 211: loop.example/g00076/impl.accessCost -/
noncomputable def t211 : Tbl := []
noncomputable def a211 : Nat → Option LoopAnn := fun _ => none
noncomputable def g211 (x0 : Ta62) (x1 : Ta10) : Option ((Int × Unit) × Unit) :=
  bif (!x1.1) then
    bif (!x1.2.1) then
      bif x1.2.2.1 then
        some (((wI ((wI ((wI ((0 : Int) + x0.2.2.2.1)) + x0.2.2.2.2.1)) + x0.2.2.2.2.2.2.1)), ()), ())
      else
        some (((wI ((wI ((0 : Int) + x0.2.2.2.1)) + x0.2.2.2.2.1)), ()), ())
    else
      bif x1.2.2.1 then
        some (((wI ((wI ((0 : Int) + x0.2.2.2.1)) + x0.2.2.2.2.2.2.1)), ()), ())
      else
        some (((wI ((0 : Int) + x0.2.2.2.1)), ()), ())
  else
    bif (!x1.2.1) then
      bif x1.2.2.1 then
        some (((wI ((wI ((0 : Int) + x0.2.2.2.2.1)) + x0.2.2.2.2.2.2.1)), ()), ())
      else
        some (((wI ((0 : Int) + x0.2.2.2.2.1)), ()), ())
    else
      bif x1.2.2.1 then
        some (((wI ((0 : Int) + x0.2.2.2.2.2.2.1)), ()), ())
      else
        some (((0 : Int), ()), ())
noncomputable def f211 (x0 : Ta62) (x1 : Ta10) : Int :=
  bif (!x1.1) then
    bif (!x1.2.1) then
      bif x1.2.2.1 then
        (wI ((wI ((wI ((0 : Int) + x0.2.2.2.1)) + x0.2.2.2.2.1)) + x0.2.2.2.2.2.2.1))
      else
        (wI ((wI ((0 : Int) + x0.2.2.2.1)) + x0.2.2.2.2.1))
    else
      bif x1.2.2.1 then
        (wI ((wI ((0 : Int) + x0.2.2.2.1)) + x0.2.2.2.2.2.2.1))
      else
        (wI ((0 : Int) + x0.2.2.2.1))
  else
    bif (!x1.2.1) then
      bif x1.2.2.1 then
        (wI ((wI ((0 : Int) + x0.2.2.2.2.1)) + x0.2.2.2.2.2.2.1))
      else
        (wI ((0 : Int) + x0.2.2.2.2.1))
    else
      bif x1.2.2.1 then
        (wI ((0 : Int) + x0.2.2.2.2.2.2.1))
      else
        (0 : Int)
theorem n211 (x0 : Ta62) (x1 : Ta10) : g211 x0 x1 = some ((f211 x0 x1, ()), ()) := by
  simp only [g211, f211, pull1]
noncomputable def c211 : Ctr := { ins := [.v Ty139, .v (.pair .bool (.pair .bool (.pair .bool .unit)))], out := [(.int .i64)], F := fun x => some ((f211 x.1 x.2.1, ()), ()) }
theorem v211 : LoopsOk Tryz.prog Γ t211 a211 (loopsIn (Tryz.f211.body.getD .skip) 0) := loopsOk_nil (by kernel_rfl)
theorem r211 (x : InsT c211.ins) : fnK Tryz.prog Γ t211 a211 Tryz.f211 c211 x = g211 x.1 x.2.1 := by kernel_rfl
theorem k211 : TblOk Tryz.prog t211 := tblOk_nil
theorem o211 : Holds Tryz.prog 211 c211 := fn_holds (code := Tryz.f211.body.getD .skip) (by kernel_rfl) gamOk k211 Tryz.func211 (by kernel_rfl) (by kernel_rfl) (by kernel_rfl) (by kernel_rfl) v211 (fun x _ h => (r211 x).trans ((n211 x.1 x.2.1).trans h))
/-! ### 155: loop.example/g00076/impl.WorstStep -/
noncomputable def t155 : Tbl := [(133, [], c133), (210, [], c210), (211, [], c211)]
abbrev h155_L0 : Shape := { slots := [(1, .bx 1 0), (3, .v (.int .i64)), (8, .v (.int .i64))], boxes := [(1, .typ Ty139)] }
abbrev e155_L0 : List (XT × Shape) := [(.exit 0, { slots := [(1, .bx 1 0), (3, .v (.int .i64))], boxes := [(1, .typ Ty139)] })]
noncomputable def q155_L0 (t3 : Int) (t8 : Int) (b1 : Ta62) : Option (Ta117 ⊕ (Ta108 ⊕ Empty)) :=
  bif (decide (t8 < (33 : Int))) then
    some (.inl (((), ((if (f210 b1 t8) > t3 then (f210 b1 t8) else t3), ((wI (t8 + (1 : Int))), ()))), (b1, ())))
  else
    some (.inr (.inl (((), (t3, ())), (b1, ()))))
noncomputable def s155_L0 (x : Ta117) : Option (Ta117 ⊕ (Ta108 ⊕ Empty)) := q155_L0 x.1.2.1 x.1.2.2.1 x.2.1
noncomputable def a155 : Nat → Option LoopAnn := fun c => bif Nat.beq c 0 then some (.fix h155_L0 e155_L0 s155_L0) else none
noncomputable def g155 (x0 : Ta62) : Option ((Int × Unit) × Unit) :=
  bif (!(f133 x0)) then
    some (((-1 : Int), ()), ())
  else
    (fixO s155_L0 (((), ((0 : Int), ((0 : Int), ()))), (x0, ()))).bind fun d2 => match d2 with
    | .inl y1 =>
      some (((wI ((wI (y1.1.2.1 + (wI ((2 : Int) * (f211 y1.2.1 (false, (false, (true, ())))))))) + y1.2.1.2.2.2.2.2.1)), ()), ())
    | .inr e => nomatch e
noncomputable def c155 : Ctr := { ins := [.v Ty139], out := [(.int .i64)], F := fun x => g155 x.1 }
noncomputable def l155 : List (Nat × Code) := loopsIn (Tryz.f155.body.getD .skip) 0
theorem w155_L0 (x : h155_L0.T) : runK Tryz.prog Γ t155 a155 (l155.getD 0 (0, .skip)).2 0 (pkSh h155_L0 x) (loopCls (sh := h155_L0) (es := e155_L0)) = (s155_L0 x : Option _) := by kernel_rfl
theorem v155 : LoopsOk Tryz.prog Γ t155 a155 (loopsIn (Tryz.f155.body.getD .skip) 0) := by
  have e : loopsIn (Tryz.f155.body.getD .skip) 0 = [(0, (l155.getD 0 (0, .skip)).2)] := by kernel_rfl
  rw [e]
  exact ⟨fun x d h => (w155_L0 x).trans h, trivial⟩
theorem r155 (x : InsT c155.ins) : fnK Tryz.prog Γ t155 a155 Tryz.f155 c155 x = g155 x.1 := by kernel_rfl
theorem k155 : TblOk Tryz.prog t155 := tblOk_cons o133 (tblOk_cons o210 (tblOk_cons o211 (tblOk_nil)))
theorem o155 : Holds Tryz.prog 155 c155 := fn_holds (code := Tryz.f155.body.getD .skip) (by kernel_rfl) gamOk k155 Tryz.func155 (by kernel_rfl) (by kernel_rfl) (by kernel_rfl) (by kernel_rfl) v155 (fun x _ h => (r155 x).trans h)
/-! ### 87: loop.example/g00076/impl.worstStep -/
noncomputable def t87 : Tbl := [(155, [], c155)]
noncomputable def a87 : Nat → Option LoopAnn := fun _ => none
noncomputable def g87 (x0 : Ta62) : Option ((Int × Unit) × Unit) :=
  (g155 x0).bind fun y1 =>
    some ((y1.1.1, ()), ())
noncomputable def c87 : Ctr := { ins := [.v Ty139], out := [(.int .i64)], F := fun x => g87 x.1 }
theorem v87 : LoopsOk Tryz.prog Γ t87 a87 (loopsIn (Tryz.f87.body.getD .skip) 0) := loopsOk_nil (by kernel_rfl)
theorem r87 (x : InsT c87.ins) : fnK Tryz.prog Γ t87 a87 Tryz.f87 c87 x = g87 x.1 := by kernel_rfl
theorem k87 : TblOk Tryz.prog t87 := tblOk_cons o155 (tblOk_nil)
theorem o87 : Holds Tryz.prog 87 c87 := fn_holds (code := Tryz.f87.body.getD .skip) (by kernel_rfl) gamOk k87 Tryz.func87 (by kernel_rfl) (by kernel_rfl) (by kernel_rfl) (by kernel_rfl) v87 (fun x _ h => (r87 x).trans h)
/-! ### 227: loop.example/g00076/impl.isLabel -/
noncomputable def t227 : Tbl := [(86, [], c86)]
abbrev h227_L0 : Shape := { slots := [(0, .v .str), (5, .v (.int .i64)), (6, .v (.int .i64))], boxes := [] }
abbrev e227_L0 : List (XT × Shape) := [(.ret, { slots := [(2, .v .bool)], boxes := [] }), (.exit 0, { slots := [(0, .v .str)], boxes := [] })]
noncomputable def q227_L0 (t0 : ByteArray) (t5 : Int) (t6 : Int) : Option (Ta29 ⊕ (((Bool × Unit) × Unit) ⊕ (Ta4 ⊕ Empty))) :=
  bif (decide (t6 < t5)) then
    bif (decide (0 ≤ t6) && decide (t6 < t0.size)) then
      bif (decide ((bt t0 t6) < (97 : Int))) then
        some (.inr (.inl ((false, ()), ())))
      else
        bif (decide (0 ≤ t6) && decide (t6 < t0.size)) then
          bif (decide ((bt t0 t6) > (122 : Int))) then
            some (.inr (.inl ((false, ()), ())))
          else
            some (.inl ((t0, (t5, ((wI (t6 + (1 : Int))), ()))), ()))
        else
          none
    else
      none
  else
    some (.inr (.inr (.inl ((t0, ()), ()))))
noncomputable def s227_L0 (x : Ta29) : Option (Ta29 ⊕ (((Bool × Unit) × Unit) ⊕ (Ta4 ⊕ Empty))) := q227_L0 x.1.1 x.1.2.1 x.1.2.2.1
noncomputable def a227 : Nat → Option LoopAnn := fun c => bif Nat.beq c 0 then some (.fix h227_L0 e227_L0 s227_L0) else none
noncomputable def g227 (x0 : ByteArray) : Option ((Bool × Unit) × Unit) :=
  (fixO s227_L0 ((x0, ((x0.size : Int), ((0 : Int), ()))), ())).bind fun d2 => match d2 with
  | .inl y1 =>
    some ((y1.1.1, ()), ())
  | .inr (.inl y1) =>
    some (((f86 (y1.1.1.size : Int) (1 : Int) (12 : Int)), ()), ())
  | .inr (.inr e) => nomatch e
noncomputable def c227 : Ctr := { ins := [.v .str], out := [.bool], F := fun x => g227 x.1 }
noncomputable def l227 : List (Nat × Code) := loopsIn (Tryz.f227.body.getD .skip) 0
theorem w227_L0 (x : h227_L0.T) : runK Tryz.prog Γ t227 a227 (l227.getD 0 (0, .skip)).2 0 (pkSh h227_L0 x) (loopCls (sh := h227_L0) (es := e227_L0)) = (s227_L0 x : Option _) := by kernel_rfl
theorem v227 : LoopsOk Tryz.prog Γ t227 a227 (loopsIn (Tryz.f227.body.getD .skip) 0) := by
  have e : loopsIn (Tryz.f227.body.getD .skip) 0 = [(0, (l227.getD 0 (0, .skip)).2)] := by kernel_rfl
  rw [e]
  exact ⟨fun x d h => (w227_L0 x).trans h, trivial⟩
theorem r227 (x : InsT c227.ins) : fnK Tryz.prog Γ t227 a227 Tryz.f227 c227 x = g227 x.1 := by kernel_rfl
theorem k227 : TblOk Tryz.prog t227 := tblOk_cons o86 (tblOk_nil)
theorem o227 : Holds Tryz.prog 227 c227 := fn_holds (code := Tryz.f227.body.getD .skip) (by kernel_rfl) gamOk k227 Tryz.func227 (by kernel_rfl) (by kernel_rfl) (by kernel_rfl) (by kernel_rfl) v227 (fun x _ h => (r227 x).trans h)
/-! ### 191: loop.example/g00076/impl.isName -/
noncomputable def t191 : Tbl := [(227, [], c227)]
noncomputable def a191 : Nat → Option LoopAnn := fun _ => none
noncomputable def g191 (x0 : ByteArray) : Option ((Bool × Unit) × Unit) :=
  (g227 x0).bind fun y1 =>
    bif y1.1.1 then
      some (((decide ((x0.size : Int) ≤ (8 : Int))), ()), ())
    else
      some ((false, ()), ())
noncomputable def c191 : Ctr := { ins := [.v .str], out := [.bool], F := fun x => g191 x.1 }
theorem v191 : LoopsOk Tryz.prog Γ t191 a191 (loopsIn (Tryz.f191.body.getD .skip) 0) := loopsOk_nil (by kernel_rfl)
theorem r191 (x : InsT c191.ins) : fnK Tryz.prog Γ t191 a191 Tryz.f191 c191 x = g191 x.1 := by kernel_rfl
theorem k191 : TblOk Tryz.prog t191 := tblOk_cons o227 (tblOk_nil)
theorem o191 : Holds Tryz.prog 191 c191 := fn_holds (code := Tryz.f191.body.getD .skip) (by kernel_rfl) gamOk k191 Tryz.func191 (by kernel_rfl) (by kernel_rfl) (by kernel_rfl) (by kernel_rfl) v191 (fun x _ h => (r191 x).trans h)
/-! ### 229: loop.example/g00076/impl.partNamed$1 -/
noncomputable def t229 : Tbl := []
noncomputable def a229 : Nat → Option LoopAnn := fun _ => none
noncomputable def g229 (x0 : Ta102) (x1 : ByteArray) : Option ((Bool × Unit) × Unit) :=
  some (((strEq x0.1 x1), ()), ())
noncomputable def f229 (x0 : Ta102) (x1 : ByteArray) : Bool :=
  (strEq x0.1 x1)
theorem n229 (x0 : Ta102) (x1 : ByteArray) : g229 x0 x1 = some ((f229 x0 x1, ()), ()) := by
  simp only [g229, f229, pull1]
noncomputable def c229 : Ctr := { ins := [.v Ty153, .rf .str], out := [.bool], F := fun x => some ((f229 x.1 x.2.1, ()), ()) }
theorem v229 : LoopsOk Tryz.prog Γ t229 a229 (loopsIn (Tryz.f229.body.getD .skip) 0) := loopsOk_nil (by kernel_rfl)
theorem r229 (x : InsT c229.ins) : fnK Tryz.prog Γ t229 a229 Tryz.f229 c229 x = g229 x.1 x.2.1 := by kernel_rfl
theorem k229 : TblOk Tryz.prog t229 := tblOk_nil
theorem o229 : Holds Tryz.prog 229 c229 := fn_holds (code := Tryz.f229.body.getD .skip) (by kernel_rfl) gamOk k229 Tryz.func229 (by kernel_rfl) (by kernel_rfl) (by kernel_rfl) (by kernel_rfl) v229 (fun x _ h => (r229 x).trans ((n229 x.1 x.2.1).trans h))
/-! ### 228: slices.IndexFunc[[]loop.example/g00076/impl.PartRow,loop.example/g00076/impl.PartRow] -/
noncomputable def t228_229 : Tbl := [(229, [], c229)]
abbrev h228_229_L0 : Shape := { slots := [(0, .v Ty154), (1, .clo 229 [.str]), (7, .v (.int .i64)), (8, .v (.int .i64))], boxes := [] }
abbrev e228_229_L0 : List (XT × Shape) := [(.ret, { slots := [(4, .v (.int .i64))], boxes := [] }), (.exit 0, { slots := [], boxes := [] })]
noncomputable def q228_229_L0 (t0 : Ta107) (t1 : (ByteArray × Unit)) (t7 : Int) (t8 : Int) : Option (Ta144 ⊕ (((Int × Unit) × Unit) ⊕ ((Unit × Unit) ⊕ Empty))) :=
  bif (decide (t8 < t7)) then
    bif (decide (0 ≤ t8) && decide (t8 < (t0.len : Int))) then
      bif (f229 (L.get t0 t8.toNat) t1.1) then
        some (.inr (.inl ((t8, ()), ())))
      else
        some (.inl ((t0, (t1, (t7, ((wI (t8 + (1 : Int))), ())))), ()))
    else
      none
  else
    some (.inr (.inr (.inl ((), ()))))
noncomputable def s228_229_L0 (x : Ta144) : Option (Ta144 ⊕ (((Int × Unit) × Unit) ⊕ ((Unit × Unit) ⊕ Empty))) := q228_229_L0 x.1.1 x.1.2.1 x.1.2.2.1 x.1.2.2.2.1
noncomputable def a228_229 : Nat → Option LoopAnn := fun c => bif Nat.beq c 0 then some (.fix h228_229_L0 e228_229_L0 s228_229_L0) else none
noncomputable def g228_229 (x0 : Ta107) (x1 : (ByteArray × Unit)) : Option ((Int × Unit) × Unit) :=
  (fixO s228_229_L0 ((x0, (x1, ((x0.len : Int), ((0 : Int), ())))), ())).bind fun d2 => match d2 with
  | .inl y1 =>
    some ((y1.1.1, ()), ())
  | .inr (.inl y1) =>
    some (((-1 : Int), ()), ())
  | .inr (.inr e) => nomatch e
noncomputable def c228_229 : Ctr := { ins := [.v Ty154, .clo 229 [.str]], out := [(.int .i64)], F := fun x => g228_229 x.1 x.2.1 }
noncomputable def l228_229 : List (Nat × Code) := loopsIn (Tryz.f228.body.getD .skip) 0
theorem w228_229_L0 (x : h228_229_L0.T) : runK Tryz.prog Γ t228_229 a228_229 (l228_229.getD 0 (0, .skip)).2 0 (pkSh h228_229_L0 x) (loopCls (sh := h228_229_L0) (es := e228_229_L0)) = (s228_229_L0 x : Option _) := by kernel_rfl
theorem v228_229 : LoopsOk Tryz.prog Γ t228_229 a228_229 (loopsIn (Tryz.f228.body.getD .skip) 0) := by
  have e : loopsIn (Tryz.f228.body.getD .skip) 0 = [(0, (l228_229.getD 0 (0, .skip)).2)] := by kernel_rfl
  rw [e]
  exact ⟨fun x d h => (w228_229_L0 x).trans h, trivial⟩
theorem r228_229 (x : InsT c228_229.ins) : fnK Tryz.prog Γ t228_229 a228_229 Tryz.f228 c228_229 x = g228_229 x.1 x.2.1 := by kernel_rfl
theorem k228_229 : TblOk Tryz.prog t228_229 := tblOk_cons o229 (tblOk_nil)
theorem o228_229 : Holds Tryz.prog 228 c228_229 := fn_holds (code := Tryz.f228.body.getD .skip) (by kernel_rfl) gamOk k228_229 Tryz.func228 (by kernel_rfl) (by kernel_rfl) (by kernel_rfl) (by kernel_rfl) v228_229 (fun x _ h => (r228_229 x).trans h)
/-! ### 192: loop.example/g00076/impl.partNamed -/
noncomputable def t192 : Tbl := [(228, [229], c228_229)]
noncomputable def a192 : Nat → Option LoopAnn := fun _ => none
noncomputable def g192 (x0 : Ta174) (x1 : ByteArray) : Option ((Int × Unit) × Unit) :=
  (g228_229 x0.2.2.2.2.2.2.2.1 (x1, ())).bind fun y1 =>
    some ((y1.1.1, ()), ())
noncomputable def c192 : Ctr := { ins := [.v Ty190, .v .str], out := [(.int .i64)], F := fun x => g192 x.1 x.2.1 }
theorem v192 : LoopsOk Tryz.prog Γ t192 a192 (loopsIn (Tryz.f192.body.getD .skip) 0) := loopsOk_nil (by kernel_rfl)
theorem r192 (x : InsT c192.ins) : fnK Tryz.prog Γ t192 a192 Tryz.f192 c192 x = g192 x.1 x.2.1 := by kernel_rfl
theorem k192 : TblOk Tryz.prog t192 := tblOk_cons o228_229 (tblOk_nil)
theorem o192 : Holds Tryz.prog 192 c192 := fn_holds (code := Tryz.f192.body.getD .skip) (by kernel_rfl) gamOk k192 Tryz.func192 (by kernel_rfl) (by kernel_rfl) (by kernel_rfl) (by kernel_rfl) v192 (fun x _ h => (r192 x).trans h)
/-! ### 193: loop.example/g00076/impl.isPolicy -/
noncomputable def t193 : Tbl := [(86, [], c86)]
noncomputable def a193 : Nat → Option LoopAnn := fun _ => none
noncomputable def g193 (x0 : (Int × (Int × Unit))) : Option ((Bool × Unit) × Unit) :=
  bif (x0.1 == (1 : Int)) then
    some (((f86 x0.2.1 (0 : Int) (100 : Int)), ()), ())
  else
    bif (x0.1 == (0 : Int)) then
      some (((x0.2.1 == (0 : Int)), ()), ())
    else
      bif (x0.1 == (2 : Int)) then
        some (((x0.2.1 == (0 : Int)), ()), ())
      else
        some ((false, ()), ())
noncomputable def f193 (x0 : (Int × (Int × Unit))) : Bool :=
  bif (x0.1 == (1 : Int)) then
    (f86 x0.2.1 (0 : Int) (100 : Int))
  else
    bif (x0.1 == (0 : Int)) then
      (x0.2.1 == (0 : Int))
    else
      bif (x0.1 == (2 : Int)) then
        (x0.2.1 == (0 : Int))
      else
        false
theorem n193 (x0 : (Int × (Int × Unit))) : g193 x0 = some ((f193 x0, ()), ()) := by
  simp only [g193, f193, pull1]
noncomputable def c193 : Ctr := { ins := [.v Ty32], out := [.bool], F := fun x => some ((f193 x.1, ()), ()) }
theorem v193 : LoopsOk Tryz.prog Γ t193 a193 (loopsIn (Tryz.f193.body.getD .skip) 0) := loopsOk_nil (by kernel_rfl)
theorem r193 (x : InsT c193.ins) : fnK Tryz.prog Γ t193 a193 Tryz.f193 c193 x = g193 x.1 := by kernel_rfl
theorem k193 : TblOk Tryz.prog t193 := tblOk_cons o86 (tblOk_nil)
theorem o193 : Holds Tryz.prog 193 c193 := fn_holds (code := Tryz.f193.body.getD .skip) (by kernel_rfl) gamOk k193 Tryz.func193 (by kernel_rfl) (by kernel_rfl) (by kernel_rfl) (by kernel_rfl) v193 (fun x _ h => (r193 x).trans ((n193 x.1).trans h))
/-! ### 194: loop.example/g00076/impl.isWindow -/
noncomputable def t194 : Tbl := [(86, [], c86)]
noncomputable def a194 : Nat → Option LoopAnn := fun _ => none
noncomputable def g194 (x0 : Ta5) : Option ((Bool × Unit) × Unit) :=
  bif (f86 x0.2.1 (4 : Int) (2048 : Int)) then
    bif ((Int.tmod x0.2.1 (4 : Int)) == (0 : Int)) then
      bif (f86 x0.1 (0 : Int) (wI ((2048 : Int) - x0.2.1))) then
        bif ((Int.tmod x0.1 (4 : Int)) == (0 : Int)) then
          some (((f86 x0.2.2.1 (1 : Int) (7 : Int)), ()), ())
        else
          some ((false, ()), ())
      else
        some ((false, ()), ())
    else
      some ((false, ()), ())
  else
    some ((false, ()), ())
noncomputable def f194 (x0 : Ta5) : Bool :=
  bif (f86 x0.2.1 (4 : Int) (2048 : Int)) then
    bif ((Int.tmod x0.2.1 (4 : Int)) == (0 : Int)) then
      bif (f86 x0.1 (0 : Int) (wI ((2048 : Int) - x0.2.1))) then
        bif ((Int.tmod x0.1 (4 : Int)) == (0 : Int)) then
          (f86 x0.2.2.1 (1 : Int) (7 : Int))
        else
          false
      else
        false
    else
      false
  else
    false
theorem n194 (x0 : Ta5) : g194 x0 = some ((f194 x0, ()), ()) := by
  simp only [g194, f194, pull1]
noncomputable def c194 : Ctr := { ins := [.v Ty68], out := [.bool], F := fun x => some ((f194 x.1, ()), ()) }
theorem v194 : LoopsOk Tryz.prog Γ t194 a194 (loopsIn (Tryz.f194.body.getD .skip) 0) := loopsOk_nil (by kernel_rfl)
theorem r194 (x : InsT c194.ins) : fnK Tryz.prog Γ t194 a194 Tryz.f194 c194 x = g194 x.1 := by kernel_rfl
theorem k194 : TblOk Tryz.prog t194 := tblOk_cons o86 (tblOk_nil)
theorem o194 : Holds Tryz.prog 194 c194 := fn_holds (code := Tryz.f194.body.getD .skip) (by kernel_rfl) gamOk k194 Tryz.func194 (by kernel_rfl) (by kernel_rfl) (by kernel_rfl) (by kernel_rfl) v194 (fun x _ h => (r194 x).trans ((n194 x.1).trans h))
/-! ### 197: loop.example/g00076/impl.areApart -/
noncomputable def t197 : Tbl := []
noncomputable def a197 : Nat → Option LoopAnn := fun _ => none
noncomputable def g197 (x0 : Ta5) (x1 : Ta5) : Option ((Bool × Unit) × Unit) :=
  bif (decide ((wI (x0.1 + x0.2.1)) ≤ x1.1)) then
    some ((true, ()), ())
  else
    some (((decide ((wI (x1.1 + x1.2.1)) ≤ x0.1)), ()), ())
noncomputable def f197 (x0 : Ta5) (x1 : Ta5) : Bool :=
  bif (decide ((wI (x0.1 + x0.2.1)) ≤ x1.1)) then
    true
  else
    (decide ((wI (x1.1 + x1.2.1)) ≤ x0.1))
theorem n197 (x0 : Ta5) (x1 : Ta5) : g197 x0 x1 = some ((f197 x0 x1, ()), ()) := by
  simp only [g197, f197, pull1]
noncomputable def c197 : Ctr := { ins := [.v Ty68, .v Ty68], out := [.bool], F := fun x => some ((f197 x.1 x.2.1, ()), ()) }
theorem v197 : LoopsOk Tryz.prog Γ t197 a197 (loopsIn (Tryz.f197.body.getD .skip) 0) := loopsOk_nil (by kernel_rfl)
theorem r197 (x : InsT c197.ins) : fnK Tryz.prog Γ t197 a197 Tryz.f197 c197 x = g197 x.1 x.2.1 := by kernel_rfl
theorem k197 : TblOk Tryz.prog t197 := tblOk_nil
theorem o197 : Holds Tryz.prog 197 c197 := fn_holds (code := Tryz.f197.body.getD .skip) (by kernel_rfl) gamOk k197 Tryz.func197 (by kernel_rfl) (by kernel_rfl) (by kernel_rfl) (by kernel_rfl) v197 (fun x _ h => (r197 x).trans ((n197 x.1 x.2.1).trans h))
/-! ### 196: loop.example/g00076/impl.areParts$1 -/
noncomputable def t196 : Tbl := [(197, [], c197)]
noncomputable def a196 : Nat → Option LoopAnn := fun _ => none
noncomputable def g196 (x0 : Ta5) (x1 : Ta5) : Option ((Bool × Unit) × Unit) :=
  some (((!(f197 x0 x1)), ()), ())
noncomputable def f196 (x0 : Ta5) (x1 : Ta5) : Bool :=
  (!(f197 x0 x1))
theorem n196 (x0 : Ta5) (x1 : Ta5) : g196 x0 x1 = some ((f196 x0 x1, ()), ()) := by
  simp only [g196, f196, pull1]
noncomputable def c196 : Ctr := { ins := [.v Ty68, .rf Ty68], out := [.bool], F := fun x => some ((f196 x.1 x.2.1, ()), ()) }
theorem v196 : LoopsOk Tryz.prog Γ t196 a196 (loopsIn (Tryz.f196.body.getD .skip) 0) := loopsOk_nil (by kernel_rfl)
theorem r196 (x : InsT c196.ins) : fnK Tryz.prog Γ t196 a196 Tryz.f196 c196 x = g196 x.1 x.2.1 := by kernel_rfl
theorem k196 : TblOk Tryz.prog t196 := tblOk_cons o197 (tblOk_nil)
theorem o196 : Holds Tryz.prog 196 c196 := fn_holds (code := Tryz.f196.body.getD .skip) (by kernel_rfl) gamOk k196 Tryz.func196 (by kernel_rfl) (by kernel_rfl) (by kernel_rfl) (by kernel_rfl) v196 (fun x _ h => (r196 x).trans ((n196 x.1 x.2.1).trans h))
/-! ### 230: slices.IndexFunc[[]loop.example/g00076/impl.Window,loop.example/g00076/impl.Window] -/
noncomputable def t230_196 : Tbl := [(196, [], c196)]
abbrev h230_196_L0 : Shape := { slots := [(0, .v Ty79), (1, .clo 196 [Ty68]), (7, .v (.int .i64)), (8, .v (.int .i64))], boxes := [] }
abbrev e230_196_L0 : List (XT × Shape) := [(.ret, { slots := [(4, .v (.int .i64))], boxes := [] }), (.exit 0, { slots := [], boxes := [] })]
noncomputable def q230_196_L0 (t0 : Ta11) (t1 : Ta18) (t7 : Int) (t8 : Int) : Option (Ta121 ⊕ (((Int × Unit) × Unit) ⊕ ((Unit × Unit) ⊕ Empty))) :=
  bif (decide (t8 < t7)) then
    bif (decide (0 ≤ t8) && decide (t8 < (t0.len : Int))) then
      bif (f196 (L.get t0 t8.toNat) t1.1) then
        some (.inr (.inl ((t8, ()), ())))
      else
        some (.inl ((t0, (t1, (t7, ((wI (t8 + (1 : Int))), ())))), ()))
    else
      none
  else
    some (.inr (.inr (.inl ((), ()))))
noncomputable def s230_196_L0 (x : Ta121) : Option (Ta121 ⊕ (((Int × Unit) × Unit) ⊕ ((Unit × Unit) ⊕ Empty))) := q230_196_L0 x.1.1 x.1.2.1 x.1.2.2.1 x.1.2.2.2.1
noncomputable def a230_196 : Nat → Option LoopAnn := fun c => bif Nat.beq c 0 then some (.fix h230_196_L0 e230_196_L0 s230_196_L0) else none
noncomputable def g230_196 (x0 : Ta11) (x1 : Ta18) : Option ((Int × Unit) × Unit) :=
  (fixO s230_196_L0 ((x0, (x1, ((x0.len : Int), ((0 : Int), ())))), ())).bind fun d2 => match d2 with
  | .inl y1 =>
    some ((y1.1.1, ()), ())
  | .inr (.inl y1) =>
    some (((-1 : Int), ()), ())
  | .inr (.inr e) => nomatch e
noncomputable def c230_196 : Ctr := { ins := [.v Ty79, .clo 196 [Ty68]], out := [(.int .i64)], F := fun x => g230_196 x.1 x.2.1 }
noncomputable def l230_196 : List (Nat × Code) := loopsIn (Tryz.f230.body.getD .skip) 0
theorem w230_196_L0 (x : h230_196_L0.T) : runK Tryz.prog Γ t230_196 a230_196 (l230_196.getD 0 (0, .skip)).2 0 (pkSh h230_196_L0 x) (loopCls (sh := h230_196_L0) (es := e230_196_L0)) = (s230_196_L0 x : Option _) := by kernel_rfl
theorem v230_196 : LoopsOk Tryz.prog Γ t230_196 a230_196 (loopsIn (Tryz.f230.body.getD .skip) 0) := by
  have e : loopsIn (Tryz.f230.body.getD .skip) 0 = [(0, (l230_196.getD 0 (0, .skip)).2)] := by kernel_rfl
  rw [e]
  exact ⟨fun x d h => (w230_196_L0 x).trans h, trivial⟩
theorem r230_196 (x : InsT c230_196.ins) : fnK Tryz.prog Γ t230_196 a230_196 Tryz.f230 c230_196 x = g230_196 x.1 x.2.1 := by kernel_rfl
theorem k230_196 : TblOk Tryz.prog t230_196 := tblOk_cons o196 (tblOk_nil)
theorem o230_196 : Holds Tryz.prog 230 c230_196 := fn_holds (code := Tryz.f230.body.getD .skip) (by kernel_rfl) gamOk k230_196 Tryz.func230 (by kernel_rfl) (by kernel_rfl) (by kernel_rfl) (by kernel_rfl) v230_196 (fun x _ h => (r230_196 x).trans h)
/-! ### 195: slices.ContainsFunc[[]loop.example/g00076/impl.Window,loop.example/g00076/impl.Window] -/
noncomputable def t195_196 : Tbl := [(230, [196], c230_196)]
noncomputable def a195_196 : Nat → Option LoopAnn := fun _ => none
noncomputable def g195_196 (x0 : Ta11) (x1 : Ta18) : Option ((Bool × Unit) × Unit) :=
  (g230_196 x0 x1).bind fun y1 =>
    some (((decide (y1.1.1 ≥ (0 : Int))), ()), ())
noncomputable def c195_196 : Ctr := { ins := [.v Ty79, .clo 196 [Ty68]], out := [.bool], F := fun x => g195_196 x.1 x.2.1 }
theorem v195_196 : LoopsOk Tryz.prog Γ t195_196 a195_196 (loopsIn (Tryz.f195.body.getD .skip) 0) := loopsOk_nil (by kernel_rfl)
theorem r195_196 (x : InsT c195_196.ins) : fnK Tryz.prog Γ t195_196 a195_196 Tryz.f195 c195_196 x = g195_196 x.1 x.2.1 := by kernel_rfl
theorem k195_196 : TblOk Tryz.prog t195_196 := tblOk_cons o230_196 (tblOk_nil)
theorem o195_196 : Holds Tryz.prog 195 c195_196 := fn_holds (code := Tryz.f195.body.getD .skip) (by kernel_rfl) gamOk k195_196 Tryz.func195 (by kernel_rfl) (by kernel_rfl) (by kernel_rfl) (by kernel_rfl) v195_196 (fun x _ h => (r195_196 x).trans h)
/-! ### 239: loop.example/g00076/impl.windowAt$1 -/
noncomputable def t239 : Tbl := []
noncomputable def a239 : Nat → Option LoopAnn := fun _ => none
noncomputable def g239 (x0 : Ta5) (x1 : Int) : Option ((Bool × Unit) × Unit) :=
  bif (decide (x0.1 ≤ x1)) then
    some (((decide (x1 < (wI (x0.1 + x0.2.1)))), ()), ())
  else
    some ((false, ()), ())
noncomputable def f239 (x0 : Ta5) (x1 : Int) : Bool :=
  bif (decide (x0.1 ≤ x1)) then
    (decide (x1 < (wI (x0.1 + x0.2.1))))
  else
    false
theorem n239 (x0 : Ta5) (x1 : Int) : g239 x0 x1 = some ((f239 x0 x1, ()), ()) := by
  simp only [g239, f239, pull1]
noncomputable def c239 : Ctr := { ins := [.v Ty68, .rf (.int .i64)], out := [.bool], F := fun x => some ((f239 x.1 x.2.1, ()), ()) }
theorem v239 : LoopsOk Tryz.prog Γ t239 a239 (loopsIn (Tryz.f239.body.getD .skip) 0) := loopsOk_nil (by kernel_rfl)
theorem r239 (x : InsT c239.ins) : fnK Tryz.prog Γ t239 a239 Tryz.f239 c239 x = g239 x.1 x.2.1 := by kernel_rfl
theorem k239 : TblOk Tryz.prog t239 := tblOk_nil
theorem o239 : Holds Tryz.prog 239 c239 := fn_holds (code := Tryz.f239.body.getD .skip) (by kernel_rfl) gamOk k239 Tryz.func239 (by kernel_rfl) (by kernel_rfl) (by kernel_rfl) (by kernel_rfl) v239 (fun x _ h => (r239 x).trans ((n239 x.1 x.2.1).trans h))
/-! ### 230: slices.IndexFunc[[]loop.example/g00076/impl.Window,loop.example/g00076/impl.Window] -/
noncomputable def t230_239 : Tbl := [(239, [], c239)]
abbrev h230_239_L0 : Shape := { slots := [(0, .v Ty79), (1, .clo 239 [(.int .i64)]), (7, .v (.int .i64)), (8, .v (.int .i64))], boxes := [] }
abbrev e230_239_L0 : List (XT × Shape) := [(.ret, { slots := [(4, .v (.int .i64))], boxes := [] }), (.exit 0, { slots := [], boxes := [] })]
noncomputable def q230_239_L0 (t0 : Ta11) (t1 : (Int × Unit)) (t7 : Int) (t8 : Int) : Option (Ta97 ⊕ (((Int × Unit) × Unit) ⊕ ((Unit × Unit) ⊕ Empty))) :=
  bif (decide (t8 < t7)) then
    bif (decide (0 ≤ t8) && decide (t8 < (t0.len : Int))) then
      bif (f239 (L.get t0 t8.toNat) t1.1) then
        some (.inr (.inl ((t8, ()), ())))
      else
        some (.inl ((t0, (t1, (t7, ((wI (t8 + (1 : Int))), ())))), ()))
    else
      none
  else
    some (.inr (.inr (.inl ((), ()))))
noncomputable def s230_239_L0 (x : Ta97) : Option (Ta97 ⊕ (((Int × Unit) × Unit) ⊕ ((Unit × Unit) ⊕ Empty))) := q230_239_L0 x.1.1 x.1.2.1 x.1.2.2.1 x.1.2.2.2.1
noncomputable def a230_239 : Nat → Option LoopAnn := fun c => bif Nat.beq c 0 then some (.fix h230_239_L0 e230_239_L0 s230_239_L0) else none
noncomputable def g230_239 (x0 : Ta11) (x1 : (Int × Unit)) : Option ((Int × Unit) × Unit) :=
  (fixO s230_239_L0 ((x0, (x1, ((x0.len : Int), ((0 : Int), ())))), ())).bind fun d2 => match d2 with
  | .inl y1 =>
    some ((y1.1.1, ()), ())
  | .inr (.inl y1) =>
    some (((-1 : Int), ()), ())
  | .inr (.inr e) => nomatch e
noncomputable def c230_239 : Ctr := { ins := [.v Ty79, .clo 239 [(.int .i64)]], out := [(.int .i64)], F := fun x => g230_239 x.1 x.2.1 }
noncomputable def l230_239 : List (Nat × Code) := loopsIn (Tryz.f230.body.getD .skip) 0
theorem w230_239_L0 (x : h230_239_L0.T) : runK Tryz.prog Γ t230_239 a230_239 (l230_239.getD 0 (0, .skip)).2 0 (pkSh h230_239_L0 x) (loopCls (sh := h230_239_L0) (es := e230_239_L0)) = (s230_239_L0 x : Option _) := by kernel_rfl
theorem v230_239 : LoopsOk Tryz.prog Γ t230_239 a230_239 (loopsIn (Tryz.f230.body.getD .skip) 0) := by
  have e : loopsIn (Tryz.f230.body.getD .skip) 0 = [(0, (l230_239.getD 0 (0, .skip)).2)] := by kernel_rfl
  rw [e]
  exact ⟨fun x d h => (w230_239_L0 x).trans h, trivial⟩
theorem r230_239 (x : InsT c230_239.ins) : fnK Tryz.prog Γ t230_239 a230_239 Tryz.f230 c230_239 x = g230_239 x.1 x.2.1 := by kernel_rfl
theorem k230_239 : TblOk Tryz.prog t230_239 := tblOk_cons o239 (tblOk_nil)
theorem o230_239 : Holds Tryz.prog 230 c230_239 := fn_holds (code := Tryz.f230.body.getD .skip) (by kernel_rfl) gamOk k230_239 Tryz.func230 (by kernel_rfl) (by kernel_rfl) (by kernel_rfl) (by kernel_rfl) v230_239 (fun x _ h => (r230_239 x).trans h)
/-! ### 231: loop.example/g00076/impl.windowAt -/
noncomputable def t231 : Tbl := [(230, [239], c230_239)]
noncomputable def a231 : Nat → Option LoopAnn := fun _ => none
noncomputable def g231 (x0 : Ta11) (x1 : Int) : Option ((Int × Unit) × Unit) :=
  (g230_239 x0 (x1, ())).bind fun y1 =>
    some ((y1.1.1, ()), ())
noncomputable def c231 : Ctr := { ins := [.v Ty79, .v (.int .i64)], out := [(.int .i64)], F := fun x => g231 x.1 x.2.1 }
theorem v231 : LoopsOk Tryz.prog Γ t231 a231 (loopsIn (Tryz.f231.body.getD .skip) 0) := loopsOk_nil (by kernel_rfl)
theorem r231 (x : InsT c231.ins) : fnK Tryz.prog Γ t231 a231 Tryz.f231 c231 x = g231 x.1 x.2.1 := by kernel_rfl
theorem k231 : TblOk Tryz.prog t231 := tblOk_cons o230_239 (tblOk_nil)
theorem o231 : Holds Tryz.prog 231 c231 := fn_holds (code := Tryz.f231.body.getD .skip) (by kernel_rfl) gamOk k231 Tryz.func231 (by kernel_rfl) (by kernel_rfl) (by kernel_rfl) (by kernel_rfl) v231 (fun x _ h => (r231 x).trans h)
/-! ### 198: loop.example/g00076/impl.runsAt -/
noncomputable def t198 : Tbl := [(231, [], c231)]
noncomputable def a198 : Nat → Option LoopAnn := fun _ => none
noncomputable def g198 (x0 : Ta102) (x1 : Int) : Option ((Bool × Unit) × Unit) :=
  (g231 x0.2.2.2.1 x1).bind fun y1 =>
    bif (decide (y1.1.1 ≥ (0 : Int))) then
      bif (decide (0 ≤ y1.1.1) && decide (y1.1.1 < (x0.2.2.2.1.len : Int))) then
        some ((((andOf .i64 (L.get x0.2.2.2.1 y1.1.1.toNat).2.2.1 (4 : Int)) != (0 : Int)), ()), ())
      else
        none
    else
      some ((false, ()), ())
noncomputable def c198 : Ctr := { ins := [.v Ty153, .v (.int .i64)], out := [.bool], F := fun x => g198 x.1 x.2.1 }
theorem v198 : LoopsOk Tryz.prog Γ t198 a198 (loopsIn (Tryz.f198.body.getD .skip) 0) := loopsOk_nil (by kernel_rfl)
theorem r198 (x : InsT c198.ins) : fnK Tryz.prog Γ t198 a198 Tryz.f198 c198 x = g198 x.1 x.2.1 := by kernel_rfl
theorem k198 : TblOk Tryz.prog t198 := tblOk_cons o231 (tblOk_nil)
theorem o198 : Holds Tryz.prog 198 c198 := fn_holds (code := Tryz.f198.body.getD .skip) (by kernel_rfl) gamOk k198 Tryz.func198 (by kernel_rfl) (by kernel_rfl) (by kernel_rfl) (by kernel_rfl) v198 (fun x _ h => (r198 x).trans h)
/-! ### 135: loop.example/g00076/impl.areParts -/
noncomputable def t135 : Tbl := [(191, [], c191), (192, [], c192), (193, [], c193), (86, [], c86), (194, [], c194), (195, [196], c195_196), (198, [], c198)]
abbrev h135_L2 : Shape := { slots := [(1, .bx 1 0), (3, .ext Ty68 50003), (5, .bx 5 0), (9, .v Ty154), (10, .v (.int .i64)), (11, .v (.int .i64)), (42, .v Ty79), (43, .v (.int .i64)), (44, .v (.int .i64))], boxes := [(1, .typ Ty190), (5, .typ Ty153)] }
abbrev e135_L2 : List (XT × Shape) := [(.ret, { slots := [(2, .v .bool)], boxes := [] }), (.exit 2, { slots := [(1, .bx 1 0), (3, .ext Ty68 50003), (5, .bx 5 0), (9, .v Ty154), (10, .v (.int .i64)), (11, .v (.int .i64))], boxes := [(1, .typ Ty190), (5, .typ Ty153)] })]
noncomputable def q135_L2 (t3 : Ta11) (t9 : Ta107) (t10 : Int) (t11 : Int) (t42 : Ta11) (t43 : Int) (t44 : Int) (b1 : Ta174) (b5 : Ta102) : Option (Ta188 ⊕ (((Bool × Unit) × Unit) ⊕ (((Unit × (Ta11 × (Unit × Ta125))) × Ta182) ⊕ Empty))) :=
  bif (decide (t44 < t43)) then
    bif (decide (0 ≤ t44) && decide (t44 < (t42.len : Int))) then
      bif (!(f194 (L.get t42 t44.toNat))) then
        some (.inr (.inl ((false, ()), ())))
      else
        bif (decide ((wI ((L.get t42 t44.toNat).1 + (L.get t42 t44.toNat).2.1)) > b1.1)) then
          some (.inr (.inl ((false, ()), ())))
        else
          (g195_196 t3 ((L.get t42 t44.toNat), ())).bind fun y3 =>
            bif y3.1.1 then
              some (.inr (.inl ((false, ()), ())))
            else
              bif (decide (t3.len + (L.of (Ty.zero Ty68) [(L.get t42 t44.toNat)]).len ≤ most)) then
                some (.inl (((), ((L.app t3 (L.of (Ty.zero Ty68) [(L.get t42 t44.toNat)])), ((), (t9, (t10, (t11, (t42, (t43, ((wI (t44 + (1 : Int))), ()))))))))), (b1, (b5, ()))))
              else
                none
    else
      none
  else
    some (.inr (.inr (.inl (((), (t3, ((), (t9, (t10, (t11, ())))))), (b1, (b5, ()))))))
noncomputable def s135_L2 (x : Ta188) : Option (Ta188 ⊕ (((Bool × Unit) × Unit) ⊕ (((Unit × (Ta11 × (Unit × Ta125))) × Ta182) ⊕ Empty))) := q135_L2 x.1.2.1 x.1.2.2.2.1 x.1.2.2.2.2.1 x.1.2.2.2.2.2.1 x.1.2.2.2.2.2.2.1 x.1.2.2.2.2.2.2.2.1 x.1.2.2.2.2.2.2.2.2.1 x.2.1 x.2.2.1
abbrev h135_L0 : Shape := { slots := [(1, .bx 1 0), (3, .ext Ty68 50003), (9, .v Ty154), (10, .v (.int .i64)), (11, .v (.int .i64))], boxes := [(1, .typ Ty190)] }
abbrev e135_L0 : List (XT × Shape) := [(.ret, { slots := [(2, .v .bool)], boxes := [] }), (.exit 0, { slots := [], boxes := [] })]
noncomputable def q135_L0 (t3 : Ta11) (t9 : Ta107) (t10 : Int) (t11 : Int) (b1 : Ta174) : Option (Ta185 ⊕ (((Bool × Unit) × Unit) ⊕ ((Unit × Unit) ⊕ Empty))) :=
  bif (decide (t11 < t10)) then
    bif (decide (0 ≤ t11) && decide (t11 < (t9.len : Int))) then
      (g191 (L.get t9 t11.toNat).1).bind fun y1 =>
        bif (!y1.1.1) then
          some (.inr (.inl ((false, ()), ())))
        else
          (g192 b1 (L.get t9 t11.toNat).1).bind fun y2 =>
            bif (decide (y2.1.1 < t11)) then
              some (.inr (.inl ((false, ()), ())))
            else
              bif (!(f193 (L.get t9 t11.toNat).2.2.1)) then
                some (.inr (.inl ((false, ()), ())))
              else
                bif (!(f86 ((L.get t9 t11.toNat).2.2.2.1.len : Int) (1 : Int) (4 : Int))) then
                  some (.inr (.inl ((false, ()), ())))
                else
                  (fixO s135_L2 (((), (t3, ((), (t9, (t10, (t11, ((L.get t9 t11.toNat).2.2.2.1, (((L.get t9 t11.toNat).2.2.2.1.len : Int), ((0 : Int), ()))))))))), (b1, ((L.get t9 t11.toNat), ())))).bind fun d6 => match d6 with
                  | .inl y4 =>
                    some (.inr (.inl y4))
                  | .inr (.inl y4) =>
                    bif ((Int.tmod y4.2.2.1.2.1 (4 : Int)) != (0 : Int)) then
                      some (.inr (.inl ((false, ()), ())))
                    else
                      (g198 y4.2.2.1 y4.2.2.1.2.1).bind fun y5 =>
                        bif (!y5.1.1) then
                          some (.inr (.inl ((false, ()), ())))
                        else
                          some (.inl (((), (y4.1.2.1, (y4.1.2.2.2.1, (y4.1.2.2.2.2.1, ((wI (y4.1.2.2.2.2.2.1 + (1 : Int))), ()))))), (y4.2.1, ())))
                  | .inr (.inr e) => nomatch e
    else
      none
  else
    some (.inr (.inr (.inl ((), ()))))
noncomputable def s135_L0 (x : Ta185) : Option (Ta185 ⊕ (((Bool × Unit) × Unit) ⊕ ((Unit × Unit) ⊕ Empty))) := q135_L0 x.1.2.1 x.1.2.2.1 x.1.2.2.2.1 x.1.2.2.2.2.1 x.2.1
noncomputable def a135 : Nat → Option LoopAnn := fun c => bif Nat.beq c 2 then some (.fix h135_L2 e135_L2 s135_L2) else bif Nat.beq c 0 then some (.fix h135_L0 e135_L0 s135_L0) else none
noncomputable def g135 (x0 : Ta174) : Option ((Bool × Unit) × Unit) :=
  (fixO s135_L0 (((), ((nilL Ty68), (x0.2.2.2.2.2.2.2.1, ((x0.2.2.2.2.2.2.2.1.len : Int), ((0 : Int), ()))))), (x0, ()))).bind fun d8 => match d8 with
  | .inl y7 =>
    some ((y7.1.1, ()), ())
  | .inr (.inl y7) =>
    some ((true, ()), ())
  | .inr (.inr e) => nomatch e
noncomputable def c135 : Ctr := { ins := [.v Ty190], out := [.bool], F := fun x => g135 x.1 }
noncomputable def l135 : List (Nat × Code) := loopsIn (Tryz.f135.body.getD .skip) 0
theorem w135_L2 (x : h135_L2.T) : runK Tryz.prog Γ t135 a135 (l135.getD 1 (0, .skip)).2 2 (pkSh h135_L2 x) (loopCls (sh := h135_L2) (es := e135_L2)) = (s135_L2 x : Option _) := by kernel_rfl
theorem w135_L0 (x : h135_L0.T) : runK Tryz.prog Γ t135 a135 (l135.getD 0 (0, .skip)).2 0 (pkSh h135_L0 x) (loopCls (sh := h135_L0) (es := e135_L0)) = (s135_L0 x : Option _) := by kernel_rfl
theorem v135 : LoopsOk Tryz.prog Γ t135 a135 (loopsIn (Tryz.f135.body.getD .skip) 0) := by
  have e : loopsIn (Tryz.f135.body.getD .skip) 0 = [(0, (l135.getD 0 (0, .skip)).2), (2, (l135.getD 1 (0, .skip)).2)] := by kernel_rfl
  rw [e]
  exact ⟨fun x d h => (w135_L0 x).trans h, fun x d h => (w135_L2 x).trans h, trivial⟩
theorem r135 (x : InsT c135.ins) : fnK Tryz.prog Γ t135 a135 Tryz.f135 c135 x = g135 x.1 := by kernel_rfl
theorem k135 : TblOk Tryz.prog t135 := tblOk_cons o191 (tblOk_cons o192 (tblOk_cons o193 (tblOk_cons o86 (tblOk_cons o194 (tblOk_cons o195_196 (tblOk_cons o198 (tblOk_nil)))))))
theorem o135 : Holds Tryz.prog 135 c135 := fn_holds (code := Tryz.f135.body.getD .skip) (by kernel_rfl) gamOk k135 Tryz.func135 (by kernel_rfl) (by kernel_rfl) (by kernel_rfl) (by kernel_rfl) v135 (fun x _ h => (r135 x).trans h)
/-! ### 137: loop.example/g00076/impl.isSound$1 -/
noncomputable def t137 : Tbl := [(86, [], c86)]
noncomputable def a137 : Nat → Option LoopAnn := fun _ => none
noncomputable def g137 (x0 : Int) (x1 : Int) : Option ((Bool × Unit) × Unit) :=
  some (((!(f86 x0 (0 : Int) (wI (x1 - (1 : Int))))), ()), ())
noncomputable def f137 (x0 : Int) (x1 : Int) : Bool :=
  (!(f86 x0 (0 : Int) (wI (x1 - (1 : Int)))))
theorem n137 (x0 : Int) (x1 : Int) : g137 x0 x1 = some ((f137 x0 x1, ()), ()) := by
  simp only [g137, f137, pull1]
noncomputable def c137 : Ctr := { ins := [.v (.int .i64), .rf (.int .i64)], out := [.bool], F := fun x => some ((f137 x.1 x.2.1, ()), ()) }
theorem v137 : LoopsOk Tryz.prog Γ t137 a137 (loopsIn (Tryz.f137.body.getD .skip) 0) := loopsOk_nil (by kernel_rfl)
theorem r137 (x : InsT c137.ins) : fnK Tryz.prog Γ t137 a137 Tryz.f137 c137 x = g137 x.1 x.2.1 := by kernel_rfl
theorem k137 : TblOk Tryz.prog t137 := tblOk_cons o86 (tblOk_nil)
theorem o137 : Holds Tryz.prog 137 c137 := fn_holds (code := Tryz.f137.body.getD .skip) (by kernel_rfl) gamOk k137 Tryz.func137 (by kernel_rfl) (by kernel_rfl) (by kernel_rfl) (by kernel_rfl) v137 (fun x _ h => (r137 x).trans ((n137 x.1 x.2.1).trans h))
/-! ### 199: slices.IndexFunc[[]int,int] -/
noncomputable def t199_137 : Tbl := [(137, [], c137)]
abbrev h199_137_L0 : Shape := { slots := [(0, .v (.sl (.int .i64))), (1, .clo 137 [(.int .i64)]), (7, .v (.int .i64)), (8, .v (.int .i64))], boxes := [] }
abbrev e199_137_L0 : List (XT × Shape) := [(.ret, { slots := [(4, .v (.int .i64))], boxes := [] }), (.exit 0, { slots := [], boxes := [] })]
noncomputable def q199_137_L0 (t0 : (L Int)) (t1 : (Int × Unit)) (t7 : Int) (t8 : Int) : Option (Ta59 ⊕ (((Int × Unit) × Unit) ⊕ ((Unit × Unit) ⊕ Empty))) :=
  bif (decide (t8 < t7)) then
    bif (decide (0 ≤ t8) && decide (t8 < (t0.len : Int))) then
      bif (f137 (L.get t0 t8.toNat) t1.1) then
        some (.inr (.inl ((t8, ()), ())))
      else
        some (.inl ((t0, (t1, (t7, ((wI (t8 + (1 : Int))), ())))), ()))
    else
      none
  else
    some (.inr (.inr (.inl ((), ()))))
noncomputable def s199_137_L0 (x : Ta59) : Option (Ta59 ⊕ (((Int × Unit) × Unit) ⊕ ((Unit × Unit) ⊕ Empty))) := q199_137_L0 x.1.1 x.1.2.1 x.1.2.2.1 x.1.2.2.2.1
noncomputable def a199_137 : Nat → Option LoopAnn := fun c => bif Nat.beq c 0 then some (.fix h199_137_L0 e199_137_L0 s199_137_L0) else none
noncomputable def g199_137 (x0 : (L Int)) (x1 : (Int × Unit)) : Option ((Int × Unit) × Unit) :=
  (fixO s199_137_L0 ((x0, (x1, ((x0.len : Int), ((0 : Int), ())))), ())).bind fun d2 => match d2 with
  | .inl y1 =>
    some ((y1.1.1, ()), ())
  | .inr (.inl y1) =>
    some (((-1 : Int), ()), ())
  | .inr (.inr e) => nomatch e
noncomputable def c199_137 : Ctr := { ins := [.v (.sl (.int .i64)), .clo 137 [(.int .i64)]], out := [(.int .i64)], F := fun x => g199_137 x.1 x.2.1 }
noncomputable def l199_137 : List (Nat × Code) := loopsIn (Tryz.f199.body.getD .skip) 0
theorem w199_137_L0 (x : h199_137_L0.T) : runK Tryz.prog Γ t199_137 a199_137 (l199_137.getD 0 (0, .skip)).2 0 (pkSh h199_137_L0 x) (loopCls (sh := h199_137_L0) (es := e199_137_L0)) = (s199_137_L0 x : Option _) := by kernel_rfl
theorem v199_137 : LoopsOk Tryz.prog Γ t199_137 a199_137 (loopsIn (Tryz.f199.body.getD .skip) 0) := by
  have e : loopsIn (Tryz.f199.body.getD .skip) 0 = [(0, (l199_137.getD 0 (0, .skip)).2)] := by kernel_rfl
  rw [e]
  exact ⟨fun x d h => (w199_137_L0 x).trans h, trivial⟩
theorem r199_137 (x : InsT c199_137.ins) : fnK Tryz.prog Γ t199_137 a199_137 Tryz.f199 c199_137 x = g199_137 x.1 x.2.1 := by kernel_rfl
theorem k199_137 : TblOk Tryz.prog t199_137 := tblOk_cons o137 (tblOk_nil)
theorem o199_137 : Holds Tryz.prog 199 c199_137 := fn_holds (code := Tryz.f199.body.getD .skip) (by kernel_rfl) gamOk k199_137 Tryz.func199 (by kernel_rfl) (by kernel_rfl) (by kernel_rfl) (by kernel_rfl) v199_137 (fun x _ h => (r199_137 x).trans h)
/-! ### 136: slices.ContainsFunc[[]int,int] -/
noncomputable def t136_137 : Tbl := [(199, [137], c199_137)]
noncomputable def a136_137 : Nat → Option LoopAnn := fun _ => none
noncomputable def g136_137 (x0 : (L Int)) (x1 : (Int × Unit)) : Option ((Bool × Unit) × Unit) :=
  (g199_137 x0 x1).bind fun y1 =>
    some (((decide (y1.1.1 ≥ (0 : Int))), ()), ())
noncomputable def c136_137 : Ctr := { ins := [.v (.sl (.int .i64)), .clo 137 [(.int .i64)]], out := [.bool], F := fun x => g136_137 x.1 x.2.1 }
theorem v136_137 : LoopsOk Tryz.prog Γ t136_137 a136_137 (loopsIn (Tryz.f136.body.getD .skip) 0) := loopsOk_nil (by kernel_rfl)
theorem r136_137 (x : InsT c136_137.ins) : fnK Tryz.prog Γ t136_137 a136_137 Tryz.f136 c136_137 x = g136_137 x.1 x.2.1 := by kernel_rfl
theorem k136_137 : TblOk Tryz.prog t136_137 := tblOk_cons o199_137 (tblOk_nil)
theorem o136_137 : Holds Tryz.prog 136 c136_137 := fn_holds (code := Tryz.f136.body.getD .skip) (by kernel_rfl) gamOk k136_137 Tryz.func136 (by kernel_rfl) (by kernel_rfl) (by kernel_rfl) (by kernel_rfl) v136_137 (fun x _ h => (r136_137 x).trans h)
/-! ### 140: loop.example/g00076/impl.isChan -/
noncomputable def t140 : Tbl := [(86, [], c86)]
noncomputable def a140 : Nat → Option LoopAnn := fun _ => none
noncomputable def g140 (x0 : Ta16) : Option ((Bool × Unit) × Unit) :=
  bif (!(f86 x0.2.1 (0 : Int) (5 : Int))) then
    some ((false, ()), ())
  else
    bif (!(f86 x0.2.2.1 (0 : Int) (5 : Int))) then
      some ((false, ()), ())
    else
      bif (x0.2.1 == x0.2.2.1) then
        some ((false, ()), ())
      else
        bif (x0.1 == (0 : Int)) then
          bif (x0.2.2.2.1 == (0 : Int)) then
            some ((true, ()), ())
          else
            bif (x0.1 == (1 : Int)) then
              some (((f86 x0.2.2.2.1 (1 : Int) (8 : Int)), ()), ())
            else
              some ((false, ()), ())
        else
          bif (x0.1 == (1 : Int)) then
            some (((f86 x0.2.2.2.1 (1 : Int) (8 : Int)), ()), ())
          else
            some ((false, ()), ())
noncomputable def f140 (x0 : Ta16) : Bool :=
  bif (!(f86 x0.2.1 (0 : Int) (5 : Int))) then
    false
  else
    bif (!(f86 x0.2.2.1 (0 : Int) (5 : Int))) then
      false
    else
      bif (x0.2.1 == x0.2.2.1) then
        false
      else
        bif (x0.1 == (0 : Int)) then
          bif (x0.2.2.2.1 == (0 : Int)) then
            true
          else
            bif (x0.1 == (1 : Int)) then
              (f86 x0.2.2.2.1 (1 : Int) (8 : Int))
            else
              false
        else
          bif (x0.1 == (1 : Int)) then
            (f86 x0.2.2.2.1 (1 : Int) (8 : Int))
          else
            false
theorem n140 (x0 : Ta16) : g140 x0 = some ((f140 x0, ()), ()) := by
  simp only [g140, f140, pull1]
noncomputable def c140 : Ctr := { ins := [.v Ty99], out := [.bool], F := fun x => some ((f140 x.1, ()), ()) }
theorem v140 : LoopsOk Tryz.prog Γ t140 a140 (loopsIn (Tryz.f140.body.getD .skip) 0) := loopsOk_nil (by kernel_rfl)
theorem r140 (x : InsT c140.ins) : fnK Tryz.prog Γ t140 a140 Tryz.f140 c140 x = g140 x.1 := by kernel_rfl
theorem k140 : TblOk Tryz.prog t140 := tblOk_cons o86 (tblOk_nil)
theorem o140 : Holds Tryz.prog 140 c140 := fn_holds (code := Tryz.f140.body.getD .skip) (by kernel_rfl) gamOk k140 Tryz.func140 (by kernel_rfl) (by kernel_rfl) (by kernel_rfl) (by kernel_rfl) v140 (fun x _ h => (r140 x).trans ((n140 x.1).trans h))
/-! ### 139: loop.example/g00076/impl.isSound$2 -/
noncomputable def t139 : Tbl := [(140, [], c140)]
noncomputable def a139 : Nat → Option LoopAnn := fun _ => none
noncomputable def g139 (x0 : Ta16) (x1 : Int) : Option ((Bool × Unit) × Unit) :=
  bif (!(f140 x0)) then
    some ((true, ()), ())
  else
    bif (decide (x0.2.1 ≥ x1)) then
      some ((true, ()), ())
    else
      some (((decide (x0.2.2.1 ≥ x1)), ()), ())
noncomputable def f139 (x0 : Ta16) (x1 : Int) : Bool :=
  bif (!(f140 x0)) then
    true
  else
    bif (decide (x0.2.1 ≥ x1)) then
      true
    else
      (decide (x0.2.2.1 ≥ x1))
theorem n139 (x0 : Ta16) (x1 : Int) : g139 x0 x1 = some ((f139 x0 x1, ()), ()) := by
  simp only [g139, f139, pull1]
noncomputable def c139 : Ctr := { ins := [.v Ty99, .rf (.int .i64)], out := [.bool], F := fun x => some ((f139 x.1 x.2.1, ()), ()) }
theorem v139 : LoopsOk Tryz.prog Γ t139 a139 (loopsIn (Tryz.f139.body.getD .skip) 0) := loopsOk_nil (by kernel_rfl)
theorem r139 (x : InsT c139.ins) : fnK Tryz.prog Γ t139 a139 Tryz.f139 c139 x = g139 x.1 x.2.1 := by kernel_rfl
theorem k139 : TblOk Tryz.prog t139 := tblOk_cons o140 (tblOk_nil)
theorem o139 : Holds Tryz.prog 139 c139 := fn_holds (code := Tryz.f139.body.getD .skip) (by kernel_rfl) gamOk k139 Tryz.func139 (by kernel_rfl) (by kernel_rfl) (by kernel_rfl) (by kernel_rfl) v139 (fun x _ h => (r139 x).trans ((n139 x.1 x.2.1).trans h))
/-! ### 200: slices.IndexFunc[[]loop.example/g00076/impl.ChanRow,loop.example/g00076/impl.ChanRow] -/
noncomputable def t200_139 : Tbl := [(139, [], c139)]
abbrev h200_139_L0 : Shape := { slots := [(0, .v Ty105), (1, .clo 139 [(.int .i64)]), (7, .v (.int .i64)), (8, .v (.int .i64))], boxes := [] }
abbrev e200_139_L0 : List (XT × Shape) := [(.ret, { slots := [(4, .v (.int .i64))], boxes := [] }), (.exit 0, { slots := [], boxes := [] })]
noncomputable def q200_139_L0 (t0 : Ta26) (t1 : (Int × Unit)) (t7 : Int) (t8 : Int) : Option (Ta106 ⊕ (((Int × Unit) × Unit) ⊕ ((Unit × Unit) ⊕ Empty))) :=
  bif (decide (t8 < t7)) then
    bif (decide (0 ≤ t8) && decide (t8 < (t0.len : Int))) then
      bif (f139 (L.get t0 t8.toNat) t1.1) then
        some (.inr (.inl ((t8, ()), ())))
      else
        some (.inl ((t0, (t1, (t7, ((wI (t8 + (1 : Int))), ())))), ()))
    else
      none
  else
    some (.inr (.inr (.inl ((), ()))))
noncomputable def s200_139_L0 (x : Ta106) : Option (Ta106 ⊕ (((Int × Unit) × Unit) ⊕ ((Unit × Unit) ⊕ Empty))) := q200_139_L0 x.1.1 x.1.2.1 x.1.2.2.1 x.1.2.2.2.1
noncomputable def a200_139 : Nat → Option LoopAnn := fun c => bif Nat.beq c 0 then some (.fix h200_139_L0 e200_139_L0 s200_139_L0) else none
noncomputable def g200_139 (x0 : Ta26) (x1 : (Int × Unit)) : Option ((Int × Unit) × Unit) :=
  (fixO s200_139_L0 ((x0, (x1, ((x0.len : Int), ((0 : Int), ())))), ())).bind fun d2 => match d2 with
  | .inl y1 =>
    some ((y1.1.1, ()), ())
  | .inr (.inl y1) =>
    some (((-1 : Int), ()), ())
  | .inr (.inr e) => nomatch e
noncomputable def c200_139 : Ctr := { ins := [.v Ty105, .clo 139 [(.int .i64)]], out := [(.int .i64)], F := fun x => g200_139 x.1 x.2.1 }
noncomputable def l200_139 : List (Nat × Code) := loopsIn (Tryz.f200.body.getD .skip) 0
theorem w200_139_L0 (x : h200_139_L0.T) : runK Tryz.prog Γ t200_139 a200_139 (l200_139.getD 0 (0, .skip)).2 0 (pkSh h200_139_L0 x) (loopCls (sh := h200_139_L0) (es := e200_139_L0)) = (s200_139_L0 x : Option _) := by kernel_rfl
theorem v200_139 : LoopsOk Tryz.prog Γ t200_139 a200_139 (loopsIn (Tryz.f200.body.getD .skip) 0) := by
  have e : loopsIn (Tryz.f200.body.getD .skip) 0 = [(0, (l200_139.getD 0 (0, .skip)).2)] := by kernel_rfl
  rw [e]
  exact ⟨fun x d h => (w200_139_L0 x).trans h, trivial⟩
theorem r200_139 (x : InsT c200_139.ins) : fnK Tryz.prog Γ t200_139 a200_139 Tryz.f200 c200_139 x = g200_139 x.1 x.2.1 := by kernel_rfl
theorem k200_139 : TblOk Tryz.prog t200_139 := tblOk_cons o139 (tblOk_nil)
theorem o200_139 : Holds Tryz.prog 200 c200_139 := fn_holds (code := Tryz.f200.body.getD .skip) (by kernel_rfl) gamOk k200_139 Tryz.func200 (by kernel_rfl) (by kernel_rfl) (by kernel_rfl) (by kernel_rfl) v200_139 (fun x _ h => (r200_139 x).trans h)
/-! ### 138: slices.ContainsFunc[[]loop.example/g00076/impl.ChanRow,loop.example/g00076/impl.ChanRow] -/
noncomputable def t138_139 : Tbl := [(200, [139], c200_139)]
noncomputable def a138_139 : Nat → Option LoopAnn := fun _ => none
noncomputable def g138_139 (x0 : Ta26) (x1 : (Int × Unit)) : Option ((Bool × Unit) × Unit) :=
  (g200_139 x0 x1).bind fun y1 =>
    some (((decide (y1.1.1 ≥ (0 : Int))), ()), ())
noncomputable def c138_139 : Ctr := { ins := [.v Ty105, .clo 139 [(.int .i64)]], out := [.bool], F := fun x => g138_139 x.1 x.2.1 }
theorem v138_139 : LoopsOk Tryz.prog Γ t138_139 a138_139 (loopsIn (Tryz.f138.body.getD .skip) 0) := loopsOk_nil (by kernel_rfl)
theorem r138_139 (x : InsT c138_139.ins) : fnK Tryz.prog Γ t138_139 a138_139 Tryz.f138 c138_139 x = g138_139 x.1 x.2.1 := by kernel_rfl
theorem k138_139 : TblOk Tryz.prog t138_139 := tblOk_cons o200_139 (tblOk_nil)
theorem o138_139 : Holds Tryz.prog 138 c138_139 := fn_holds (code := Tryz.f138.body.getD .skip) (by kernel_rfl) gamOk k138_139 Tryz.func138 (by kernel_rfl) (by kernel_rfl) (by kernel_rfl) (by kernel_rfl) v138_139 (fun x _ h => (r138_139 x).trans h)
/-! ### 167: loop.example/g00076/impl.depthOf -/
noncomputable def t167 : Tbl := []
noncomputable def a167 : Nat → Option LoopAnn := fun _ => none
noncomputable def g167 (x0 : Ta16) : Option ((Int × Unit) × Unit) :=
  some (((if x0.2.2.2.1 > (1 : Int) then x0.2.2.2.1 else (1 : Int)), ()), ())
noncomputable def f167 (x0 : Ta16) : Int :=
  (if x0.2.2.2.1 > (1 : Int) then x0.2.2.2.1 else (1 : Int))
theorem n167 (x0 : Ta16) : g167 x0 = some ((f167 x0, ()), ()) := by
  simp only [g167, f167, pull1]
noncomputable def c167 : Ctr := { ins := [.v Ty99], out := [(.int .i64)], F := fun x => some ((f167 x.1, ()), ()) }
theorem v167 : LoopsOk Tryz.prog Γ t167 a167 (loopsIn (Tryz.f167.body.getD .skip) 0) := loopsOk_nil (by kernel_rfl)
theorem r167 (x : InsT c167.ins) : fnK Tryz.prog Γ t167 a167 Tryz.f167 c167 x = g167 x.1 := by kernel_rfl
theorem k167 : TblOk Tryz.prog t167 := tblOk_nil
theorem o167 : Holds Tryz.prog 167 c167 := fn_holds (code := Tryz.f167.body.getD .skip) (by kernel_rfl) gamOk k167 Tryz.func167 (by kernel_rfl) (by kernel_rfl) (by kernel_rfl) (by kernel_rfl) v167 (fun x _ h => (r167 x).trans ((n167 x.1).trans h))
/-! ### 141: loop.example/g00076/impl.worstPad -/
noncomputable def t141 : Tbl := [(167, [], c167)]
abbrev h141_L0 : Shape := { slots := [(3, .bx 3 0), (7, .v (.int .i64)), (22, .v Ty105), (23, .v (.int .i64)), (24, .v (.int .i64))], boxes := [(3, .typ Ty139)] }
abbrev e141_L0 : List (XT × Shape) := [(.exit 0, { slots := [(7, .v (.int .i64))], boxes := [] })]
noncomputable def q141_L0 (t7 : Int) (t22 : Ta26) (t23 : Int) (t24 : Int) (b3 : Ta62) : Option (Ta148 ⊕ (((Int × Unit) × Unit) ⊕ Empty)) :=
  bif (decide (t24 < t23)) then
    bif (decide (0 ≤ t24) && decide (t24 < (t22.len : Int))) then
      some (.inl (((), ((wI (t7 + (wI (b3.1 * (f167 (L.get t22 t24.toNat)))))), (t22, (t23, ((wI (t24 + (1 : Int))), ()))))), (b3, ())))
    else
      none
  else
    some (.inr (.inl ((t7, ()), ())))
noncomputable def s141_L0 (x : Ta148) : Option (Ta148 ⊕ (((Int × Unit) × Unit) ⊕ Empty)) := q141_L0 x.1.2.1 x.1.2.2.1 x.1.2.2.2.1 x.1.2.2.2.2.1 x.2.1
noncomputable def a141 : Nat → Option LoopAnn := fun c => bif Nat.beq c 0 then some (.fix h141_L0 e141_L0 s141_L0) else none
noncomputable def g141 (x0 : Ta62) (x1 : Ta5) (x2 : Ta26) : Option ((Int × Unit) × Unit) :=
  (fixO s141_L0 (((), ((wI ((wI ((16 : Int) * x0.1)) + (wI ((wI (x1.1 * x1.2.1)) * x0.2.2.2.2.2.2.1)))), (x2, ((x2.len : Int), ((0 : Int), ()))))), (x0, ()))).bind fun d2 => match d2 with
  | .inl y1 =>
    some ((y1.1.1, ()), ())
  | .inr e => nomatch e
noncomputable def c141 : Ctr := { ins := [.v Ty139, .v Ty68, .v Ty105], out := [(.int .i64)], F := fun x => g141 x.1 x.2.1 x.2.2.1 }
noncomputable def l141 : List (Nat × Code) := loopsIn (Tryz.f141.body.getD .skip) 0
theorem w141_L0 (x : h141_L0.T) : runK Tryz.prog Γ t141 a141 (l141.getD 0 (0, .skip)).2 0 (pkSh h141_L0 x) (loopCls (sh := h141_L0) (es := e141_L0)) = (s141_L0 x : Option _) := by kernel_rfl
theorem v141 : LoopsOk Tryz.prog Γ t141 a141 (loopsIn (Tryz.f141.body.getD .skip) 0) := by
  have e : loopsIn (Tryz.f141.body.getD .skip) 0 = [(0, (l141.getD 0 (0, .skip)).2)] := by kernel_rfl
  rw [e]
  exact ⟨fun x d h => (w141_L0 x).trans h, trivial⟩
theorem r141 (x : InsT c141.ins) : fnK Tryz.prog Γ t141 a141 Tryz.f141 c141 x = g141 x.1 x.2.1 x.2.2.1 := by kernel_rfl
theorem k141 : TblOk Tryz.prog t141 := tblOk_cons o167 (tblOk_nil)
theorem o141 : Holds Tryz.prog 141 c141 := fn_holds (code := Tryz.f141.body.getD .skip) (by kernel_rfl) gamOk k141 Tryz.func141 (by kernel_rfl) (by kernel_rfl) (by kernel_rfl) (by kernel_rfl) v141 (fun x _ h => (r141 x).trans h)
/-! ### 201: loop.example/g00076/impl.isSlotAt -/
noncomputable def t201 : Tbl := []
noncomputable def a201 : Nat → Option LoopAnn := fun _ => none
noncomputable def g201 (x0 : Ta174) (x1 : Ta5) (x2 : Int) : Option ((Bool × Unit) × Unit) :=
  bif (decide (x1.2.2.1 > (wI (x0.2.2.2.2.1 + x0.2.2.2.2.2.1)))) then
    bif (decide (x1.2.2.1 ≤ x0.2.2.2.2.2.2.1)) then
      bif (decide (x1.2.1 ≥ x2)) then
        some (((decide (x1.2.1 ≤ (wI (x0.2.2.2.2.2.2.1 - x1.2.2.1)))), ()), ())
      else
        some ((false, ()), ())
    else
      some ((false, ()), ())
  else
    some ((false, ()), ())
noncomputable def f201 (x0 : Ta174) (x1 : Ta5) (x2 : Int) : Bool :=
  bif (decide (x1.2.2.1 > (wI (x0.2.2.2.2.1 + x0.2.2.2.2.2.1)))) then
    bif (decide (x1.2.2.1 ≤ x0.2.2.2.2.2.2.1)) then
      bif (decide (x1.2.1 ≥ x2)) then
        (decide (x1.2.1 ≤ (wI (x0.2.2.2.2.2.2.1 - x1.2.2.1))))
      else
        false
    else
      false
  else
    false
theorem n201 (x0 : Ta174) (x1 : Ta5) (x2 : Int) : g201 x0 x1 x2 = some ((f201 x0 x1 x2, ()), ()) := by
  simp only [g201, f201, pull1]
noncomputable def c201 : Ctr := { ins := [.v Ty190, .v Ty68, .v (.int .i64)], out := [.bool], F := fun x => some ((f201 x.1 x.2.1 x.2.2.1, ()), ()) }
theorem v201 : LoopsOk Tryz.prog Γ t201 a201 (loopsIn (Tryz.f201.body.getD .skip) 0) := loopsOk_nil (by kernel_rfl)
theorem r201 (x : InsT c201.ins) : fnK Tryz.prog Γ t201 a201 Tryz.f201 c201 x = g201 x.1 x.2.1 x.2.2.1 := by kernel_rfl
theorem k201 : TblOk Tryz.prog t201 := tblOk_nil
theorem o201 : Holds Tryz.prog 201 c201 := fn_holds (code := Tryz.f201.body.getD .skip) (by kernel_rfl) gamOk k201 Tryz.func201 (by kernel_rfl) (by kernel_rfl) (by kernel_rfl) (by kernel_rfl) v201 (fun x _ h => (r201 x).trans ((n201 x.1 x.2.1 x.2.2.1).trans h))
/-! ### 142: loop.example/g00076/impl.areSlots -/
noncomputable def t142 : Tbl := [(86, [], c86), (201, [], c201)]
abbrev h142_L0 : Shape := { slots := [(1, .bx 1 0), (3, .v (.int .i64)), (7, .v Ty79), (8, .v (.int .i64)), (9, .v (.int .i64))], boxes := [(1, .typ Ty190)] }
abbrev e142_L0 : List (XT × Shape) := [(.ret, { slots := [(2, .v .bool)], boxes := [] }), (.exit 0, { slots := [(1, .bx 1 0)], boxes := [(1, .typ Ty190)] })]
noncomputable def q142_L0 (t3 : Int) (t7 : Ta11) (t8 : Int) (t9 : Int) (b1 : Ta174) : Option (Ta181 ⊕ (((Bool × Unit) × Unit) ⊕ (Ta176 ⊕ Empty))) :=
  bif (decide (t9 < t8)) then
    bif (decide (0 ≤ t9) && decide (t9 < (t7.len : Int))) then
      bif (!(f86 (L.get t7 t9.toNat).1 (0 : Int) (wI ((b1.2.2.2.2.2.2.2.1.len : Int) - (1 : Int))))) then
        some (.inr (.inl ((false, ()), ())))
      else
        bif (!(f201 b1 (L.get t7 t9.toNat) t3)) then
          some (.inr (.inl ((false, ()), ())))
        else
          some (.inl (((), ((wI ((L.get t7 t9.toNat).2.1 + (L.get t7 t9.toNat).2.2.1)), (t7, (t8, ((wI (t9 + (1 : Int))), ()))))), (b1, ())))
    else
      none
  else
    some (.inr (.inr (.inl (((), ()), (b1, ())))))
noncomputable def s142_L0 (x : Ta181) : Option (Ta181 ⊕ (((Bool × Unit) × Unit) ⊕ (Ta176 ⊕ Empty))) := q142_L0 x.1.2.1 x.1.2.2.1 x.1.2.2.2.1 x.1.2.2.2.2.1 x.2.1
noncomputable def a142 : Nat → Option LoopAnn := fun c => bif Nat.beq c 0 then some (.fix h142_L0 e142_L0 s142_L0) else none
noncomputable def g142 (x0 : Ta174) : Option ((Bool × Unit) × Unit) :=
  (fixO s142_L0 (((), ((0 : Int), (x0.2.2.2.2.2.2.2.2.2.2.1, ((x0.2.2.2.2.2.2.2.2.2.2.1.len : Int), ((0 : Int), ()))))), (x0, ()))).bind fun d2 => match d2 with
  | .inl y1 =>
    some ((y1.1.1, ()), ())
  | .inr (.inl y1) =>
    some (((f86 (y1.2.1.2.2.2.2.2.2.2.2.2.2.1.len : Int) (1 : Int) (16 : Int)), ()), ())
  | .inr (.inr e) => nomatch e
noncomputable def c142 : Ctr := { ins := [.v Ty190], out := [.bool], F := fun x => g142 x.1 }
noncomputable def l142 : List (Nat × Code) := loopsIn (Tryz.f142.body.getD .skip) 0
theorem w142_L0 (x : h142_L0.T) : runK Tryz.prog Γ t142 a142 (l142.getD 0 (0, .skip)).2 0 (pkSh h142_L0 x) (loopCls (sh := h142_L0) (es := e142_L0)) = (s142_L0 x : Option _) := by kernel_rfl
theorem v142 : LoopsOk Tryz.prog Γ t142 a142 (loopsIn (Tryz.f142.body.getD .skip) 0) := by
  have e : loopsIn (Tryz.f142.body.getD .skip) 0 = [(0, (l142.getD 0 (0, .skip)).2)] := by kernel_rfl
  rw [e]
  exact ⟨fun x d h => (w142_L0 x).trans h, trivial⟩
theorem r142 (x : InsT c142.ins) : fnK Tryz.prog Γ t142 a142 Tryz.f142 c142 x = g142 x.1 := by kernel_rfl
theorem k142 : TblOk Tryz.prog t142 := tblOk_cons o86 (tblOk_cons o201 (tblOk_nil))
theorem o142 : Holds Tryz.prog 142 c142 := fn_holds (code := Tryz.f142.body.getD .skip) (by kernel_rfl) gamOk k142 Tryz.func142 (by kernel_rfl) (by kernel_rfl) (by kernel_rfl) (by kernel_rfl) v142 (fun x _ h => (r142 x).trans h)
/-! ### 64: loop.example/g00076/impl.isSound -/
noncomputable def t64 : Tbl := [(131, [], c131), (132, [], c132), (86, [], c86), (133, [], c133), (134, [], c134), (87, [], c87), (135, [], c135), (136, [137], c136_137), (138, [139], c138_139), (141, [], c141), (142, [], c142)]
noncomputable def a64 : Nat → Option LoopAnn := fun _ => none
noncomputable def g64 (x0 : Ta174) : Option ((Bool × Unit) × Unit) :=
  bif (!(f131 x0.1)) then
    some ((false, ()), ())
  else
    bif (!(f132 x0.2.1)) then
      some ((false, ()), ())
    else
      bif (!(f86 x0.2.2.1 (1 : Int) (8 : Int))) then
        some ((false, ()), ())
      else
        bif (!(f133 x0.2.2.2.1)) then
          some ((false, ()), ())
        else
          bif (!(f134 x0.2.2.2.2.1)) then
            some ((false, ()), ())
          else
            bif (!(f134 x0.2.2.2.2.2.1)) then
              some ((false, ()), ())
            else
              bif (!(f134 x0.2.2.2.2.2.2.1)) then
                some ((false, ()), ())
              else
                (g87 x0.2.2.2.1).bind fun y1 =>
                  bif (decide (x0.2.2.2.2.2.1 < y1.1.1)) then
                    some ((false, ()), ())
                  else
                    bif (!(f86 (x0.2.2.2.2.2.2.2.1.len : Int) (1 : Int) (6 : Int))) then
                      some ((false, ()), ())
                    else
                      (g135 x0).bind fun y2 =>
                        bif (!y2.1.1) then
                          some ((false, ()), ())
                        else
                          bif (decide ((x0.2.2.2.2.2.2.2.2.1.len : Int) > (8 : Int))) then
                            some ((false, ()), ())
                          else
                            (g136_137 x0.2.2.2.2.2.2.2.2.1 ((x0.2.2.2.2.2.2.2.1.len : Int), ())).bind fun y3 =>
                              bif y3.1.1 then
                                some ((false, ()), ())
                              else
                                bif (decide ((x0.2.2.2.2.2.2.2.2.2.1.len : Int) > (8 : Int))) then
                                  some ((false, ()), ())
                                else
                                  (g138_139 x0.2.2.2.2.2.2.2.2.2.1 ((x0.2.2.2.2.2.2.2.1.len : Int), ())).bind fun y4 =>
                                    bif y4.1.1 then
                                      some ((false, ()), ())
                                    else
                                      (g141 x0.2.2.2.1 x0.2.1 x0.2.2.2.2.2.2.2.2.2.1).bind fun y5 =>
                                        bif (decide (x0.2.2.2.2.1 < y5.1.1)) then
                                          some ((false, ()), ())
                                        else
                                          (g142 x0).bind fun y6 =>
                                            some ((y6.1.1, ()), ())
noncomputable def c64 : Ctr := { ins := [.v Ty190], out := [.bool], F := fun x => g64 x.1 }
theorem v64 : LoopsOk Tryz.prog Γ t64 a64 (loopsIn (Tryz.f64.body.getD .skip) 0) := loopsOk_nil (by kernel_rfl)
theorem r64 (x : InsT c64.ins) : fnK Tryz.prog Γ t64 a64 Tryz.f64 c64 x = g64 x.1 := by kernel_rfl
theorem k64 : TblOk Tryz.prog t64 := tblOk_cons o131 (tblOk_cons o132 (tblOk_cons o86 (tblOk_cons o133 (tblOk_cons o134 (tblOk_cons o87 (tblOk_cons o135 (tblOk_cons o136_137 (tblOk_cons o138_139 (tblOk_cons o141 (tblOk_cons o142 (tblOk_nil)))))))))))
theorem o64 : Holds Tryz.prog 64 c64 := fn_holds (code := Tryz.f64.body.getD .skip) (by kernel_rfl) gamOk k64 Tryz.func64 (by kernel_rfl) (by kernel_rfl) (by kernel_rfl) (by kernel_rfl) v64 (fun x _ h => (r64 x).trans h)
/-! ### 165: loop.example/g00076/impl.isAddr -/
noncomputable def t165 : Tbl := [(86, [], c86)]
noncomputable def a165 : Nat → Option LoopAnn := fun _ => none
noncomputable def g165 (x0 : Int) : Option ((Bool × Unit) × Unit) :=
  some (((f86 x0 (0 : Int) (65535 : Int)), ()), ())
noncomputable def f165 (x0 : Int) : Bool :=
  (f86 x0 (0 : Int) (65535 : Int))
theorem n165 (x0 : Int) : g165 x0 = some ((f165 x0, ()), ()) := by
  simp only [g165, f165, pull1]
noncomputable def c165 : Ctr := { ins := [.v (.int .i64)], out := [.bool], F := fun x => some ((f165 x.1, ()), ()) }
theorem v165 : LoopsOk Tryz.prog Γ t165 a165 (loopsIn (Tryz.f165.body.getD .skip) 0) := loopsOk_nil (by kernel_rfl)
theorem r165 (x : InsT c165.ins) : fnK Tryz.prog Γ t165 a165 Tryz.f165 c165 x = g165 x.1 := by kernel_rfl
theorem k165 : TblOk Tryz.prog t165 := tblOk_cons o86 (tblOk_nil)
theorem o165 : Holds Tryz.prog 165 c165 := fn_holds (code := Tryz.f165.body.getD .skip) (by kernel_rfl) gamOk k165 Tryz.func165 (by kernel_rfl) (by kernel_rfl) (by kernel_rfl) (by kernel_rfl) v165 (fun x _ h => (r165 x).trans ((n165 x.1).trans h))
/-! ### 217: loop.example/g00076/impl.wayIndex$1 -/
noncomputable def t217 : Tbl := []
noncomputable def a217 : Nat → Option LoopAnn := fun _ => none
noncomputable def g217 (x0 : (Int × (Bool × Unit))) (x1 : Int) : Option ((Bool × Unit) × Unit) :=
  some (((x0.1 == x1), ()), ())
noncomputable def f217 (x0 : (Int × (Bool × Unit))) (x1 : Int) : Bool :=
  (x0.1 == x1)
theorem n217 (x0 : (Int × (Bool × Unit))) (x1 : Int) : g217 x0 x1 = some ((f217 x0 x1, ()), ()) := by
  simp only [g217, f217, pull1]
noncomputable def c217 : Ctr := { ins := [.v Ty24, .rf (.int .i64)], out := [.bool], F := fun x => some ((f217 x.1 x.2.1, ()), ()) }
theorem v217 : LoopsOk Tryz.prog Γ t217 a217 (loopsIn (Tryz.f217.body.getD .skip) 0) := loopsOk_nil (by kernel_rfl)
theorem r217 (x : InsT c217.ins) : fnK Tryz.prog Γ t217 a217 Tryz.f217 c217 x = g217 x.1 x.2.1 := by kernel_rfl
theorem k217 : TblOk Tryz.prog t217 := tblOk_nil
theorem o217 : Holds Tryz.prog 217 c217 := fn_holds (code := Tryz.f217.body.getD .skip) (by kernel_rfl) gamOk k217 Tryz.func217 (by kernel_rfl) (by kernel_rfl) (by kernel_rfl) (by kernel_rfl) v217 (fun x _ h => (r217 x).trans ((n217 x.1 x.2.1).trans h))
/-! ### 216: slices.IndexFunc[[]loop.example/g00076/impl.Way,loop.example/g00076/impl.Way] -/
noncomputable def t216_217 : Tbl := [(217, [], c217)]
abbrev h216_217_L0 : Shape := { slots := [(0, .v Ty33), (1, .clo 217 [(.int .i64)]), (7, .v (.int .i64)), (8, .v (.int .i64))], boxes := [] }
abbrev e216_217_L0 : List (XT × Shape) := [(.ret, { slots := [(4, .v (.int .i64))], boxes := [] }), (.exit 0, { slots := [], boxes := [] })]
noncomputable def q216_217_L0 (t0 : Ta2) (t1 : (Int × Unit)) (t7 : Int) (t8 : Int) : Option (Ta90 ⊕ (((Int × Unit) × Unit) ⊕ ((Unit × Unit) ⊕ Empty))) :=
  bif (decide (t8 < t7)) then
    bif (decide (0 ≤ t8) && decide (t8 < (t0.len : Int))) then
      bif (f217 (L.get t0 t8.toNat) t1.1) then
        some (.inr (.inl ((t8, ()), ())))
      else
        some (.inl ((t0, (t1, (t7, ((wI (t8 + (1 : Int))), ())))), ()))
    else
      none
  else
    some (.inr (.inr (.inl ((), ()))))
noncomputable def s216_217_L0 (x : Ta90) : Option (Ta90 ⊕ (((Int × Unit) × Unit) ⊕ ((Unit × Unit) ⊕ Empty))) := q216_217_L0 x.1.1 x.1.2.1 x.1.2.2.1 x.1.2.2.2.1
noncomputable def a216_217 : Nat → Option LoopAnn := fun c => bif Nat.beq c 0 then some (.fix h216_217_L0 e216_217_L0 s216_217_L0) else none
noncomputable def g216_217 (x0 : Ta2) (x1 : (Int × Unit)) : Option ((Int × Unit) × Unit) :=
  (fixO s216_217_L0 ((x0, (x1, ((x0.len : Int), ((0 : Int), ())))), ())).bind fun d2 => match d2 with
  | .inl y1 =>
    some ((y1.1.1, ()), ())
  | .inr (.inl y1) =>
    some (((-1 : Int), ()), ())
  | .inr (.inr e) => nomatch e
noncomputable def c216_217 : Ctr := { ins := [.v Ty33, .clo 217 [(.int .i64)]], out := [(.int .i64)], F := fun x => g216_217 x.1 x.2.1 }
noncomputable def l216_217 : List (Nat × Code) := loopsIn (Tryz.f216.body.getD .skip) 0
theorem w216_217_L0 (x : h216_217_L0.T) : runK Tryz.prog Γ t216_217 a216_217 (l216_217.getD 0 (0, .skip)).2 0 (pkSh h216_217_L0 x) (loopCls (sh := h216_217_L0) (es := e216_217_L0)) = (s216_217_L0 x : Option _) := by kernel_rfl
theorem v216_217 : LoopsOk Tryz.prog Γ t216_217 a216_217 (loopsIn (Tryz.f216.body.getD .skip) 0) := by
  have e : loopsIn (Tryz.f216.body.getD .skip) 0 = [(0, (l216_217.getD 0 (0, .skip)).2)] := by kernel_rfl
  rw [e]
  exact ⟨fun x d h => (w216_217_L0 x).trans h, trivial⟩
theorem r216_217 (x : InsT c216_217.ins) : fnK Tryz.prog Γ t216_217 a216_217 Tryz.f216 c216_217 x = g216_217 x.1 x.2.1 := by kernel_rfl
theorem k216_217 : TblOk Tryz.prog t216_217 := tblOk_cons o217 (tblOk_nil)
theorem o216_217 : Holds Tryz.prog 216 c216_217 := fn_holds (code := Tryz.f216.body.getD .skip) (by kernel_rfl) gamOk k216_217 Tryz.func216 (by kernel_rfl) (by kernel_rfl) (by kernel_rfl) (by kernel_rfl) v216_217 (fun x _ h => (r216_217 x).trans h)
/-! ### 166: loop.example/g00076/impl.wayIndex -/
noncomputable def t166 : Tbl := [(216, [217], c216_217)]
noncomputable def a166 : Nat → Option LoopAnn := fun _ => none
noncomputable def g166 (x0 : Ta2) (x1 : Int) : Option ((Int × Unit) × Unit) :=
  (g216_217 x0 (x1, ())).bind fun y1 =>
    some ((y1.1.1, ()), ())
noncomputable def c166 : Ctr := { ins := [.v Ty33, .v (.int .i64)], out := [(.int .i64)], F := fun x => g166 x.1 x.2.1 }
theorem v166 : LoopsOk Tryz.prog Γ t166 a166 (loopsIn (Tryz.f166.body.getD .skip) 0) := loopsOk_nil (by kernel_rfl)
theorem r166 (x : InsT c166.ins) : fnK Tryz.prog Γ t166 a166 Tryz.f166 c166 x = g166 x.1 x.2.1 := by kernel_rfl
theorem k166 : TblOk Tryz.prog t166 := tblOk_cons o216_217 (tblOk_nil)
theorem o166 : Holds Tryz.prog 166 c166 := fn_holds (code := Tryz.f166.body.getD .skip) (by kernel_rfl) gamOk k166 Tryz.func166 (by kernel_rfl) (by kernel_rfl) (by kernel_rfl) (by kernel_rfl) v166 (fun x _ h => (r166 x).trans h)
/-! ### 99: loop.example/g00076/impl.isCache -/
noncomputable def t99 : Tbl := [(132, [], c132), (165, [], c165), (166, [], c166)]
abbrev h99_L2 : Shape := { slots := [(1, .bx 1 0), (4, .v Ty33), (21, .v Ty46), (22, .v (.int .i64)), (23, .v (.int .i64)), (33, .v Ty33), (34, .v (.int .i64)), (35, .v (.int .i64))], boxes := [(1, .typ Ty134)] }
abbrev e99_L2 : List (XT × Shape) := [(.ret, { slots := [(2, .v .bool)], boxes := [] }), (.exit 2, { slots := [(1, .bx 1 0), (21, .v Ty46), (22, .v (.int .i64)), (23, .v (.int .i64))], boxes := [(1, .typ Ty134)] })]
noncomputable def q99_L2 (t4 : Ta2) (t21 : Ta6) (t22 : Int) (t23 : Int) (t33 : Ta2) (t34 : Int) (t35 : Int) (b1 : Ta80) : Option (Ta169 ⊕ (((Bool × Unit) × Unit) ⊕ (Ta143 ⊕ Empty))) :=
  bif (decide (t35 < t34)) then
    bif (decide (0 ≤ t35) && decide (t35 < (t33.len : Int))) then
      bif (!(f165 (L.get t33 t35.toNat).1)) then
        some (.inr (.inl ((false, ()), ())))
      else
        (g166 t4 (L.get t33 t35.toNat).1).bind fun y1 =>
          bif (decide (y1.1.1 < t35)) then
            some (.inr (.inl ((false, ()), ())))
          else
            some (.inl (((), (t4, (t21, (t22, (t23, (t33, (t34, ((wI (t35 + (1 : Int))), ())))))))), (b1, ())))
    else
      none
  else
    some (.inr (.inr (.inl (((), (t21, (t22, (t23, ())))), (b1, ())))))
noncomputable def s99_L2 (x : Ta169) : Option (Ta169 ⊕ (((Bool × Unit) × Unit) ⊕ (Ta143 ⊕ Empty))) := q99_L2 x.1.2.1 x.1.2.2.1 x.1.2.2.2.1 x.1.2.2.2.2.1 x.1.2.2.2.2.2.1 x.1.2.2.2.2.2.2.1 x.1.2.2.2.2.2.2.2.1 x.2.1
abbrev h99_L0 : Shape := { slots := [(1, .bx 1 0), (21, .v Ty46), (22, .v (.int .i64)), (23, .v (.int .i64))], boxes := [(1, .typ Ty134)] }
abbrev e99_L0 : List (XT × Shape) := [(.ret, { slots := [(2, .v .bool)], boxes := [] }), (.exit 0, { slots := [], boxes := [] })]
noncomputable def q99_L0 (t21 : Ta6) (t22 : Int) (t23 : Int) (b1 : Ta80) : Option (Ta143 ⊕ (((Bool × Unit) × Unit) ⊕ ((Unit × Unit) ⊕ Empty))) :=
  bif (decide (t23 < t22)) then
    bif (decide (0 ≤ t23) && decide (t23 < (t21.len : Int))) then
      bif (decide (((L.get t21 t23.toNat).len : Int) > b1.1.2.1)) then
        some (.inr (.inl ((false, ()), ())))
      else
        (fixO s99_L2 (((), ((L.get t21 t23.toNat), (t21, (t22, (t23, ((L.get t21 t23.toNat), (((L.get t21 t23.toNat).len : Int), ((0 : Int), ())))))))), (b1, ()))).bind fun d3 => match d3 with
        | .inl y2 =>
          some (.inr (.inl y2))
        | .inr (.inl y2) =>
          some (.inl (((), (y2.1.2.1, (y2.1.2.2.1, ((wI (y2.1.2.2.2.1 + (1 : Int))), ())))), y2.2))
        | .inr (.inr e) => nomatch e
    else
      none
  else
    some (.inr (.inr (.inl ((), ()))))
noncomputable def s99_L0 (x : Ta143) : Option (Ta143 ⊕ (((Bool × Unit) × Unit) ⊕ ((Unit × Unit) ⊕ Empty))) := q99_L0 x.1.2.1 x.1.2.2.1 x.1.2.2.2.1 x.2.1
noncomputable def a99 : Nat → Option LoopAnn := fun c => bif Nat.beq c 2 then some (.fix h99_L2 e99_L2 s99_L2) else bif Nat.beq c 0 then some (.fix h99_L0 e99_L0 s99_L0) else none
noncomputable def g99 (x0 : Ta80) : Option ((Bool × Unit) × Unit) :=
  bif (!(f132 x0.1)) then
    some ((false, ()), ())
  else
    bif ((x0.2.1.len : Int) != x0.1.1) then
      some ((false, ()), ())
    else
      (fixO s99_L0 (((), (x0.2.1, ((x0.2.1.len : Int), ((0 : Int), ())))), (x0, ()))).bind fun d5 => match d5 with
      | .inl y4 =>
        some ((y4.1.1, ()), ())
      | .inr (.inl y4) =>
        some ((true, ()), ())
      | .inr (.inr e) => nomatch e
noncomputable def c99 : Ctr := { ins := [.v Ty134], out := [.bool], F := fun x => g99 x.1 }
noncomputable def l99 : List (Nat × Code) := loopsIn (Tryz.f99.body.getD .skip) 0
theorem w99_L2 (x : h99_L2.T) : runK Tryz.prog Γ t99 a99 (l99.getD 1 (0, .skip)).2 2 (pkSh h99_L2 x) (loopCls (sh := h99_L2) (es := e99_L2)) = (s99_L2 x : Option _) := by kernel_rfl
theorem w99_L0 (x : h99_L0.T) : runK Tryz.prog Γ t99 a99 (l99.getD 0 (0, .skip)).2 0 (pkSh h99_L0 x) (loopCls (sh := h99_L0) (es := e99_L0)) = (s99_L0 x : Option _) := by kernel_rfl
theorem v99 : LoopsOk Tryz.prog Γ t99 a99 (loopsIn (Tryz.f99.body.getD .skip) 0) := by
  have e : loopsIn (Tryz.f99.body.getD .skip) 0 = [(0, (l99.getD 0 (0, .skip)).2), (2, (l99.getD 1 (0, .skip)).2)] := by kernel_rfl
  rw [e]
  exact ⟨fun x d h => (w99_L0 x).trans h, fun x d h => (w99_L2 x).trans h, trivial⟩
theorem r99 (x : InsT c99.ins) : fnK Tryz.prog Γ t99 a99 Tryz.f99 c99 x = g99 x.1 := by kernel_rfl
theorem k99 : TblOk Tryz.prog t99 := tblOk_cons o132 (tblOk_cons o165 (tblOk_cons o166 (tblOk_nil)))
theorem o99 : Holds Tryz.prog 99 c99 := fn_holds (code := Tryz.f99.body.getD .skip) (by kernel_rfl) gamOk k99 Tryz.func99 (by kernel_rfl) (by kernel_rfl) (by kernel_rfl) (by kernel_rfl) v99 (fun x _ h => (r99 x).trans h)
/-! ### 100: loop.example/g00076/impl.carries -/
noncomputable def t100 : Tbl := [(167, [], c167)]
abbrev h100_L0 : Shape := { slots := [(3, .v (.int .i64)), (7, .v Ty105), (8, .v (.int .i64)), (9, .v (.int .i64))], boxes := [] }
abbrev e100_L0 : List (XT × Shape) := [(.exit 0, { slots := [(3, .v (.int .i64))], boxes := [] })]
noncomputable def q100_L0 (t3 : Int) (t7 : Ta26) (t8 : Int) (t9 : Int) : Option (Ta96 ⊕ (((Int × Unit) × Unit) ⊕ Empty)) :=
  bif (decide (t9 < t8)) then
    bif (decide (0 ≤ t9) && decide (t9 < (t7.len : Int))) then
      some (.inl (((wI (t3 + (f167 (L.get t7 t9.toNat)))), (t7, (t8, ((wI (t9 + (1 : Int))), ())))), ()))
    else
      none
  else
    some (.inr (.inl ((t3, ()), ())))
noncomputable def s100_L0 (x : Ta96) : Option (Ta96 ⊕ (((Int × Unit) × Unit) ⊕ Empty)) := q100_L0 x.1.1 x.1.2.1 x.1.2.2.1 x.1.2.2.2.1
noncomputable def a100 : Nat → Option LoopAnn := fun c => bif Nat.beq c 0 then some (.fix h100_L0 e100_L0 s100_L0) else none
noncomputable def g100 (x0 : Ta174) : Option ((Int × Unit) × Unit) :=
  (fixO s100_L0 (((0 : Int), (x0.2.2.2.2.2.2.2.2.2.1, ((x0.2.2.2.2.2.2.2.2.2.1.len : Int), ((0 : Int), ())))), ())).bind fun d2 => match d2 with
  | .inl y1 =>
    some ((y1.1.1, ()), ())
  | .inr e => nomatch e
noncomputable def c100 : Ctr := { ins := [.v Ty190], out := [(.int .i64)], F := fun x => g100 x.1 }
noncomputable def l100 : List (Nat × Code) := loopsIn (Tryz.f100.body.getD .skip) 0
theorem w100_L0 (x : h100_L0.T) : runK Tryz.prog Γ t100 a100 (l100.getD 0 (0, .skip)).2 0 (pkSh h100_L0 x) (loopCls (sh := h100_L0) (es := e100_L0)) = (s100_L0 x : Option _) := by kernel_rfl
theorem v100 : LoopsOk Tryz.prog Γ t100 a100 (loopsIn (Tryz.f100.body.getD .skip) 0) := by
  have e : loopsIn (Tryz.f100.body.getD .skip) 0 = [(0, (l100.getD 0 (0, .skip)).2)] := by kernel_rfl
  rw [e]
  exact ⟨fun x d h => (w100_L0 x).trans h, trivial⟩
theorem r100 (x : InsT c100.ins) : fnK Tryz.prog Γ t100 a100 Tryz.f100 c100 x = g100 x.1 := by kernel_rfl
theorem k100 : TblOk Tryz.prog t100 := tblOk_cons o167 (tblOk_nil)
theorem o100 : Holds Tryz.prog 100 c100 := fn_holds (code := Tryz.f100.body.getD .skip) (by kernel_rfl) gamOk k100 Tryz.func100 (by kernel_rfl) (by kernel_rfl) (by kernel_rfl) (by kernel_rfl) v100 (fun x _ h => (r100 x).trans h)
/-! ### 168: (loop.example/g00076/impl.Cache).dirty -/
noncomputable def t168 : Tbl := []
abbrev h168_L2 : Shape := { slots := [(3, .v (.int .i64)), (9, .v Ty46), (10, .v (.int .i64)), (11, .v (.int .i64)), (15, .v Ty33), (16, .v (.int .i64)), (17, .v (.int .i64))], boxes := [] }
abbrev e168_L2 : List (XT × Shape) := [(.exit 2, { slots := [(3, .v (.int .i64)), (9, .v Ty46), (10, .v (.int .i64)), (11, .v (.int .i64))], boxes := [] })]
noncomputable def q168_L2 (t3 : Int) (t9 : Ta6) (t10 : Int) (t11 : Int) (t15 : Ta2) (t16 : Int) (t17 : Int) : Option (Ta126 ⊕ (Ta82 ⊕ Empty)) :=
  bif (decide (t17 < t16)) then
    bif (decide (0 ≤ t17) && decide (t17 < (t15.len : Int))) then
      bif (L.get t15 t17.toNat).2.1 then
        some (.inl (((wI (t3 + (1 : Int))), (t9, (t10, (t11, (t15, (t16, ((wI (t17 + (1 : Int))), ()))))))), ()))
      else
        some (.inl ((t3, (t9, (t10, (t11, (t15, (t16, ((wI (t17 + (1 : Int))), ()))))))), ()))
    else
      none
  else
    some (.inr (.inl ((t3, (t9, (t10, (t11, ())))), ())))
noncomputable def s168_L2 (x : Ta126) : Option (Ta126 ⊕ (Ta82 ⊕ Empty)) := q168_L2 x.1.1 x.1.2.1 x.1.2.2.1 x.1.2.2.2.1 x.1.2.2.2.2.1 x.1.2.2.2.2.2.1 x.1.2.2.2.2.2.2.1
abbrev h168_L0 : Shape := { slots := [(3, .v (.int .i64)), (9, .v Ty46), (10, .v (.int .i64)), (11, .v (.int .i64))], boxes := [] }
abbrev e168_L0 : List (XT × Shape) := [(.exit 0, { slots := [(3, .v (.int .i64))], boxes := [] })]
noncomputable def q168_L0 (t3 : Int) (t9 : Ta6) (t10 : Int) (t11 : Int) : Option (Ta82 ⊕ (((Int × Unit) × Unit) ⊕ Empty)) :=
  bif (decide (t11 < t10)) then
    bif (decide (0 ≤ t11) && decide (t11 < (t9.len : Int))) then
      (fixO s168_L2 ((t3, (t9, (t10, (t11, ((L.get t9 t11.toNat), (((L.get t9 t11.toNat).len : Int), ((0 : Int), ()))))))), ())).bind fun d2 => match d2 with
      | .inl y1 =>
        some (.inl ((y1.1.1, (y1.1.2.1, (y1.1.2.2.1, ((wI (y1.1.2.2.2.1 + (1 : Int))), ())))), ()))
      | .inr e => nomatch e
    else
      none
  else
    some (.inr (.inl ((t3, ()), ())))
noncomputable def s168_L0 (x : Ta82) : Option (Ta82 ⊕ (((Int × Unit) × Unit) ⊕ Empty)) := q168_L0 x.1.1 x.1.2.1 x.1.2.2.1 x.1.2.2.2.1
noncomputable def a168 : Nat → Option LoopAnn := fun c => bif Nat.beq c 2 then some (.fix h168_L2 e168_L2 s168_L2) else bif Nat.beq c 0 then some (.fix h168_L0 e168_L0 s168_L0) else none
noncomputable def g168 (x0 : Ta80) : Option ((Int × Unit) × Unit) :=
  (fixO s168_L0 (((0 : Int), (x0.2.1, ((x0.2.1.len : Int), ((0 : Int), ())))), ())).bind fun d4 => match d4 with
  | .inl y3 =>
    some ((y3.1.1, ()), ())
  | .inr e => nomatch e
noncomputable def c168 : Ctr := { ins := [.v Ty134], out := [(.int .i64)], F := fun x => g168 x.1 }
noncomputable def l168 : List (Nat × Code) := loopsIn (Tryz.f168.body.getD .skip) 0
theorem w168_L2 (x : h168_L2.T) : runK Tryz.prog Γ t168 a168 (l168.getD 1 (0, .skip)).2 2 (pkSh h168_L2 x) (loopCls (sh := h168_L2) (es := e168_L2)) = (s168_L2 x : Option _) := by kernel_rfl
theorem w168_L0 (x : h168_L0.T) : runK Tryz.prog Γ t168 a168 (l168.getD 0 (0, .skip)).2 0 (pkSh h168_L0 x) (loopCls (sh := h168_L0) (es := e168_L0)) = (s168_L0 x : Option _) := by kernel_rfl
theorem v168 : LoopsOk Tryz.prog Γ t168 a168 (loopsIn (Tryz.f168.body.getD .skip) 0) := by
  have e : loopsIn (Tryz.f168.body.getD .skip) 0 = [(0, (l168.getD 0 (0, .skip)).2), (2, (l168.getD 1 (0, .skip)).2)] := by kernel_rfl
  rw [e]
  exact ⟨fun x d h => (w168_L0 x).trans h, fun x d h => (w168_L2 x).trans h, trivial⟩
theorem r168 (x : InsT c168.ins) : fnK Tryz.prog Γ t168 a168 Tryz.f168 c168 x = g168 x.1 := by kernel_rfl
theorem k168 : TblOk Tryz.prog t168 := tblOk_nil
theorem o168 : Holds Tryz.prog 168 c168 := fn_holds (code := Tryz.f168.body.getD .skip) (by kernel_rfl) gamOk k168 Tryz.func168 (by kernel_rfl) (by kernel_rfl) (by kernel_rfl) (by kernel_rfl) v168 (fun x _ h => (r168 x).trans h)
/-! ### 101: loop.example/g00076/impl.switchWork -/
noncomputable def t101 : Tbl := [(168, [], c168)]
noncomputable def a101 : Nat → Option LoopAnn := fun _ => none
noncomputable def g101 (x0 : Ta174) (x1 : Ta80) (x2 : Int) : Option Ta51 :=
  (g168 x1).bind fun y1 =>
    some ((((wI (x0.2.2.2.1.2.2.2.2.2.2.1 * y1.1.1)), ((wI ((16 : Int) * x0.2.2.2.1.1)), ((wI (x0.2.2.2.1.1 * x2)), ((wI ((wI ((wI (x0.2.2.2.2.1 - (wI (x0.2.2.2.1.2.2.2.2.2.2.1 * y1.1.1)))) - (wI ((16 : Int) * x0.2.2.2.1.1)))) - (wI (x0.2.2.2.1.1 * x2)))), ())))), ()), ())
noncomputable def c101 : Ctr := { ins := [.v Ty190, .v Ty134, .v (.int .i64)], out := [Ty99], F := fun x => g101 x.1 x.2.1 x.2.2.1 }
theorem v101 : LoopsOk Tryz.prog Γ t101 a101 (loopsIn (Tryz.f101.body.getD .skip) 0) := loopsOk_nil (by kernel_rfl)
theorem r101 (x : InsT c101.ins) : fnK Tryz.prog Γ t101 a101 Tryz.f101 c101 x = g101 x.1 x.2.1 x.2.2.1 := by kernel_rfl
theorem k101 : TblOk Tryz.prog t101 := tblOk_cons o168 (tblOk_nil)
theorem o101 : Holds Tryz.prog 101 c101 := fn_holds (code := Tryz.f101.body.getD .skip) (by kernel_rfl) gamOk k101 Tryz.func101 (by kernel_rfl) (by kernel_rfl) (by kernel_rfl) (by kernel_rfl) v101 (fun x _ h => (r101 x).trans h)
/-! ### 44: loop.example/g00076/impl.SwitchWork -/
noncomputable def t44 : Tbl := [(64, [], c64), (99, [], c99), (100, [], c100), (86, [], c86), (101, [], c101)]
noncomputable def a44 : Nat → Option LoopAnn := fun _ => none
noncomputable def g44 (x0 : Ta174) (x1 : Ta80) (x2 : Int) : Option Ta51 :=
  (g64 x0).bind fun y1 =>
    bif (!y1.1.1) then
      some ((((0 : Int), ((0 : Int), ((0 : Int), ((0 : Int), ())))), ()), ())
    else
      (g99 x1).bind fun y2 =>
        bif (!y2.1.1) then
          some ((((0 : Int), ((0 : Int), ((0 : Int), ((0 : Int), ())))), ()), ())
        else
          bif (!((x1.1.1 == x0.2.1.1) && ((x1.1.2.1 == x0.2.1.2.1) && ((x1.1.2.2.1 == x0.2.1.2.2.1) && true)))) then
            some ((((0 : Int), ((0 : Int), ((0 : Int), ((0 : Int), ())))), ()), ())
          else
            (g100 x0).bind fun y3 =>
              bif (!(f86 x2 (0 : Int) y3.1.1)) then
                some ((((0 : Int), ((0 : Int), ((0 : Int), ((0 : Int), ())))), ()), ())
              else
                (g101 x0 x1 x2).bind fun y4 =>
                  some ((y4.1.1, ()), ())
noncomputable def c44 : Ctr := { ins := [.v Ty190, .v Ty134, .v (.int .i64)], out := [Ty99], F := fun x => g44 x.1 x.2.1 x.2.2.1 }
theorem v44 : LoopsOk Tryz.prog Γ t44 a44 (loopsIn (Tryz.f44.body.getD .skip) 0) := loopsOk_nil (by kernel_rfl)
theorem r44 (x : InsT c44.ins) : fnK Tryz.prog Γ t44 a44 Tryz.f44 c44 x = g44 x.1 x.2.1 x.2.2.1 := by kernel_rfl
theorem k44 : TblOk Tryz.prog t44 := tblOk_cons o64 (tblOk_cons o99 (tblOk_cons o100 (tblOk_cons o86 (tblOk_cons o101 (tblOk_nil)))))
theorem o44 : Holds Tryz.prog 44 c44 := fn_holds (code := Tryz.f44.body.getD .skip) (by kernel_rfl) gamOk k44 Tryz.func44 (by kernel_rfl) (by kernel_rfl) (by kernel_rfl) (by kernel_rfl) v44 (fun x _ h => (r44 x).trans h)
/-! ### 45: loop.example/g00076/laws.eqWork -/
noncomputable def t45 : Tbl := []
noncomputable def a45 : Nat → Option LoopAnn := fun _ => none
noncomputable def g45 (x0 : Ta16) (x1 : Ta16) : Option ((Bool × Unit) × Unit) :=
  bif (x0.1 != x1.1) then
    some ((false, ()), ())
  else
    bif (x0.2.1 != x1.2.1) then
      some ((false, ()), ())
    else
      bif (x0.2.2.1 != x1.2.2.1) then
        some ((false, ()), ())
      else
        bif (x0.2.2.2.1 != x1.2.2.2.1) then
          some ((false, ()), ())
        else
          some ((true, ()), ())
noncomputable def f45 (x0 : Ta16) (x1 : Ta16) : Bool :=
  bif (x0.1 != x1.1) then
    false
  else
    bif (x0.2.1 != x1.2.1) then
      false
    else
      bif (x0.2.2.1 != x1.2.2.1) then
        false
      else
        bif (x0.2.2.2.1 != x1.2.2.2.1) then
          false
        else
          true
theorem n45 (x0 : Ta16) (x1 : Ta16) : g45 x0 x1 = some ((f45 x0 x1, ()), ()) := by
  simp only [g45, f45, pull1]
noncomputable def c45 : Ctr := { ins := [.v Ty99, .v Ty99], out := [.bool], F := fun x => some ((f45 x.1 x.2.1, ()), ()) }
theorem v45 : LoopsOk Tryz.prog Γ t45 a45 (loopsIn (Tryz.f45.body.getD .skip) 0) := loopsOk_nil (by kernel_rfl)
theorem r45 (x : InsT c45.ins) : fnK Tryz.prog Γ t45 a45 Tryz.f45 c45 x = g45 x.1 x.2.1 := by kernel_rfl
theorem k45 : TblOk Tryz.prog t45 := tblOk_nil
theorem o45 : Holds Tryz.prog 45 c45 := fn_holds (code := Tryz.f45.body.getD .skip) (by kernel_rfl) gamOk k45 Tryz.func45 (by kernel_rfl) (by kernel_rfl) (by kernel_rfl) (by kernel_rfl) v45 (fun x _ h => (r45 x).trans ((n45 x.1 x.2.1).trans h))
/-! ### 67: loop.example/g00076/laws.eqShape -/
noncomputable def t67 : Tbl := []
noncomputable def a67 : Nat → Option LoopAnn := fun _ => none
noncomputable def g67 (x0 : Ta5) (x1 : Ta5) : Option ((Bool × Unit) × Unit) :=
  bif (x0.1 != x1.1) then
    some ((false, ()), ())
  else
    bif (x0.2.1 != x1.2.1) then
      some ((false, ()), ())
    else
      bif (x0.2.2.1 != x1.2.2.1) then
        some ((false, ()), ())
      else
        some ((true, ()), ())
noncomputable def f67 (x0 : Ta5) (x1 : Ta5) : Bool :=
  bif (x0.1 != x1.1) then
    false
  else
    bif (x0.2.1 != x1.2.1) then
      false
    else
      bif (x0.2.2.1 != x1.2.2.1) then
        false
      else
        true
theorem n67 (x0 : Ta5) (x1 : Ta5) : g67 x0 x1 = some ((f67 x0 x1, ()), ()) := by
  simp only [g67, f67, pull1]
noncomputable def c67 : Ctr := { ins := [.v Ty68, .v Ty68], out := [.bool], F := fun x => some ((f67 x.1 x.2.1, ()), ()) }
theorem v67 : LoopsOk Tryz.prog Γ t67 a67 (loopsIn (Tryz.f67.body.getD .skip) 0) := loopsOk_nil (by kernel_rfl)
theorem r67 (x : InsT c67.ins) : fnK Tryz.prog Γ t67 a67 Tryz.f67 c67 x = g67 x.1 x.2.1 := by kernel_rfl
theorem k67 : TblOk Tryz.prog t67 := tblOk_nil
theorem o67 : Holds Tryz.prog 67 c67 := fn_holds (code := Tryz.f67.body.getD .skip) (by kernel_rfl) gamOk k67 Tryz.func67 (by kernel_rfl) (by kernel_rfl) (by kernel_rfl) (by kernel_rfl) v67 (fun x _ h => (r67 x).trans ((n67 x.1 x.2.1).trans h))
/-! ### 68: loop.example/g00076/laws.eqCosts -/
noncomputable def t68 : Tbl := []
noncomputable def a68 : Nat → Option LoopAnn := fun _ => none
noncomputable def g68 (x0 : Ta62) (x1 : Ta62) : Option ((Bool × Unit) × Unit) :=
  bif (x0.1 != x1.1) then
    some ((false, ()), ())
  else
    bif (x0.2.1 != x1.2.1) then
      some ((false, ()), ())
    else
      bif (x0.2.2.1 != x1.2.2.1) then
        some ((false, ()), ())
      else
        bif (x0.2.2.2.1 != x1.2.2.2.1) then
          some ((false, ()), ())
        else
          bif (x0.2.2.2.2.1 != x1.2.2.2.2.1) then
            some ((false, ()), ())
          else
            bif (x0.2.2.2.2.2.1 != x1.2.2.2.2.2.1) then
              some ((false, ()), ())
            else
              bif (x0.2.2.2.2.2.2.1 != x1.2.2.2.2.2.2.1) then
                some ((false, ()), ())
              else
                some ((true, ()), ())
noncomputable def f68 (x0 : Ta62) (x1 : Ta62) : Bool :=
  bif (x0.1 != x1.1) then
    false
  else
    bif (x0.2.1 != x1.2.1) then
      false
    else
      bif (x0.2.2.1 != x1.2.2.1) then
        false
      else
        bif (x0.2.2.2.1 != x1.2.2.2.1) then
          false
        else
          bif (x0.2.2.2.2.1 != x1.2.2.2.2.1) then
            false
          else
            bif (x0.2.2.2.2.2.1 != x1.2.2.2.2.2.1) then
              false
            else
              bif (x0.2.2.2.2.2.2.1 != x1.2.2.2.2.2.2.1) then
                false
              else
                true
theorem n68 (x0 : Ta62) (x1 : Ta62) : g68 x0 x1 = some ((f68 x0 x1, ()), ()) := by
  simp only [g68, f68, pull1]
noncomputable def c68 : Ctr := { ins := [.v Ty139, .v Ty139], out := [.bool], F := fun x => some ((f68 x.1 x.2.1, ()), ()) }
theorem v68 : LoopsOk Tryz.prog Γ t68 a68 (loopsIn (Tryz.f68.body.getD .skip) 0) := loopsOk_nil (by kernel_rfl)
theorem r68 (x : InsT c68.ins) : fnK Tryz.prog Γ t68 a68 Tryz.f68 c68 x = g68 x.1 x.2.1 := by kernel_rfl
theorem k68 : TblOk Tryz.prog t68 := tblOk_nil
theorem o68 : Holds Tryz.prog 68 c68 := fn_holds (code := Tryz.f68.body.getD .skip) (by kernel_rfl) gamOk k68 Tryz.func68 (by kernel_rfl) (by kernel_rfl) (by kernel_rfl) (by kernel_rfl) v68 (fun x _ h => (r68 x).trans ((n68 x.1 x.2.1).trans h))
/-! ### 202: loop.example/g00076/laws.eqPolicy -/
noncomputable def t202 : Tbl := []
noncomputable def a202 : Nat → Option LoopAnn := fun _ => none
noncomputable def g202 (x0 : (Int × (Int × Unit))) (x1 : (Int × (Int × Unit))) : Option ((Bool × Unit) × Unit) :=
  bif (x0.1 != x1.1) then
    some ((false, ()), ())
  else
    bif (x0.2.1 != x1.2.1) then
      some ((false, ()), ())
    else
      some ((true, ()), ())
noncomputable def f202 (x0 : (Int × (Int × Unit))) (x1 : (Int × (Int × Unit))) : Bool :=
  bif (x0.1 != x1.1) then
    false
  else
    bif (x0.2.1 != x1.2.1) then
      false
    else
      true
theorem n202 (x0 : (Int × (Int × Unit))) (x1 : (Int × (Int × Unit))) : g202 x0 x1 = some ((f202 x0 x1, ()), ()) := by
  simp only [g202, f202, pull1]
noncomputable def c202 : Ctr := { ins := [.v Ty32, .v Ty32], out := [.bool], F := fun x => some ((f202 x.1 x.2.1, ()), ()) }
theorem v202 : LoopsOk Tryz.prog Γ t202 a202 (loopsIn (Tryz.f202.body.getD .skip) 0) := loopsOk_nil (by kernel_rfl)
theorem r202 (x : InsT c202.ins) : fnK Tryz.prog Γ t202 a202 Tryz.f202 c202 x = g202 x.1 x.2.1 := by kernel_rfl
theorem k202 : TblOk Tryz.prog t202 := tblOk_nil
theorem o202 : Holds Tryz.prog 202 c202 := fn_holds (code := Tryz.f202.body.getD .skip) (by kernel_rfl) gamOk k202 Tryz.func202 (by kernel_rfl) (by kernel_rfl) (by kernel_rfl) (by kernel_rfl) v202 (fun x _ h => (r202 x).trans ((n202 x.1 x.2.1).trans h))
/-! ### 232: loop.example/g00076/laws.eqWindow -/
noncomputable def t232 : Tbl := []
noncomputable def a232 : Nat → Option LoopAnn := fun _ => none
noncomputable def g232 (x0 : Ta5) (x1 : Ta5) : Option ((Bool × Unit) × Unit) :=
  bif (x0.1 != x1.1) then
    some ((false, ()), ())
  else
    bif (x0.2.1 != x1.2.1) then
      some ((false, ()), ())
    else
      bif (x0.2.2.1 != x1.2.2.1) then
        some ((false, ()), ())
      else
        some ((true, ()), ())
noncomputable def f232 (x0 : Ta5) (x1 : Ta5) : Bool :=
  bif (x0.1 != x1.1) then
    false
  else
    bif (x0.2.1 != x1.2.1) then
      false
    else
      bif (x0.2.2.1 != x1.2.2.1) then
        false
      else
        true
theorem n232 (x0 : Ta5) (x1 : Ta5) : g232 x0 x1 = some ((f232 x0 x1, ()), ()) := by
  simp only [g232, f232, pull1]
noncomputable def c232 : Ctr := { ins := [.v Ty68, .v Ty68], out := [.bool], F := fun x => some ((f232 x.1 x.2.1, ()), ()) }
theorem v232 : LoopsOk Tryz.prog Γ t232 a232 (loopsIn (Tryz.f232.body.getD .skip) 0) := loopsOk_nil (by kernel_rfl)
theorem r232 (x : InsT c232.ins) : fnK Tryz.prog Γ t232 a232 Tryz.f232 c232 x = g232 x.1 x.2.1 := by kernel_rfl
theorem k232 : TblOk Tryz.prog t232 := tblOk_nil
theorem o232 : Holds Tryz.prog 232 c232 := fn_holds (code := Tryz.f232.body.getD .skip) (by kernel_rfl) gamOk k232 Tryz.func232 (by kernel_rfl) (by kernel_rfl) (by kernel_rfl) (by kernel_rfl) v232 (fun x _ h => (r232 x).trans ((n232 x.1 x.2.1).trans h))
/-! ### 203: loop.example/g00076/laws.eqWindowS -/
noncomputable def t203 : Tbl := [(232, [], c232)]
abbrev h203_L0 : Shape := { slots := [(0, .v Ty79), (1, .v Ty79), (5, .v (.int .i64))], boxes := [] }
abbrev e203_L0 : List (XT × Shape) := [(.ret, { slots := [(4, .v .bool)], boxes := [] }), (.exit 0, { slots := [], boxes := [] })]
noncomputable def q203_L0 (t0 : Ta11) (t1 : Ta11) (t5 : Int) : Option (Ta109 ⊕ (((Bool × Unit) × Unit) ⊕ ((Unit × Unit) ⊕ Empty))) :=
  bif (decide (t5 < (t0.len : Int))) then
    bif (decide (0 ≤ t5) && decide (t5 < (t0.len : Int))) then
      bif (decide (0 ≤ t5) && decide (t5 < (t1.len : Int))) then
        bif (!(f232 (L.get t0 t5.toNat) (L.get t1 t5.toNat))) then
          some (.inr (.inl ((false, ()), ())))
        else
          some (.inl ((t0, (t1, ((wI (t5 + (1 : Int))), ()))), ()))
      else
        none
    else
      none
  else
    some (.inr (.inr (.inl ((), ()))))
noncomputable def s203_L0 (x : Ta109) : Option (Ta109 ⊕ (((Bool × Unit) × Unit) ⊕ ((Unit × Unit) ⊕ Empty))) := q203_L0 x.1.1 x.1.2.1 x.1.2.2.1
noncomputable def a203 : Nat → Option LoopAnn := fun c => bif Nat.beq c 0 then some (.fix h203_L0 e203_L0 s203_L0) else none
noncomputable def g203 (x0 : Ta11) (x1 : Ta11) : Option ((Bool × Unit) × Unit) :=
  bif ((x0.len : Int) != (x1.len : Int)) then
    some ((false, ()), ())
  else
    (fixO s203_L0 ((x0, (x1, ((0 : Int), ()))), ())).bind fun d2 => match d2 with
    | .inl y1 =>
      some ((y1.1.1, ()), ())
    | .inr (.inl y1) =>
      some ((true, ()), ())
    | .inr (.inr e) => nomatch e
noncomputable def c203 : Ctr := { ins := [.v Ty79, .v Ty79], out := [.bool], F := fun x => g203 x.1 x.2.1 }
noncomputable def l203 : List (Nat × Code) := loopsIn (Tryz.f203.body.getD .skip) 0
theorem w203_L0 (x : h203_L0.T) : runK Tryz.prog Γ t203 a203 (l203.getD 0 (0, .skip)).2 0 (pkSh h203_L0 x) (loopCls (sh := h203_L0) (es := e203_L0)) = (s203_L0 x : Option _) := by kernel_rfl
theorem v203 : LoopsOk Tryz.prog Γ t203 a203 (loopsIn (Tryz.f203.body.getD .skip) 0) := by
  have e : loopsIn (Tryz.f203.body.getD .skip) 0 = [(0, (l203.getD 0 (0, .skip)).2)] := by kernel_rfl
  rw [e]
  exact ⟨fun x d h => (w203_L0 x).trans h, trivial⟩
theorem r203 (x : InsT c203.ins) : fnK Tryz.prog Γ t203 a203 Tryz.f203 c203 x = g203 x.1 x.2.1 := by kernel_rfl
theorem k203 : TblOk Tryz.prog t203 := tblOk_cons o232 (tblOk_nil)
theorem o203 : Holds Tryz.prog 203 c203 := fn_holds (code := Tryz.f203.body.getD .skip) (by kernel_rfl) gamOk k203 Tryz.func203 (by kernel_rfl) (by kernel_rfl) (by kernel_rfl) (by kernel_rfl) v203 (fun x _ h => (r203 x).trans h)
/-! ### 145: loop.example/g00076/laws.eqPartRow -/
noncomputable def t145 : Tbl := [(202, [], c202), (203, [], c203)]
noncomputable def a145 : Nat → Option LoopAnn := fun _ => none
noncomputable def g145 (x0 : Ta102) (x1 : Ta102) : Option ((Bool × Unit) × Unit) :=
  bif (!strEq x0.1 x1.1) then
    some ((false, ()), ())
  else
    bif (x0.2.1 != x1.2.1) then
      some ((false, ()), ())
    else
      bif (!(f202 x0.2.2.1 x1.2.2.1)) then
        some ((false, ()), ())
      else
        (g203 x0.2.2.2.1 x1.2.2.2.1).bind fun y1 =>
          bif (!y1.1.1) then
            some ((false, ()), ())
          else
            some ((true, ()), ())
noncomputable def c145 : Ctr := { ins := [.v Ty153, .v Ty153], out := [.bool], F := fun x => g145 x.1 x.2.1 }
theorem v145 : LoopsOk Tryz.prog Γ t145 a145 (loopsIn (Tryz.f145.body.getD .skip) 0) := loopsOk_nil (by kernel_rfl)
theorem r145 (x : InsT c145.ins) : fnK Tryz.prog Γ t145 a145 Tryz.f145 c145 x = g145 x.1 x.2.1 := by kernel_rfl
theorem k145 : TblOk Tryz.prog t145 := tblOk_cons o202 (tblOk_cons o203 (tblOk_nil))
theorem o145 : Holds Tryz.prog 145 c145 := fn_holds (code := Tryz.f145.body.getD .skip) (by kernel_rfl) gamOk k145 Tryz.func145 (by kernel_rfl) (by kernel_rfl) (by kernel_rfl) (by kernel_rfl) v145 (fun x _ h => (r145 x).trans h)
/-! ### 69: loop.example/g00076/laws.eqPartRowS -/
noncomputable def t69 : Tbl := [(145, [], c145)]
abbrev h69_L0 : Shape := { slots := [(0, .v Ty154), (1, .v Ty154), (5, .v (.int .i64))], boxes := [] }
abbrev e69_L0 : List (XT × Shape) := [(.ret, { slots := [(4, .v .bool)], boxes := [] }), (.exit 0, { slots := [], boxes := [] })]
noncomputable def q69_L0 (t0 : Ta107) (t1 : Ta107) (t5 : Int) : Option (Ta165 ⊕ (((Bool × Unit) × Unit) ⊕ ((Unit × Unit) ⊕ Empty))) :=
  bif (decide (t5 < (t0.len : Int))) then
    bif (decide (0 ≤ t5) && decide (t5 < (t0.len : Int))) then
      bif (decide (0 ≤ t5) && decide (t5 < (t1.len : Int))) then
        (g145 (L.get t0 t5.toNat) (L.get t1 t5.toNat)).bind fun y1 =>
          bif (!y1.1.1) then
            some (.inr (.inl ((false, ()), ())))
          else
            some (.inl ((t0, (t1, ((wI (t5 + (1 : Int))), ()))), ()))
      else
        none
    else
      none
  else
    some (.inr (.inr (.inl ((), ()))))
noncomputable def s69_L0 (x : Ta165) : Option (Ta165 ⊕ (((Bool × Unit) × Unit) ⊕ ((Unit × Unit) ⊕ Empty))) := q69_L0 x.1.1 x.1.2.1 x.1.2.2.1
noncomputable def a69 : Nat → Option LoopAnn := fun c => bif Nat.beq c 0 then some (.fix h69_L0 e69_L0 s69_L0) else none
noncomputable def g69 (x0 : Ta107) (x1 : Ta107) : Option ((Bool × Unit) × Unit) :=
  bif ((x0.len : Int) != (x1.len : Int)) then
    some ((false, ()), ())
  else
    (fixO s69_L0 ((x0, (x1, ((0 : Int), ()))), ())).bind fun d3 => match d3 with
    | .inl y2 =>
      some ((y2.1.1, ()), ())
    | .inr (.inl y2) =>
      some ((true, ()), ())
    | .inr (.inr e) => nomatch e
noncomputable def c69 : Ctr := { ins := [.v Ty154, .v Ty154], out := [.bool], F := fun x => g69 x.1 x.2.1 }
noncomputable def l69 : List (Nat × Code) := loopsIn (Tryz.f69.body.getD .skip) 0
theorem w69_L0 (x : h69_L0.T) : runK Tryz.prog Γ t69 a69 (l69.getD 0 (0, .skip)).2 0 (pkSh h69_L0 x) (loopCls (sh := h69_L0) (es := e69_L0)) = (s69_L0 x : Option _) := by kernel_rfl
theorem v69 : LoopsOk Tryz.prog Γ t69 a69 (loopsIn (Tryz.f69.body.getD .skip) 0) := by
  have e : loopsIn (Tryz.f69.body.getD .skip) 0 = [(0, (l69.getD 0 (0, .skip)).2)] := by kernel_rfl
  rw [e]
  exact ⟨fun x d h => (w69_L0 x).trans h, trivial⟩
theorem r69 (x : InsT c69.ins) : fnK Tryz.prog Γ t69 a69 Tryz.f69 c69 x = g69 x.1 x.2.1 := by kernel_rfl
theorem k69 : TblOk Tryz.prog t69 := tblOk_cons o145 (tblOk_nil)
theorem o69 : Holds Tryz.prog 69 c69 := fn_holds (code := Tryz.f69.body.getD .skip) (by kernel_rfl) gamOk k69 Tryz.func69 (by kernel_rfl) (by kernel_rfl) (by kernel_rfl) (by kernel_rfl) v69 (fun x _ h => (r69 x).trans h)
/-! ### 70: loop.example/g00076/laws.eqIntS -/
noncomputable def t70 : Tbl := []
abbrev h70_L0 : Shape := { slots := [(0, .v (.sl (.int .i64))), (1, .v (.sl (.int .i64))), (5, .v (.int .i64))], boxes := [] }
abbrev e70_L0 : List (XT × Shape) := [(.ret, { slots := [(4, .v .bool)], boxes := [] }), (.exit 0, { slots := [], boxes := [] })]
noncomputable def q70_L0 (t0 : (L Int)) (t1 : (L Int)) (t5 : Int) : Option (Ta35 ⊕ (((Bool × Unit) × Unit) ⊕ ((Unit × Unit) ⊕ Empty))) :=
  bif (decide (t5 < (t0.len : Int))) then
    bif (decide (0 ≤ t5) && decide (t5 < (t0.len : Int))) then
      bif (decide (0 ≤ t5) && decide (t5 < (t1.len : Int))) then
        bif ((L.get t0 t5.toNat) != (L.get t1 t5.toNat)) then
          some (.inr (.inl ((false, ()), ())))
        else
          some (.inl ((t0, (t1, ((wI (t5 + (1 : Int))), ()))), ()))
      else
        none
    else
      none
  else
    some (.inr (.inr (.inl ((), ()))))
noncomputable def s70_L0 (x : Ta35) : Option (Ta35 ⊕ (((Bool × Unit) × Unit) ⊕ ((Unit × Unit) ⊕ Empty))) := q70_L0 x.1.1 x.1.2.1 x.1.2.2.1
noncomputable def a70 : Nat → Option LoopAnn := fun c => bif Nat.beq c 0 then some (.fix h70_L0 e70_L0 s70_L0) else none
noncomputable def g70 (x0 : (L Int)) (x1 : (L Int)) : Option ((Bool × Unit) × Unit) :=
  bif ((x0.len : Int) != (x1.len : Int)) then
    some ((false, ()), ())
  else
    (fixO s70_L0 ((x0, (x1, ((0 : Int), ()))), ())).bind fun d2 => match d2 with
    | .inl y1 =>
      some ((y1.1.1, ()), ())
    | .inr (.inl y1) =>
      some ((true, ()), ())
    | .inr (.inr e) => nomatch e
noncomputable def c70 : Ctr := { ins := [.v (.sl (.int .i64)), .v (.sl (.int .i64))], out := [.bool], F := fun x => g70 x.1 x.2.1 }
noncomputable def l70 : List (Nat × Code) := loopsIn (Tryz.f70.body.getD .skip) 0
theorem w70_L0 (x : h70_L0.T) : runK Tryz.prog Γ t70 a70 (l70.getD 0 (0, .skip)).2 0 (pkSh h70_L0 x) (loopCls (sh := h70_L0) (es := e70_L0)) = (s70_L0 x : Option _) := by kernel_rfl
theorem v70 : LoopsOk Tryz.prog Γ t70 a70 (loopsIn (Tryz.f70.body.getD .skip) 0) := by
  have e : loopsIn (Tryz.f70.body.getD .skip) 0 = [(0, (l70.getD 0 (0, .skip)).2)] := by kernel_rfl
  rw [e]
  exact ⟨fun x d h => (w70_L0 x).trans h, trivial⟩
theorem r70 (x : InsT c70.ins) : fnK Tryz.prog Γ t70 a70 Tryz.f70 c70 x = g70 x.1 x.2.1 := by kernel_rfl
theorem k70 : TblOk Tryz.prog t70 := tblOk_nil
theorem o70 : Holds Tryz.prog 70 c70 := fn_holds (code := Tryz.f70.body.getD .skip) (by kernel_rfl) gamOk k70 Tryz.func70 (by kernel_rfl) (by kernel_rfl) (by kernel_rfl) (by kernel_rfl) v70 (fun x _ h => (r70 x).trans h)
/-! ### 146: loop.example/g00076/laws.eqChanRow -/
noncomputable def t146 : Tbl := []
noncomputable def a146 : Nat → Option LoopAnn := fun _ => none
noncomputable def g146 (x0 : Ta16) (x1 : Ta16) : Option ((Bool × Unit) × Unit) :=
  bif (x0.1 != x1.1) then
    some ((false, ()), ())
  else
    bif (x0.2.1 != x1.2.1) then
      some ((false, ()), ())
    else
      bif (x0.2.2.1 != x1.2.2.1) then
        some ((false, ()), ())
      else
        bif (x0.2.2.2.1 != x1.2.2.2.1) then
          some ((false, ()), ())
        else
          some ((true, ()), ())
noncomputable def f146 (x0 : Ta16) (x1 : Ta16) : Bool :=
  bif (x0.1 != x1.1) then
    false
  else
    bif (x0.2.1 != x1.2.1) then
      false
    else
      bif (x0.2.2.1 != x1.2.2.1) then
        false
      else
        bif (x0.2.2.2.1 != x1.2.2.2.1) then
          false
        else
          true
theorem n146 (x0 : Ta16) (x1 : Ta16) : g146 x0 x1 = some ((f146 x0 x1, ()), ()) := by
  simp only [g146, f146, pull1]
noncomputable def c146 : Ctr := { ins := [.v Ty99, .v Ty99], out := [.bool], F := fun x => some ((f146 x.1 x.2.1, ()), ()) }
theorem v146 : LoopsOk Tryz.prog Γ t146 a146 (loopsIn (Tryz.f146.body.getD .skip) 0) := loopsOk_nil (by kernel_rfl)
theorem r146 (x : InsT c146.ins) : fnK Tryz.prog Γ t146 a146 Tryz.f146 c146 x = g146 x.1 x.2.1 := by kernel_rfl
theorem k146 : TblOk Tryz.prog t146 := tblOk_nil
theorem o146 : Holds Tryz.prog 146 c146 := fn_holds (code := Tryz.f146.body.getD .skip) (by kernel_rfl) gamOk k146 Tryz.func146 (by kernel_rfl) (by kernel_rfl) (by kernel_rfl) (by kernel_rfl) v146 (fun x _ h => (r146 x).trans ((n146 x.1 x.2.1).trans h))
/-! ### 71: loop.example/g00076/laws.eqChanRowS -/
noncomputable def t71 : Tbl := [(146, [], c146)]
abbrev h71_L0 : Shape := { slots := [(0, .v Ty105), (1, .v Ty105), (5, .v (.int .i64))], boxes := [] }
abbrev e71_L0 : List (XT × Shape) := [(.ret, { slots := [(4, .v .bool)], boxes := [] }), (.exit 0, { slots := [], boxes := [] })]
noncomputable def q71_L0 (t0 : Ta26) (t1 : Ta26) (t5 : Int) : Option (Ta124 ⊕ (((Bool × Unit) × Unit) ⊕ ((Unit × Unit) ⊕ Empty))) :=
  bif (decide (t5 < (t0.len : Int))) then
    bif (decide (0 ≤ t5) && decide (t5 < (t0.len : Int))) then
      bif (decide (0 ≤ t5) && decide (t5 < (t1.len : Int))) then
        bif (!(f146 (L.get t0 t5.toNat) (L.get t1 t5.toNat))) then
          some (.inr (.inl ((false, ()), ())))
        else
          some (.inl ((t0, (t1, ((wI (t5 + (1 : Int))), ()))), ()))
      else
        none
    else
      none
  else
    some (.inr (.inr (.inl ((), ()))))
noncomputable def s71_L0 (x : Ta124) : Option (Ta124 ⊕ (((Bool × Unit) × Unit) ⊕ ((Unit × Unit) ⊕ Empty))) := q71_L0 x.1.1 x.1.2.1 x.1.2.2.1
noncomputable def a71 : Nat → Option LoopAnn := fun c => bif Nat.beq c 0 then some (.fix h71_L0 e71_L0 s71_L0) else none
noncomputable def g71 (x0 : Ta26) (x1 : Ta26) : Option ((Bool × Unit) × Unit) :=
  bif ((x0.len : Int) != (x1.len : Int)) then
    some ((false, ()), ())
  else
    (fixO s71_L0 ((x0, (x1, ((0 : Int), ()))), ())).bind fun d2 => match d2 with
    | .inl y1 =>
      some ((y1.1.1, ()), ())
    | .inr (.inl y1) =>
      some ((true, ()), ())
    | .inr (.inr e) => nomatch e
noncomputable def c71 : Ctr := { ins := [.v Ty105, .v Ty105], out := [.bool], F := fun x => g71 x.1 x.2.1 }
noncomputable def l71 : List (Nat × Code) := loopsIn (Tryz.f71.body.getD .skip) 0
theorem w71_L0 (x : h71_L0.T) : runK Tryz.prog Γ t71 a71 (l71.getD 0 (0, .skip)).2 0 (pkSh h71_L0 x) (loopCls (sh := h71_L0) (es := e71_L0)) = (s71_L0 x : Option _) := by kernel_rfl
theorem v71 : LoopsOk Tryz.prog Γ t71 a71 (loopsIn (Tryz.f71.body.getD .skip) 0) := by
  have e : loopsIn (Tryz.f71.body.getD .skip) 0 = [(0, (l71.getD 0 (0, .skip)).2)] := by kernel_rfl
  rw [e]
  exact ⟨fun x d h => (w71_L0 x).trans h, trivial⟩
theorem r71 (x : InsT c71.ins) : fnK Tryz.prog Γ t71 a71 Tryz.f71 c71 x = g71 x.1 x.2.1 := by kernel_rfl
theorem k71 : TblOk Tryz.prog t71 := tblOk_cons o146 (tblOk_nil)
theorem o71 : Holds Tryz.prog 71 c71 := fn_holds (code := Tryz.f71.body.getD .skip) (by kernel_rfl) gamOk k71 Tryz.func71 (by kernel_rfl) (by kernel_rfl) (by kernel_rfl) (by kernel_rfl) v71 (fun x _ h => (r71 x).trans h)
/-! ### 147: loop.example/g00076/laws.eqSlot -/
noncomputable def t147 : Tbl := []
noncomputable def a147 : Nat → Option LoopAnn := fun _ => none
noncomputable def g147 (x0 : Ta5) (x1 : Ta5) : Option ((Bool × Unit) × Unit) :=
  bif (x0.1 != x1.1) then
    some ((false, ()), ())
  else
    bif (x0.2.1 != x1.2.1) then
      some ((false, ()), ())
    else
      bif (x0.2.2.1 != x1.2.2.1) then
        some ((false, ()), ())
      else
        some ((true, ()), ())
noncomputable def f147 (x0 : Ta5) (x1 : Ta5) : Bool :=
  bif (x0.1 != x1.1) then
    false
  else
    bif (x0.2.1 != x1.2.1) then
      false
    else
      bif (x0.2.2.1 != x1.2.2.1) then
        false
      else
        true
theorem n147 (x0 : Ta5) (x1 : Ta5) : g147 x0 x1 = some ((f147 x0 x1, ()), ()) := by
  simp only [g147, f147, pull1]
noncomputable def c147 : Ctr := { ins := [.v Ty68, .v Ty68], out := [.bool], F := fun x => some ((f147 x.1 x.2.1, ()), ()) }
theorem v147 : LoopsOk Tryz.prog Γ t147 a147 (loopsIn (Tryz.f147.body.getD .skip) 0) := loopsOk_nil (by kernel_rfl)
theorem r147 (x : InsT c147.ins) : fnK Tryz.prog Γ t147 a147 Tryz.f147 c147 x = g147 x.1 x.2.1 := by kernel_rfl
theorem k147 : TblOk Tryz.prog t147 := tblOk_nil
theorem o147 : Holds Tryz.prog 147 c147 := fn_holds (code := Tryz.f147.body.getD .skip) (by kernel_rfl) gamOk k147 Tryz.func147 (by kernel_rfl) (by kernel_rfl) (by kernel_rfl) (by kernel_rfl) v147 (fun x _ h => (r147 x).trans ((n147 x.1 x.2.1).trans h))
/-! ### 72: loop.example/g00076/laws.eqSlotS -/
noncomputable def t72 : Tbl := [(147, [], c147)]
abbrev h72_L0 : Shape := { slots := [(0, .v Ty79), (1, .v Ty79), (5, .v (.int .i64))], boxes := [] }
abbrev e72_L0 : List (XT × Shape) := [(.ret, { slots := [(4, .v .bool)], boxes := [] }), (.exit 0, { slots := [], boxes := [] })]
noncomputable def q72_L0 (t0 : Ta11) (t1 : Ta11) (t5 : Int) : Option (Ta109 ⊕ (((Bool × Unit) × Unit) ⊕ ((Unit × Unit) ⊕ Empty))) :=
  bif (decide (t5 < (t0.len : Int))) then
    bif (decide (0 ≤ t5) && decide (t5 < (t0.len : Int))) then
      bif (decide (0 ≤ t5) && decide (t5 < (t1.len : Int))) then
        bif (!(f147 (L.get t0 t5.toNat) (L.get t1 t5.toNat))) then
          some (.inr (.inl ((false, ()), ())))
        else
          some (.inl ((t0, (t1, ((wI (t5 + (1 : Int))), ()))), ()))
      else
        none
    else
      none
  else
    some (.inr (.inr (.inl ((), ()))))
noncomputable def s72_L0 (x : Ta109) : Option (Ta109 ⊕ (((Bool × Unit) × Unit) ⊕ ((Unit × Unit) ⊕ Empty))) := q72_L0 x.1.1 x.1.2.1 x.1.2.2.1
noncomputable def a72 : Nat → Option LoopAnn := fun c => bif Nat.beq c 0 then some (.fix h72_L0 e72_L0 s72_L0) else none
noncomputable def g72 (x0 : Ta11) (x1 : Ta11) : Option ((Bool × Unit) × Unit) :=
  bif ((x0.len : Int) != (x1.len : Int)) then
    some ((false, ()), ())
  else
    (fixO s72_L0 ((x0, (x1, ((0 : Int), ()))), ())).bind fun d2 => match d2 with
    | .inl y1 =>
      some ((y1.1.1, ()), ())
    | .inr (.inl y1) =>
      some ((true, ()), ())
    | .inr (.inr e) => nomatch e
noncomputable def c72 : Ctr := { ins := [.v Ty79, .v Ty79], out := [.bool], F := fun x => g72 x.1 x.2.1 }
noncomputable def l72 : List (Nat × Code) := loopsIn (Tryz.f72.body.getD .skip) 0
theorem w72_L0 (x : h72_L0.T) : runK Tryz.prog Γ t72 a72 (l72.getD 0 (0, .skip)).2 0 (pkSh h72_L0 x) (loopCls (sh := h72_L0) (es := e72_L0)) = (s72_L0 x : Option _) := by kernel_rfl
theorem v72 : LoopsOk Tryz.prog Γ t72 a72 (loopsIn (Tryz.f72.body.getD .skip) 0) := by
  have e : loopsIn (Tryz.f72.body.getD .skip) 0 = [(0, (l72.getD 0 (0, .skip)).2)] := by kernel_rfl
  rw [e]
  exact ⟨fun x d h => (w72_L0 x).trans h, trivial⟩
theorem r72 (x : InsT c72.ins) : fnK Tryz.prog Γ t72 a72 Tryz.f72 c72 x = g72 x.1 x.2.1 := by kernel_rfl
theorem k72 : TblOk Tryz.prog t72 := tblOk_cons o147 (tblOk_nil)
theorem o72 : Holds Tryz.prog 72 c72 := fn_holds (code := Tryz.f72.body.getD .skip) (by kernel_rfl) gamOk k72 Tryz.func72 (by kernel_rfl) (by kernel_rfl) (by kernel_rfl) (by kernel_rfl) v72 (fun x _ h => (r72 x).trans h)
/-! ### 17: loop.example/g00076/laws.eqTables -/
noncomputable def t17 : Tbl := [(67, [], c67), (68, [], c68), (69, [], c69), (70, [], c70), (71, [], c71), (72, [], c72)]
noncomputable def a17 : Nat → Option LoopAnn := fun _ => none
noncomputable def g17 (x0 : Ta174) (x1 : Ta174) : Option ((Bool × Unit) × Unit) :=
  bif (x0.1 != x1.1) then
    some ((false, ()), ())
  else
    bif (!(f67 x0.2.1 x1.2.1)) then
      some ((false, ()), ())
    else
      bif (x0.2.2.1 != x1.2.2.1) then
        some ((false, ()), ())
      else
        bif (!(f68 x0.2.2.2.1 x1.2.2.2.1)) then
          some ((false, ()), ())
        else
          bif (x0.2.2.2.2.1 != x1.2.2.2.2.1) then
            some ((false, ()), ())
          else
            bif (x0.2.2.2.2.2.1 != x1.2.2.2.2.2.1) then
              some ((false, ()), ())
            else
              bif (x0.2.2.2.2.2.2.1 != x1.2.2.2.2.2.2.1) then
                some ((false, ()), ())
              else
                (g69 x0.2.2.2.2.2.2.2.1 x1.2.2.2.2.2.2.2.1).bind fun y1 =>
                  bif (!y1.1.1) then
                    some ((false, ()), ())
                  else
                    (g70 x0.2.2.2.2.2.2.2.2.1 x1.2.2.2.2.2.2.2.2.1).bind fun y2 =>
                      bif (!y2.1.1) then
                        some ((false, ()), ())
                      else
                        (g71 x0.2.2.2.2.2.2.2.2.2.1 x1.2.2.2.2.2.2.2.2.2.1).bind fun y3 =>
                          bif (!y3.1.1) then
                            some ((false, ()), ())
                          else
                            (g72 x0.2.2.2.2.2.2.2.2.2.2.1 x1.2.2.2.2.2.2.2.2.2.2.1).bind fun y4 =>
                              bif (!y4.1.1) then
                                some ((false, ()), ())
                              else
                                some ((true, ()), ())
noncomputable def c17 : Ctr := { ins := [.v Ty190, .v Ty190], out := [.bool], F := fun x => g17 x.1 x.2.1 }
theorem v17 : LoopsOk Tryz.prog Γ t17 a17 (loopsIn (Tryz.f17.body.getD .skip) 0) := loopsOk_nil (by kernel_rfl)
theorem r17 (x : InsT c17.ins) : fnK Tryz.prog Γ t17 a17 Tryz.f17 c17 x = g17 x.1 x.2.1 := by kernel_rfl
theorem k17 : TblOk Tryz.prog t17 := tblOk_cons o67 (tblOk_cons o68 (tblOk_cons o69 (tblOk_cons o70 (tblOk_cons o71 (tblOk_cons o72 (tblOk_nil))))))
theorem o17 : Holds Tryz.prog 17 c17 := fn_holds (code := Tryz.f17.body.getD .skip) (by kernel_rfl) gamOk k17 Tryz.func17 (by kernel_rfl) (by kernel_rfl) (by kernel_rfl) (by kernel_rfl) v17 (fun x _ h => (r17 x).trans h)
/-! ### 218: loop.example/g00076/laws.eqWay -/
noncomputable def t218 : Tbl := []
noncomputable def a218 : Nat → Option LoopAnn := fun _ => none
noncomputable def g218 (x0 : (Int × (Bool × Unit))) (x1 : (Int × (Bool × Unit))) : Option ((Bool × Unit) × Unit) :=
  bif (x0.1 != x1.1) then
    some ((false, ()), ())
  else
    bif (!(x0.2.1 == x1.2.1)) then
      some ((false, ()), ())
    else
      some ((true, ()), ())
noncomputable def f218 (x0 : (Int × (Bool × Unit))) (x1 : (Int × (Bool × Unit))) : Bool :=
  bif (x0.1 != x1.1) then
    false
  else
    bif (!(x0.2.1 == x1.2.1)) then
      false
    else
      true
theorem n218 (x0 : (Int × (Bool × Unit))) (x1 : (Int × (Bool × Unit))) : g218 x0 x1 = some ((f218 x0 x1, ()), ()) := by
  simp only [g218, f218, pull1]
noncomputable def c218 : Ctr := { ins := [.v Ty24, .v Ty24], out := [.bool], F := fun x => some ((f218 x.1 x.2.1, ()), ()) }
theorem v218 : LoopsOk Tryz.prog Γ t218 a218 (loopsIn (Tryz.f218.body.getD .skip) 0) := loopsOk_nil (by kernel_rfl)
theorem r218 (x : InsT c218.ins) : fnK Tryz.prog Γ t218 a218 Tryz.f218 c218 x = g218 x.1 x.2.1 := by kernel_rfl
theorem k218 : TblOk Tryz.prog t218 := tblOk_nil
theorem o218 : Holds Tryz.prog 218 c218 := fn_holds (code := Tryz.f218.body.getD .skip) (by kernel_rfl) gamOk k218 Tryz.func218 (by kernel_rfl) (by kernel_rfl) (by kernel_rfl) (by kernel_rfl) v218 (fun x _ h => (r218 x).trans ((n218 x.1 x.2.1).trans h))
/-! ### 169: loop.example/g00076/laws.eqWayS -/
noncomputable def t169 : Tbl := [(218, [], c218)]
abbrev h169_L0 : Shape := { slots := [(0, .v Ty33), (1, .v Ty33), (5, .v (.int .i64))], boxes := [] }
abbrev e169_L0 : List (XT × Shape) := [(.ret, { slots := [(4, .v .bool)], boxes := [] }), (.exit 0, { slots := [], boxes := [] })]
noncomputable def q169_L0 (t0 : Ta2) (t1 : Ta2) (t5 : Int) : Option (Ta93 ⊕ (((Bool × Unit) × Unit) ⊕ ((Unit × Unit) ⊕ Empty))) :=
  bif (decide (t5 < (t0.len : Int))) then
    bif (decide (0 ≤ t5) && decide (t5 < (t0.len : Int))) then
      bif (decide (0 ≤ t5) && decide (t5 < (t1.len : Int))) then
        bif (!(f218 (L.get t0 t5.toNat) (L.get t1 t5.toNat))) then
          some (.inr (.inl ((false, ()), ())))
        else
          some (.inl ((t0, (t1, ((wI (t5 + (1 : Int))), ()))), ()))
      else
        none
    else
      none
  else
    some (.inr (.inr (.inl ((), ()))))
noncomputable def s169_L0 (x : Ta93) : Option (Ta93 ⊕ (((Bool × Unit) × Unit) ⊕ ((Unit × Unit) ⊕ Empty))) := q169_L0 x.1.1 x.1.2.1 x.1.2.2.1
noncomputable def a169 : Nat → Option LoopAnn := fun c => bif Nat.beq c 0 then some (.fix h169_L0 e169_L0 s169_L0) else none
noncomputable def g169 (x0 : Ta2) (x1 : Ta2) : Option ((Bool × Unit) × Unit) :=
  bif ((x0.len : Int) != (x1.len : Int)) then
    some ((false, ()), ())
  else
    (fixO s169_L0 ((x0, (x1, ((0 : Int), ()))), ())).bind fun d2 => match d2 with
    | .inl y1 =>
      some ((y1.1.1, ()), ())
    | .inr (.inl y1) =>
      some ((true, ()), ())
    | .inr (.inr e) => nomatch e
noncomputable def c169 : Ctr := { ins := [.v Ty33, .v Ty33], out := [.bool], F := fun x => g169 x.1 x.2.1 }
noncomputable def l169 : List (Nat × Code) := loopsIn (Tryz.f169.body.getD .skip) 0
theorem w169_L0 (x : h169_L0.T) : runK Tryz.prog Γ t169 a169 (l169.getD 0 (0, .skip)).2 0 (pkSh h169_L0 x) (loopCls (sh := h169_L0) (es := e169_L0)) = (s169_L0 x : Option _) := by kernel_rfl
theorem v169 : LoopsOk Tryz.prog Γ t169 a169 (loopsIn (Tryz.f169.body.getD .skip) 0) := by
  have e : loopsIn (Tryz.f169.body.getD .skip) 0 = [(0, (l169.getD 0 (0, .skip)).2)] := by kernel_rfl
  rw [e]
  exact ⟨fun x d h => (w169_L0 x).trans h, trivial⟩
theorem r169 (x : InsT c169.ins) : fnK Tryz.prog Γ t169 a169 Tryz.f169 c169 x = g169 x.1 x.2.1 := by kernel_rfl
theorem k169 : TblOk Tryz.prog t169 := tblOk_cons o218 (tblOk_nil)
theorem o169 : Holds Tryz.prog 169 c169 := fn_holds (code := Tryz.f169.body.getD .skip) (by kernel_rfl) gamOk k169 Tryz.func169 (by kernel_rfl) (by kernel_rfl) (by kernel_rfl) (by kernel_rfl) v169 (fun x _ h => (r169 x).trans h)
/-! ### 102: loop.example/g00076/laws.eqWaySS -/
noncomputable def t102 : Tbl := [(169, [], c169)]
abbrev h102_L0 : Shape := { slots := [(0, .v Ty46), (1, .v Ty46), (5, .v (.int .i64))], boxes := [] }
abbrev e102_L0 : List (XT × Shape) := [(.ret, { slots := [(4, .v .bool)], boxes := [] }), (.exit 0, { slots := [], boxes := [] })]
noncomputable def q102_L0 (t0 : Ta6) (t1 : Ta6) (t5 : Int) : Option (Ta103 ⊕ (((Bool × Unit) × Unit) ⊕ ((Unit × Unit) ⊕ Empty))) :=
  bif (decide (t5 < (t0.len : Int))) then
    bif (decide (0 ≤ t5) && decide (t5 < (t0.len : Int))) then
      bif (decide (0 ≤ t5) && decide (t5 < (t1.len : Int))) then
        (g169 (L.get t0 t5.toNat) (L.get t1 t5.toNat)).bind fun y1 =>
          bif (!y1.1.1) then
            some (.inr (.inl ((false, ()), ())))
          else
            some (.inl ((t0, (t1, ((wI (t5 + (1 : Int))), ()))), ()))
      else
        none
    else
      none
  else
    some (.inr (.inr (.inl ((), ()))))
noncomputable def s102_L0 (x : Ta103) : Option (Ta103 ⊕ (((Bool × Unit) × Unit) ⊕ ((Unit × Unit) ⊕ Empty))) := q102_L0 x.1.1 x.1.2.1 x.1.2.2.1
noncomputable def a102 : Nat → Option LoopAnn := fun c => bif Nat.beq c 0 then some (.fix h102_L0 e102_L0 s102_L0) else none
noncomputable def g102 (x0 : Ta6) (x1 : Ta6) : Option ((Bool × Unit) × Unit) :=
  bif ((x0.len : Int) != (x1.len : Int)) then
    some ((false, ()), ())
  else
    (fixO s102_L0 ((x0, (x1, ((0 : Int), ()))), ())).bind fun d3 => match d3 with
    | .inl y2 =>
      some ((y2.1.1, ()), ())
    | .inr (.inl y2) =>
      some ((true, ()), ())
    | .inr (.inr e) => nomatch e
noncomputable def c102 : Ctr := { ins := [.v Ty46, .v Ty46], out := [.bool], F := fun x => g102 x.1 x.2.1 }
noncomputable def l102 : List (Nat × Code) := loopsIn (Tryz.f102.body.getD .skip) 0
theorem w102_L0 (x : h102_L0.T) : runK Tryz.prog Γ t102 a102 (l102.getD 0 (0, .skip)).2 0 (pkSh h102_L0 x) (loopCls (sh := h102_L0) (es := e102_L0)) = (s102_L0 x : Option _) := by kernel_rfl
theorem v102 : LoopsOk Tryz.prog Γ t102 a102 (loopsIn (Tryz.f102.body.getD .skip) 0) := by
  have e : loopsIn (Tryz.f102.body.getD .skip) 0 = [(0, (l102.getD 0 (0, .skip)).2)] := by kernel_rfl
  rw [e]
  exact ⟨fun x d h => (w102_L0 x).trans h, trivial⟩
theorem r102 (x : InsT c102.ins) : fnK Tryz.prog Γ t102 a102 Tryz.f102 c102 x = g102 x.1 x.2.1 := by kernel_rfl
theorem k102 : TblOk Tryz.prog t102 := tblOk_cons o169 (tblOk_nil)
theorem o102 : Holds Tryz.prog 102 c102 := fn_holds (code := Tryz.f102.body.getD .skip) (by kernel_rfl) gamOk k102 Tryz.func102 (by kernel_rfl) (by kernel_rfl) (by kernel_rfl) (by kernel_rfl) v102 (fun x _ h => (r102 x).trans h)
/-! ### 46: loop.example/g00076/laws.eqCache -/
noncomputable def t46 : Tbl := [(67, [], c67), (102, [], c102)]
noncomputable def a46 : Nat → Option LoopAnn := fun _ => none
noncomputable def g46 (x0 : Ta80) (x1 : Ta80) : Option ((Bool × Unit) × Unit) :=
  bif (!(f67 x0.1 x1.1)) then
    some ((false, ()), ())
  else
    (g102 x0.2.1 x1.2.1).bind fun y1 =>
      bif (!y1.1.1) then
        some ((false, ()), ())
      else
        some ((true, ()), ())
noncomputable def c46 : Ctr := { ins := [.v Ty134, .v Ty134], out := [.bool], F := fun x => g46 x.1 x.2.1 }
theorem v46 : LoopsOk Tryz.prog Γ t46 a46 (loopsIn (Tryz.f46.body.getD .skip) 0) := loopsOk_nil (by kernel_rfl)
theorem r46 (x : InsT c46.ins) : fnK Tryz.prog Γ t46 a46 Tryz.f46 c46 x = g46 x.1 x.2.1 := by kernel_rfl
theorem k46 : TblOk Tryz.prog t46 := tblOk_cons o67 (tblOk_cons o102 (tblOk_nil))
theorem o46 : Holds Tryz.prog 46 c46 := fn_holds (code := Tryz.f46.body.getD .skip) (by kernel_rfl) gamOk k46 Tryz.func46 (by kernel_rfl) (by kernel_rfl) (by kernel_rfl) (by kernel_rfl) v46 (fun x _ h => (r46 x).trans h)
/-! ### 11: loop.example/g00076/laws.FnExactSwitchWork -/
noncomputable def t11 : Tbl := [(13, [], c13), (41, [], c41), (15, [], c15), (43, [], c43), (42, [], c42), (44, [], c44), (45, [], c45), (17, [], c17), (46, [], c46)]
noncomputable def a11 : Nat → Option LoopAnn := fun _ => none
noncomputable def g11 (x0 : Ta174) (x1 : Ta80) (x2 : Int) : Option ((Bool × Unit) × Unit) :=
  (g13 x0 (1048576 : Int)).bind fun y1 =>
    bif (decide (y1.1.1 < (0 : Int))) then
      some ((true, ()), ())
    else
      (g41 x1 y1.1.1).bind fun y2 =>
        bif (decide (y2.1.1 < (0 : Int))) then
          some ((true, ()), ())
        else
          (g15 x0).bind fun y3 =>
            (g43 x1).bind fun y4 =>
              (g42 y3.1.1 y4.1.1 x2).bind fun y5 =>
                (g15 x0).bind fun y6 =>
                  (g43 x1).bind fun y7 =>
                    (g44 y6.1.1 y7.1.1 x2).bind fun y8 =>
                      bif (!(f45 y8.1.1 y5.1.1)) then
                        some ((false, ()), ())
                      else
                        (g15 x0).bind fun y9 =>
                          (g17 y6.1.1 y9.1.1).bind fun y10 =>
                            bif (!y10.1.1) then
                              some ((false, ()), ())
                            else
                              (g43 x1).bind fun y11 =>
                                (g46 y7.1.1 y11.1.1).bind fun y12 =>
                                  bif (!y12.1.1) then
                                    some ((false, ()), ())
                                  else
                                    some ((true, ()), ())
noncomputable def c11 : Ctr := { ins := [.v Ty190, .v Ty134, .v (.int .i64)], out := [.bool], F := fun x => g11 x.1 x.2.1 x.2.2.1 }
theorem v11 : LoopsOk Tryz.prog Γ t11 a11 (loopsIn (Tryz.f11.body.getD .skip) 0) := loopsOk_nil (by kernel_rfl)
theorem r11 (x : InsT c11.ins) : fnK Tryz.prog Γ t11 a11 Tryz.f11 c11 x = g11 x.1 x.2.1 x.2.2.1 := by kernel_rfl
theorem k11 : TblOk Tryz.prog t11 := tblOk_cons o13 (tblOk_cons o41 (tblOk_cons o15 (tblOk_cons o43 (tblOk_cons o42 (tblOk_cons o44 (tblOk_cons o45 (tblOk_cons o17 (tblOk_cons o46 (tblOk_nil)))))))))
theorem o11 : Holds Tryz.prog 11 c11 := fn_holds (code := Tryz.f11.body.getD .skip) (by kernel_rfl) gamOk k11 Tryz.func11 (by kernel_rfl) (by kernel_rfl) (by kernel_rfl) (by kernel_rfl) v11 (fun x _ h => (r11 x).trans h)
end Go.VE.VFnExactSwitchWork
