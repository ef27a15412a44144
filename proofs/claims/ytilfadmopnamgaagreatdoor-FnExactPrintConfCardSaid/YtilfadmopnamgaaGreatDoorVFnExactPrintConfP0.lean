import Derived.Shelf.Strconv.Itoa3
import Derived.Test.YtilfadmopnamgaaGreatDoorVhZ
import Derived.Test.YtilfadmopnamgaaGreatDoorProg
/- What the functions do that laws.FnExactPrintConf reaches, as plain functions, and that they do it. -/
set_option linter.unusedVariables false
set_option linter.unusedSimpArgs false
namespace Go.VE.VFnExactPrintConf
open Go.Proofs Go.VE
abbrev Ta0 : Type := ((L Int) × (Int × Unit))
abbrev Ty1 : Ty := (.pair (.int .i64) .unit)
abbrev Ta2 : Type := (ByteArray × (Int × Unit))
abbrev Ta3 : Type := ((ByteArray × Unit) × Unit)
abbrev Ta4 : Type := (Unit × (ByteArray × Unit))
abbrev Ta5 : Type := (Int × (Int × (Int × Unit)))
abbrev Ta6 : Type := (Unit × (Int × (Int × Unit)))
abbrev Ta7 : Type := (Unit × (Bool × (Int × Unit)))
abbrev Ta8 : Type := (Bool × (Bool × (Bool × Unit)))
abbrev Ta9 : Type := (L Ta5)
abbrev Ta10 : Type := ((L Int) × (Int × (Int × Unit)))
abbrev Ta11 : Type := ((L Int) × (Unit × (Int × Unit)))
abbrev Ta12 : Type := (Int × Ta2)
abbrev Ta13 : Type := (ByteArray × (Int × (Int × Unit)))
abbrev Ta14 : Type := (Ta2 × Unit)
abbrev Ta15 : Type := (Unit × Ta2)
abbrev Ta16 : Type := (Int × Ta5)
abbrev Ta17 : Type := ((L Int) × Ta0)
abbrev Ta18 : Type := (Ta5 × Unit)
abbrev Ta19 : Type := ((Int × Unit) × (Int × (Int × Unit)))
abbrev Ta20 : Type := (Int × Ta7)
abbrev Ta21 : Type := (ByteArray × Ta0)
abbrev Ta22 : Type := (L Ta16)
abbrev Ta23 : Type := (Ta9 × Unit)
abbrev Ta24 : Type := (Ta12 × Unit)
abbrev Ta25 : Type := (Unit × Ta13)
abbrev Ta26 : Type := (Ta13 × Unit)
abbrev Ta27 : Type := ((ByteArray × Unit) × (Int × (Int × Unit)))
abbrev Ta28 : Type := (Int × Ta16)
abbrev Ty29 : Ty := (.pair (.int .i64) Ty1)
abbrev Ta30 : Type := (Ta17 × Unit)
abbrev Ta31 : Type := (Ta18 × Unit)
abbrev Ta32 : Type := (ByteArray × Ta10)
abbrev Ta33 : Type := (Ta21 × Unit)
abbrev Ta34 : Type := (Ta22 × Unit)
abbrev Ta35 : Type := (Ta9 × (Int × Unit))
abbrev Ta36 : Type := ((L Int) × Ta19)
abbrev Ta37 : Type := (Ta23 × Unit)
abbrev Ta38 : Type := (Int × Ta28)
abbrev Ta39 : Type := (Ta11 × ((L Int) × Unit))
abbrev Ta40 : Type := (Ta32 × Unit)
abbrev Ta41 : Type := (Unit × Ta32)
abbrev Ta42 : Type := (Ta9 × (Int × (Int × Unit)))
abbrev Ta43 : Type := (Ta22 × (Int × Unit))
abbrev Ta44 : Type := (Ta9 × (Unit × (Int × Unit)))
abbrev Ta45 : Type := (Ta35 × Unit)
abbrev Ta46 : Type := (Ta36 × Unit)
abbrev Ta47 : Type := ((Unit × Unit) × Ta23)
abbrev Ta48 : Type := (Int × Ta38)
abbrev Ta49 : Type := (Ta18 × (Int × (Int × Unit)))
abbrev Ty50 : Ty := (.pair (.int .i64) Ty29)
abbrev Ta51 : Type := (Int × Ta42)
abbrev Ta52 : Type := (Ta22 × (Int × (Int × Unit)))
abbrev Ta53 : Type := ((Int × (Int × Unit)) × Ta23)
abbrev Ta54 : Type := (Ta22 × (Unit × (Int × Unit)))
abbrev Ta55 : Type := (Ta42 × Unit)
abbrev Ta56 : Type := (Ta48 × Unit)
abbrev Ty57 : Ty := (.sl Ty50)
abbrev Ta58 : Type := (ByteArray × Ta42)
abbrev Ta59 : Type := (Int × Ta51)
abbrev Ta60 : Type := (Int × Ta52)
abbrev Ta61 : Type := (Int × Ta53)
abbrev Ta62 : Type := (Ta22 × Ta6)
abbrev Ta63 : Type := (Ta9 × Ta19)
abbrev Ta64 : Type := (Unit × Ta51)
abbrev Ta65 : Type := (ByteArray × Ta52)
abbrev Ta66 : Type := (Unit × Ta58)
abbrev Ta67 : Type := (Ta22 × Ta19)
abbrev Ta68 : Type := (Unit × Ta60)
abbrev Ta69 : Type := (Ta63 × Unit)
abbrev Ty70 : Ty := (.pair Ty57 .unit)
abbrev Ty71 : Ty := (.pair (.int .i64) Ty50)
abbrev Ta72 : Type := (Ta22 × Ta23)
abbrev Ta73 : Type := (Ta9 × Ta35)
abbrev Ta74 : Type := (ByteArray × Ta61)
abbrev Ta75 : Type := (Unit × Ta65)
abbrev Ty76 : Ty := (.sl Ty71)
abbrev Ta77 : Type := (Ta67 × Unit)
abbrev Ta78 : Type := (L Ta74)
abbrev Ta79 : Type := ((Unit × (Int × Unit)) × Ta56)
abbrev Ta80 : Type := (Ta73 × Unit)
abbrev Ta81 : Type := (Ta74 × Unit)
abbrev Ta82 : Type := ((L Int) × Ta72)
abbrev Ta83 : Type := (Ta9 × Ta49)
abbrev Ta84 : Type := (Ta78 × Unit)
abbrev Ta85 : Type := (Ta22 × Ta43)
abbrev Ta86 : Type := (Ta6 × Ta56)
abbrev Ta87 : Type := (Ta44 × Ta23)
abbrev Ty88 : Ty := (.pair (.int .i64) Ty71)
abbrev Ta89 : Type := (Ta83 × Unit)
abbrev Ta90 : Type := (Ta78 × (Int × Unit))
abbrev Ta91 : Type := (Ta85 × Unit)
abbrev Ta92 : Type := (Ta78 × (Int × (Int × Unit)))
abbrev Ta93 : Type := (Ta78 × (Unit × (Int × Unit)))
abbrev Ta94 : Type := (Ta54 × Ta34)
abbrev Ty95 : Ty := (.pair (.int .i64) Ty88)
abbrev Ta96 : Type := (Ta92 × Unit)
abbrev Ta97 : Type := (ByteArray × Ta92)
abbrev Ty98 : Ty := (.pair Ty29 Ty70)
abbrev Ta99 : Type := (Ta20 × Ta81)
abbrev Ta100 : Type := (Ta78 × Ta27)
abbrev Ta101 : Type := (Unit × Ta97)
abbrev Ty102 : Ty := (.pair (.int .i64) Ty95)
abbrev Ta103 : Type := (Ta78 × Ta35)
abbrev Ta104 : Type := (Ta62 × Ta56)
abbrev Ta105 : Type := (Ta100 × Unit)
abbrev Ta106 : Type := (Ta9 × Ta92)
abbrev Ta107 : Type := (Ta103 × Unit)
abbrev Ta108 : Type := (Ta68 × Ta56)
abbrev Ty109 : Ty := (.pair (.int .i64) Ty98)
abbrev Ta110 : Type := (Unit × Ta106)
abbrev Ta111 : Type := (Ta78 × Ta59)
abbrev Ty112 : Ty := (.pair .str Ty109)
abbrev Ty113 : Ty := (.sl Ty112)
abbrev Ta114 : Type := (Unit × Ta111)
abbrev Ty115 : Ty := (.pair Ty76 Ty70)
abbrev Ta116 : Type := (ByteArray × Ta114)
abbrev Ta117 : Type := (Ta78 × Ta82)
abbrev Ta118 : Type := (Unit × Ta116)
abbrev Ta119 : Type := (Int × Ta117)
abbrev Ta120 : Type := (Ta78 × Ta90)
abbrev Ta121 : Type := (Int × Ta119)
abbrev Ty122 : Ty := (.pair (.sl (.int .i64)) Ty115)
abbrev Ta123 : Type := (Ta120 × Unit)
abbrev Ta124 : Type := (Ta9 × Ta114)
abbrev Ta125 : Type := (Int × Ta121)
abbrev Ta126 : Type := (Ta93 × Ta84)
abbrev Ta127 : Type := (Unit × Ta124)
abbrev Ta128 : Type := (Ta48 × Ta125)
abbrev Ta129 : Type := (Int × Ta128)
abbrev Ta130 : Type := (Ta5 × Ta129)
abbrev Ta131 : Type := (Int × Ta130)
abbrev Ta132 : Type := (Ta131 × Unit)
abbrev Ta133 : Type := ((Unit × Unit) × Ta132)
abbrev Ta134 : Type := ((Unit × (Int × Unit)) × Ta132)
abbrev Ta135 : Type := (Ta4 × Ta132)
abbrev Ta136 : Type := (Ta6 × Ta132)
abbrev Ta137 : Type := (Ta15 × Ta132)
abbrev Ta138 : Type := (Ta25 × Ta132)
abbrev Ty139 : Ty := (.pair Ty113 Ty122)
abbrev Ta140 : Type := (Ta41 × Ta132)
abbrev Ty141 : Ty := (.pair (.int .i64) Ty139)
abbrev Ta142 : Type := (Ta64 × Ta132)
abbrev Ta143 : Type := (Ta66 × Ta132)
abbrev Ta144 : Type := (Ta131 × Ta81)
abbrev Ta145 : Type := (Ta75 × Ta132)
abbrev Ty146 : Ty := (.pair (.int .i64) Ty141)
abbrev Ty147 : Ty := (.pair (.int .i64) Ty146)
abbrev Ta148 : Type := (Ta101 × Ta132)
abbrev Ta149 : Type := (Ta110 × Ta132)
abbrev Ty150 : Ty := (.pair Ty102 Ty147)
abbrev Ty151 : Ty := (.pair (.int .i64) Ty150)
abbrev Ta152 : Type := (Ta118 × Ta144)
abbrev Ta153 : Type := (Ta127 × Ta144)
abbrev Ty154 : Ty := (.pair Ty50 Ty151)
abbrev Ty155 : Ty := (.pair (.int .i64) Ty154)
def Γ : TypeId → Option Ty := fun e => bif Nat.beq e 3 then some (.int .i64) else bif Nat.beq e 55 then some Ty112 else bif Nat.beq e 58 then some Ty50 else bif Nat.beq e 60 then some Ty71 else bif Nat.beq e 62 then some Ty50 else bif Nat.beq e 80 then some Ty112 else bif Nat.beq e 84 then some Ty71 else bif Nat.beq e 86 then some Ty50 else bif Nat.beq e 120 then some Ty50 else none
theorem gamOk : GamOk Tryz.prog Γ := gamOk_of [3, 55, 58, 60, 62, 80, 84, 86, 120] (fun e ty h => by
  simp only [Γ] at h
  cases h3 : Nat.beq e 3 with
  | true => simp [Nat.eq_of_beq_eq_true h3]
  | false =>
  simp only [h3, cond_false] at h
  cases h55 : Nat.beq e 55 with
  | true => simp [Nat.eq_of_beq_eq_true h55]
  | false =>
  simp only [h55, cond_false] at h
  cases h58 : Nat.beq e 58 with
  | true => simp [Nat.eq_of_beq_eq_true h58]
  | false =>
  simp only [h58, cond_false] at h
  cases h60 : Nat.beq e 60 with
  | true => simp [Nat.eq_of_beq_eq_true h60]
  | false =>
  simp only [h60, cond_false] at h
  cases h62 : Nat.beq e 62 with
  | true => simp [Nat.eq_of_beq_eq_true h62]
  | false =>
  simp only [h62, cond_false] at h
  cases h80 : Nat.beq e 80 with
  | true => simp [Nat.eq_of_beq_eq_true h80]
  | false =>
  simp only [h80, cond_false] at h
  cases h84 : Nat.beq e 84 with
  | true => simp [Nat.eq_of_beq_eq_true h84]
  | false =>
  simp only [h84, cond_false] at h
  cases h86 : Nat.beq e 86 with
  | true => simp [Nat.eq_of_beq_eq_true h86]
  | false =>
  simp only [h86, cond_false] at h
  cases h120 : Nat.beq e 120 with
  | true => simp [Nat.eq_of_beq_eq_true h120]
  | false =>
  simp only [h120, cond_false] at h
  cases h) (by kernel_rfl)
def tryzRen : Go.Shelf.Ren := ⟨fun x => match x with | 246 => 107 | 283 => 109 | 284 => 110 | 285 => 111 | 286 => 112 | 129 => 114 | 317 => 113 | 318 => 115 | 319 => 116 | 320 => 117 | 337 => 118 | 338 => 119 | n => n, fun x => match x with | 2 => 2 | 3 => 3 | 9 => 9 | 4 => 4 | 171 => 131 | 0 => 0 | 53 => 132 | 37 => 135 | 5 => 5 | 173 => 136 | 212 => 139 | 51 => 140 | 20 => 20 | 213 => 141 | 46 => 142 | 232 => 145 | 233 => 146 | n => n, fun x => match x with | 17 => 0 | 18 => 1 | 19 => 2 | n => n⟩
theorem tryzLays : LaysM.n246 Tryz.prog tryzRen := {
  mixed := by kernel_rfl,
  f129 := Tryz.func114.trans (congrArg some (by kernel_rfl)),
  f246 := Tryz.func107.trans (congrArg some (by kernel_rfl)),
  f283 := Tryz.func109.trans (congrArg some (by kernel_rfl)),
  f284 := Tryz.func110.trans (congrArg some (by kernel_rfl)),
  f285 := Tryz.func111.trans (congrArg some (by kernel_rfl)),
  f286 := Tryz.func112.trans (congrArg some (by kernel_rfl)),
  f317 := Tryz.func113.trans (congrArg some (by kernel_rfl)),
  f318 := Tryz.func115.trans (congrArg some (by kernel_rfl)),
  f319 := Tryz.func116.trans (congrArg some (by kernel_rfl)),
  f320 := Tryz.func117.trans (congrArg some (by kernel_rfl)),
  f337 := Tryz.func118.trans (congrArg some (by kernel_rfl)),
  f338 := Tryz.func119.trans (congrArg some (by kernel_rfl)),
  t0 := Tryz.underlying0,
  a0 := Tryz.isAgg0,
  z0 := Tryz.sizeOf0,
  v0 := Tryz.zeroValue0,
  t2 := Tryz.underlying2,
  a2 := Tryz.isAgg2,
  z2 := Tryz.sizeOf2,
  v2 := Tryz.zeroValue2,
  t3 := Tryz.underlying3,
  a3 := Tryz.isAgg3,
  z3 := Tryz.sizeOf3,
  v3 := Tryz.zeroValue3,
  t4 := Tryz.underlying4,
  a4 := Tryz.isAgg4,
  z4 := Tryz.sizeOf4,
  v4 := Tryz.zeroValue4,
  t5 := Tryz.underlying5,
  a5 := Tryz.isAgg5,
  z5 := Tryz.sizeOf5,
  v5 := Tryz.zeroValue5,
  t9 := Tryz.underlying9,
  a9 := Tryz.isAgg9,
  z9 := Tryz.sizeOf9,
  v9 := Tryz.zeroValue9,
  t20 := Tryz.underlying20,
  a20 := Tryz.isAgg20,
  z20 := Tryz.sizeOf20,
  v20 := Tryz.zeroValue20,
  t37 := Tryz.underlying135,
  a37 := Tryz.isAgg135,
  z37 := Tryz.sizeOf135,
  v37 := Tryz.zeroValue135,
  t46 := Tryz.underlying142,
  a46 := Tryz.isAgg142,
  z46 := Tryz.sizeOf142,
  v46 := Tryz.zeroValue142,
  t51 := Tryz.underlying140,
  a51 := Tryz.isAgg140,
  z51 := Tryz.sizeOf140,
  v51 := Tryz.zeroValue140,
  t53 := Tryz.underlying132,
  a53 := Tryz.isAgg132,
  z53 := Tryz.sizeOf132,
  v53 := Tryz.zeroValue132,
  t171 := Tryz.underlying131,
  a171 := Tryz.isAgg131,
  z171 := Tryz.sizeOf131,
  v171 := Tryz.zeroValue131,
  t173 := Tryz.underlying136,
  a173 := Tryz.isAgg136,
  z173 := Tryz.sizeOf136,
  v173 := Tryz.zeroValue136,
  t212 := Tryz.underlying139,
  a212 := Tryz.isAgg139,
  z212 := Tryz.sizeOf139,
  v212 := Tryz.zeroValue139,
  t213 := Tryz.underlying141,
  a213 := Tryz.isAgg141,
  z213 := Tryz.sizeOf141,
  t232 := Tryz.underlying145,
  a232 := Tryz.isAgg145,
  z232 := Tryz.sizeOf145,
  v232 := Tryz.zeroValue145,
  t233 := Tryz.underlying146,
  a233 := Tryz.isAgg146,
  z233 := Tryz.sizeOf146,
  v233 := Tryz.zeroValue146,
  g17 := by kernel_rfl,
  g18 := by kernel_rfl,
  g19 := by kernel_rfl,
  i0 := by kernel_rfl,
  i2 := by kernel_rfl,
  i3 := by kernel_rfl,
  i4 := by kernel_rfl,
  i5 := by kernel_rfl,
  i9 := by kernel_rfl,
  i20 := by kernel_rfl,
  i37 := by kernel_rfl,
  i46 := by kernel_rfl,
  i51 := by kernel_rfl,
  i53 := by kernel_rfl,
  i173 := by kernel_rfl,
  m17 := by kernel_rfl,
  m18 := by kernel_rfl,
  m19 := by kernel_rfl,
  i171 := by kernel_rfl,
  i212 := by kernel_rfl,
  i232 := by kernel_rfl,
  i233 := by kernel_rfl }
noncomputable def gFI (x0 x1 : Int) : Option Ta3 := if x1 = 10 ∧ -9223372036854775808 ≤ x0 ∧ x0 ≤ 9223372036854775807 then some (((⟨(Lib.itoa x0).toArray⟩ : ByteArray), ()), ()) else none
noncomputable def cFI : Ctr := { ins := [.v (.int .i64), .v (.int .i64)], out := [.str], F := fun x => gFI x.1 x.2.1 }
theorem oFI : Holds Tryz.prog 107 cFI := by
  refine ⟨⟨Tryz.f107, Tryz.func107, by kernel_rfl, by kernel_rfl⟩, fun x y hxy col w args hcol hlay hargs => ?_⟩
  obtain ⟨n, m, ⟨⟩⟩ := x
  simp only [cFI, gFI] at hxy
  split at hxy
  · rename_i hh
    obtain ⟨rfl, h0, h1⟩ := hh
    cases hxy
    simp only [cFI, ArgsRep, ArgRep, RepT] at hargs
    obtain ⟨u1, r1, e1, ⟨_, rfl, rfl⟩, u2, r2, rfl, ⟨_, rfl, rfl⟩, rfl⟩ := hargs
    have ea : args = #[.int .i64 n, .int .i64 10] := by
      apply Array.ext'
      simpa [mkV] using e1
    subst ea
    refine (Any.internal_strconv_FormatInt_10 tryzLays n h0 h1 w hlay.1).mono fun e w' hb => ?_
    obtain ⟨rfl, k, os, rfl⟩ := hb
    refine ⟨_, col, rfl, ⟨rfl, rfl, rfl, ?_, fun b hb _ => ?_, fun b hb o _ => ?_, fun b hb o => ?_⟩, fun _ _ _ => Iff.rfl, ?_, ?_⟩
    · simp only [Go.Sort.size_grow]; exact Nat.le_add_right _ _
    · exact Go.Sort.heap_grow_old _ _ hb
    · exact Go.Sort.cell?_grow _ _ _ hb
    · exact Go.Sort.frozen?_grow _ _ _ hb
    · unfold OutIs
      rw [if_neg (by simp [cFI])]
      exact ⟨_, ⟨_, [], rfl, ⟨_, rfl, rfl⟩, rfl⟩, rfl⟩
    · simp only [cFI, PtsRep]
  · cases hxy

/-! ### 60: loop.example/g00076/laws.szWindowS -/
noncomputable def t60 : Tbl := []
noncomputable def a60 : Nat → Option LoopAnn := fun _ => none
noncomputable def g60 (x0 : Ta9) (x1 : Int) : Option ((Int × Unit) × Unit) :=
  bif (decide ((wI (x1 - (x0.len : Int))) < (0 : Int))) then
    some (((-1 : Int), ()), ())
  else
    some (((wI (x1 - (x0.len : Int))), ()), ())
noncomputable def f60 (x0 : Ta9) (x1 : Int) : Int :=
  bif (decide ((wI (x1 - (x0.len : Int))) < (0 : Int))) then
    (-1 : Int)
  else
    (wI (x1 - (x0.len : Int)))
theorem n60 (x0 : Ta9) (x1 : Int) : g60 x0 x1 = some ((f60 x0 x1, ()), ()) := by
  simp only [g60, f60, pull1]
noncomputable def c60 : Ctr := { ins := [.v Ty57, .v (.int .i64)], out := [(.int .i64)], F := fun x => some ((f60 x.1 x.2.1, ()), ()) }
theorem v60 : LoopsOk Tryz.prog Γ t60 a60 (loopsIn (Tryz.f60.body.getD .skip) 0) := loopsOk_nil (by kernel_rfl)
theorem r60 (x : InsT c60.ins) : fnK Tryz.prog Γ t60 a60 Tryz.f60 c60 x = g60 x.1 x.2.1 := by kernel_rfl
theorem k60 : TblOk Tryz.prog t60 := tblOk_nil
theorem o60 : Holds Tryz.prog 60 c60 := fn_holds (code := Tryz.f60.body.getD .skip) (by kernel_rfl) gamOk k60 Tryz.func60 (by kernel_rfl) (by kernel_rfl) (by kernel_rfl) (by kernel_rfl) v60 (fun x _ h => (r60 x).trans ((n60 x.1 x.2.1).trans h))
/-! ### 31: loop.example/g00076/laws.szPartRow -/
noncomputable def t31 : Tbl := [(60, [], c60)]
noncomputable def a31 : Nat → Option LoopAnn := fun _ => none
noncomputable def g31 (x0 : Ta74) (x1 : Int) : Option ((Int × Unit) × Unit) :=
  bif (decide ((wI (x1 - (x0.1.size : Int))) < (0 : Int))) then
    some (((-1 : Int), ()), ())
  else
    bif (decide ((f60 x0.2.2.2.1 (wI (x1 - (x0.1.size : Int)))) < (0 : Int))) then
      some (((-1 : Int), ()), ())
    else
      some (((f60 x0.2.2.2.1 (wI (x1 - (x0.1.size : Int)))), ()), ())
noncomputable def f31 (x0 : Ta74) (x1 : Int) : Int :=
  bif (decide ((wI (x1 - (x0.1.size : Int))) < (0 : Int))) then
    (-1 : Int)
  else
    bif (decide ((f60 x0.2.2.2.1 (wI (x1 - (x0.1.size : Int)))) < (0 : Int))) then
      (-1 : Int)
    else
      (f60 x0.2.2.2.1 (wI (x1 - (x0.1.size : Int))))
theorem n31 (x0 : Ta74) (x1 : Int) : g31 x0 x1 = some ((f31 x0 x1, ()), ()) := by
  simp only [g31, f31, pull1]
noncomputable def c31 : Ctr := { ins := [.v Ty112, .v (.int .i64)], out := [(.int .i64)], F := fun x => some ((f31 x.1 x.2.1, ()), ()) }
theorem v31 : LoopsOk Tryz.prog Γ t31 a31 (loopsIn (Tryz.f31.body.getD .skip) 0) := loopsOk_nil (by kernel_rfl)
theorem r31 (x : InsT c31.ins) : fnK Tryz.prog Γ t31 a31 Tryz.f31 c31 x = g31 x.1 x.2.1 := by kernel_rfl
theorem k31 : TblOk Tryz.prog t31 := tblOk_cons o60 (tblOk_nil)
theorem o31 : Holds Tryz.prog 31 c31 := fn_holds (code := Tryz.f31.body.getD .skip) (by kernel_rfl) gamOk k31 Tryz.func31 (by kernel_rfl) (by kernel_rfl) (by kernel_rfl) (by kernel_rfl) v31 (fun x _ h => (r31 x).trans ((n31 x.1 x.2.1).trans h))
/-! ### 9: loop.example/g00076/laws.szPartRowS -/
noncomputable def t9 : Tbl := [(31, [], c31)]
abbrev h9_L0 : Shape := { slots := [(0, .v Ty113), (1, .v (.int .i64)), (5, .v (.int .i64))], boxes := [] }
abbrev e9_L0 : List (XT × Shape) := [(.ret, { slots := [(4, .v (.int .i64))], boxes := [] }), (.exit 0, { slots := [(1, .v (.int .i64))], boxes := [] })]
noncomputable def q9_L0 (t0 : Ta78) (t1 : Int) (t5 : Int) : Option (Ta96 ⊕ (((Int × Unit) × Unit) ⊕ (((Int × Unit) × Unit) ⊕ Empty))) :=
  bif (decide (t5 < (t0.len : Int))) then
    bif (decide (0 ≤ t5) && decide (t5 < (t0.len : Int))) then
      bif (decide ((f31 (L.get t0 t5.toNat) t1) < (0 : Int))) then
        some (.inr (.inl (((-1 : Int), ()), ())))
      else
        some (.inl ((t0, ((f31 (L.get t0 t5.toNat) t1), ((wI (t5 + (1 : Int))), ()))), ()))
    else
      none
  else
    some (.inr (.inr (.inl ((t1, ()), ()))))
noncomputable def s9_L0 (x : Ta96) : Option (Ta96 ⊕ (((Int × Unit) × Unit) ⊕ (((Int × Unit) × Unit) ⊕ Empty))) := q9_L0 x.1.1 x.1.2.1 x.1.2.2.1
noncomputable def a9 : Nat → Option LoopAnn := fun c => bif Nat.beq c 0 then some (.fix h9_L0 e9_L0 s9_L0) else none
noncomputable def g9 (x0 : Ta78) (x1 : Int) : Option ((Int × Unit) × Unit) :=
  bif (decide ((wI (x1 - (x0.len : Int))) < (0 : Int))) then
    some (((-1 : Int), ()), ())
  else
    (fixO s9_L0 ((x0, ((wI (x1 - (x0.len : Int))), ((0 : Int), ()))), ())).bind fun d2 => match d2 with
    | .inl y1 =>
      some ((y1.1.1, ()), ())
    | .inr (.inl y1) =>
      some ((y1.1.1, ()), ())
    | .inr (.inr e) => nomatch e
noncomputable def c9 : Ctr := { ins := [.v Ty113, .v (.int .i64)], out := [(.int .i64)], F := fun x => g9 x.1 x.2.1 }
noncomputable def l9 : List (Nat × Code) := loopsIn (Tryz.f9.body.getD .skip) 0
theorem w9_L0 (x : h9_L0.T) : runK Tryz.prog Γ t9 (inlN Tryz.prog Γ t9 3) a9 (l9.getD 0 (0, .skip)).2 0 (pkSh h9_L0 x) (loopCls (sh := h9_L0) (es := e9_L0)) = (s9_L0 x : Option _) := by kernel_rfl
theorem v9 : LoopsOk Tryz.prog Γ t9 a9 (loopsIn (Tryz.f9.body.getD .skip) 0) := by
  have e : loopsIn (Tryz.f9.body.getD .skip) 0 = [(0, (l9.getD 0 (0, .skip)).2)] := by kernel_rfl
  rw [e]
  exact ⟨fun x d h => (w9_L0 x).trans h, trivial⟩
theorem r9 (x : InsT c9.ins) : fnK Tryz.prog Γ t9 a9 Tryz.f9 c9 x = g9 x.1 x.2.1 := by kernel_rfl
theorem k9 : TblOk Tryz.prog t9 := tblOk_cons o31 (tblOk_nil)
theorem o9 : Holds Tryz.prog 9 c9 := fn_holds (code := Tryz.f9.body.getD .skip) (by kernel_rfl) gamOk k9 Tryz.func9 (by kernel_rfl) (by kernel_rfl) (by kernel_rfl) (by kernel_rfl) v9 (fun x _ h => (r9 x).trans h)
/-! ### 10: loop.example/g00076/laws.szIntS -/
noncomputable def t10 : Tbl := []
noncomputable def a10 : Nat → Option LoopAnn := fun _ => none
noncomputable def g10 (x0 : (L Int)) (x1 : Int) : Option ((Int × Unit) × Unit) :=
  bif (decide ((wI (x1 - (x0.len : Int))) < (0 : Int))) then
    some (((-1 : Int), ()), ())
  else
    some (((wI (x1 - (x0.len : Int))), ()), ())
noncomputable def f10 (x0 : (L Int)) (x1 : Int) : Int :=
  bif (decide ((wI (x1 - (x0.len : Int))) < (0 : Int))) then
    (-1 : Int)
  else
    (wI (x1 - (x0.len : Int)))
theorem n10 (x0 : (L Int)) (x1 : Int) : g10 x0 x1 = some ((f10 x0 x1, ()), ()) := by
  simp only [g10, f10, pull1]
noncomputable def c10 : Ctr := { ins := [.v (.sl (.int .i64)), .v (.int .i64)], out := [(.int .i64)], F := fun x => some ((f10 x.1 x.2.1, ()), ()) }
theorem v10 : LoopsOk Tryz.prog Γ t10 a10 (loopsIn (Tryz.f10.body.getD .skip) 0) := loopsOk_nil (by kernel_rfl)
theorem r10 (x : InsT c10.ins) : fnK Tryz.prog Γ t10 a10 Tryz.f10 c10 x = g10 x.1 x.2.1 := by kernel_rfl
theorem k10 : TblOk Tryz.prog t10 := tblOk_nil
theorem o10 : Holds Tryz.prog 10 c10 := fn_holds (code := Tryz.f10.body.getD .skip) (by kernel_rfl) gamOk k10 Tryz.func10 (by kernel_rfl) (by kernel_rfl) (by kernel_rfl) (by kernel_rfl) v10 (fun x _ h => (r10 x).trans ((n10 x.1 x.2.1).trans h))
/-! ### 11: loop.example/g00076/laws.szChanRowS -/
noncomputable def t11 : Tbl := []
noncomputable def a11 : Nat → Option LoopAnn := fun _ => none
noncomputable def g11 (x0 : Ta22) (x1 : Int) : Option ((Int × Unit) × Unit) :=
  bif (decide ((wI (x1 - (x0.len : Int))) < (0 : Int))) then
    some (((-1 : Int), ()), ())
  else
    some (((wI (x1 - (x0.len : Int))), ()), ())
noncomputable def f11 (x0 : Ta22) (x1 : Int) : Int :=
  bif (decide ((wI (x1 - (x0.len : Int))) < (0 : Int))) then
    (-1 : Int)
  else
    (wI (x1 - (x0.len : Int)))
theorem n11 (x0 : Ta22) (x1 : Int) : g11 x0 x1 = some ((f11 x0 x1, ()), ()) := by
  simp only [g11, f11, pull1]
noncomputable def c11 : Ctr := { ins := [.v Ty76, .v (.int .i64)], out := [(.int .i64)], F := fun x => some ((f11 x.1 x.2.1, ()), ()) }
theorem v11 : LoopsOk Tryz.prog Γ t11 a11 (loopsIn (Tryz.f11.body.getD .skip) 0) := loopsOk_nil (by kernel_rfl)
theorem r11 (x : InsT c11.ins) : fnK Tryz.prog Γ t11 a11 Tryz.f11 c11 x = g11 x.1 x.2.1 := by kernel_rfl
theorem k11 : TblOk Tryz.prog t11 := tblOk_nil
theorem o11 : Holds Tryz.prog 11 c11 := fn_holds (code := Tryz.f11.body.getD .skip) (by kernel_rfl) gamOk k11 Tryz.func11 (by kernel_rfl) (by kernel_rfl) (by kernel_rfl) (by kernel_rfl) v11 (fun x _ h => (r11 x).trans ((n11 x.1 x.2.1).trans h))
/-! ### 12: loop.example/g00076/laws.szSlotS -/
noncomputable def t12 : Tbl := []
noncomputable def a12 : Nat → Option LoopAnn := fun _ => none
noncomputable def g12 (x0 : Ta9) (x1 : Int) : Option ((Int × Unit) × Unit) :=
  bif (decide ((wI (x1 - (x0.len : Int))) < (0 : Int))) then
    some (((-1 : Int), ()), ())
  else
    some (((wI (x1 - (x0.len : Int))), ()), ())
noncomputable def f12 (x0 : Ta9) (x1 : Int) : Int :=
  bif (decide ((wI (x1 - (x0.len : Int))) < (0 : Int))) then
    (-1 : Int)
  else
    (wI (x1 - (x0.len : Int)))
theorem n12 (x0 : Ta9) (x1 : Int) : g12 x0 x1 = some ((f12 x0 x1, ()), ()) := by
  simp only [g12, f12, pull1]
noncomputable def c12 : Ctr := { ins := [.v Ty57, .v (.int .i64)], out := [(.int .i64)], F := fun x => some ((f12 x.1 x.2.1, ()), ()) }
theorem v12 : LoopsOk Tryz.prog Γ t12 a12 (loopsIn (Tryz.f12.body.getD .skip) 0) := loopsOk_nil (by kernel_rfl)
theorem r12 (x : InsT c12.ins) : fnK Tryz.prog Γ t12 a12 Tryz.f12 c12 x = g12 x.1 x.2.1 := by kernel_rfl
theorem k12 : TblOk Tryz.prog t12 := tblOk_nil
theorem o12 : Holds Tryz.prog 12 c12 := fn_holds (code := Tryz.f12.body.getD .skip) (by kernel_rfl) gamOk k12 Tryz.func12 (by kernel_rfl) (by kernel_rfl) (by kernel_rfl) (by kernel_rfl) v12 (fun x _ h => (r12 x).trans ((n12 x.1 x.2.1).trans h))
/-! ### 4: loop.example/g00076/laws.szTables -/
noncomputable def t4 : Tbl := [(9, [], c9), (10, [], c10), (11, [], c11), (12, [], c12)]
noncomputable def a4 : Nat → Option LoopAnn := fun _ => none
noncomputable def g4 (x0 : Ta131) (x1 : Int) : Option ((Int × Unit) × Unit) :=
  (g9 x0.2.2.2.2.2.2.2.1 x1).bind fun y1 =>
    bif (decide (y1.1.1 < (0 : Int))) then
      some (((-1 : Int), ()), ())
    else
      bif (decide ((f10 x0.2.2.2.2.2.2.2.2.1 y1.1.1) < (0 : Int))) then
        some (((-1 : Int), ()), ())
      else
        bif (decide ((f11 x0.2.2.2.2.2.2.2.2.2.1 (f10 x0.2.2.2.2.2.2.2.2.1 y1.1.1)) < (0 : Int))) then
          some (((-1 : Int), ()), ())
        else
          bif (decide ((f12 x0.2.2.2.2.2.2.2.2.2.2.1 (f11 x0.2.2.2.2.2.2.2.2.2.1 (f10 x0.2.2.2.2.2.2.2.2.1 y1.1.1))) < (0 : Int))) then
            some (((-1 : Int), ()), ())
          else
            some (((f12 x0.2.2.2.2.2.2.2.2.2.2.1 (f11 x0.2.2.2.2.2.2.2.2.2.1 (f10 x0.2.2.2.2.2.2.2.2.1 y1.1.1))), ()), ())
noncomputable def c4 : Ctr := { ins := [.v Ty155, .v (.int .i64)], out := [(.int .i64)], F := fun x => g4 x.1 x.2.1 }
theorem v4 : LoopsOk Tryz.prog Γ t4 a4 (loopsIn (Tryz.f4.body.getD .skip) 0) := loopsOk_nil (by kernel_rfl)
theorem r4 (x : InsT c4.ins) : fnK Tryz.prog Γ t4 a4 Tryz.f4 c4 x = g4 x.1 x.2.1 := by kernel_rfl
theorem k4 : TblOk Tryz.prog t4 := tblOk_cons o9 (tblOk_cons o10 (tblOk_cons o11 (tblOk_cons o12 (tblOk_nil))))
theorem o4 : Holds Tryz.prog 4 c4 := fn_holds (code := Tryz.f4.body.getD .skip) (by kernel_rfl) gamOk k4 Tryz.func4 (by kernel_rfl) (by kernel_rfl) (by kernel_rfl) (by kernel_rfl) v4 (fun x _ h => (r4 x).trans h)
/-! ### 17: loop.example/g00076/laws.toShape -/
noncomputable def t17 : Tbl := []
noncomputable def a17 : Nat → Option LoopAnn := fun _ => none
noncomputable def g17 (x0 : Ta5) : Option Ta31 :=
  some ((x0, ()), ())
noncomputable def f17 (x0 : Ta5) : Ta5 :=
  x0
theorem n17 (x0 : Ta5) : g17 x0 = some ((f17 x0, ()), ()) := by
  simp only [g17, f17, pull1]
noncomputable def c17 : Ctr := { ins := [.v Ty50], out := [Ty50], F := fun x => some ((f17 x.1, ()), ()) }
theorem v17 : LoopsOk Tryz.prog Γ t17 a17 (loopsIn (Tryz.f17.body.getD .skip) 0) := loopsOk_nil (by kernel_rfl)
theorem r17 (x : InsT c17.ins) : fnK Tryz.prog Γ t17 a17 Tryz.f17 c17 x = g17 x.1 := by kernel_rfl
theorem k17 : TblOk Tryz.prog t17 := tblOk_nil
theorem o17 : Holds Tryz.prog 17 c17 := fn_holds (code := Tryz.f17.body.getD .skip) (by kernel_rfl) gamOk k17 Tryz.func17 (by kernel_rfl) (by kernel_rfl) (by kernel_rfl) (by kernel_rfl) v17 (fun x _ h => (r17 x).trans ((n17 x.1).trans h))
/-! ### 18: loop.example/g00076/laws.toCosts -/
noncomputable def t18 : Tbl := []
noncomputable def a18 : Nat → Option LoopAnn := fun _ => none
noncomputable def g18 (x0 : Ta48) : Option (Ta56 × Unit) :=
  some ((x0, ()), ())
noncomputable def f18 (x0 : Ta48) : Ta48 :=
  x0
theorem n18 (x0 : Ta48) : g18 x0 = some ((f18 x0, ()), ()) := by
  simp only [g18, f18, pull1]
noncomputable def c18 : Ctr := { ins := [.v Ty102], out := [Ty102], F := fun x => some ((f18 x.1, ()), ()) }
theorem v18 : LoopsOk Tryz.prog Γ t18 a18 (loopsIn (Tryz.f18.body.getD .skip) 0) := loopsOk_nil (by kernel_rfl)
theorem r18 (x : InsT c18.ins) : fnK Tryz.prog Γ t18 a18 Tryz.f18 c18 x = g18 x.1 := by kernel_rfl
theorem k18 : TblOk Tryz.prog t18 := tblOk_nil
theorem o18 : Holds Tryz.prog 18 c18 := fn_holds (code := Tryz.f18.body.getD .skip) (by kernel_rfl) gamOk k18 Tryz.func18 (by kernel_rfl) (by kernel_rfl) (by kernel_rfl) (by kernel_rfl) v18 (fun x _ h => (r18 x).trans ((n18 x.1).trans h))
/-! ### 68: loop.example/g00076/laws.toPolicy -/
noncomputable def t68 : Tbl := []
noncomputable def a68 : Nat → Option LoopAnn := fun _ => none
noncomputable def g68 (x0 : (Int × (Int × Unit))) : Option (((Int × (Int × Unit)) × Unit) × Unit) :=
  some ((x0, ()), ())
noncomputable def f68 (x0 : (Int × (Int × Unit))) : (Int × (Int × Unit)) :=
  x0
theorem n68 (x0 : (Int × (Int × Unit))) : g68 x0 = some ((f68 x0, ()), ()) := by
  simp only [g68, f68, pull1]
noncomputable def c68 : Ctr := { ins := [.v Ty29], out := [Ty29], F := fun x => some ((f68 x.1, ()), ()) }
theorem v68 : LoopsOk Tryz.prog Γ t68 a68 (loopsIn (Tryz.f68.body.getD .skip) 0) := loopsOk_nil (by kernel_rfl)
theorem r68 (x : InsT c68.ins) : fnK Tryz.prog Γ t68 a68 Tryz.f68 c68 x = g68 x.1 := by kernel_rfl
theorem k68 : TblOk Tryz.prog t68 := tblOk_nil
theorem o68 : Holds Tryz.prog 68 c68 := fn_holds (code := Tryz.f68.body.getD .skip) (by kernel_rfl) gamOk k68 Tryz.func68 (by kernel_rfl) (by kernel_rfl) (by kernel_rfl) (by kernel_rfl) v68 (fun x _ h => (r68 x).trans ((n68 x.1).trans h))
/-! ### 93: loop.example/g00076/laws.toWindow -/
noncomputable def t93 : Tbl := []
noncomputable def a93 : Nat → Option LoopAnn := fun _ => none
noncomputable def g93 (x0 : Ta5) : Option Ta31 :=
  some ((x0, ()), ())
noncomputable def f93 (x0 : Ta5) : Ta5 :=
  x0
theorem n93 (x0 : Ta5) : g93 x0 = some ((f93 x0, ()), ()) := by
  simp only [g93, f93, pull1]
noncomputable def c93 : Ctr := { ins := [.v Ty50], out := [Ty50], F := fun x => some ((f93 x.1, ()), ()) }
theorem v93 : LoopsOk Tryz.prog Γ t93 a93 (loopsIn (Tryz.f93.body.getD .skip) 0) := loopsOk_nil (by kernel_rfl)
theorem r93 (x : InsT c93.ins) : fnK Tryz.prog Γ t93 a93 Tryz.f93 c93 x = g93 x.1 := by kernel_rfl
theorem k93 : TblOk Tryz.prog t93 := tblOk_nil
theorem o93 : Holds Tryz.prog 93 c93 := fn_holds (code := Tryz.f93.body.getD .skip) (by kernel_rfl) gamOk k93 Tryz.func93 (by kernel_rfl) (by kernel_rfl) (by kernel_rfl) (by kernel_rfl) v93 (fun x _ h => (r93 x).trans ((n93 x.1).trans h))
/-! ### 69: loop.example/g00076/laws.toWindowS -/
noncomputable def t69 : Tbl := [(93, [], c93)]
abbrev h69_L0 : Shape := { slots := [(0, .v Ty57), (3, .ms 7), (4, .v (.int .i64))], boxes := [(7, .arr Ty50)] }
abbrev e69_L0 : List (XT × Shape) := [(.exit 0, { slots := [(3, .ms 7)], boxes := [(7, .arr Ty50)] })]
noncomputable def q69_L0 (t0 : Ta9) (t4 : Int) (r7 : Ta9) : Option (Ta87 ⊕ (Ta47 ⊕ Empty)) :=
  bif (decide (t4 < (t0.len : Int))) then
    bif (decide (0 ≤ t4) && decide (t4 < (t0.len : Int))) then
      bif (decide (0 ≤ t4) && decide (t4 < (r7.len : Int))) then
        some (.inl ((t0, ((), ((wI (t4 + (1 : Int))), ()))), ((L.set r7 t4.toNat (f93 (L.get t0 t4.toNat))), ())))
      else
        none
    else
      none
  else
    some (.inr (.inl (((), ()), (r7, ()))))
noncomputable def s69_L0 (x : Ta87) : Option (Ta87 ⊕ (Ta47 ⊕ Empty)) := q69_L0 x.1.1 x.1.2.2.1 x.2.1
noncomputable def a69 : Nat → Option LoopAnn := fun c => bif Nat.beq c 0 then some (.fix h69_L0 e69_L0 s69_L0) else none
noncomputable def g69 (x0 : Ta9) : Option Ta37 :=
  bif (decide ((x0.len : Int) = (x0.len : Int)) && (decide (0 ≤ (x0.len : Int)) && (decide ((x0.len : Int) ≤ 2 ^ 40) && decide (24 * (x0.len : Int) ≤ 2 ^ 48)))) then
    (fixO s69_L0 ((x0, ((), ((0 : Int), ()))), ((L.rep (x0.len : Int).toNat (Ty.zero Ty50)), ()))).bind fun d2 => match d2 with
    | .inl y1 =>
      some ((y1.2.1, ()), ())
    | .inr e => nomatch e
  else
    none
noncomputable def c69 : Ctr := { ins := [.v Ty57], out := [Ty57], F := fun x => g69 x.1 }
noncomputable def l69 : List (Nat × Code) := loopsIn (Tryz.f69.body.getD .skip) 0
theorem w69_L0 (x : h69_L0.T) : runK Tryz.prog Γ t69 (inlN Tryz.prog Γ t69 3) a69 (l69.getD 0 (0, .skip)).2 0 (pkSh h69_L0 x) (loopCls (sh := h69_L0) (es := e69_L0)) = (s69_L0 x : Option _) := by kernel_rfl
theorem v69 : LoopsOk Tryz.prog Γ t69 a69 (loopsIn (Tryz.f69.body.getD .skip) 0) := by
  have e : loopsIn (Tryz.f69.body.getD .skip) 0 = [(0, (l69.getD 0 (0, .skip)).2)] := by kernel_rfl
  rw [e]
  exact ⟨fun x d h => (w69_L0 x).trans h, trivial⟩
theorem r69 (x : InsT c69.ins) : fnK Tryz.prog Γ t69 a69 Tryz.f69 c69 x = g69 x.1 := by kernel_rfl
theorem k69 : TblOk Tryz.prog t69 := tblOk_cons o93 (tblOk_nil)
theorem o69 : Holds Tryz.prog 69 c69 := fn_holds (code := Tryz.f69.body.getD .skip) (by kernel_rfl) gamOk k69 Tryz.func69 (by kernel_rfl) (by kernel_rfl) (by kernel_rfl) (by kernel_rfl) v69 (fun x _ h => (r69 x).trans h)
/-! ### 37: loop.example/g00076/laws.toPartRow -/
noncomputable def t37 : Tbl := [(68, [], c68), (69, [], c69)]
noncomputable def a37 : Nat → Option LoopAnn := fun _ => none
noncomputable def g37 (x0 : Ta74) : Option (Ta81 × Unit) :=
  (g69 x0.2.2.2.1).bind fun y1 =>
    some (((x0.1, (x0.2.1, ((f68 x0.2.2.1), y1.1))), ()), ())
noncomputable def c37 : Ctr := { ins := [.v Ty112], out := [Ty112], F := fun x => g37 x.1 }
theorem v37 : LoopsOk Tryz.prog Γ t37 a37 (loopsIn (Tryz.f37.body.getD .skip) 0) := loopsOk_nil (by kernel_rfl)
theorem r37 (x : InsT c37.ins) : fnK Tryz.prog Γ t37 a37 Tryz.f37 c37 x = g37 x.1 := by kernel_rfl
theorem k37 : TblOk Tryz.prog t37 := tblOk_cons o68 (tblOk_cons o69 (tblOk_nil))
theorem o37 : Holds Tryz.prog 37 c37 := fn_holds (code := Tryz.f37.body.getD .skip) (by kernel_rfl) gamOk k37 Tryz.func37 (by kernel_rfl) (by kernel_rfl) (by kernel_rfl) (by kernel_rfl) v37 (fun x _ h => (r37 x).trans h)
/-! ### 19: loop.example/g00076/laws.toPartRowS -/
noncomputable def t19 : Tbl := [(37, [], c37)]
abbrev h19_L0 : Shape := { slots := [(0, .v Ty113), (3, .ms 7), (4, .v (.int .i64))], boxes := [(7, .arr Ty112)] }
abbrev e19_L0 : List (XT × Shape) := [(.exit 0, { slots := [(3, .ms 7)], boxes := [(7, .arr Ty112)] })]
noncomputable def q19_L0 (t0 : Ta78) (t4 : Int) (r7 : Ta78) : Option (Ta126 ⊕ (((Unit × Unit) × Ta84) ⊕ Empty)) :=
  bif (decide (t4 < (t0.len : Int))) then
    bif (decide (0 ≤ t4) && decide (t4 < (t0.len : Int))) then
      (g37 (L.get t0 t4.toNat)).bind fun y1 =>
        bif (decide (0 ≤ t4) && decide (t4 < (r7.len : Int))) then
          some (.inl ((t0, ((), ((wI (t4 + (1 : Int))), ()))), ((L.set r7 t4.toNat y1.1.1), ())))
        else
          none
    else
      none
  else
    some (.inr (.inl (((), ()), (r7, ()))))
noncomputable def s19_L0 (x : Ta126) : Option (Ta126 ⊕ (((Unit × Unit) × Ta84) ⊕ Empty)) := q19_L0 x.1.1 x.1.2.2.1 x.2.1
noncomputable def a19 : Nat → Option LoopAnn := fun c => bif Nat.beq c 0 then some (.fix h19_L0 e19_L0 s19_L0) else none
noncomputable def g19 (x0 : Ta78) : Option (Ta84 × Unit) :=
  bif (decide ((x0.len : Int) = (x0.len : Int)) && (decide (0 ≤ (x0.len : Int)) && (decide ((x0.len : Int) ≤ 2 ^ 40) && decide (64 * (x0.len : Int) ≤ 2 ^ 48)))) then
    (fixO s19_L0 ((x0, ((), ((0 : Int), ()))), ((L.rep (x0.len : Int).toNat (Ty.zero Ty112)), ()))).bind fun d3 => match d3 with
    | .inl y2 =>
      some ((y2.2.1, ()), ())
    | .inr e => nomatch e
  else
    none
noncomputable def c19 : Ctr := { ins := [.v Ty113], out := [Ty113], F := fun x => g19 x.1 }
noncomputable def l19 : List (Nat × Code) := loopsIn (Tryz.f19.body.getD .skip) 0
theorem w19_L0 (x : h19_L0.T) : runK Tryz.prog Γ t19 (inlN Tryz.prog Γ t19 3) a19 (l19.getD 0 (0, .skip)).2 0 (pkSh h19_L0 x) (loopCls (sh := h19_L0) (es := e19_L0)) = (s19_L0 x : Option _) := by kernel_rfl
theorem v19 : LoopsOk Tryz.prog Γ t19 a19 (loopsIn (Tryz.f19.body.getD .skip) 0) := by
  have e : loopsIn (Tryz.f19.body.getD .skip) 0 = [(0, (l19.getD 0 (0, .skip)).2)] := by kernel_rfl
  rw [e]
  exact ⟨fun x d h => (w19_L0 x).trans h, trivial⟩
theorem r19 (x : InsT c19.ins) : fnK Tryz.prog Γ t19 a19 Tryz.f19 c19 x = g19 x.1 := by kernel_rfl
theorem k19 : TblOk Tryz.prog t19 := tblOk_cons o37 (tblOk_nil)
theorem o19 : Holds Tryz.prog 19 c19 := fn_holds (code := Tryz.f19.body.getD .skip) (by kernel_rfl) gamOk k19 Tryz.func19 (by kernel_rfl) (by kernel_rfl) (by kernel_rfl) (by kernel_rfl) v19 (fun x _ h => (r19 x).trans h)
/-! ### 20: loop.example/g00076/laws.toIntS -/
noncomputable def t20 : Tbl := []
abbrev h20_L0 : Shape := { slots := [(0, .v (.sl (.int .i64))), (3, .ms 7), (4, .v (.int .i64))], boxes := [(7, .arr (.int .i64))] }
abbrev e20_L0 : List (XT × Shape) := [(.exit 0, { slots := [(3, .ms 7)], boxes := [(7, .arr (.int .i64))] })]
noncomputable def q20_L0 (t0 : (L Int)) (t4 : Int) (r7 : (L Int)) : Option (Ta39 ⊕ (((Unit × Unit) × ((L Int) × Unit)) ⊕ Empty)) :=
  bif (decide (t4 < (t0.len : Int))) then
    bif (decide (0 ≤ t4) && decide (t4 < (t0.len : Int))) then
      bif (decide (0 ≤ t4) && decide (t4 < (r7.len : Int))) then
        some (.inl ((t0, ((), ((wI (t4 + (1 : Int))), ()))), ((L.set r7 t4.toNat (L.get t0 t4.toNat)), ())))
      else
        none
    else
      none
  else
    some (.inr (.inl (((), ()), (r7, ()))))
noncomputable def s20_L0 (x : Ta39) : Option (Ta39 ⊕ (((Unit × Unit) × ((L Int) × Unit)) ⊕ Empty)) := q20_L0 x.1.1 x.1.2.2.1 x.2.1
noncomputable def a20 : Nat → Option LoopAnn := fun c => bif Nat.beq c 0 then some (.fix h20_L0 e20_L0 s20_L0) else none
noncomputable def g20 (x0 : (L Int)) : Option (((L Int) × Unit) × Unit) :=
  bif (decide ((x0.len : Int) = (x0.len : Int)) && (decide (0 ≤ (x0.len : Int)) && (decide ((x0.len : Int) ≤ 2 ^ 40) && decide (8 * (x0.len : Int) ≤ 2 ^ 48)))) then
    (fixO s20_L0 ((x0, ((), ((0 : Int), ()))), ((L.rep (x0.len : Int).toNat (Ty.zero (.int .i64))), ()))).bind fun d2 => match d2 with
    | .inl y1 =>
      some ((y1.2.1, ()), ())
    | .inr e => nomatch e
  else
    none
noncomputable def c20 : Ctr := { ins := [.v (.sl (.int .i64))], out := [(.sl (.int .i64))], F := fun x => g20 x.1 }
noncomputable def l20 : List (Nat × Code) := loopsIn (Tryz.f20.body.getD .skip) 0
theorem w20_L0 (x : h20_L0.T) : runK Tryz.prog Γ t20 (inlN Tryz.prog Γ t20 3) a20 (l20.getD 0 (0, .skip)).2 0 (pkSh h20_L0 x) (loopCls (sh := h20_L0) (es := e20_L0)) = (s20_L0 x : Option _) := by kernel_rfl
theorem v20 : LoopsOk Tryz.prog Γ t20 a20 (loopsIn (Tryz.f20.body.getD .skip) 0) := by
  have e : loopsIn (Tryz.f20.body.getD .skip) 0 = [(0, (l20.getD 0 (0, .skip)).2)] := by kernel_rfl
  rw [e]
  exact ⟨fun x d h => (w20_L0 x).trans h, trivial⟩
theorem r20 (x : InsT c20.ins) : fnK Tryz.prog Γ t20 a20 Tryz.f20 c20 x = g20 x.1 := by kernel_rfl
theorem k20 : TblOk Tryz.prog t20 := tblOk_nil
theorem o20 : Holds Tryz.prog 20 c20 := fn_holds (code := Tryz.f20.body.getD .skip) (by kernel_rfl) gamOk k20 Tryz.func20 (by kernel_rfl) (by kernel_rfl) (by kernel_rfl) (by kernel_rfl) v20 (fun x _ h => (r20 x).trans h)
/-! ### 38: loop.example/g00076/laws.toChanRow -/
noncomputable def t38 : Tbl := []
noncomputable def a38 : Nat → Option LoopAnn := fun _ => none
noncomputable def g38 (x0 : Ta16) : Option ((Ta16 × Unit) × Unit) :=
  some ((x0, ()), ())
noncomputable def f38 (x0 : Ta16) : Ta16 :=
  x0
theorem n38 (x0 : Ta16) : g38 x0 = some ((f38 x0, ()), ()) := by
  simp only [g38, f38, pull1]
noncomputable def c38 : Ctr := { ins := [.v Ty71], out := [Ty71], F := fun x => some ((f38 x.1, ()), ()) }
theorem v38 : LoopsOk Tryz.prog Γ t38 a38 (loopsIn (Tryz.f38.body.getD .skip) 0) := loopsOk_nil (by kernel_rfl)
theorem r38 (x : InsT c38.ins) : fnK Tryz.prog Γ t38 a38 Tryz.f38 c38 x = g38 x.1 := by kernel_rfl
theorem k38 : TblOk Tryz.prog t38 := tblOk_nil
theorem o38 : Holds Tryz.prog 38 c38 := fn_holds (code := Tryz.f38.body.getD .skip) (by kernel_rfl) gamOk k38 Tryz.func38 (by kernel_rfl) (by kernel_rfl) (by kernel_rfl) (by kernel_rfl) v38 (fun x _ h => (r38 x).trans ((n38 x.1).trans h))
/-! ### 21: loop.example/g00076/laws.toChanRowS -/
noncomputable def t21 : Tbl := [(38, [], c38)]
abbrev h21_L0 : Shape := { slots := [(0, .v Ty76), (3, .ms 7), (4, .v (.int .i64))], boxes := [(7, .arr Ty71)] }
abbrev e21_L0 : List (XT × Shape) := [(.exit 0, { slots := [(3, .ms 7)], boxes := [(7, .arr Ty71)] })]
noncomputable def q21_L0 (t0 : Ta22) (t4 : Int) (r7 : Ta22) : Option (Ta94 ⊕ (((Unit × Unit) × Ta34) ⊕ Empty)) :=
  bif (decide (t4 < (t0.len : Int))) then
    bif (decide (0 ≤ t4) && decide (t4 < (t0.len : Int))) then
      bif (decide (0 ≤ t4) && decide (t4 < (r7.len : Int))) then
        some (.inl ((t0, ((), ((wI (t4 + (1 : Int))), ()))), ((L.set r7 t4.toNat (f38 (L.get t0 t4.toNat))), ())))
      else
        none
    else
      none
  else
    some (.inr (.inl (((), ()), (r7, ()))))
noncomputable def s21_L0 (x : Ta94) : Option (Ta94 ⊕ (((Unit × Unit) × Ta34) ⊕ Empty)) := q21_L0 x.1.1 x.1.2.2.1 x.2.1
noncomputable def a21 : Nat → Option LoopAnn := fun c => bif Nat.beq c 0 then some (.fix h21_L0 e21_L0 s21_L0) else none
noncomputable def g21 (x0 : Ta22) : Option (Ta34 × Unit) :=
  bif (decide ((x0.len : Int) = (x0.len : Int)) && (decide (0 ≤ (x0.len : Int)) && (decide ((x0.len : Int) ≤ 2 ^ 40) && decide (32 * (x0.len : Int) ≤ 2 ^ 48)))) then
    (fixO s21_L0 ((x0, ((), ((0 : Int), ()))), ((L.rep (x0.len : Int).toNat (Ty.zero Ty71)), ()))).bind fun d2 => match d2 with
    | .inl y1 =>
      some ((y1.2.1, ()), ())
    | .inr e => nomatch e
  else
    none
noncomputable def c21 : Ctr := { ins := [.v Ty76], out := [Ty76], F := fun x => g21 x.1 }
noncomputable def l21 : List (Nat × Code) := loopsIn (Tryz.f21.body.getD .skip) 0
theorem w21_L0 (x : h21_L0.T) : runK Tryz.prog Γ t21 (inlN Tryz.prog Γ t21 3) a21 (l21.getD 0 (0, .skip)).2 0 (pkSh h21_L0 x) (loopCls (sh := h21_L0) (es := e21_L0)) = (s21_L0 x : Option _) := by kernel_rfl
theorem v21 : LoopsOk Tryz.prog Γ t21 a21 (loopsIn (Tryz.f21.body.getD .skip) 0) := by
  have e : loopsIn (Tryz.f21.body.getD .skip) 0 = [(0, (l21.getD 0 (0, .skip)).2)] := by kernel_rfl
  rw [e]
  exact ⟨fun x d h => (w21_L0 x).trans h, trivial⟩
theorem r21 (x : InsT c21.ins) : fnK Tryz.prog Γ t21 a21 Tryz.f21 c21 x = g21 x.1 := by kernel_rfl
theorem k21 : TblOk Tryz.prog t21 := tblOk_cons o38 (tblOk_nil)
theorem o21 : Holds Tryz.prog 21 c21 := fn_holds (code := Tryz.f21.body.getD .skip) (by kernel_rfl) gamOk k21 Tryz.func21 (by kernel_rfl) (by kernel_rfl) (by kernel_rfl) (by kernel_rfl) v21 (fun x _ h => (r21 x).trans h)
/-! ### 39: loop.example/g00076/laws.toSlot -/
noncomputable def t39 : Tbl := []
noncomputable def a39 : Nat → Option LoopAnn := fun _ => none
noncomputable def g39 (x0 : Ta5) : Option Ta31 :=
  some ((x0, ()), ())
noncomputable def f39 (x0 : Ta5) : Ta5 :=
  x0
theorem n39 (x0 : Ta5) : g39 x0 = some ((f39 x0, ()), ()) := by
  simp only [g39, f39, pull1]
noncomputable def c39 : Ctr := { ins := [.v Ty50], out := [Ty50], F := fun x => some ((f39 x.1, ()), ()) }
theorem v39 : LoopsOk Tryz.prog Γ t39 a39 (loopsIn (Tryz.f39.body.getD .skip) 0) := loopsOk_nil (by kernel_rfl)
theorem r39 (x : InsT c39.ins) : fnK Tryz.prog Γ t39 a39 Tryz.f39 c39 x = g39 x.1 := by kernel_rfl
theorem k39 : TblOk Tryz.prog t39 := tblOk_nil
theorem o39 : Holds Tryz.prog 39 c39 := fn_holds (code := Tryz.f39.body.getD .skip) (by kernel_rfl) gamOk k39 Tryz.func39 (by kernel_rfl) (by kernel_rfl) (by kernel_rfl) (by kernel_rfl) v39 (fun x _ h => (r39 x).trans ((n39 x.1).trans h))
/-! ### 22: loop.example/g00076/laws.toSlotS -/
noncomputable def t22 : Tbl := [(39, [], c39)]
abbrev h22_L0 : Shape := { slots := [(0, .v Ty57), (3, .ms 7), (4, .v (.int .i64))], boxes := [(7, .arr Ty50)] }
abbrev e22_L0 : List (XT × Shape) := [(.exit 0, { slots := [(3, .ms 7)], boxes := [(7, .arr Ty50)] })]
noncomputable def q22_L0 (t0 : Ta9) (t4 : Int) (r7 : Ta9) : Option (Ta87 ⊕ (Ta47 ⊕ Empty)) :=
  bif (decide (t4 < (t0.len : Int))) then
    bif (decide (0 ≤ t4) && decide (t4 < (t0.len : Int))) then
      bif (decide (0 ≤ t4) && decide (t4 < (r7.len : Int))) then
        some (.inl ((t0, ((), ((wI (t4 + (1 : Int))), ()))), ((L.set r7 t4.toNat (f39 (L.get t0 t4.toNat))), ())))
      else
        none
    else
      none
  else
    some (.inr (.inl (((), ()), (r7, ()))))
noncomputable def s22_L0 (x : Ta87) : Option (Ta87 ⊕ (Ta47 ⊕ Empty)) := q22_L0 x.1.1 x.1.2.2.1 x.2.1
noncomputable def a22 : Nat → Option LoopAnn := fun c => bif Nat.beq c 0 then some (.fix h22_L0 e22_L0 s22_L0) else none
noncomputable def g22 (x0 : Ta9) : Option Ta37 :=
  bif (decide ((x0.len : Int) = (x0.len : Int)) && (decide (0 ≤ (x0.len : Int)) && (decide ((x0.len : Int) ≤ 2 ^ 40) && decide (24 * (x0.len : Int) ≤ 2 ^ 48)))) then
    (fixO s22_L0 ((x0, ((), ((0 : Int), ()))), ((L.rep (x0.len : Int).toNat (Ty.zero Ty50)), ()))).bind fun d2 => match d2 with
    | .inl y1 =>
      some ((y1.2.1, ()), ())
    | .inr e => nomatch e
  else
    none
noncomputable def c22 : Ctr := { ins := [.v Ty57], out := [Ty57], F := fun x => g22 x.1 }
noncomputable def l22 : List (Nat × Code) := loopsIn (Tryz.f22.body.getD .skip) 0
theorem w22_L0 (x : h22_L0.T) : runK Tryz.prog Γ t22 (inlN Tryz.prog Γ t22 3) a22 (l22.getD 0 (0, .skip)).2 0 (pkSh h22_L0 x) (loopCls (sh := h22_L0) (es := e22_L0)) = (s22_L0 x : Option _) := by kernel_rfl
theorem v22 : LoopsOk Tryz.prog Γ t22 a22 (loopsIn (Tryz.f22.body.getD .skip) 0) := by
  have e : loopsIn (Tryz.f22.body.getD .skip) 0 = [(0, (l22.getD 0 (0, .skip)).2)] := by kernel_rfl
  rw [e]
  exact ⟨fun x d h => (w22_L0 x).trans h, trivial⟩
theorem r22 (x : InsT c22.ins) : fnK Tryz.prog Γ t22 a22 Tryz.f22 c22 x = g22 x.1 := by kernel_rfl
theorem k22 : TblOk Tryz.prog t22 := tblOk_cons o39 (tblOk_nil)
theorem o22 : Holds Tryz.prog 22 c22 := fn_holds (code := Tryz.f22.body.getD .skip) (by kernel_rfl) gamOk k22 Tryz.func22 (by kernel_rfl) (by kernel_rfl) (by kernel_rfl) (by kernel_rfl) v22 (fun x _ h => (r22 x).trans h)
/-! ### 6: loop.example/g00076/laws.toTables -/
noncomputable def t6 : Tbl := [(17, [], c17), (18, [], c18), (19, [], c19), (20, [], c20), (21, [], c21), (22, [], c22)]
noncomputable def a6 : Nat → Option LoopAnn := fun _ => none
noncomputable def g6 (x0 : Ta131) : Option (Ta132 × Unit) :=
  (g19 x0.2.2.2.2.2.2.2.1).bind fun y1 =>
    (g20 x0.2.2.2.2.2.2.2.2.1).bind fun y2 =>
      (g21 x0.2.2.2.2.2.2.2.2.2.1).bind fun y3 =>
        (g22 x0.2.2.2.2.2.2.2.2.2.2.1).bind fun y4 =>
          some (((x0.1, ((f17 x0.2.1), (x0.2.2.1, ((f18 x0.2.2.2.1), (x0.2.2.2.2.1, (x0.2.2.2.2.2.1, (x0.2.2.2.2.2.2.1, (y1.1.1, (y2.1.1, (y3.1.1, y4.1)))))))))), ()), ())
noncomputable def c6 : Ctr := { ins := [.v Ty155], out := [Ty155], F := fun x => g6 x.1 }
theorem v6 : LoopsOk Tryz.prog Γ t6 a6 (loopsIn (Tryz.f6.body.getD .skip) 0) := loopsOk_nil (by kernel_rfl)
theorem r6 (x : InsT c6.ins) : fnK Tryz.prog Γ t6 a6 Tryz.f6 c6 x = g6 x.1 := by kernel_rfl
theorem k6 : TblOk Tryz.prog t6 := tblOk_cons o17 (tblOk_cons o18 (tblOk_cons o19 (tblOk_cons o20 (tblOk_cons o21 (tblOk_cons o22 (tblOk_nil))))))
theorem o6 : Holds Tryz.prog 6 c6 := fn_holds (code := Tryz.f6.body.getD .skip) (by kernel_rfl) gamOk k6 Tryz.func6 (by kernel_rfl) (by kernel_rfl) (by kernel_rfl) (by kernel_rfl) v6 (fun x _ h => (r6 x).trans h)
/-! ### 36: loop.example/g00076/spec.l01In -/
noncomputable def t36 : Tbl := []
noncomputable def a36 : Nat → Option LoopAnn := fun _ => none
noncomputable def g36 (x0 : Int) (x1 : Int) (x2 : Int) : Option ((Bool × Unit) × Unit) :=
  bif (decide (x0 ≥ x1)) then
    some (((decide (x0 ≤ x2)), ()), ())
  else
    some ((false, ()), ())
noncomputable def f36 (x0 : Int) (x1 : Int) (x2 : Int) : Bool :=
  bif (decide (x0 ≥ x1)) then
    (decide (x0 ≤ x2))
  else
    false
theorem n36 (x0 : Int) (x1 : Int) (x2 : Int) : g36 x0 x1 x2 = some ((f36 x0 x1 x2, ()), ()) := by
  simp only [g36, f36, pull1]
noncomputable def c36 : Ctr := { ins := [.v (.int .i64), .v (.int .i64), .v (.int .i64)], out := [.bool], F := fun x => some ((f36 x.1 x.2.1 x.2.2.1, ()), ()) }
theorem v36 : LoopsOk Tryz.prog Γ t36 a36 (loopsIn (Tryz.f36.body.getD .skip) 0) := loopsOk_nil (by kernel_rfl)
theorem r36 (x : InsT c36.ins) : fnK Tryz.prog Γ t36 a36 Tryz.f36 c36 x = g36 x.1 x.2.1 x.2.2.1 := by kernel_rfl
theorem k36 : TblOk Tryz.prog t36 := tblOk_nil
theorem o36 : Holds Tryz.prog 36 c36 := fn_holds (code := Tryz.f36.body.getD .skip) (by kernel_rfl) gamOk k36 Tryz.func36 (by kernel_rfl) (by kernel_rfl) (by kernel_rfl) (by kernel_rfl) v36 (fun x _ h => (r36 x).trans ((n36 x.1 x.2.1 x.2.2.1).trans h))
/-! ### 61: loop.example/g00076/spec.ShapeOk -/
noncomputable def t61 : Tbl := [(36, [], c36)]
noncomputable def a61 : Nat → Option LoopAnn := fun _ => none
noncomputable def g61 (x0 : Ta5) : Option ((Bool × Unit) × Unit) :=
  bif (x0.1 == (1 : Int)) then
    bif (x0.2.2.1 == (4 : Int)) then
      some (((f36 x0.2.1 (1 : Int) (4 : Int)), ()), ())
    else
      bif (x0.2.2.1 == (8 : Int)) then
        some (((f36 x0.2.1 (1 : Int) (4 : Int)), ()), ())
      else
        bif (x0.2.2.1 == (16 : Int)) then
          some (((f36 x0.2.1 (1 : Int) (4 : Int)), ()), ())
        else
          bif (x0.2.2.1 == (32 : Int)) then
            some (((f36 x0.2.1 (1 : Int) (4 : Int)), ()), ())
          else
            some ((false, ()), ())
  else
    bif (x0.1 == (2 : Int)) then
      bif (x0.2.2.1 == (4 : Int)) then
        some (((f36 x0.2.1 (1 : Int) (4 : Int)), ()), ())
      else
        bif (x0.2.2.1 == (8 : Int)) then
          some (((f36 x0.2.1 (1 : Int) (4 : Int)), ()), ())
        else
          bif (x0.2.2.1 == (16 : Int)) then
            some (((f36 x0.2.1 (1 : Int) (4 : Int)), ()), ())
          else
            bif (x0.2.2.1 == (32 : Int)) then
              some (((f36 x0.2.1 (1 : Int) (4 : Int)), ()), ())
            else
              some ((false, ()), ())
    else
      bif (x0.1 == (4 : Int)) then
        bif (x0.2.2.1 == (4 : Int)) then
          some (((f36 x0.2.1 (1 : Int) (4 : Int)), ()), ())
        else
          bif (x0.2.2.1 == (8 : Int)) then
            some (((f36 x0.2.1 (1 : Int) (4 : Int)), ()), ())
          else
            bif (x0.2.2.1 == (16 : Int)) then
              some (((f36 x0.2.1 (1 : Int) (4 : Int)), ()), ())
            else
              bif (x0.2.2.1 == (32 : Int)) then
                some (((f36 x0.2.1 (1 : Int) (4 : Int)), ()), ())
              else
                some ((false, ()), ())
      else
        bif (x0.1 == (8 : Int)) then
          bif (x0.2.2.1 == (4 : Int)) then
            some (((f36 x0.2.1 (1 : Int) (4 : Int)), ()), ())
          else
            bif (x0.2.2.1 == (8 : Int)) then
              some (((f36 x0.2.1 (1 : Int) (4 : Int)), ()), ())
            else
              bif (x0.2.2.1 == (16 : Int)) then
                some (((f36 x0.2.1 (1 : Int) (4 : Int)), ()), ())
              else
                bif (x0.2.2.1 == (32 : Int)) then
                  some (((f36 x0.2.1 (1 : Int) (4 : Int)), ()), ())
                else
                  some ((false, ()), ())
        else
          bif (x0.2.2.1 == (4 : Int)) then
            bif (x0.1 == (16 : Int)) then
              some (((f36 x0.2.1 (1 : Int) (4 : Int)), ()), ())
            else
              some ((false, ()), ())
          else
            bif (x0.2.2.1 == (8 : Int)) then
              bif (x0.1 == (16 : Int)) then
                some (((f36 x0.2.1 (1 : Int) (4 : Int)), ()), ())
              else
                some ((false, ()), ())
            else
              bif (x0.2.2.1 == (16 : Int)) then
                bif (x0.1 == (16 : Int)) then
                  some (((f36 x0.2.1 (1 : Int) (4 : Int)), ()), ())
                else
                  some ((false, ()), ())
              else
                bif (x0.1 == (16 : Int)) then
                  bif (x0.2.2.1 == (32 : Int)) then
                    some (((f36 x0.2.1 (1 : Int) (4 : Int)), ()), ())
                  else
                    some ((false, ()), ())
                else
                  some ((false, ()), ())
noncomputable def f61 (x0 : Ta5) : Bool :=
  bif (x0.1 == (1 : Int)) then
    bif (x0.2.2.1 == (4 : Int)) then
      (f36 x0.2.1 (1 : Int) (4 : Int))
    else
      bif (x0.2.2.1 == (8 : Int)) then
        (f36 x0.2.1 (1 : Int) (4 : Int))
      else
        bif (x0.2.2.1 == (16 : Int)) then
          (f36 x0.2.1 (1 : Int) (4 : Int))
        else
          bif (x0.2.2.1 == (32 : Int)) then
            (f36 x0.2.1 (1 : Int) (4 : Int))
          else
            false
  else
    bif (x0.1 == (2 : Int)) then
      bif (x0.2.2.1 == (4 : Int)) then
        (f36 x0.2.1 (1 : Int) (4 : Int))
      else
        bif (x0.2.2.1 == (8 : Int)) then
          (f36 x0.2.1 (1 : Int) (4 : Int))
        else
          bif (x0.2.2.1 == (16 : Int)) then
            (f36 x0.2.1 (1 : Int) (4 : Int))
          else
            bif (x0.2.2.1 == (32 : Int)) then
              (f36 x0.2.1 (1 : Int) (4 : Int))
            else
              false
    else
      bif (x0.1 == (4 : Int)) then
        bif (x0.2.2.1 == (4 : Int)) then
          (f36 x0.2.1 (1 : Int) (4 : Int))
        else
          bif (x0.2.2.1 == (8 : Int)) then
            (f36 x0.2.1 (1 : Int) (4 : Int))
          else
            bif (x0.2.2.1 == (16 : Int)) then
              (f36 x0.2.1 (1 : Int) (4 : Int))
            else
              bif (x0.2.2.1 == (32 : Int)) then
                (f36 x0.2.1 (1 : Int) (4 : Int))
              else
                false
      else
        bif (x0.1 == (8 : Int)) then
          bif (x0.2.2.1 == (4 : Int)) then
            (f36 x0.2.1 (1 : Int) (4 : Int))
          else
            bif (x0.2.2.1 == (8 : Int)) then
              (f36 x0.2.1 (1 : Int) (4 : Int))
            else
              bif (x0.2.2.1 == (16 : Int)) then
                (f36 x0.2.1 (1 : Int) (4 : Int))
              else
                bif (x0.2.2.1 == (32 : Int)) then
                  (f36 x0.2.1 (1 : Int) (4 : Int))
                else
                  false
        else
          bif (x0.2.2.1 == (4 : Int)) then
            bif (x0.1 == (16 : Int)) then
              (f36 x0.2.1 (1 : Int) (4 : Int))
            else
              false
          else
            bif (x0.2.2.1 == (8 : Int)) then
              bif (x0.1 == (16 : Int)) then
                (f36 x0.2.1 (1 : Int) (4 : Int))
              else
                false
            else
              bif (x0.2.2.1 == (16 : Int)) then
                bif (x0.1 == (16 : Int)) then
                  (f36 x0.2.1 (1 : Int) (4 : Int))
                else
                  false
              else
                bif (x0.1 == (16 : Int)) then
                  bif (x0.2.2.1 == (32 : Int)) then
                    (f36 x0.2.1 (1 : Int) (4 : Int))
                  else
                    false
                else
                  false
theorem n61 (x0 : Ta5) : g61 x0 = some ((f61 x0, ()), ()) := by
  simp only [g61, f61, pull1]
noncomputable def c61 : Ctr := { ins := [.v Ty50], out := [.bool], F := fun x => some ((f61 x.1, ()), ()) }
theorem v61 : LoopsOk Tryz.prog Γ t61 a61 (loopsIn (Tryz.f61.body.getD .skip) 0) := loopsOk_nil (by kernel_rfl)
theorem r61 (x : InsT c61.ins) : fnK Tryz.prog Γ t61 a61 Tryz.f61 c61 x = g61 x.1 := by kernel_rfl
theorem k61 : TblOk Tryz.prog t61 := tblOk_cons o36 (tblOk_nil)
theorem o61 : Holds Tryz.prog 61 c61 := fn_holds (code := Tryz.f61.body.getD .skip) (by kernel_rfl) gamOk k61 Tryz.func61 (by kernel_rfl) (by kernel_rfl) (by kernel_rfl) (by kernel_rfl) v61 (fun x _ h => (r61 x).trans ((n61 x.1).trans h))
/-! ### 62: loop.example/g00076/spec.CostsOk -/
noncomputable def t62 : Tbl := [(36, [], c36)]
noncomputable def a62 : Nat → Option LoopAnn := fun _ => none
noncomputable def g62 (x0 : Ta48) : Option ((Bool × Unit) × Unit) :=
  bif (f36 x0.1 (1 : Int) (20 : Int)) then
    bif (f36 x0.2.1 (0 : Int) (50 : Int)) then
      bif (f36 x0.2.2.1 (0 : Int) (50 : Int)) then
        bif (f36 x0.2.2.2.1 (0 : Int) (50 : Int)) then
          bif (f36 x0.2.2.2.2.1 (0 : Int) (50 : Int)) then
            bif (f36 x0.2.2.2.2.2.1 (0 : Int) (50 : Int)) then
              some (((f36 x0.2.2.2.2.2.2.1 (0 : Int) (50 : Int)), ()), ())
            else
              some ((false, ()), ())
          else
            some ((false, ()), ())
        else
          some ((false, ()), ())
      else
        some ((false, ()), ())
    else
      some ((false, ()), ())
  else
    some ((false, ()), ())
noncomputable def f62 (x0 : Ta48) : Bool :=
  bif (f36 x0.1 (1 : Int) (20 : Int)) then
    bif (f36 x0.2.1 (0 : Int) (50 : Int)) then
      bif (f36 x0.2.2.1 (0 : Int) (50 : Int)) then
        bif (f36 x0.2.2.2.1 (0 : Int) (50 : Int)) then
          bif (f36 x0.2.2.2.2.1 (0 : Int) (50 : Int)) then
            bif (f36 x0.2.2.2.2.2.1 (0 : Int) (50 : Int)) then
              (f36 x0.2.2.2.2.2.2.1 (0 : Int) (50 : Int))
            else
              false
          else
            false
        else
          false
      else
        false
    else
      false
  else
    false
theorem n62 (x0 : Ta48) : g62 x0 = some ((f62 x0, ()), ()) := by
  simp only [g62, f62, pull1]
noncomputable def c62 : Ctr := { ins := [.v Ty102], out := [.bool], F := fun x => some ((f62 x.1, ()), ()) }
theorem v62 : LoopsOk Tryz.prog Γ t62 a62 (loopsIn (Tryz.f62.body.getD .skip) 0) := loopsOk_nil (by kernel_rfl)
theorem r62 (x : InsT c62.ins) : fnK Tryz.prog Γ t62 a62 Tryz.f62 c62 x = g62 x.1 := by kernel_rfl
theorem k62 : TblOk Tryz.prog t62 := tblOk_cons o36 (tblOk_nil)
theorem o62 : Holds Tryz.prog 62 c62 := fn_holds (code := Tryz.f62.body.getD .skip) (by kernel_rfl) gamOk k62 Tryz.func62 (by kernel_rfl) (by kernel_rfl) (by kernel_rfl) (by kernel_rfl) v62 (fun x _ h => (r62 x).trans ((n62 x.1).trans h))
/-! ### 108: loop.example/g00076/spec.l02Forms -/
noncomputable def t108 : Tbl := []
noncomputable def a108 : Nat → Option LoopAnn := fun _ => none
noncomputable def g108 : Option (((L Int) × Unit) × Unit) :=
  some (((L.of (Ty.zero (.int .i64)) [(0 : Int), (7 : Int), (7 : Int), (7 : Int), (7 : Int), (7 : Int), (7 : Int), (7 : Int), (7 : Int), (7 : Int), (7 : Int), (7 : Int), (7 : Int), (11 : Int), (9 : Int), (11 : Int), (11 : Int), (11 : Int), (11 : Int), (11 : Int), (11 : Int), (11 : Int), (9 : Int), (10 : Int), (1 : Int), (11 : Int), (11 : Int), (11 : Int), (9 : Int), (9 : Int), (0 : Int), (0 : Int), (8 : Int)]), ()), ())
noncomputable def f108 : (L Int) :=
  (L.of (Ty.zero (.int .i64)) [(0 : Int), (7 : Int), (7 : Int), (7 : Int), (7 : Int), (7 : Int), (7 : Int), (7 : Int), (7 : Int), (7 : Int), (7 : Int), (7 : Int), (7 : Int), (11 : Int), (9 : Int), (11 : Int), (11 : Int), (11 : Int), (11 : Int), (11 : Int), (11 : Int), (11 : Int), (9 : Int), (10 : Int), (1 : Int), (11 : Int), (11 : Int), (11 : Int), (9 : Int), (9 : Int), (0 : Int), (0 : Int), (8 : Int)])
theorem n108 : g108 = some ((f108, ()), ()) := by
  simp only [g108, f108, pull1]
noncomputable def c108 : Ctr := { ins := [], out := [(.sl (.int .i64))], F := fun x => some ((f108, ()), ()) }
theorem v108 : LoopsOk Tryz.prog Γ t108 a108 (loopsIn (Tryz.f108.body.getD .skip) 0) := loopsOk_nil (by kernel_rfl)
theorem r108 (x : InsT c108.ins) : fnK Tryz.prog Γ t108 a108 Tryz.f108 c108 x = g108 := by kernel_rfl
theorem k108 : TblOk Tryz.prog t108 := tblOk_nil
theorem o108 : Holds Tryz.prog 108 c108 := fn_holds (code := Tryz.f108.body.getD .skip) (by kernel_rfl) gamOk k108 Tryz.func108 (by kernel_rfl) (by kernel_rfl) (by kernel_rfl) (by kernel_rfl) v108 (fun x _ h => (r108 x).trans ((n108).trans h))
/-! ### 103: loop.example/g00076/spec.FormOf -/
noncomputable def t103 : Tbl := [(36, [], c36), (108, [], c108)]
noncomputable def a103 : Nat → Option LoopAnn := fun _ => none
noncomputable def g103 (x0 : Int) : Option ((Int × Unit) × Unit) :=
  bif (!(f36 x0 (0 : Int) (32 : Int))) then
    some (((-1 : Int), ()), ())
  else
    bif (decide (0 ≤ x0) && decide (x0 < ((f108).len : Int))) then
      some (((L.get (f108) x0.toNat), ()), ())
    else
      none
noncomputable def c103 : Ctr := { ins := [.v (.int .i64)], out := [(.int .i64)], F := fun x => g103 x.1 }
theorem v103 : LoopsOk Tryz.prog Γ t103 a103 (loopsIn (Tryz.f103.body.getD .skip) 0) := loopsOk_nil (by kernel_rfl)
theorem r103 (x : InsT c103.ins) : fnK Tryz.prog Γ t103 a103 Tryz.f103 c103 x = g103 x.1 := by kernel_rfl
theorem k103 : TblOk Tryz.prog t103 := tblOk_cons o36 (tblOk_cons o108 (tblOk_nil))
theorem o103 : Holds Tryz.prog 103 c103 := fn_holds (code := Tryz.f103.body.getD .skip) (by kernel_rfl) gamOk k103 Tryz.func103 (by kernel_rfl) (by kernel_rfl) (by kernel_rfl) (by kernel_rfl) v103 (fun x _ h => (r103 x).trans h)
/-! ### 87: loop.example/g00076/spec.OpCost -/
noncomputable def t87 : Tbl := [(62, [], c62), (103, [], c103), (36, [], c36)]
noncomputable def a87 : Nat → Option LoopAnn := fun _ => none
noncomputable def g87 (x0 : Ta48) (x1 : Int) : Option ((Int × Unit) × Unit) :=
  bif (!(f62 x0)) then
    some (((-1 : Int), ()), ())
  else
    (g103 x1).bind fun y1 =>
      bif (decide (y1.1.1 < (0 : Int))) then
        some (((-1 : Int), ()), ())
      else
        bif (x1 == (9 : Int)) then
          some (((wI (x0.1 + x0.2.1)), ()), ())
        else
          bif (x1 == (10 : Int)) then
            some (((wI (x0.1 + x0.2.1)), ()), ())
          else
            bif (f36 x1 (15 : Int) (18 : Int)) then
              some (((wI (x0.1 + x0.2.2.1)), ()), ())
            else
              bif (decide (x1 ≥ (25 : Int))) then
                some (((wI (x0.1 + x0.2.2.2.2.2.1)), ()), ())
              else
                some ((x0.1, ()), ())
noncomputable def c87 : Ctr := { ins := [.v Ty102, .v (.int .i64)], out := [(.int .i64)], F := fun x => g87 x.1 x.2.1 }
theorem v87 : LoopsOk Tryz.prog Γ t87 a87 (loopsIn (Tryz.f87.body.getD .skip) 0) := loopsOk_nil (by kernel_rfl)
theorem r87 (x : InsT c87.ins) : fnK Tryz.prog Γ t87 a87 Tryz.f87 c87 x = g87 x.1 x.2.1 := by kernel_rfl
theorem k87 : TblOk Tryz.prog t87 := tblOk_cons o62 (tblOk_cons o103 (tblOk_cons o36 (tblOk_nil)))
theorem o87 : Holds Tryz.prog 87 c87 := fn_holds (code := Tryz.f87.body.getD .skip) (by kernel_rfl) gamOk k87 Tryz.func87 (by kernel_rfl) (by kernel_rfl) (by kernel_rfl) (by kernel_rfl) v87 (fun x _ h => (r87 x).trans h)
/-! ### 104: loop.example/g00076/spec.AccessCost -/
noncomputable def t104 : Tbl := [(62, [], c62)]
noncomputable def a104 : Nat → Option LoopAnn := fun _ => none
noncomputable def g104 (x0 : Ta48) (x1 : Ta8) : Option ((Int × Unit) × Unit) :=
  bif (!(f62 x0)) then
    some (((-1 : Int), ()), ())
  else
    bif (!x1.1) then
      bif (!x1.2.1) then
        bif x1.2.2.1 then
          some (((wI ((wI ((wI ((0 : Int) + x0.2.2.2.1)) + x0.2.2.2.2.1)) + x0.2.2.2.2.2.2.1)), ()), ())
        else
          some (((wI ((wI ((0 : Int) + x0.2.2.2.1)) + x0.2.2.2.2.1)), ()), ())
      else
        bif x1.2.2.1 then
          some (((wI ((wI ((0 : Int) + x0.2.2.2.1)) + x0.2.2.2.2.2.2.1)), ()), ())
        else
          some (((wI ((0 : Int) + x0.2.2.2.1)), ()), ())
    else
      bif (!x1.2.1) then
        bif x1.2.2.1 then
          some (((wI ((wI ((0 : Int) + x0.2.2.2.2.1)) + x0.2.2.2.2.2.2.1)), ()), ())
        else
          some (((wI ((0 : Int) + x0.2.2.2.2.1)), ()), ())
      else
        bif x1.2.2.1 then
          some (((wI ((0 : Int) + x0.2.2.2.2.2.2.1)), ()), ())
        else
          some (((0 : Int), ()), ())
noncomputable def f104 (x0 : Ta48) (x1 : Ta8) : Int :=
  bif (!(f62 x0)) then
    (-1 : Int)
  else
    bif (!x1.1) then
      bif (!x1.2.1) then
        bif x1.2.2.1 then
          (wI ((wI ((wI ((0 : Int) + x0.2.2.2.1)) + x0.2.2.2.2.1)) + x0.2.2.2.2.2.2.1))
        else
          (wI ((wI ((0 : Int) + x0.2.2.2.1)) + x0.2.2.2.2.1))
      else
        bif x1.2.2.1 then
          (wI ((wI ((0 : Int) + x0.2.2.2.1)) + x0.2.2.2.2.2.2.1))
        else
          (wI ((0 : Int) + x0.2.2.2.1))
    else
      bif (!x1.2.1) then
        bif x1.2.2.1 then
          (wI ((wI ((0 : Int) + x0.2.2.2.2.1)) + x0.2.2.2.2.2.2.1))
        else
          (wI ((0 : Int) + x0.2.2.2.2.1))
      else
        bif x1.2.2.1 then
          (wI ((0 : Int) + x0.2.2.2.2.2.2.1))
        else
          (0 : Int)
theorem n104 (x0 : Ta48) (x1 : Ta8) : g104 x0 x1 = some ((f104 x0 x1, ()), ()) := by
  simp only [g104, f104, pull1]
noncomputable def c104 : Ctr := { ins := [.v Ty102, .v (.pair .bool (.pair .bool (.pair .bool .unit)))], out := [(.int .i64)], F := fun x => some ((f104 x.1 x.2.1, ()), ()) }
theorem v104 : LoopsOk Tryz.prog Γ t104 a104 (loopsIn (Tryz.f104.body.getD .skip) 0) := loopsOk_nil (by kernel_rfl)
theorem r104 (x : InsT c104.ins) : fnK Tryz.prog Γ t104 a104 Tryz.f104 c104 x = g104 x.1 x.2.1 := by kernel_rfl
theorem k104 : TblOk Tryz.prog t104 := tblOk_cons o62 (tblOk_nil)
theorem o104 : Holds Tryz.prog 104 c104 := fn_holds (code := Tryz.f104.body.getD .skip) (by kernel_rfl) gamOk k104 Tryz.func104 (by kernel_rfl) (by kernel_rfl) (by kernel_rfl) (by kernel_rfl) v104 (fun x _ h => (r104 x).trans ((n104 x.1 x.2.1).trans h))
/-! ### 88: loop.example/g00076/spec.WorstAccess -/
noncomputable def t88 : Tbl := [(104, [], c104)]
abbrev h88_L0 : Shape := { slots := [(1, .bx 1 0), (3, .v (.int .i64)), (4, .v (.int .i64))], boxes := [(1, .typ Ty102)] }
abbrev e88_L0 : List (XT × Shape) := [(.exit 0, { slots := [(3, .v (.int .i64))], boxes := [] })]
noncomputable def q88_L0 (t3 : Int) (t4 : Int) (b1 : Ta48) : Option (Ta86 ⊕ (((Int × Unit) × Unit) ⊕ Empty)) :=
  bif (decide (t4 < (8 : Int))) then
    bif (decide ((f104 b1 (((Int.tmod t4 (2 : Int)) == (1 : Int)), (((Int.tmod (wI (Int.tdiv t4 (2 : Int))) (2 : Int)) == (1 : Int)), (((wI (Int.tdiv t4 (4 : Int))) == (1 : Int)), ())))) > t3)) then
      some (.inl (((), ((f104 b1 (((Int.tmod t4 (2 : Int)) == (1 : Int)), (((Int.tmod (wI (Int.tdiv t4 (2 : Int))) (2 : Int)) == (1 : Int)), (((wI (Int.tdiv t4 (4 : Int))) == (1 : Int)), ())))), ((wI (t4 + (1 : Int))), ()))), (b1, ())))
    else
      some (.inl (((), (t3, ((wI (t4 + (1 : Int))), ()))), (b1, ())))
  else
    some (.inr (.inl ((t3, ()), ())))
noncomputable def s88_L0 (x : Ta86) : Option (Ta86 ⊕ (((Int × Unit) × Unit) ⊕ Empty)) := q88_L0 x.1.2.1 x.1.2.2.1 x.2.1
noncomputable def a88 : Nat → Option LoopAnn := fun c => bif Nat.beq c 0 then some (.fix h88_L0 e88_L0 s88_L0) else none
noncomputable def g88 (x0 : Ta48) : Option ((Int × Unit) × Unit) :=
  (fixO s88_L0 (((), ((-1 : Int), ((0 : Int), ()))), (x0, ()))).bind fun d2 => match d2 with
  | .inl y1 =>
    some ((y1.1.1, ()), ())
  | .inr e => nomatch e
noncomputable def c88 : Ctr := { ins := [.v Ty102], out := [(.int .i64)], F := fun x => g88 x.1 }
noncomputable def l88 : List (Nat × Code) := loopsIn (Tryz.f88.body.getD .skip) 0
theorem w88_L0 (x : h88_L0.T) : runK Tryz.prog Γ t88 (inlN Tryz.prog Γ t88 3) a88 (l88.getD 0 (0, .skip)).2 0 (pkSh h88_L0 x) (loopCls (sh := h88_L0) (es := e88_L0)) = (s88_L0 x : Option _) := by kernel_rfl
theorem v88 : LoopsOk Tryz.prog Γ t88 a88 (loopsIn (Tryz.f88.body.getD .skip) 0) := by
  have e : loopsIn (Tryz.f88.body.getD .skip) 0 = [(0, (l88.getD 0 (0, .skip)).2)] := by kernel_rfl
  rw [e]
  exact ⟨fun x d h => (w88_L0 x).trans h, trivial⟩
theorem r88 (x : InsT c88.ins) : fnK Tryz.prog Γ t88 a88 Tryz.f88 c88 x = g88 x.1 := by kernel_rfl
theorem k88 : TblOk Tryz.prog t88 := tblOk_cons o104 (tblOk_nil)
theorem o88 : Holds Tryz.prog 88 c88 := fn_holds (code := Tryz.f88.body.getD .skip) (by kernel_rfl) gamOk k88 Tryz.func88 (by kernel_rfl) (by kernel_rfl) (by kernel_rfl) (by kernel_rfl) v88 (fun x _ h => (r88 x).trans h)
/-! ### 63: loop.example/g00076/spec.WorstStep -/
noncomputable def t63 : Tbl := [(62, [], c62), (87, [], c87), (88, [], c88)]
abbrev h63_L0 : Shape := { slots := [(1, .bx 1 0), (3, .v (.int .i64)), (4, .v (.int .i64))], boxes := [(1, .typ Ty102)] }
abbrev e63_L0 : List (XT × Shape) := [(.exit 0, { slots := [(1, .bx 1 0), (3, .v (.int .i64))], boxes := [(1, .typ Ty102)] })]
noncomputable def q63_L0 (t3 : Int) (t4 : Int) (b1 : Ta48) : Option (Ta86 ⊕ (Ta79 ⊕ Empty)) :=
  bif (decide (t4 < (33 : Int))) then
    (g87 b1 t4).bind fun y1 =>
      bif (decide (y1.1.1 > t3)) then
        (g87 b1 t4).bind fun y2 =>
          some (.inl (((), (y2.1.1, ((wI (t4 + (1 : Int))), ()))), (b1, ())))
      else
        some (.inl (((), (t3, ((wI (t4 + (1 : Int))), ()))), (b1, ())))
  else
    some (.inr (.inl (((), (t3, ())), (b1, ()))))
noncomputable def s63_L0 (x : Ta86) : Option (Ta86 ⊕ (Ta79 ⊕ Empty)) := q63_L0 x.1.2.1 x.1.2.2.1 x.2.1
noncomputable def a63 : Nat → Option LoopAnn := fun c => bif Nat.beq c 0 then some (.fix h63_L0 e63_L0 s63_L0) else none
noncomputable def g63 (x0 : Ta48) : Option ((Int × Unit) × Unit) :=
  bif (!(f62 x0)) then
    some (((-1 : Int), ()), ())
  else
    (fixO s63_L0 (((), ((0 : Int), ((0 : Int), ()))), (x0, ()))).bind fun d5 => match d5 with
    | .inl y3 =>
      (g88 y3.2.1).bind fun y4 =>
        some (((wI ((wI (y3.1.2.1 + (wI ((2 : Int) * y4.1.1)))) + y3.2.1.2.2.2.2.2.1)), ()), ())
    | .inr e => nomatch e
noncomputable def c63 : Ctr := { ins := [.v Ty102], out := [(.int .i64)], F := fun x => g63 x.1 }
noncomputable def l63 : List (Nat × Code) := loopsIn (Tryz.f63.body.getD .skip) 0
theorem w63_L0 (x : h63_L0.T) : runK Tryz.prog Γ t63 (inlN Tryz.prog Γ t63 3) a63 (l63.getD 0 (0, .skip)).2 0 (pkSh h63_L0 x) (loopCls (sh := h63_L0) (es := e63_L0)) = (s63_L0 x : Option _) := by kernel_rfl
theorem v63 : LoopsOk Tryz.prog Γ t63 a63 (loopsIn (Tryz.f63.body.getD .skip) 0) := by
  have e : loopsIn (Tryz.f63.body.getD .skip) 0 = [(0, (l63.getD 0 (0, .skip)).2)] := by kernel_rfl
  rw [e]
  exact ⟨fun x d h => (w63_L0 x).trans h, trivial⟩
theorem r63 (x : InsT c63.ins) : fnK Tryz.prog Γ t63 a63 Tryz.f63 c63 x = g63 x.1 := by kernel_rfl
theorem k63 : TblOk Tryz.prog t63 := tblOk_cons o62 (tblOk_cons o87 (tblOk_cons o88 (tblOk_nil)))
theorem o63 : Holds Tryz.prog 63 c63 := fn_holds (code := Tryz.f63.body.getD .skip) (by kernel_rfl) gamOk k63 Tryz.func63 (by kernel_rfl) (by kernel_rfl) (by kernel_rfl) (by kernel_rfl) v63 (fun x _ h => (r63 x).trans h)
/-! ### 32: loop.example/g00076/spec.l13Head -/
noncomputable def t32 : Tbl := [(36, [], c36), (61, [], c61), (62, [], c62), (63, [], c63)]
noncomputable def a32 : Nat → Option LoopAnn := fun _ => none
noncomputable def g32 (x0 : Ta131) : Option ((Bool × Unit) × Unit) :=
  bif (!(f36 x0.1 (64 : Int) (2048 : Int))) then
    some ((false, ()), ())
  else
    bif ((Int.tmod x0.1 (4 : Int)) != (0 : Int)) then
      some ((false, ()), ())
    else
      bif (!(f61 x0.2.1)) then
        some ((false, ()), ())
      else
        bif (!(f36 x0.2.2.1 (1 : Int) (8 : Int))) then
          some ((false, ()), ())
        else
          bif (!(f62 x0.2.2.2.1)) then
            some ((false, ()), ())
          else
            bif (f36 x0.2.2.2.2.1 (1 : Int) (5000 : Int)) then
              bif (f36 x0.2.2.2.2.2.1 (1 : Int) (5000 : Int)) then
                bif (f36 x0.2.2.2.2.2.2.1 (1 : Int) (5000 : Int)) then
                  (g63 x0.2.2.2.1).bind fun y1 =>
                    some (((decide (x0.2.2.2.2.2.1 ≥ y1.1.1)), ()), ())
                else
                  some ((false, ()), ())
              else
                some ((false, ()), ())
            else
              some ((false, ()), ())
noncomputable def c32 : Ctr := { ins := [.v Ty155], out := [.bool], F := fun x => g32 x.1 }
theorem v32 : LoopsOk Tryz.prog Γ t32 a32 (loopsIn (Tryz.f32.body.getD .skip) 0) := loopsOk_nil (by kernel_rfl)
theorem r32 (x : InsT c32.ins) : fnK Tryz.prog Γ t32 a32 Tryz.f32 c32 x = g32 x.1 := by kernel_rfl
theorem k32 : TblOk Tryz.prog t32 := tblOk_cons o36 (tblOk_cons o61 (tblOk_cons o62 (tblOk_cons o63 (tblOk_nil))))
theorem o32 : Holds Tryz.prog 32 c32 := fn_holds (code := Tryz.f32.body.getD .skip) (by kernel_rfl) gamOk k32 Tryz.func32 (by kernel_rfl) (by kernel_rfl) (by kernel_rfl) (by kernel_rfl) v32 (fun x _ h => (r32 x).trans h)
/-! ### 105: loop.example/g00076/spec.LabelOk -/
noncomputable def t105 : Tbl := [(36, [], c36)]
abbrev h105_L0 : Shape := { slots := [(0, .v .str), (3, .v (.int .i64))], boxes := [] }
abbrev e105_L0 : List (XT × Shape) := [(.ret, { slots := [(2, .v .bool)], boxes := [] }), (.exit 0, { slots := [(0, .v .str)], boxes := [] })]
noncomputable def q105_L0 (t0 : ByteArray) (t3 : Int) : Option (Ta14 ⊕ (((Bool × Unit) × Unit) ⊕ (Ta3 ⊕ Empty))) :=
  bif (decide (t3 < (t0.size : Int))) then
    bif (decide (t3 < (13 : Int))) then
      bif (decide (0 ≤ t3) && decide (t3 < t0.size)) then
        bif (!(f36 (wI ((bt t0 t3))) (97 : Int) (122 : Int))) then
          some (.inr (.inl ((false, ()), ())))
        else
          some (.inl ((t0, ((wI (t3 + (1 : Int))), ())), ()))
      else
        none
    else
      some (.inr (.inr (.inl ((t0, ()), ()))))
  else
    some (.inr (.inr (.inl ((t0, ()), ()))))
noncomputable def s105_L0 (x : Ta14) : Option (Ta14 ⊕ (((Bool × Unit) × Unit) ⊕ (Ta3 ⊕ Empty))) := q105_L0 x.1.1 x.1.2.1
noncomputable def a105 : Nat → Option LoopAnn := fun c => bif Nat.beq c 0 then some (.fix h105_L0 e105_L0 s105_L0) else none
noncomputable def g105 (x0 : ByteArray) : Option ((Bool × Unit) × Unit) :=
  (fixO s105_L0 ((x0, ((0 : Int), ())), ())).bind fun d2 => match d2 with
  | .inl y1 =>
    some ((y1.1.1, ()), ())
  | .inr (.inl y1) =>
    some (((f36 (y1.1.1.size : Int) (1 : Int) (12 : Int)), ()), ())
  | .inr (.inr e) => nomatch e
noncomputable def c105 : Ctr := { ins := [.v .str], out := [.bool], F := fun x => g105 x.1 }
noncomputable def l105 : List (Nat × Code) := loopsIn (Tryz.f105.body.getD .skip) 0
theorem w105_L0 (x : h105_L0.T) : runK Tryz.prog Γ t105 (inlN Tryz.prog Γ t105 3) a105 (l105.getD 0 (0, .skip)).2 0 (pkSh h105_L0 x) (loopCls (sh := h105_L0) (es := e105_L0)) = (s105_L0 x : Option _) := by kernel_rfl
theorem v105 : LoopsOk Tryz.prog Γ t105 a105 (loopsIn (Tryz.f105.body.getD .skip) 0) := by
  have e : loopsIn (Tryz.f105.body.getD .skip) 0 = [(0, (l105.getD 0 (0, .skip)).2)] := by kernel_rfl
  rw [e]
  exact ⟨fun x d h => (w105_L0 x).trans h, trivial⟩
theorem r105 (x : InsT c105.ins) : fnK Tryz.prog Γ t105 a105 Tryz.f105 c105 x = g105 x.1 := by kernel_rfl
theorem k105 : TblOk Tryz.prog t105 := tblOk_cons o36 (tblOk_nil)
theorem o105 : Holds Tryz.prog 105 c105 := fn_holds (code := Tryz.f105.body.getD .skip) (by kernel_rfl) gamOk k105 Tryz.func105 (by kernel_rfl) (by kernel_rfl) (by kernel_rfl) (by kernel_rfl) v105 (fun x _ h => (r105 x).trans h)
/-! ### 89: loop.example/g00076/spec.NameOk -/
noncomputable def t89 : Tbl := [(105, [], c105)]
noncomputable def a89 : Nat → Option LoopAnn := fun _ => none
noncomputable def g89 (x0 : ByteArray) : Option ((Bool × Unit) × Unit) :=
  bif (decide ((x0.size : Int) ≤ (8 : Int))) then
    (g105 x0).bind fun y1 =>
      some ((y1.1.1, ()), ())
  else
    some ((false, ()), ())
noncomputable def c89 : Ctr := { ins := [.v .str], out := [.bool], F := fun x => g89 x.1 }
theorem v89 : LoopsOk Tryz.prog Γ t89 a89 (loopsIn (Tryz.f89.body.getD .skip) 0) := loopsOk_nil (by kernel_rfl)
theorem r89 (x : InsT c89.ins) : fnK Tryz.prog Γ t89 a89 Tryz.f89 c89 x = g89 x.1 := by kernel_rfl
theorem k89 : TblOk Tryz.prog t89 := tblOk_cons o105 (tblOk_nil)
theorem o89 : Holds Tryz.prog 89 c89 := fn_holds (code := Tryz.f89.body.getD .skip) (by kernel_rfl) gamOk k89 Tryz.func89 (by kernel_rfl) (by kernel_rfl) (by kernel_rfl) (by kernel_rfl) v89 (fun x _ h => (r89 x).trans h)
/-! ### 90: loop.example/g00076/spec.PolicyOk -/
noncomputable def t90 : Tbl := [(36, [], c36)]
noncomputable def a90 : Nat → Option LoopAnn := fun _ => none
noncomputable def g90 (x0 : (Int × (Int × Unit))) : Option ((Bool × Unit) × Unit) :=
  bif (x0.1 == (1 : Int)) then
    some (((f36 x0.2.1 (0 : Int) (100 : Int)), ()), ())
  else
    bif (x0.1 == (0 : Int)) then
      some (((x0.2.1 == (0 : Int)), ()), ())
    else
      bif (x0.1 == (2 : Int)) then
        some (((x0.2.1 == (0 : Int)), ()), ())
      else
        some ((false, ()), ())
noncomputable def f90 (x0 : (Int × (Int × Unit))) : Bool :=
  bif (x0.1 == (1 : Int)) then
    (f36 x0.2.1 (0 : Int) (100 : Int))
  else
    bif (x0.1 == (0 : Int)) then
      (x0.2.1 == (0 : Int))
    else
      bif (x0.1 == (2 : Int)) then
        (x0.2.1 == (0 : Int))
      else
        false
theorem n90 (x0 : (Int × (Int × Unit))) : g90 x0 = some ((f90 x0, ()), ()) := by
  simp only [g90, f90, pull1]
noncomputable def c90 : Ctr := { ins := [.v Ty29], out := [.bool], F := fun x => some ((f90 x.1, ()), ()) }
theorem v90 : LoopsOk Tryz.prog Γ t90 a90 (loopsIn (Tryz.f90.body.getD .skip) 0) := loopsOk_nil (by kernel_rfl)
theorem r90 (x : InsT c90.ins) : fnK Tryz.prog Γ t90 a90 Tryz.f90 c90 x = g90 x.1 := by kernel_rfl
theorem k90 : TblOk Tryz.prog t90 := tblOk_cons o36 (tblOk_nil)
theorem o90 : Holds Tryz.prog 90 c90 := fn_holds (code := Tryz.f90.body.getD .skip) (by kernel_rfl) gamOk k90 Tryz.func90 (by kernel_rfl) (by kernel_rfl) (by kernel_rfl) (by kernel_rfl) v90 (fun x _ h => (r90 x).trans ((n90 x.1).trans h))
/-! ### 91: loop.example/g00076/spec.WindowOk -/
noncomputable def t91 : Tbl := [(36, [], c36)]
noncomputable def a91 : Nat → Option LoopAnn := fun _ => none
noncomputable def g91 (x0 : Ta5) : Option ((Bool × Unit) × Unit) :=
  bif (f36 x0.1 (0 : Int) (2048 : Int)) then
    bif (f36 x0.2.1 (4 : Int) (2048 : Int)) then
      bif ((Int.tmod x0.1 (4 : Int)) == (0 : Int)) then
        bif ((Int.tmod x0.2.1 (4 : Int)) == (0 : Int)) then
          bif (decide ((wI (x0.1 + x0.2.1)) ≤ (2048 : Int))) then
            some (((f36 x0.2.2.1 (1 : Int) (7 : Int)), ()), ())
          else
            some ((false, ()), ())
        else
          some ((false, ()), ())
      else
        some ((false, ()), ())
    else
      some ((false, ()), ())
  else
    some ((false, ()), ())
noncomputable def f91 (x0 : Ta5) : Bool :=
  bif (f36 x0.1 (0 : Int) (2048 : Int)) then
    bif (f36 x0.2.1 (4 : Int) (2048 : Int)) then
      bif ((Int.tmod x0.1 (4 : Int)) == (0 : Int)) then
        bif ((Int.tmod x0.2.1 (4 : Int)) == (0 : Int)) then
          bif (decide ((wI (x0.1 + x0.2.1)) ≤ (2048 : Int))) then
            (f36 x0.2.2.1 (1 : Int) (7 : Int))
          else
            false
        else
          false
      else
        false
    else
      false
  else
    false
theorem n91 (x0 : Ta5) : g91 x0 = some ((f91 x0, ()), ()) := by
  simp only [g91, f91, pull1]
noncomputable def c91 : Ctr := { ins := [.v Ty50], out := [.bool], F := fun x => some ((f91 x.1, ()), ()) }
theorem v91 : LoopsOk Tryz.prog Γ t91 a91 (loopsIn (Tryz.f91.body.getD .skip) 0) := loopsOk_nil (by kernel_rfl)
theorem r91 (x : InsT c91.ins) : fnK Tryz.prog Γ t91 a91 Tryz.f91 c91 x = g91 x.1 := by kernel_rfl
theorem k91 : TblOk Tryz.prog t91 := tblOk_cons o36 (tblOk_nil)
theorem o91 : Holds Tryz.prog 91 c91 := fn_holds (code := Tryz.f91.body.getD .skip) (by kernel_rfl) gamOk k91 Tryz.func91 (by kernel_rfl) (by kernel_rfl) (by kernel_rfl) (by kernel_rfl) v91 (fun x _ h => (r91 x).trans ((n91 x.1).trans h))
/-! ### 92: loop.example/g00076/spec.l07Has -/
noncomputable def t92 : Tbl := []
noncomputable def a92 : Nat → Option LoopAnn := fun _ => none
noncomputable def g92 (x0 : Ta5) (x1 : Int) : Option ((Bool × Unit) × Unit) :=
  bif (decide (x1 ≥ x0.1)) then
    some (((decide (x1 < (wI (x0.1 + x0.2.1)))), ()), ())
  else
    some ((false, ()), ())
noncomputable def f92 (x0 : Ta5) (x1 : Int) : Bool :=
  bif (decide (x1 ≥ x0.1)) then
    (decide (x1 < (wI (x0.1 + x0.2.1))))
  else
    false
theorem n92 (x0 : Ta5) (x1 : Int) : g92 x0 x1 = some ((f92 x0 x1, ()), ()) := by
  simp only [g92, f92, pull1]
noncomputable def c92 : Ctr := { ins := [.v Ty50, .v (.int .i64)], out := [.bool], F := fun x => some ((f92 x.1 x.2.1, ()), ()) }
theorem v92 : LoopsOk Tryz.prog Γ t92 a92 (loopsIn (Tryz.f92.body.getD .skip) 0) := loopsOk_nil (by kernel_rfl)
theorem r92 (x : InsT c92.ins) : fnK Tryz.prog Γ t92 a92 Tryz.f92 c92 x = g92 x.1 x.2.1 := by kernel_rfl
theorem k92 : TblOk Tryz.prog t92 := tblOk_nil
theorem o92 : Holds Tryz.prog 92 c92 := fn_holds (code := Tryz.f92.body.getD .skip) (by kernel_rfl) gamOk k92 Tryz.func92 (by kernel_rfl) (by kernel_rfl) (by kernel_rfl) (by kernel_rfl) v92 (fun x _ h => (r92 x).trans ((n92 x.1 x.2.1).trans h))
/-! ### 64: loop.example/g00076/spec.l13PartOk -/
noncomputable def t64 : Tbl := [(89, [], c89), (90, [], c90), (36, [], c36), (91, [], c91), (92, [], c92)]
abbrev h64_L0 : Shape := { slots := [(1, .v (.int .i64)), (2, .bx 2 0), (5, .v .bool), (6, .v (.int .i64))], boxes := [(2, .typ Ty112)] }
abbrev e64_L0 : List (XT × Shape) := [(.ret, { slots := [(4, .v .bool)], boxes := [] }), (.exit 0, { slots := [(2, .bx 2 0), (5, .v .bool)], boxes := [(2, .typ Ty112)] })]
noncomputable def q64_L0 (t1 : Int) (t5 : Bool) (t6 : Int) (b2 : Ta74) : Option (Ta99 ⊕ (((Bool × Unit) × Unit) ⊕ (((Unit × (Bool × Unit)) × Ta81) ⊕ Empty))) :=
  bif (decide (t6 < (b2.2.2.2.1.len : Int))) then
    bif (decide (0 ≤ t6) && decide (t6 < (b2.2.2.2.1.len : Int))) then
      bif (!(f91 (L.get b2.2.2.2.1 t6.toNat))) then
        some (.inr (.inl ((false, ()), ())))
      else
        bif (decide ((wI ((L.get b2.2.2.2.1 t6.toNat).1 + (L.get b2.2.2.2.1 t6.toNat).2.1)) > t1)) then
          some (.inr (.inl ((false, ()), ())))
        else
          bif (f92 (L.get b2.2.2.2.1 t6.toNat) b2.2.1) then
            bif ((wI (Int.tdiv (L.get b2.2.2.2.1 t6.toNat).2.2.1 (4 : Int))) == (1 : Int)) then
              some (.inl ((t1, ((), (true, ((wI (t6 + (1 : Int))), ())))), (b2, ())))
            else
              some (.inl ((t1, ((), (t5, ((wI (t6 + (1 : Int))), ())))), (b2, ())))
          else
            some (.inl ((t1, ((), (t5, ((wI (t6 + (1 : Int))), ())))), (b2, ())))
    else
      none
  else
    some (.inr (.inr (.inl (((), (t5, ())), (b2, ())))))
noncomputable def s64_L0 (x : Ta99) : Option (Ta99 ⊕ (((Bool × Unit) × Unit) ⊕ (((Unit × (Bool × Unit)) × Ta81) ⊕ Empty))) := q64_L0 x.1.1 x.1.2.2.1 x.1.2.2.2.1 x.2.1
noncomputable def a64 : Nat → Option LoopAnn := fun c => bif Nat.beq c 0 then some (.fix h64_L0 e64_L0 s64_L0) else none
noncomputable def g64 (x0 : Ta74) (x1 : Int) : Option ((Bool × Unit) × Unit) :=
  (g89 x0.1).bind fun y1 =>
    bif (!y1.1.1) then
      some ((false, ()), ())
    else
      bif (!(f90 x0.2.2.1)) then
        some ((false, ()), ())
      else
        bif (!(f36 (x0.2.2.2.1.len : Int) (1 : Int) (4 : Int))) then
          some ((false, ()), ())
        else
          (fixO s64_L0 ((x1, ((), (false, ((0 : Int), ())))), (x0, ()))).bind fun d3 => match d3 with
          | .inl y2 =>
            some ((y2.1.1, ()), ())
          | .inr (.inl y2) =>
            bif y2.1.2.1 then
              some ((((Int.tmod y2.2.1.2.1 (4 : Int)) == (0 : Int)), ()), ())
            else
              some ((false, ()), ())
          | .inr (.inr e) => nomatch e
noncomputable def c64 : Ctr := { ins := [.v Ty112, .v (.int .i64)], out := [.bool], F := fun x => g64 x.1 x.2.1 }
noncomputable def l64 : List (Nat × Code) := loopsIn (Tryz.f64.body.getD .skip) 0
theorem w64_L0 (x : h64_L0.T) : runK Tryz.prog Γ t64 (inlN Tryz.prog Γ t64 3) a64 (l64.getD 0 (0, .skip)).2 0 (pkSh h64_L0 x) (loopCls (sh := h64_L0) (es := e64_L0)) = (s64_L0 x : Option _) := by kernel_rfl
theorem v64 : LoopsOk Tryz.prog Γ t64 a64 (loopsIn (Tryz.f64.body.getD .skip) 0) := by
  have e : loopsIn (Tryz.f64.body.getD .skip) 0 = [(0, (l64.getD 0 (0, .skip)).2)] := by kernel_rfl
  rw [e]
  exact ⟨fun x d h => (w64_L0 x).trans h, trivial⟩
theorem r64 (x : InsT c64.ins) : fnK Tryz.prog Γ t64 a64 Tryz.f64 c64 x = g64 x.1 x.2.1 := by kernel_rfl
theorem k64 : TblOk Tryz.prog t64 := tblOk_cons o89 (tblOk_cons o90 (tblOk_cons o36 (tblOk_cons o91 (tblOk_cons o92 (tblOk_nil)))))
theorem o64 : Holds Tryz.prog 64 c64 := fn_holds (code := Tryz.f64.body.getD .skip) (by kernel_rfl) gamOk k64 Tryz.func64 (by kernel_rfl) (by kernel_rfl) (by kernel_rfl) (by kernel_rfl) v64 (fun x _ h => (r64 x).trans h)
/-! ### 65: loop.example/g00076/spec.l13Windows -/
noncomputable def t65 : Tbl := []
abbrev h65_L0 : Shape := { slots := [(0, .v Ty113), (3, .exo Ty50 50003), (4, .v (.int .i64))], boxes := [] }
abbrev e65_L0 : List (XT × Shape) := [(.exit 0, { slots := [(3, .exo Ty50 50003)], boxes := [] })]
noncomputable def q65_L0 (t0 : Ta78) (t3 : Ta9) (t4 : Int) : Option (Ta107 ⊕ (Ta37 ⊕ Empty)) :=
  bif (decide (t4 < (t0.len : Int))) then
    bif (decide (0 ≤ t4) && decide (t4 < (t0.len : Int))) then
      bif (decide (t3.len + (L.get t0 t4.toNat).2.2.2.1.len ≤ most)) then
        some (.inl ((t0, ((L.app t3 (L.get t0 t4.toNat).2.2.2.1), ((wI (t4 + (1 : Int))), ()))), ()))
      else
        none
    else
      none
  else
    some (.inr (.inl ((t3, ()), ())))
noncomputable def s65_L0 (x : Ta107) : Option (Ta107 ⊕ (Ta37 ⊕ Empty)) := q65_L0 x.1.1 x.1.2.1 x.1.2.2.1
noncomputable def a65 : Nat → Option LoopAnn := fun c => bif Nat.beq c 0 then some (.fix h65_L0 e65_L0 s65_L0) else none
noncomputable def g65 (x0 : Ta78) : Option Ta37 :=
  (fixO s65_L0 ((x0, ((L.of (Ty.zero Ty50) []), ((0 : Int), ()))), ())).bind fun d2 => match d2 with
  | .inl y1 =>
    some ((y1.1.1, ()), ())
  | .inr e => nomatch e
noncomputable def c65 : Ctr := { ins := [.v Ty113], out := [Ty57], F := fun x => g65 x.1 }
noncomputable def l65 : List (Nat × Code) := loopsIn (Tryz.f65.body.getD .skip) 0
theorem w65_L0 (x : h65_L0.T) : runK Tryz.prog Γ t65 (inlN Tryz.prog Γ t65 3) a65 (l65.getD 0 (0, .skip)).2 0 (pkSh h65_L0 x) (loopCls (sh := h65_L0) (es := e65_L0)) = (s65_L0 x : Option _) := by kernel_rfl
theorem v65 : LoopsOk Tryz.prog Γ t65 a65 (loopsIn (Tryz.f65.body.getD .skip) 0) := by
  have e : loopsIn (Tryz.f65.body.getD .skip) 0 = [(0, (l65.getD 0 (0, .skip)).2)] := by kernel_rfl
  rw [e]
  exact ⟨fun x d h => (w65_L0 x).trans h, trivial⟩
theorem r65 (x : InsT c65.ins) : fnK Tryz.prog Γ t65 a65 Tryz.f65 c65 x = g65 x.1 := by kernel_rfl
theorem k65 : TblOk Tryz.prog t65 := tblOk_nil
theorem o65 : Holds Tryz.prog 65 c65 := fn_holds (code := Tryz.f65.body.getD .skip) (by kernel_rfl) gamOk k65 Tryz.func65 (by kernel_rfl) (by kernel_rfl) (by kernel_rfl) (by kernel_rfl) v65 (fun x _ h => (r65 x).trans h)
/-! ### 33: loop.example/g00076/spec.l13Parts -/
noncomputable def t33 : Tbl := [(36, [], c36), (64, [], c64), (65, [], c65)]
abbrev h33_L2 : Shape := { slots := [(1, .bx 1 0), (3, .v (.int .i64)), (4, .v (.int .i64))], boxes := [(1, .typ Ty155)] }
abbrev e33_L2 : List (XT × Shape) := [(.ret, { slots := [(2, .v .bool)], boxes := [] }), (.exit 2, { slots := [(1, .bx 1 0), (3, .v (.int .i64))], boxes := [(1, .typ Ty155)] })]
noncomputable def q33_L2 (t3 : Int) (t4 : Int) (b1 : Ta131) : Option (Ta136 ⊕ (((Bool × Unit) × Unit) ⊕ (Ta134 ⊕ Empty))) :=
  bif (decide (t4 < t3)) then
    bif (decide (0 ≤ t4) && decide (t4 < (b1.2.2.2.2.2.2.2.1.len : Int))) then
      bif (decide (0 ≤ t3) && decide (t3 < (b1.2.2.2.2.2.2.2.1.len : Int))) then
        bif (strEq (L.get b1.2.2.2.2.2.2.2.1 t4.toNat).1 (L.get b1.2.2.2.2.2.2.2.1 t3.toNat).1) then
          some (.inr (.inl ((false, ()), ())))
        else
          some (.inl (((), (t3, ((wI (t4 + (1 : Int))), ()))), (b1, ())))
      else
        none
    else
      none
  else
    some (.inr (.inr (.inl (((), (t3, ())), (b1, ())))))
noncomputable def s33_L2 (x : Ta136) : Option (Ta136 ⊕ (((Bool × Unit) × Unit) ⊕ (Ta134 ⊕ Empty))) := q33_L2 x.1.2.1 x.1.2.2.1 x.2.1
abbrev h33_L0 : Shape := { slots := [(1, .bx 1 0), (3, .v (.int .i64))], boxes := [(1, .typ Ty155)] }
abbrev e33_L0 : List (XT × Shape) := [(.ret, { slots := [(2, .v .bool)], boxes := [] }), (.exit 0, { slots := [(1, .bx 1 0)], boxes := [(1, .typ Ty155)] })]
noncomputable def q33_L0 (t3 : Int) (b1 : Ta131) : Option (Ta134 ⊕ (((Bool × Unit) × Unit) ⊕ (Ta133 ⊕ Empty))) :=
  bif (decide (t3 < (b1.2.2.2.2.2.2.2.1.len : Int))) then
    bif (decide (0 ≤ t3) && decide (t3 < (b1.2.2.2.2.2.2.2.1.len : Int))) then
      (g64 (L.get b1.2.2.2.2.2.2.2.1 t3.toNat) b1.1).bind fun y1 =>
        bif (!y1.1.1) then
          some (.inr (.inl ((false, ()), ())))
        else
          (fixO s33_L2 (((), (t3, ((0 : Int), ()))), (b1, ()))).bind fun d3 => match d3 with
          | .inl y2 =>
            some (.inr (.inl y2))
          | .inr (.inl y2) =>
            some (.inl (((), ((wI (y2.1.2.1 + (1 : Int))), ())), y2.2))
          | .inr (.inr e) => nomatch e
    else
      none
  else
    some (.inr (.inr (.inl (((), ()), (b1, ())))))
noncomputable def s33_L0 (x : Ta134) : Option (Ta134 ⊕ (((Bool × Unit) × Unit) ⊕ (Ta133 ⊕ Empty))) := q33_L0 x.1.2.1 x.2.1
abbrev h33_L6 : Shape := { slots := [(5, .v Ty57), (6, .v (.int .i64)), (7, .v (.int .i64))], boxes := [] }
abbrev e33_L6 : List (XT × Shape) := [(.ret, { slots := [(2, .v .bool)], boxes := [] }), (.exit 6, { slots := [(5, .v Ty57), (6, .v (.int .i64))], boxes := [] })]
noncomputable def q33_L6 (t5 : Ta9) (t6 : Int) (t7 : Int) : Option (Ta55 ⊕ (((Bool × Unit) × Unit) ⊕ (Ta45 ⊕ Empty))) :=
  bif (decide (t7 < t6)) then
    bif (decide (0 ≤ t7) && decide (t7 < (t5.len : Int))) then
      bif (decide (0 ≤ t6) && decide (t6 < (t5.len : Int))) then
        bif (decide (0 ≤ t6) && decide (t6 < (t5.len : Int))) then
          bif (decide ((L.get t5 t7.toNat).1 < (wI ((L.get t5 t6.toNat).1 + (L.get t5 t6.toNat).2.1)))) then
            bif (decide (0 ≤ t6) && decide (t6 < (t5.len : Int))) then
              bif (decide (0 ≤ t7) && decide (t7 < (t5.len : Int))) then
                bif (decide (0 ≤ t7) && decide (t7 < (t5.len : Int))) then
                  bif (decide ((L.get t5 t6.toNat).1 < (wI ((L.get t5 t7.toNat).1 + (L.get t5 t7.toNat).2.1)))) then
                    some (.inr (.inl ((false, ()), ())))
                  else
                    some (.inl ((t5, (t6, ((wI (t7 + (1 : Int))), ()))), ()))
                else
                  none
              else
                none
            else
              none
          else
            some (.inl ((t5, (t6, ((wI (t7 + (1 : Int))), ()))), ()))
        else
          none
      else
        none
    else
      none
  else
    some (.inr (.inr (.inl ((t5, (t6, ())), ()))))
noncomputable def s33_L6 (x : Ta55) : Option (Ta55 ⊕ (((Bool × Unit) × Unit) ⊕ (Ta45 ⊕ Empty))) := q33_L6 x.1.1 x.1.2.1 x.1.2.2.1
abbrev h33_L4 : Shape := { slots := [(5, .v Ty57), (6, .v (.int .i64))], boxes := [] }
abbrev e33_L4 : List (XT × Shape) := [(.ret, { slots := [(2, .v .bool)], boxes := [] }), (.exit 4, { slots := [], boxes := [] })]
noncomputable def q33_L4 (t5 : Ta9) (t6 : Int) : Option (Ta45 ⊕ (((Bool × Unit) × Unit) ⊕ ((Unit × Unit) ⊕ Empty))) :=
  bif (decide (t6 < (t5.len : Int))) then
    (fixO s33_L6 ((t5, (t6, ((0 : Int), ()))), ())).bind fun d7 => match d7 with
    | .inl y6 =>
      some (.inr (.inl y6))
    | .inr (.inl y6) =>
      some (.inl ((y6.1.1, ((wI (y6.1.2.1 + (1 : Int))), ())), ()))
    | .inr (.inr e) => nomatch e
  else
    some (.inr (.inr (.inl ((), ()))))
noncomputable def s33_L4 (x : Ta45) : Option (Ta45 ⊕ (((Bool × Unit) × Unit) ⊕ ((Unit × Unit) ⊕ Empty))) := q33_L4 x.1.1 x.1.2.1
noncomputable def a33 : Nat → Option LoopAnn := fun c => bif Nat.beq c 2 then some (.fix h33_L2 e33_L2 s33_L2) else bif Nat.beq c 0 then some (.fix h33_L0 e33_L0 s33_L0) else bif Nat.beq c 6 then some (.fix h33_L6 e33_L6 s33_L6) else bif Nat.beq c 4 then some (.fix h33_L4 e33_L4 s33_L4) else none
noncomputable def g33 (x0 : Ta131) : Option ((Bool × Unit) × Unit) :=
  bif (!(f36 (x0.2.2.2.2.2.2.2.1.len : Int) (1 : Int) (6 : Int))) then
    some ((false, ()), ())
  else
    (fixO s33_L0 (((), ((0 : Int), ())), (x0, ()))).bind fun d10 => match d10 with
    | .inl y4 =>
      some ((y4.1.1, ()), ())
    | .inr (.inl y4) =>
      (g65 y4.2.1.2.2.2.2.2.2.2.1).bind fun y5 =>
        (fixO s33_L4 ((y5.1.1, ((0 : Int), ())), ())).bind fun d9 => match d9 with
        | .inl y8 =>
          some ((y8.1.1, ()), ())
        | .inr (.inl y8) =>
          some ((true, ()), ())
        | .inr (.inr e) => nomatch e
    | .inr (.inr e) => nomatch e
noncomputable def c33 : Ctr := { ins := [.v Ty155], out := [.bool], F := fun x => g33 x.1 }
noncomputable def l33 : List (Nat × Code) := loopsIn (Tryz.f33.body.getD .skip) 0
theorem w33_L2 (x : h33_L2.T) : runK Tryz.prog Γ t33 (inlN Tryz.prog Γ t33 3) a33 (l33.getD 1 (0, .skip)).2 2 (pkSh h33_L2 x) (loopCls (sh := h33_L2) (es := e33_L2)) = (s33_L2 x : Option _) := by kernel_rfl
theorem w33_L0 (x : h33_L0.T) : runK Tryz.prog Γ t33 (inlN Tryz.prog Γ t33 3) a33 (l33.getD 0 (0, .skip)).2 0 (pkSh h33_L0 x) (loopCls (sh := h33_L0) (es := e33_L0)) = (s33_L0 x : Option _) := by kernel_rfl
theorem w33_L6 (x : h33_L6.T) : runK Tryz.prog Γ t33 (inlN Tryz.prog Γ t33 3) a33 (l33.getD 3 (0, .skip)).2 6 (pkSh h33_L6 x) (loopCls (sh := h33_L6) (es := e33_L6)) = (s33_L6 x : Option _) := by kernel_rfl
theorem w33_L4 (x : h33_L4.T) : runK Tryz.prog Γ t33 (inlN Tryz.prog Γ t33 3) a33 (l33.getD 2 (0, .skip)).2 4 (pkSh h33_L4 x) (loopCls (sh := h33_L4) (es := e33_L4)) = (s33_L4 x : Option _) := by kernel_rfl
theorem v33 : LoopsOk Tryz.prog Γ t33 a33 (loopsIn (Tryz.f33.body.getD .skip) 0) := by
  have e : loopsIn (Tryz.f33.body.getD .skip) 0 = [(0, (l33.getD 0 (0, .skip)).2), (2, (l33.getD 1 (0, .skip)).2), (4, (l33.getD 2 (0, .skip)).2), (6, (l33.getD 3 (0, .skip)).2)] := by kernel_rfl
  rw [e]
  exact ⟨fun x d h => (w33_L0 x).trans h, fun x d h => (w33_L2 x).trans h, fun x d h => (w33_L4 x).trans h, fun x d h => (w33_L6 x).trans h, trivial⟩
theorem r33 (x : InsT c33.ins) : fnK Tryz.prog Γ t33 a33 Tryz.f33 c33 x = g33 x.1 := by kernel_rfl
theorem k33 : TblOk Tryz.prog t33 := tblOk_cons o36 (tblOk_cons o64 (tblOk_cons o65 (tblOk_nil)))
theorem o33 : Holds Tryz.prog 33 c33 := fn_holds (code := Tryz.f33.body.getD .skip) (by kernel_rfl) gamOk k33 Tryz.func33 (by kernel_rfl) (by kernel_rfl) (by kernel_rfl) (by kernel_rfl) v33 (fun x _ h => (r33 x).trans h)
/-! ### 66: loop.example/g00076/spec.ChanOk -/
noncomputable def t66 : Tbl := [(36, [], c36)]
noncomputable def a66 : Nat → Option LoopAnn := fun _ => none
noncomputable def g66 (x0 : Ta16) : Option ((Bool × Unit) × Unit) :=
  bif (!(f36 x0.2.1 (0 : Int) (5 : Int))) then
    some ((false, ()), ())
  else
    bif (!(f36 x0.2.2.1 (0 : Int) (5 : Int))) then
      some ((false, ()), ())
    else
      bif (x0.2.1 == x0.2.2.1) then
        some ((false, ()), ())
      else
        bif (x0.1 == (0 : Int)) then
          bif (x0.2.2.2.1 == (0 : Int)) then
            some ((true, ()), ())
          else
            bif (x0.1 == (1 : Int)) then
              some (((f36 x0.2.2.2.1 (1 : Int) (8 : Int)), ()), ())
            else
              some ((false, ()), ())
        else
          bif (x0.1 == (1 : Int)) then
            some (((f36 x0.2.2.2.1 (1 : Int) (8 : Int)), ()), ())
          else
            some ((false, ()), ())
noncomputable def f66 (x0 : Ta16) : Bool :=
  bif (!(f36 x0.2.1 (0 : Int) (5 : Int))) then
    false
  else
    bif (!(f36 x0.2.2.1 (0 : Int) (5 : Int))) then
      false
    else
      bif (x0.2.1 == x0.2.2.1) then
        false
      else
        bif (x0.1 == (0 : Int)) then
          bif (x0.2.2.2.1 == (0 : Int)) then
            true
          else
            bif (x0.1 == (1 : Int)) then
              (f36 x0.2.2.2.1 (1 : Int) (8 : Int))
            else
              false
        else
          bif (x0.1 == (1 : Int)) then
            (f36 x0.2.2.2.1 (1 : Int) (8 : Int))
          else
            false
theorem n66 (x0 : Ta16) : g66 x0 = some ((f66 x0, ()), ()) := by
  simp only [g66, f66, pull1]
noncomputable def c66 : Ctr := { ins := [.v Ty71], out := [.bool], F := fun x => some ((f66 x.1, ()), ()) }
theorem v66 : LoopsOk Tryz.prog Γ t66 a66 (loopsIn (Tryz.f66.body.getD .skip) 0) := loopsOk_nil (by kernel_rfl)
theorem r66 (x : InsT c66.ins) : fnK Tryz.prog Γ t66 a66 Tryz.f66 c66 x = g66 x.1 := by kernel_rfl
theorem k66 : TblOk Tryz.prog t66 := tblOk_cons o36 (tblOk_nil)
theorem o66 : Holds Tryz.prog 66 c66 := fn_holds (code := Tryz.f66.body.getD .skip) (by kernel_rfl) gamOk k66 Tryz.func66 (by kernel_rfl) (by kernel_rfl) (by kernel_rfl) (by kernel_rfl) v66 (fun x _ h => (r66 x).trans ((n66 x.1).trans h))
/-! ### 67: loop.example/g00076/spec.WorstPad -/
noncomputable def t67 : Tbl := [(62, [], c62), (61, [], c61), (66, [], c66)]
abbrev h67_L0 : Shape := { slots := [(2, .v Ty76), (3, .bx 3 0), (7, .v (.int .i64)), (8, .v (.int .i64))], boxes := [(3, .typ Ty102)] }
abbrev e67_L0 : List (XT × Shape) := [(.ret, { slots := [(6, .v (.int .i64))], boxes := [] }), (.exit 0, { slots := [(7, .v (.int .i64))], boxes := [] })]
noncomputable def q67_L0 (t2 : Ta22) (t7 : Int) (t8 : Int) (b3 : Ta48) : Option (Ta104 ⊕ (((Int × Unit) × Unit) ⊕ (((Int × Unit) × Unit) ⊕ Empty))) :=
  bif (decide (t8 < (t2.len : Int))) then
    bif (decide (0 ≤ t8) && decide (t8 < (t2.len : Int))) then
      bif (!(f66 (L.get t2 t8.toNat))) then
        some (.inr (.inl (((-1 : Int), ()), ())))
      else
        bif (decide (0 ≤ t8) && decide (t8 < (t2.len : Int))) then
          bif ((L.get t2 t8.toNat).1 == (0 : Int)) then
            some (.inl ((t2, ((), ((wI (t7 + b3.1)), ((wI (t8 + (1 : Int))), ())))), (b3, ())))
          else
            bif (decide (0 ≤ t8) && decide (t8 < (t2.len : Int))) then
              some (.inl ((t2, ((), ((wI (t7 + (wI (b3.1 * (L.get t2 t8.toNat).2.2.2.1)))), ((wI (t8 + (1 : Int))), ())))), (b3, ())))
            else
              none
        else
          none
    else
      none
  else
    some (.inr (.inr (.inl ((t7, ()), ()))))
noncomputable def s67_L0 (x : Ta104) : Option (Ta104 ⊕ (((Int × Unit) × Unit) ⊕ (((Int × Unit) × Unit) ⊕ Empty))) := q67_L0 x.1.1 x.1.2.2.1 x.1.2.2.2.1 x.2.1
noncomputable def a67 : Nat → Option LoopAnn := fun c => bif Nat.beq c 0 then some (.fix h67_L0 e67_L0 s67_L0) else none
noncomputable def g67 (x0 : Ta48) (x1 : Ta5) (x2 : Ta22) : Option ((Int × Unit) × Unit) :=
  bif (!(f62 x0)) then
    some (((-1 : Int), ()), ())
  else
    bif (!(f61 x1)) then
      some (((-1 : Int), ()), ())
    else
      bif (decide ((x2.len : Int) > (8 : Int))) then
        some (((-1 : Int), ()), ())
      else
        (fixO s67_L0 ((x2, ((), ((wI ((wI ((16 : Int) * x0.1)) + (wI ((wI (x1.1 * x1.2.1)) * x0.2.2.2.2.2.2.1)))), ((0 : Int), ())))), (x0, ()))).bind fun d2 => match d2 with
        | .inl y1 =>
          some ((y1.1.1, ()), ())
        | .inr (.inl y1) =>
          some ((y1.1.1, ()), ())
        | .inr (.inr e) => nomatch e
noncomputable def c67 : Ctr := { ins := [.v Ty102, .v Ty50, .v Ty76], out := [(.int .i64)], F := fun x => g67 x.1 x.2.1 x.2.2.1 }
noncomputable def l67 : List (Nat × Code) := loopsIn (Tryz.f67.body.getD .skip) 0
theorem w67_L0 (x : h67_L0.T) : runK Tryz.prog Γ t67 (inlN Tryz.prog Γ t67 3) a67 (l67.getD 0 (0, .skip)).2 0 (pkSh h67_L0 x) (loopCls (sh := h67_L0) (es := e67_L0)) = (s67_L0 x : Option _) := by kernel_rfl
theorem v67 : LoopsOk Tryz.prog Γ t67 a67 (loopsIn (Tryz.f67.body.getD .skip) 0) := by
  have e : loopsIn (Tryz.f67.body.getD .skip) 0 = [(0, (l67.getD 0 (0, .skip)).2)] := by kernel_rfl
  rw [e]
  exact ⟨fun x d h => (w67_L0 x).trans h, trivial⟩
theorem r67 (x : InsT c67.ins) : fnK Tryz.prog Γ t67 a67 Tryz.f67 c67 x = g67 x.1 x.2.1 x.2.2.1 := by kernel_rfl
theorem k67 : TblOk Tryz.prog t67 := tblOk_cons o62 (tblOk_cons o61 (tblOk_cons o66 (tblOk_nil)))
theorem o67 : Holds Tryz.prog 67 c67 := fn_holds (code := Tryz.f67.body.getD .skip) (by kernel_rfl) gamOk k67 Tryz.func67 (by kernel_rfl) (by kernel_rfl) (by kernel_rfl) (by kernel_rfl) v67 (fun x _ h => (r67 x).trans h)
/-! ### 34: loop.example/g00076/spec.l13Chans -/
noncomputable def t34 : Tbl := [(36, [], c36), (66, [], c66), (67, [], c67)]
abbrev h34_L0 : Shape := { slots := [(1, .bx 1 0), (3, .v (.int .i64))], boxes := [(1, .typ Ty155)] }
abbrev e34_L0 : List (XT × Shape) := [(.ret, { slots := [(2, .v .bool)], boxes := [] }), (.exit 0, { slots := [(1, .bx 1 0)], boxes := [(1, .typ Ty155)] })]
noncomputable def q34_L0 (t3 : Int) (b1 : Ta131) : Option (Ta134 ⊕ (((Bool × Unit) × Unit) ⊕ (Ta133 ⊕ Empty))) :=
  bif (decide (t3 < (b1.2.2.2.2.2.2.2.2.1.len : Int))) then
    bif (decide (0 ≤ t3) && decide (t3 < (b1.2.2.2.2.2.2.2.2.1.len : Int))) then
      bif (!(f36 (L.get b1.2.2.2.2.2.2.2.2.1 t3.toNat) (0 : Int) (wI ((b1.2.2.2.2.2.2.2.1.len : Int) - (1 : Int))))) then
        some (.inr (.inl ((false, ()), ())))
      else
        some (.inl (((), ((wI (t3 + (1 : Int))), ())), (b1, ())))
    else
      none
  else
    some (.inr (.inr (.inl (((), ()), (b1, ())))))
noncomputable def s34_L0 (x : Ta134) : Option (Ta134 ⊕ (((Bool × Unit) × Unit) ⊕ (Ta133 ⊕ Empty))) := q34_L0 x.1.2.1 x.2.1
abbrev h34_L2 : Shape := { slots := [(1, .bx 1 0), (4, .v (.int .i64))], boxes := [(1, .typ Ty155)] }
abbrev e34_L2 : List (XT × Shape) := [(.ret, { slots := [(2, .v .bool)], boxes := [] }), (.exit 2, { slots := [(1, .bx 1 0)], boxes := [(1, .typ Ty155)] })]
noncomputable def q34_L2 (t4 : Int) (b1 : Ta131) : Option (Ta134 ⊕ (((Bool × Unit) × Unit) ⊕ (Ta133 ⊕ Empty))) :=
  bif (decide (t4 < (b1.2.2.2.2.2.2.2.2.2.1.len : Int))) then
    bif (decide (0 ≤ t4) && decide (t4 < (b1.2.2.2.2.2.2.2.2.2.1.len : Int))) then
      bif (!(f66 (L.get b1.2.2.2.2.2.2.2.2.2.1 t4.toNat))) then
        some (.inr (.inl ((false, ()), ())))
      else
        bif (decide (0 ≤ t4) && decide (t4 < (b1.2.2.2.2.2.2.2.2.2.1.len : Int))) then
          bif (decide ((L.get b1.2.2.2.2.2.2.2.2.2.1 t4.toNat).2.1 ≥ (b1.2.2.2.2.2.2.2.1.len : Int))) then
            some (.inr (.inl ((false, ()), ())))
          else
            bif (decide (0 ≤ t4) && decide (t4 < (b1.2.2.2.2.2.2.2.2.2.1.len : Int))) then
              bif (decide ((L.get b1.2.2.2.2.2.2.2.2.2.1 t4.toNat).2.2.1 ≥ (b1.2.2.2.2.2.2.2.1.len : Int))) then
                some (.inr (.inl ((false, ()), ())))
              else
                some (.inl (((), ((wI (t4 + (1 : Int))), ())), (b1, ())))
            else
              none
        else
          none
    else
      none
  else
    some (.inr (.inr (.inl (((), ()), (b1, ())))))
noncomputable def s34_L2 (x : Ta134) : Option (Ta134 ⊕ (((Bool × Unit) × Unit) ⊕ (Ta133 ⊕ Empty))) := q34_L2 x.1.2.1 x.2.1
noncomputable def a34 : Nat → Option LoopAnn := fun c => bif Nat.beq c 0 then some (.fix h34_L0 e34_L0 s34_L0) else bif Nat.beq c 2 then some (.fix h34_L2 e34_L2 s34_L2) else none
noncomputable def g34 (x0 : Ta131) : Option ((Bool × Unit) × Unit) :=
  bif (decide ((x0.2.2.2.2.2.2.2.2.1.len : Int) > (8 : Int))) then
    some ((false, ()), ())
  else
    bif (decide ((x0.2.2.2.2.2.2.2.2.2.1.len : Int) > (8 : Int))) then
      some ((false, ()), ())
    else
      (fixO s34_L0 (((), ((0 : Int), ())), (x0, ()))).bind fun d5 => match d5 with
      | .inl y1 =>
        some ((y1.1.1, ()), ())
      | .inr (.inl y1) =>
        (fixO s34_L2 (((), ((0 : Int), ())), y1.2)).bind fun d4 => match d4 with
        | .inl y2 =>
          some ((y2.1.1, ()), ())
        | .inr (.inl y2) =>
          (g67 y2.2.1.2.2.2.1 y2.2.1.2.1 y2.2.1.2.2.2.2.2.2.2.2.2.1).bind fun y3 =>
            some (((decide (y2.2.1.2.2.2.2.1 ≥ y3.1.1)), ()), ())
        | .inr (.inr e) => nomatch e
      | .inr (.inr e) => nomatch e
noncomputable def c34 : Ctr := { ins := [.v Ty155], out := [.bool], F := fun x => g34 x.1 }
noncomputable def l34 : List (Nat × Code) := loopsIn (Tryz.f34.body.getD .skip) 0
theorem w34_L0 (x : h34_L0.T) : runK Tryz.prog Γ t34 (inlN Tryz.prog Γ t34 3) a34 (l34.getD 0 (0, .skip)).2 0 (pkSh h34_L0 x) (loopCls (sh := h34_L0) (es := e34_L0)) = (s34_L0 x : Option _) := by kernel_rfl
theorem w34_L2 (x : h34_L2.T) : runK Tryz.prog Γ t34 (inlN Tryz.prog Γ t34 3) a34 (l34.getD 1 (0, .skip)).2 2 (pkSh h34_L2 x) (loopCls (sh := h34_L2) (es := e34_L2)) = (s34_L2 x : Option _) := by kernel_rfl
theorem v34 : LoopsOk Tryz.prog Γ t34 a34 (loopsIn (Tryz.f34.body.getD .skip) 0) := by
  have e : loopsIn (Tryz.f34.body.getD .skip) 0 = [(0, (l34.getD 0 (0, .skip)).2), (2, (l34.getD 1 (0, .skip)).2)] := by kernel_rfl
  rw [e]
  exact ⟨fun x d h => (w34_L0 x).trans h, fun x d h => (w34_L2 x).trans h, trivial⟩
theorem r34 (x : InsT c34.ins) : fnK Tryz.prog Γ t34 a34 Tryz.f34 c34 x = g34 x.1 := by kernel_rfl
theorem k34 : TblOk Tryz.prog t34 := tblOk_cons o36 (tblOk_cons o66 (tblOk_cons o67 (tblOk_nil)))
theorem o34 : Holds Tryz.prog 34 c34 := fn_holds (code := Tryz.f34.body.getD .skip) (by kernel_rfl) gamOk k34 Tryz.func34 (by kernel_rfl) (by kernel_rfl) (by kernel_rfl) (by kernel_rfl) v34 (fun x _ h => (r34 x).trans h)
/-! ### 35: loop.example/g00076/spec.l13Slots -/
noncomputable def t35 : Tbl := [(36, [], c36)]
abbrev h35_L0 : Shape := { slots := [(1, .bx 1 0), (3, .v (.int .i64)), (4, .v (.int .i64))], boxes := [(1, .typ Ty155)] }
abbrev e35_L0 : List (XT × Shape) := [(.ret, { slots := [(2, .v .bool)], boxes := [] }), (.exit 0, { slots := [], boxes := [] })]
noncomputable def q35_L0 (t3 : Int) (t4 : Int) (b1 : Ta131) : Option (Ta136 ⊕ (((Bool × Unit) × Unit) ⊕ ((Unit × Unit) ⊕ Empty))) :=
  bif (decide (t4 < (b1.2.2.2.2.2.2.2.2.2.2.1.len : Int))) then
    bif (decide (0 ≤ t4) && decide (t4 < (b1.2.2.2.2.2.2.2.2.2.2.1.len : Int))) then
      bif (!(f36 (L.get b1.2.2.2.2.2.2.2.2.2.2.1 t4.toNat).1 (0 : Int) (wI ((b1.2.2.2.2.2.2.2.1.len : Int) - (1 : Int))))) then
        some (.inr (.inl ((false, ()), ())))
      else
        bif (!(f36 (L.get b1.2.2.2.2.2.2.2.2.2.2.1 t4.toNat).2.1 t3 (5000 : Int))) then
          some (.inr (.inl ((false, ()), ())))
        else
          bif (!(f36 (L.get b1.2.2.2.2.2.2.2.2.2.2.1 t4.toNat).2.2.1 (wI ((wI (b1.2.2.2.2.1 + b1.2.2.2.2.2.1)) + (1 : Int))) (5000 : Int))) then
            some (.inr (.inl ((false, ()), ())))
          else
            bif (decide ((wI ((L.get b1.2.2.2.2.2.2.2.2.2.2.1 t4.toNat).2.1 + (L.get b1.2.2.2.2.2.2.2.2.2.2.1 t4.toNat).2.2.1)) > b1.2.2.2.2.2.2.1)) then
              some (.inr (.inl ((false, ()), ())))
            else
              some (.inl (((), ((wI ((L.get b1.2.2.2.2.2.2.2.2.2.2.1 t4.toNat).2.1 + (L.get b1.2.2.2.2.2.2.2.2.2.2.1 t4.toNat).2.2.1)), ((wI (t4 + (1 : Int))), ()))), (b1, ())))
    else
      none
  else
    some (.inr (.inr (.inl ((), ()))))
noncomputable def s35_L0 (x : Ta136) : Option (Ta136 ⊕ (((Bool × Unit) × Unit) ⊕ ((Unit × Unit) ⊕ Empty))) := q35_L0 x.1.2.1 x.1.2.2.1 x.2.1
noncomputable def a35 : Nat → Option LoopAnn := fun c => bif Nat.beq c 0 then some (.fix h35_L0 e35_L0 s35_L0) else none
noncomputable def g35 (x0 : Ta131) : Option ((Bool × Unit) × Unit) :=
  bif (!(f36 (x0.2.2.2.2.2.2.2.2.2.2.1.len : Int) (1 : Int) (16 : Int))) then
    some ((false, ()), ())
  else
    (fixO s35_L0 (((), ((0 : Int), ((0 : Int), ()))), (x0, ()))).bind fun d2 => match d2 with
    | .inl y1 =>
      some ((y1.1.1, ()), ())
    | .inr (.inl y1) =>
      some ((true, ()), ())
    | .inr (.inr e) => nomatch e
noncomputable def c35 : Ctr := { ins := [.v Ty155], out := [.bool], F := fun x => g35 x.1 }
noncomputable def l35 : List (Nat × Code) := loopsIn (Tryz.f35.body.getD .skip) 0
theorem w35_L0 (x : h35_L0.T) : runK Tryz.prog Γ t35 (inlN Tryz.prog Γ t35 3) a35 (l35.getD 0 (0, .skip)).2 0 (pkSh h35_L0 x) (loopCls (sh := h35_L0) (es := e35_L0)) = (s35_L0 x : Option _) := by kernel_rfl
theorem v35 : LoopsOk Tryz.prog Γ t35 a35 (loopsIn (Tryz.f35.body.getD .skip) 0) := by
  have e : loopsIn (Tryz.f35.body.getD .skip) 0 = [(0, (l35.getD 0 (0, .skip)).2)] := by kernel_rfl
  rw [e]
  exact ⟨fun x d h => (w35_L0 x).trans h, trivial⟩
theorem r35 (x : InsT c35.ins) : fnK Tryz.prog Γ t35 a35 Tryz.f35 c35 x = g35 x.1 := by kernel_rfl
theorem k35 : TblOk Tryz.prog t35 := tblOk_cons o36 (tblOk_nil)
theorem o35 : Holds Tryz.prog 35 c35 := fn_holds (code := Tryz.f35.body.getD .skip) (by kernel_rfl) gamOk k35 Tryz.func35 (by kernel_rfl) (by kernel_rfl) (by kernel_rfl) (by kernel_rfl) v35 (fun x _ h => (r35 x).trans h)
/-! ### 13: loop.example/g00076/spec.Sound -/
noncomputable def t13 : Tbl := [(32, [], c32), (33, [], c33), (34, [], c34), (35, [], c35)]
noncomputable def a13 : Nat → Option LoopAnn := fun _ => none
noncomputable def g13 (x0 : Ta131) : Option ((Bool × Unit) × Unit) :=
  (g32 x0).bind fun y1 =>
    bif y1.1.1 then
      (g33 x0).bind fun y2 =>
        bif y2.1.1 then
          (g34 x0).bind fun y3 =>
            bif y3.1.1 then
              (g35 x0).bind fun y4 =>
                some ((y4.1.1, ()), ())
            else
              some ((false, ()), ())
        else
          some ((false, ()), ())
    else
      some ((false, ()), ())
noncomputable def c13 : Ctr := { ins := [.v Ty155], out := [.bool], F := fun x => g13 x.1 }
theorem v13 : LoopsOk Tryz.prog Γ t13 a13 (loopsIn (Tryz.f13.body.getD .skip) 0) := loopsOk_nil (by kernel_rfl)
theorem r13 (x : InsT c13.ins) : fnK Tryz.prog Γ t13 a13 Tryz.f13 c13 x = g13 x.1 := by kernel_rfl
theorem k13 : TblOk Tryz.prog t13 := tblOk_cons o32 (tblOk_cons o33 (tblOk_cons o34 (tblOk_cons o35 (tblOk_nil))))
theorem o13 : Holds Tryz.prog 13 c13 := fn_holds (code := Tryz.f13.body.getD .skip) (by kernel_rfl) gamOk k13 Tryz.func13 (by kernel_rfl) (by kernel_rfl) (by kernel_rfl) (by kernel_rfl) v13 (fun x _ h => (r13 x).trans h)
/-! ### 15: loop.example/g00076/spec.DecText -/
noncomputable def t15 : Tbl := []
abbrev h15_L0 : Shape := { slots := [(0, .v (.int .i64)), (3, .v .str), (4, .v (.int .i64))], boxes := [] }
abbrev e15_L0 : List (XT × Shape) := [(.exit 0, { slots := [(0, .v (.int .i64)), (3, .v .str)], boxes := [] })]
noncomputable def q15_L0 (t0 : Int) (t3 : ByteArray) (t4 : Int) : Option (Ta24 ⊕ (((Int × (ByteArray × Unit)) × Unit) ⊕ Empty)) :=
  bif (t4 != (0 : Int)) then
    bif (decide ((Int.tmod t4 (10 : Int)) < (0 : Int))) then
      bif (decide (0 ≤ (wI (0 - (Int.tmod t4 (10 : Int))))) && (decide ((wI (0 - (Int.tmod t4 (10 : Int)))) ≤ (wI ((wI (0 - (Int.tmod t4 (10 : Int)))) + (1 : Int)))) && decide ((wI ((wI (0 - (Int.tmod t4 (10 : Int)))) + (1 : Int))) ≤ ((⟨#[48, 49, 50, 51, 52, 53, 54, 55, 56, 57]⟩ : ByteArray).size : Int)))) then
        bif (Nat.ble ((ByteArray.extract (⟨#[48, 49, 50, 51, 52, 53, 54, 55, 56, 57]⟩ : ByteArray) (wI (0 - (Int.tmod t4 (10 : Int)))).toNat (wI ((wI (0 - (Int.tmod t4 (10 : Int)))) + (1 : Int))).toNat).size + t3.size) 9223372036854775807) then
          some (.inl ((t0, (((ByteArray.extract (⟨#[48, 49, 50, 51, 52, 53, 54, 55, 56, 57]⟩ : ByteArray) (wI (0 - (Int.tmod t4 (10 : Int)))).toNat (wI ((wI (0 - (Int.tmod t4 (10 : Int)))) + (1 : Int))).toNat) ++ t3), ((wI (Int.tdiv t4 (10 : Int))), ()))), ()))
        else
          none
      else
        none
    else
      bif (decide (0 ≤ (Int.tmod t4 (10 : Int))) && (decide ((Int.tmod t4 (10 : Int)) ≤ (wI ((Int.tmod t4 (10 : Int)) + (1 : Int)))) && decide ((wI ((Int.tmod t4 (10 : Int)) + (1 : Int))) ≤ ((⟨#[48, 49, 50, 51, 52, 53, 54, 55, 56, 57]⟩ : ByteArray).size : Int)))) then
        bif (Nat.ble ((ByteArray.extract (⟨#[48, 49, 50, 51, 52, 53, 54, 55, 56, 57]⟩ : ByteArray) (Int.tmod t4 (10 : Int)).toNat (wI ((Int.tmod t4 (10 : Int)) + (1 : Int))).toNat).size + t3.size) 9223372036854775807) then
          some (.inl ((t0, (((ByteArray.extract (⟨#[48, 49, 50, 51, 52, 53, 54, 55, 56, 57]⟩ : ByteArray) (Int.tmod t4 (10 : Int)).toNat (wI ((Int.tmod t4 (10 : Int)) + (1 : Int))).toNat) ++ t3), ((wI (Int.tdiv t4 (10 : Int))), ()))), ()))
        else
          none
      else
        none
  else
    some (.inr (.inl ((t0, (t3, ())), ())))
noncomputable def s15_L0 (x : Ta24) : Option (Ta24 ⊕ (((Int × (ByteArray × Unit)) × Unit) ⊕ Empty)) := q15_L0 x.1.1 x.1.2.1 x.1.2.2.1
noncomputable def a15 : Nat → Option LoopAnn := fun c => bif Nat.beq c 0 then some (.fix h15_L0 e15_L0 s15_L0) else none
noncomputable def g15 (x0 : Int) : Option Ta3 :=
  bif (x0 == (0 : Int)) then
    some (((⟨#[48]⟩ : ByteArray), ()), ())
  else
    (fixO s15_L0 ((x0, ((⟨#[]⟩ : ByteArray), (x0, ()))), ())).bind fun d2 => match d2 with
    | .inl y1 =>
      bif (decide (y1.1.1 < (0 : Int))) then
        bif (Nat.ble ((⟨#[45]⟩ : ByteArray).size + y1.1.2.1.size) 9223372036854775807) then
          some ((((⟨#[45]⟩ : ByteArray) ++ y1.1.2.1), ()), ())
        else
          none
      else
        some ((y1.1.2.1, ()), ())
    | .inr e => nomatch e
noncomputable def c15 : Ctr := { ins := [.v (.int .i64)], out := [.str], F := fun x => g15 x.1 }
noncomputable def l15 : List (Nat × Code) := loopsIn (Tryz.f15.body.getD .skip) 0
theorem w15_L0 (x : h15_L0.T) : runK Tryz.prog Γ t15 (inlN Tryz.prog Γ t15 3) a15 (l15.getD 0 (0, .skip)).2 0 (pkSh h15_L0 x) (loopCls (sh := h15_L0) (es := e15_L0)) = (s15_L0 x : Option _) := by kernel_rfl
theorem v15 : LoopsOk Tryz.prog Γ t15 a15 (loopsIn (Tryz.f15.body.getD .skip) 0) := by
  have e : loopsIn (Tryz.f15.body.getD .skip) 0 = [(0, (l15.getD 0 (0, .skip)).2)] := by kernel_rfl
  rw [e]
  exact ⟨fun x d h => (w15_L0 x).trans h, trivial⟩
theorem r15 (x : InsT c15.ins) : fnK Tryz.prog Γ t15 a15 Tryz.f15 c15 x = g15 x.1 := by kernel_rfl
theorem k15 : TblOk Tryz.prog t15 := tblOk_nil
theorem o15 : Holds Tryz.prog 15 c15 := fn_holds (code := Tryz.f15.body.getD .skip) (by kernel_rfl) gamOk k15 Tryz.func15 (by kernel_rfl) (by kernel_rfl) (by kernel_rfl) (by kernel_rfl) v15 (fun x _ h => (r15 x).trans h)
/-! ### 14: loop.example/g00076/spec.l14Say -/
noncomputable def t14 : Tbl := [(15, [], c15)]
abbrev h14_L0 : Shape := { slots := [(0, .v .str), (1, .v (.sl (.int .i64))), (5, .v (.int .i64))], boxes := [] }
abbrev e14_L0 : List (XT × Shape) := [(.exit 0, { slots := [(0, .v .str)], boxes := [] })]
noncomputable def q14_L0 (t0 : ByteArray) (t1 : (L Int)) (t5 : Int) : Option (Ta33 ⊕ (Ta3 ⊕ Empty)) :=
  bif (decide (t5 < (t1.len : Int))) then
    bif (Nat.ble (t0.size + (⟨#[32]⟩ : ByteArray).size) 9223372036854775807) then
      bif (decide (0 ≤ t5) && decide (t5 < (t1.len : Int))) then
        (g15 (L.get t1 t5.toNat)).bind fun y1 =>
          bif (Nat.ble ((t0 ++ (⟨#[32]⟩ : ByteArray)).size + y1.1.1.size) 9223372036854775807) then
            some (.inl ((((t0 ++ (⟨#[32]⟩ : ByteArray)) ++ y1.1.1), (t1, ((wI (t5 + (1 : Int))), ()))), ()))
          else
            none
      else
        none
    else
      none
  else
    some (.inr (.inl ((t0, ()), ())))
noncomputable def s14_L0 (x : Ta33) : Option (Ta33 ⊕ (Ta3 ⊕ Empty)) := q14_L0 x.1.1 x.1.2.1 x.1.2.2.1
noncomputable def a14 : Nat → Option LoopAnn := fun c => bif Nat.beq c 0 then some (.fix h14_L0 e14_L0 s14_L0) else none
noncomputable def g14 (x0 : ByteArray) (x1 : (L Int)) : Option Ta3 :=
  (fixO s14_L0 ((x0, (x1, ((0 : Int), ()))), ())).bind fun d3 => match d3 with
  | .inl y2 =>
    bif (Nat.ble (y2.1.1.size + (⟨#[10]⟩ : ByteArray).size) 9223372036854775807) then
      some (((y2.1.1 ++ (⟨#[10]⟩ : ByteArray)), ()), ())
    else
      none
  | .inr e => nomatch e
noncomputable def c14 : Ctr := { ins := [.v .str, .v (.sl (.int .i64))], out := [.str], F := fun x => g14 x.1 x.2.1 }
noncomputable def l14 : List (Nat × Code) := loopsIn (Tryz.f14.body.getD .skip) 0
theorem w14_L0 (x : h14_L0.T) : runK Tryz.prog Γ t14 (inlN Tryz.prog Γ t14 3) a14 (l14.getD 0 (0, .skip)).2 0 (pkSh h14_L0 x) (loopCls (sh := h14_L0) (es := e14_L0)) = (s14_L0 x : Option _) := by kernel_rfl
theorem v14 : LoopsOk Tryz.prog Γ t14 a14 (loopsIn (Tryz.f14.body.getD .skip) 0) := by
  have e : loopsIn (Tryz.f14.body.getD .skip) 0 = [(0, (l14.getD 0 (0, .skip)).2)] := by kernel_rfl
  rw [e]
  exact ⟨fun x d h => (w14_L0 x).trans h, trivial⟩
theorem r14 (x : InsT c14.ins) : fnK Tryz.prog Γ t14 a14 Tryz.f14 c14 x = g14 x.1 x.2.1 := by kernel_rfl
theorem k14 : TblOk Tryz.prog t14 := tblOk_cons o15 (tblOk_nil)
theorem o14 : Holds Tryz.prog 14 c14 := fn_holds (code := Tryz.f14.body.getD .skip) (by kernel_rfl) gamOk k14 Tryz.func14 (by kernel_rfl) (by kernel_rfl) (by kernel_rfl) (by kernel_rfl) v14 (fun x _ h => (r14 x).trans h)
/-! ### 16: loop.example/g00076/spec.PermText -/
noncomputable def t16 : Tbl := [(36, [], c36)]
noncomputable def a16 : Nat → Option LoopAnn := fun _ => none
noncomputable def g16 (x0 : Int) : Option Ta3 :=
  bif (!(f36 x0 (1 : Int) (7 : Int))) then
    some (((⟨#[]⟩ : ByteArray), ()), ())
  else
    bif ((Int.tmod x0 (2 : Int)) == (1 : Int)) then
      bif (Nat.ble ((⟨#[]⟩ : ByteArray).size + (⟨#[114]⟩ : ByteArray).size) 9223372036854775807) then
        bif ((Int.tmod (wI (Int.tdiv x0 (2 : Int))) (2 : Int)) == (1 : Int)) then
          bif (Nat.ble (((⟨#[]⟩ : ByteArray) ++ (⟨#[114]⟩ : ByteArray)).size + (⟨#[119]⟩ : ByteArray).size) 9223372036854775807) then
            bif ((wI (Int.tdiv x0 (4 : Int))) == (1 : Int)) then
              bif (Nat.ble ((((⟨#[]⟩ : ByteArray) ++ (⟨#[114]⟩ : ByteArray)) ++ (⟨#[119]⟩ : ByteArray)).size + (⟨#[120]⟩ : ByteArray).size) 9223372036854775807) then
                some ((((((⟨#[]⟩ : ByteArray) ++ (⟨#[114]⟩ : ByteArray)) ++ (⟨#[119]⟩ : ByteArray)) ++ (⟨#[120]⟩ : ByteArray)), ()), ())
              else
                none
            else
              some (((((⟨#[]⟩ : ByteArray) ++ (⟨#[114]⟩ : ByteArray)) ++ (⟨#[119]⟩ : ByteArray)), ()), ())
          else
            none
        else
          bif ((wI (Int.tdiv x0 (4 : Int))) == (1 : Int)) then
            bif (Nat.ble (((⟨#[]⟩ : ByteArray) ++ (⟨#[114]⟩ : ByteArray)).size + (⟨#[120]⟩ : ByteArray).size) 9223372036854775807) then
              some (((((⟨#[]⟩ : ByteArray) ++ (⟨#[114]⟩ : ByteArray)) ++ (⟨#[120]⟩ : ByteArray)), ()), ())
            else
              none
          else
            some ((((⟨#[]⟩ : ByteArray) ++ (⟨#[114]⟩ : ByteArray)), ()), ())
      else
        none
    else
      bif ((Int.tmod (wI (Int.tdiv x0 (2 : Int))) (2 : Int)) == (1 : Int)) then
        bif (Nat.ble ((⟨#[]⟩ : ByteArray).size + (⟨#[119]⟩ : ByteArray).size) 9223372036854775807) then
          bif ((wI (Int.tdiv x0 (4 : Int))) == (1 : Int)) then
            bif (Nat.ble (((⟨#[]⟩ : ByteArray) ++ (⟨#[119]⟩ : ByteArray)).size + (⟨#[120]⟩ : ByteArray).size) 9223372036854775807) then
              some (((((⟨#[]⟩ : ByteArray) ++ (⟨#[119]⟩ : ByteArray)) ++ (⟨#[120]⟩ : ByteArray)), ()), ())
            else
              none
          else
            some ((((⟨#[]⟩ : ByteArray) ++ (⟨#[119]⟩ : ByteArray)), ()), ())
        else
          none
      else
        bif ((wI (Int.tdiv x0 (4 : Int))) == (1 : Int)) then
          bif (Nat.ble ((⟨#[]⟩ : ByteArray).size + (⟨#[120]⟩ : ByteArray).size) 9223372036854775807) then
            some ((((⟨#[]⟩ : ByteArray) ++ (⟨#[120]⟩ : ByteArray)), ()), ())
          else
            none
        else
          some (((⟨#[]⟩ : ByteArray), ()), ())
noncomputable def c16 : Ctr := { ins := [.v (.int .i64)], out := [.str], F := fun x => g16 x.1 }
theorem v16 : LoopsOk Tryz.prog Γ t16 a16 (loopsIn (Tryz.f16.body.getD .skip) 0) := loopsOk_nil (by kernel_rfl)
theorem r16 (x : InsT c16.ins) : fnK Tryz.prog Γ t16 a16 Tryz.f16 c16 x = g16 x.1 := by kernel_rfl
theorem k16 : TblOk Tryz.prog t16 := tblOk_cons o36 (tblOk_nil)
theorem o16 : Holds Tryz.prog 16 c16 := fn_holds (code := Tryz.f16.body.getD .skip) (by kernel_rfl) gamOk k16 Tryz.func16 (by kernel_rfl) (by kernel_rfl) (by kernel_rfl) (by kernel_rfl) v16 (fun x _ h => (r16 x).trans h)
/-! ### 5: loop.example/g00076/spec.PrintConf -/
noncomputable def t5 : Tbl := [(13, [], c13), (14, [], c14), (15, [], c15), (16, [], c16)]
abbrev h5_L0 : Shape := { slots := [(1, .bx 1 0), (5, .v .str), (6, .v (.int .i64))], boxes := [(1, .typ Ty155)] }
abbrev e5_L0 : List (XT × Shape) := [(.exit 0, { slots := [(1, .bx 1 0), (5, .v .str)], boxes := [(1, .typ Ty155)] })]
noncomputable def q5_L0 (t5 : ByteArray) (t6 : Int) (b1 : Ta131) : Option (Ta137 ⊕ (Ta135 ⊕ Empty)) :=
  bif (decide (t6 < (b1.2.2.2.2.2.2.2.1.len : Int))) then
    bif (decide (0 ≤ t6) && decide (t6 < (b1.2.2.2.2.2.2.2.1.len : Int))) then
      bif (Nat.ble (t5.size + (⟨#[112, 97, 114, 116, 32]⟩ : ByteArray).size) 9223372036854775807) then
        bif (Nat.ble ((t5 ++ (⟨#[112, 97, 114, 116, 32]⟩ : ByteArray)).size + (L.get b1.2.2.2.2.2.2.2.1 t6.toNat).1.size) 9223372036854775807) then
          bif (Nat.ble (((t5 ++ (⟨#[112, 97, 114, 116, 32]⟩ : ByteArray)) ++ (L.get b1.2.2.2.2.2.2.2.1 t6.toNat).1).size + (⟨#[32]⟩ : ByteArray).size) 9223372036854775807) then
            (g15 (L.get b1.2.2.2.2.2.2.2.1 t6.toNat).2.1).bind fun y9 =>
              bif (Nat.ble ((((t5 ++ (⟨#[112, 97, 114, 116, 32]⟩ : ByteArray)) ++ (L.get b1.2.2.2.2.2.2.2.1 t6.toNat).1) ++ (⟨#[32]⟩ : ByteArray)).size + y9.1.1.size) 9223372036854775807) then
                bif ((L.get b1.2.2.2.2.2.2.2.1 t6.toNat).2.2.1.1 == (1 : Int)) then
                  (g14 (⟨#[32, 114, 101, 115, 116, 97, 114, 116]⟩ : ByteArray) (L.of (Ty.zero (.int .i64)) [(L.get b1.2.2.2.2.2.2.2.1 t6.toNat).2.2.1.2.1])).bind fun y10 =>
                    bif (Nat.ble (((((t5 ++ (⟨#[112, 97, 114, 116, 32]⟩ : ByteArray)) ++ (L.get b1.2.2.2.2.2.2.2.1 t6.toNat).1) ++ (⟨#[32]⟩ : ByteArray)) ++ y9.1.1).size + y10.1.1.size) 9223372036854775807) then
                      some (.inl (((), ((((((t5 ++ (⟨#[112, 97, 114, 116, 32]⟩ : ByteArray)) ++ (L.get b1.2.2.2.2.2.2.2.1 t6.toNat).1) ++ (⟨#[32]⟩ : ByteArray)) ++ y9.1.1) ++ y10.1.1), ((wI (t6 + (1 : Int))), ()))), (b1, ())))
                    else
                      none
                else
                  bif ((L.get b1.2.2.2.2.2.2.2.1 t6.toNat).2.2.1.1 == (2 : Int)) then
                    bif (Nat.ble (((((t5 ++ (⟨#[112, 97, 114, 116, 32]⟩ : ByteArray)) ++ (L.get b1.2.2.2.2.2.2.2.1 t6.toNat).1) ++ (⟨#[32]⟩ : ByteArray)) ++ y9.1.1).size + (⟨#[32, 115, 107, 105, 112, 10]⟩ : ByteArray).size) 9223372036854775807) then
                      some (.inl (((), ((((((t5 ++ (⟨#[112, 97, 114, 116, 32]⟩ : ByteArray)) ++ (L.get b1.2.2.2.2.2.2.2.1 t6.toNat).1) ++ (⟨#[32]⟩ : ByteArray)) ++ y9.1.1) ++ (⟨#[32, 115, 107, 105, 112, 10]⟩ : ByteArray)), ((wI (t6 + (1 : Int))), ()))), (b1, ())))
                    else
                      none
                  else
                    bif (Nat.ble (((((t5 ++ (⟨#[112, 97, 114, 116, 32]⟩ : ByteArray)) ++ (L.get b1.2.2.2.2.2.2.2.1 t6.toNat).1) ++ (⟨#[32]⟩ : ByteArray)) ++ y9.1.1).size + (⟨#[32, 104, 97, 108, 116, 10]⟩ : ByteArray).size) 9223372036854775807) then
                      some (.inl (((), ((((((t5 ++ (⟨#[112, 97, 114, 116, 32]⟩ : ByteArray)) ++ (L.get b1.2.2.2.2.2.2.2.1 t6.toNat).1) ++ (⟨#[32]⟩ : ByteArray)) ++ y9.1.1) ++ (⟨#[32, 104, 97, 108, 116, 10]⟩ : ByteArray)), ((wI (t6 + (1 : Int))), ()))), (b1, ())))
                    else
                      none
              else
                none
          else
            none
        else
          none
      else
        none
    else
      none
  else
    some (.inr (.inl (((), (t5, ())), (b1, ()))))
noncomputable def s5_L0 (x : Ta137) : Option (Ta137 ⊕ (Ta135 ⊕ Empty)) := q5_L0 x.1.2.1 x.1.2.2.1 x.2.1
abbrev h5_L5 : Shape := { slots := [(1, .bx 1 0), (5, .v .str), (8, .v (.int .i64)), (9, .v (.int .i64))], boxes := [(1, .typ Ty155)] }
abbrev e5_L5 : List (XT × Shape) := [(.exit 5, { slots := [(1, .bx 1 0), (5, .v .str), (8, .v (.int .i64))], boxes := [(1, .typ Ty155)] })]
noncomputable def q5_L5 (t5 : ByteArray) (t8 : Int) (t9 : Int) (b1 : Ta131) : Option (Ta138 ⊕ (Ta137 ⊕ Empty)) :=
  bif (decide (0 ≤ t8) && decide (t8 < (b1.2.2.2.2.2.2.2.1.len : Int))) then
    bif (decide (t9 < ((L.get b1.2.2.2.2.2.2.2.1 t8.toNat).2.2.2.1.len : Int))) then
      bif (decide (0 ≤ t8) && decide (t8 < (b1.2.2.2.2.2.2.2.1.len : Int))) then
        bif (decide (0 ≤ t9) && decide (t9 < ((L.get b1.2.2.2.2.2.2.2.1 t8.toNat).2.2.2.1.len : Int))) then
          bif (Nat.ble (t5.size + (⟨#[119, 105, 110, 100, 111, 119, 32]⟩ : ByteArray).size) 9223372036854775807) then
            bif (decide (0 ≤ t8) && decide (t8 < (b1.2.2.2.2.2.2.2.1.len : Int))) then
              bif (Nat.ble ((t5 ++ (⟨#[119, 105, 110, 100, 111, 119, 32]⟩ : ByteArray)).size + (L.get b1.2.2.2.2.2.2.2.1 t8.toNat).1.size) 9223372036854775807) then
                bif (Nat.ble (((t5 ++ (⟨#[119, 105, 110, 100, 111, 119, 32]⟩ : ByteArray)) ++ (L.get b1.2.2.2.2.2.2.2.1 t8.toNat).1).size + (⟨#[32]⟩ : ByteArray).size) 9223372036854775807) then
                  (g15 (L.get (L.get b1.2.2.2.2.2.2.2.1 t8.toNat).2.2.2.1 t9.toNat).1).bind fun y12 =>
                    bif (Nat.ble ((((t5 ++ (⟨#[119, 105, 110, 100, 111, 119, 32]⟩ : ByteArray)) ++ (L.get b1.2.2.2.2.2.2.2.1 t8.toNat).1) ++ (⟨#[32]⟩ : ByteArray)).size + y12.1.1.size) 9223372036854775807) then
                      bif (Nat.ble (((((t5 ++ (⟨#[119, 105, 110, 100, 111, 119, 32]⟩ : ByteArray)) ++ (L.get b1.2.2.2.2.2.2.2.1 t8.toNat).1) ++ (⟨#[32]⟩ : ByteArray)) ++ y12.1.1).size + (⟨#[32]⟩ : ByteArray).size) 9223372036854775807) then
                        (g15 (L.get (L.get b1.2.2.2.2.2.2.2.1 t8.toNat).2.2.2.1 t9.toNat).2.1).bind fun y13 =>
                          bif (Nat.ble ((((((t5 ++ (⟨#[119, 105, 110, 100, 111, 119, 32]⟩ : ByteArray)) ++ (L.get b1.2.2.2.2.2.2.2.1 t8.toNat).1) ++ (⟨#[32]⟩ : ByteArray)) ++ y12.1.1) ++ (⟨#[32]⟩ : ByteArray)).size + y13.1.1.size) 9223372036854775807) then
                            bif (Nat.ble (((((((t5 ++ (⟨#[119, 105, 110, 100, 111, 119, 32]⟩ : ByteArray)) ++ (L.get b1.2.2.2.2.2.2.2.1 t8.toNat).1) ++ (⟨#[32]⟩ : ByteArray)) ++ y12.1.1) ++ (⟨#[32]⟩ : ByteArray)) ++ y13.1.1).size + (⟨#[32]⟩ : ByteArray).size) 9223372036854775807) then
                              (g16 (L.get (L.get b1.2.2.2.2.2.2.2.1 t8.toNat).2.2.2.1 t9.toNat).2.2.1).bind fun y14 =>
                                bif (Nat.ble ((((((((t5 ++ (⟨#[119, 105, 110, 100, 111, 119, 32]⟩ : ByteArray)) ++ (L.get b1.2.2.2.2.2.2.2.1 t8.toNat).1) ++ (⟨#[32]⟩ : ByteArray)) ++ y12.1.1) ++ (⟨#[32]⟩ : ByteArray)) ++ y13.1.1) ++ (⟨#[32]⟩ : ByteArray)).size + y14.1.1.size) 9223372036854775807) then
                                  bif (Nat.ble (((((((((t5 ++ (⟨#[119, 105, 110, 100, 111, 119, 32]⟩ : ByteArray)) ++ (L.get b1.2.2.2.2.2.2.2.1 t8.toNat).1) ++ (⟨#[32]⟩ : ByteArray)) ++ y12.1.1) ++ (⟨#[32]⟩ : ByteArray)) ++ y13.1.1) ++ (⟨#[32]⟩ : ByteArray)) ++ y14.1.1).size + (⟨#[10]⟩ : ByteArray).size) 9223372036854775807) then
                                    some (.inl (((), ((((((((((t5 ++ (⟨#[119, 105, 110, 100, 111, 119, 32]⟩ : ByteArray)) ++ (L.get b1.2.2.2.2.2.2.2.1 t8.toNat).1) ++ (⟨#[32]⟩ : ByteArray)) ++ y12.1.1) ++ (⟨#[32]⟩ : ByteArray)) ++ y13.1.1) ++ (⟨#[32]⟩ : ByteArray)) ++ y14.1.1) ++ (⟨#[10]⟩ : ByteArray)), (t8, ((wI (t9 + (1 : Int))), ())))), (b1, ())))
                                  else
                                    none
                                else
                                  none
                            else
                              none
                          else
                            none
                      else
                        none
                    else
                      none
                else
                  none
              else
                none
            else
              none
          else
            none
        else
          none
      else
        none
    else
      some (.inr (.inl (((), (t5, (t8, ()))), (b1, ()))))
  else
    none
noncomputable def s5_L5 (x : Ta138) : Option (Ta138 ⊕ (Ta137 ⊕ Empty)) := q5_L5 x.1.2.1 x.1.2.2.1 x.1.2.2.2.1 x.2.1
abbrev h5_L3 : Shape := { slots := [(1, .bx 1 0), (5, .v .str), (8, .v (.int .i64))], boxes := [(1, .typ Ty155)] }
abbrev e5_L3 : List (XT × Shape) := [(.exit 3, { slots := [(1, .bx 1 0), (5, .v .str)], boxes := [(1, .typ Ty155)] })]
noncomputable def q5_L3 (t5 : ByteArray) (t8 : Int) (b1 : Ta131) : Option (Ta137 ⊕ (Ta135 ⊕ Empty)) :=
  bif (decide (t8 < (b1.2.2.2.2.2.2.2.1.len : Int))) then
    (fixO s5_L5 (((), (t5, (t8, ((0 : Int), ())))), (b1, ()))).bind fun d16 => match d16 with
    | .inl y15 =>
      some (.inl (((), (y15.1.2.1, ((wI (y15.1.2.2.1 + (1 : Int))), ()))), y15.2))
    | .inr e => nomatch e
  else
    some (.inr (.inl (((), (t5, ())), (b1, ()))))
noncomputable def s5_L3 (x : Ta137) : Option (Ta137 ⊕ (Ta135 ⊕ Empty)) := q5_L3 x.1.2.1 x.1.2.2.1 x.2.1
abbrev h5_L7 : Shape := { slots := [(1, .bx 1 0), (5, .v .str), (11, .v (.int .i64))], boxes := [(1, .typ Ty155)] }
abbrev e5_L7 : List (XT × Shape) := [(.exit 7, { slots := [(1, .bx 1 0), (5, .v .str)], boxes := [(1, .typ Ty155)] })]
noncomputable def q5_L7 (t5 : ByteArray) (t11 : Int) (b1 : Ta131) : Option (Ta137 ⊕ (Ta135 ⊕ Empty)) :=
  bif (decide (t11 < (b1.2.2.2.2.2.2.2.2.1.len : Int))) then
    bif (Nat.ble (t5.size + (⟨#[100, 101, 118, 32]⟩ : ByteArray).size) 9223372036854775807) then
      bif (decide (0 ≤ t11) && decide (t11 < (b1.2.2.2.2.2.2.2.2.1.len : Int))) then
        bif (decide (0 ≤ (L.get b1.2.2.2.2.2.2.2.2.1 t11.toNat)) && decide ((L.get b1.2.2.2.2.2.2.2.2.1 t11.toNat) < (b1.2.2.2.2.2.2.2.1.len : Int))) then
          bif (Nat.ble ((t5 ++ (⟨#[100, 101, 118, 32]⟩ : ByteArray)).size + (L.get b1.2.2.2.2.2.2.2.1 (L.get b1.2.2.2.2.2.2.2.2.1 t11.toNat).toNat).1.size) 9223372036854775807) then
            bif (Nat.ble (((t5 ++ (⟨#[100, 101, 118, 32]⟩ : ByteArray)) ++ (L.get b1.2.2.2.2.2.2.2.1 (L.get b1.2.2.2.2.2.2.2.2.1 t11.toNat).toNat).1).size + (⟨#[10]⟩ : ByteArray).size) 9223372036854775807) then
              some (.inl (((), ((((t5 ++ (⟨#[100, 101, 118, 32]⟩ : ByteArray)) ++ (L.get b1.2.2.2.2.2.2.2.1 (L.get b1.2.2.2.2.2.2.2.2.1 t11.toNat).toNat).1) ++ (⟨#[10]⟩ : ByteArray)), ((wI (t11 + (1 : Int))), ()))), (b1, ())))
            else
              none
          else
            none
        else
          none
      else
        none
    else
      none
  else
    some (.inr (.inl (((), (t5, ())), (b1, ()))))
noncomputable def s5_L7 (x : Ta137) : Option (Ta137 ⊕ (Ta135 ⊕ Empty)) := q5_L7 x.1.2.1 x.1.2.2.1 x.2.1
abbrev h5_L9 : Shape := { slots := [(1, .bx 1 0), (5, .v .str), (12, .v (.int .i64))], boxes := [(1, .typ Ty155)] }
abbrev e5_L9 : List (XT × Shape) := [(.exit 9, { slots := [(1, .bx 1 0), (5, .v .str)], boxes := [(1, .typ Ty155)] })]
noncomputable def q5_L9 (t5 : ByteArray) (t12 : Int) (b1 : Ta131) : Option (Ta137 ⊕ (Ta135 ⊕ Empty)) :=
  bif (decide (t12 < (b1.2.2.2.2.2.2.2.2.2.1.len : Int))) then
    bif (decide (0 ≤ t12) && decide (t12 < (b1.2.2.2.2.2.2.2.2.2.1.len : Int))) then
      bif ((L.get b1.2.2.2.2.2.2.2.2.2.1 t12.toNat).1 == (0 : Int)) then
        bif (Nat.ble (t5.size + (⟨#[99, 104, 97, 110, 32, 115, 97, 109, 112, 108, 101, 32]⟩ : ByteArray).size) 9223372036854775807) then
          bif (decide (0 ≤ (L.get b1.2.2.2.2.2.2.2.2.2.1 t12.toNat).2.1) && decide ((L.get b1.2.2.2.2.2.2.2.2.2.1 t12.toNat).2.1 < (b1.2.2.2.2.2.2.2.1.len : Int))) then
            bif (Nat.ble ((t5 ++ (⟨#[99, 104, 97, 110, 32, 115, 97, 109, 112, 108, 101, 32]⟩ : ByteArray)).size + (L.get b1.2.2.2.2.2.2.2.1 (L.get b1.2.2.2.2.2.2.2.2.2.1 t12.toNat).2.1.toNat).1.size) 9223372036854775807) then
              bif (Nat.ble (((t5 ++ (⟨#[99, 104, 97, 110, 32, 115, 97, 109, 112, 108, 101, 32]⟩ : ByteArray)) ++ (L.get b1.2.2.2.2.2.2.2.1 (L.get b1.2.2.2.2.2.2.2.2.2.1 t12.toNat).2.1.toNat).1).size + (⟨#[32]⟩ : ByteArray).size) 9223372036854775807) then
                bif (decide (0 ≤ (L.get b1.2.2.2.2.2.2.2.2.2.1 t12.toNat).2.2.1) && decide ((L.get b1.2.2.2.2.2.2.2.2.2.1 t12.toNat).2.2.1 < (b1.2.2.2.2.2.2.2.1.len : Int))) then
                  bif (Nat.ble ((((t5 ++ (⟨#[99, 104, 97, 110, 32, 115, 97, 109, 112, 108, 101, 32]⟩ : ByteArray)) ++ (L.get b1.2.2.2.2.2.2.2.1 (L.get b1.2.2.2.2.2.2.2.2.2.1 t12.toNat).2.1.toNat).1) ++ (⟨#[32]⟩ : ByteArray)).size + (L.get b1.2.2.2.2.2.2.2.1 (L.get b1.2.2.2.2.2.2.2.2.2.1 t12.toNat).2.2.1.toNat).1.size) 9223372036854775807) then
                    bif (Nat.ble (((((t5 ++ (⟨#[99, 104, 97, 110, 32, 115, 97, 109, 112, 108, 101, 32]⟩ : ByteArray)) ++ (L.get b1.2.2.2.2.2.2.2.1 (L.get b1.2.2.2.2.2.2.2.2.2.1 t12.toNat).2.1.toNat).1) ++ (⟨#[32]⟩ : ByteArray)) ++ (L.get b1.2.2.2.2.2.2.2.1 (L.get b1.2.2.2.2.2.2.2.2.2.1 t12.toNat).2.2.1.toNat).1).size + (⟨#[10]⟩ : ByteArray).size) 9223372036854775807) then
                      some (.inl (((), ((((((t5 ++ (⟨#[99, 104, 97, 110, 32, 115, 97, 109, 112, 108, 101, 32]⟩ : ByteArray)) ++ (L.get b1.2.2.2.2.2.2.2.1 (L.get b1.2.2.2.2.2.2.2.2.2.1 t12.toNat).2.1.toNat).1) ++ (⟨#[32]⟩ : ByteArray)) ++ (L.get b1.2.2.2.2.2.2.2.1 (L.get b1.2.2.2.2.2.2.2.2.2.1 t12.toNat).2.2.1.toNat).1) ++ (⟨#[10]⟩ : ByteArray)), ((wI (t12 + (1 : Int))), ()))), (b1, ())))
                    else
                      none
                  else
                    none
                else
                  none
              else
                none
            else
              none
          else
            none
        else
          none
      else
        bif (decide (0 ≤ (L.get b1.2.2.2.2.2.2.2.2.2.1 t12.toNat).2.1) && decide ((L.get b1.2.2.2.2.2.2.2.2.2.1 t12.toNat).2.1 < (b1.2.2.2.2.2.2.2.1.len : Int))) then
          bif (Nat.ble ((⟨#[99, 104, 97, 110, 32, 113, 117, 101, 117, 101, 32]⟩ : ByteArray).size + (L.get b1.2.2.2.2.2.2.2.1 (L.get b1.2.2.2.2.2.2.2.2.2.1 t12.toNat).2.1.toNat).1.size) 9223372036854775807) then
            bif (Nat.ble (((⟨#[99, 104, 97, 110, 32, 113, 117, 101, 117, 101, 32]⟩ : ByteArray) ++ (L.get b1.2.2.2.2.2.2.2.1 (L.get b1.2.2.2.2.2.2.2.2.2.1 t12.toNat).2.1.toNat).1).size + (⟨#[32]⟩ : ByteArray).size) 9223372036854775807) then
              bif (decide (0 ≤ (L.get b1.2.2.2.2.2.2.2.2.2.1 t12.toNat).2.2.1) && decide ((L.get b1.2.2.2.2.2.2.2.2.2.1 t12.toNat).2.2.1 < (b1.2.2.2.2.2.2.2.1.len : Int))) then
                bif (Nat.ble ((((⟨#[99, 104, 97, 110, 32, 113, 117, 101, 117, 101, 32]⟩ : ByteArray) ++ (L.get b1.2.2.2.2.2.2.2.1 (L.get b1.2.2.2.2.2.2.2.2.2.1 t12.toNat).2.1.toNat).1) ++ (⟨#[32]⟩ : ByteArray)).size + (L.get b1.2.2.2.2.2.2.2.1 (L.get b1.2.2.2.2.2.2.2.2.2.1 t12.toNat).2.2.1.toNat).1.size) 9223372036854775807) then
                  (g14 ((((⟨#[99, 104, 97, 110, 32, 113, 117, 101, 117, 101, 32]⟩ : ByteArray) ++ (L.get b1.2.2.2.2.2.2.2.1 (L.get b1.2.2.2.2.2.2.2.2.2.1 t12.toNat).2.1.toNat).1) ++ (⟨#[32]⟩ : ByteArray)) ++ (L.get b1.2.2.2.2.2.2.2.1 (L.get b1.2.2.2.2.2.2.2.2.2.1 t12.toNat).2.2.1.toNat).1) (L.of (Ty.zero (.int .i64)) [(L.get b1.2.2.2.2.2.2.2.2.2.1 t12.toNat).2.2.2.1])).bind fun y19 =>
                    bif (Nat.ble (t5.size + y19.1.1.size) 9223372036854775807) then
                      some (.inl (((), ((t5 ++ y19.1.1), ((wI (t12 + (1 : Int))), ()))), (b1, ())))
                    else
                      none
                else
                  none
              else
                none
            else
              none
          else
            none
        else
          none
    else
      none
  else
    some (.inr (.inl (((), (t5, ())), (b1, ()))))
noncomputable def s5_L9 (x : Ta137) : Option (Ta137 ⊕ (Ta135 ⊕ Empty)) := q5_L9 x.1.2.1 x.1.2.2.1 x.2.1
abbrev h5_L11 : Shape := { slots := [(1, .bx 1 0), (5, .v .str), (14, .v (.int .i64))], boxes := [(1, .typ Ty155)] }
abbrev e5_L11 : List (XT × Shape) := [(.exit 11, { slots := [(5, .v .str)], boxes := [] })]
noncomputable def q5_L11 (t5 : ByteArray) (t14 : Int) (b1 : Ta131) : Option (Ta137 ⊕ (Ta3 ⊕ Empty)) :=
  bif (decide (t14 < (b1.2.2.2.2.2.2.2.2.2.2.1.len : Int))) then
    bif (decide (0 ≤ t14) && decide (t14 < (b1.2.2.2.2.2.2.2.2.2.2.1.len : Int))) then
      bif (decide (0 ≤ (L.get b1.2.2.2.2.2.2.2.2.2.2.1 t14.toNat).1) && decide ((L.get b1.2.2.2.2.2.2.2.2.2.2.1 t14.toNat).1 < (b1.2.2.2.2.2.2.2.1.len : Int))) then
        bif (Nat.ble ((⟨#[115, 108, 111, 116, 32]⟩ : ByteArray).size + (L.get b1.2.2.2.2.2.2.2.1 (L.get b1.2.2.2.2.2.2.2.2.2.2.1 t14.toNat).1.toNat).1.size) 9223372036854775807) then
          bif (decide (0 ≤ t14) && decide (t14 < (b1.2.2.2.2.2.2.2.2.2.2.1.len : Int))) then
            bif (decide (0 ≤ t14) && decide (t14 < (b1.2.2.2.2.2.2.2.2.2.2.1.len : Int))) then
              (g14 ((⟨#[115, 108, 111, 116, 32]⟩ : ByteArray) ++ (L.get b1.2.2.2.2.2.2.2.1 (L.get b1.2.2.2.2.2.2.2.2.2.2.1 t14.toNat).1.toNat).1) (L.of (Ty.zero (.int .i64)) [(L.get b1.2.2.2.2.2.2.2.2.2.2.1 t14.toNat).2.1, (L.get b1.2.2.2.2.2.2.2.2.2.2.1 t14.toNat).2.2.1])).bind fun y21 =>
                bif (Nat.ble (t5.size + y21.1.1.size) 9223372036854775807) then
                  some (.inl (((), ((t5 ++ y21.1.1), ((wI (t14 + (1 : Int))), ()))), (b1, ())))
                else
                  none
            else
              none
          else
            none
        else
          none
      else
        none
    else
      none
  else
    some (.inr (.inl ((t5, ()), ())))
noncomputable def s5_L11 (x : Ta137) : Option (Ta137 ⊕ (Ta3 ⊕ Empty)) := q5_L11 x.1.2.1 x.1.2.2.1 x.2.1
noncomputable def a5 : Nat → Option LoopAnn := fun c => bif Nat.beq c 0 then some (.fix h5_L0 e5_L0 s5_L0) else bif Nat.beq c 5 then some (.fix h5_L5 e5_L5 s5_L5) else bif Nat.beq c 3 then some (.fix h5_L3 e5_L3 s5_L3) else bif Nat.beq c 7 then some (.fix h5_L7 e5_L7 s5_L7) else bif Nat.beq c 9 then some (.fix h5_L9 e5_L9 s5_L9) else bif Nat.beq c 11 then some (.fix h5_L11 e5_L11 s5_L11) else none
noncomputable def g5 (x0 : Ta131) : Option ((ByteArray × (Bool × Unit)) × Unit) :=
  (g13 x0).bind fun y1 =>
    bif (!y1.1.1) then
      some (((⟨#[]⟩ : ByteArray), false, ()), ())
    else
      (g14 (⟨#[109, 101, 109]⟩ : ByteArray) (L.of (Ty.zero (.int .i64)) [x0.1])).bind fun y2 =>
        (g14 (⟨#[99, 97, 99, 104, 101]⟩ : ByteArray) (L.of (Ty.zero (.int .i64)) [x0.2.1.1, x0.2.1.2.1, x0.2.1.2.2.1])).bind fun y3 =>
          bif (Nat.ble (y2.1.1.size + y3.1.1.size) 9223372036854775807) then
            (g14 (⟨#[116, 108, 98]⟩ : ByteArray) (L.of (Ty.zero (.int .i64)) [x0.2.2.1])).bind fun y4 =>
              bif (Nat.ble ((y2.1.1 ++ y3.1.1).size + y4.1.1.size) 9223372036854775807) then
                (g14 (⟨#[99, 111, 115, 116, 115]⟩ : ByteArray) (L.of (Ty.zero (.int .i64)) [x0.2.2.2.1.1, x0.2.2.2.1.2.1, x0.2.2.2.1.2.2.1, x0.2.2.2.1.2.2.2.1, x0.2.2.2.1.2.2.2.2.1, x0.2.2.2.1.2.2.2.2.2.1, x0.2.2.2.1.2.2.2.2.2.2.1])).bind fun y5 =>
                  bif (Nat.ble (((y2.1.1 ++ y3.1.1) ++ y4.1.1).size + y5.1.1.size) 9223372036854775807) then
                    (g14 (⟨#[112, 97, 100]⟩ : ByteArray) (L.of (Ty.zero (.int .i64)) [x0.2.2.2.2.1])).bind fun y6 =>
                      bif (Nat.ble ((((y2.1.1 ++ y3.1.1) ++ y4.1.1) ++ y5.1.1).size + y6.1.1.size) 9223372036854775807) then
                        (g14 (⟨#[103, 117, 97, 114, 100]⟩ : ByteArray) (L.of (Ty.zero (.int .i64)) [x0.2.2.2.2.2.1])).bind fun y7 =>
                          bif (Nat.ble (((((y2.1.1 ++ y3.1.1) ++ y4.1.1) ++ y5.1.1) ++ y6.1.1).size + y7.1.1.size) 9223372036854775807) then
                            (g14 (⟨#[109, 97, 106, 111, 114]⟩ : ByteArray) (L.of (Ty.zero (.int .i64)) [x0.2.2.2.2.2.2.1])).bind fun y8 =>
                              bif (Nat.ble ((((((y2.1.1 ++ y3.1.1) ++ y4.1.1) ++ y5.1.1) ++ y6.1.1) ++ y7.1.1).size + y8.1.1.size) 9223372036854775807) then
                                (fixO s5_L0 (((), (((((((y2.1.1 ++ y3.1.1) ++ y4.1.1) ++ y5.1.1) ++ y6.1.1) ++ y7.1.1) ++ y8.1.1), ((0 : Int), ()))), (x0, ()))).bind fun d27 => match d27 with
                                | .inl y11 =>
                                  (fixO s5_L3 (((), (y11.1.2.1, ((0 : Int), ()))), y11.2)).bind fun d26 => match d26 with
                                  | .inl y17 =>
                                    (fixO s5_L7 (((), (y17.1.2.1, ((0 : Int), ()))), y17.2)).bind fun d25 => match d25 with
                                    | .inl y18 =>
                                      (fixO s5_L9 (((), (y18.1.2.1, ((0 : Int), ()))), y18.2)).bind fun d24 => match d24 with
                                      | .inl y20 =>
                                        (fixO s5_L11 (((), (y20.1.2.1, ((0 : Int), ()))), y20.2)).bind fun d23 => match d23 with
                                        | .inl y22 =>
                                          some ((y22.1.1, true, ()), ())
                                        | .inr e => nomatch e
                                      | .inr e => nomatch e
                                    | .inr e => nomatch e
                                  | .inr e => nomatch e
                                | .inr e => nomatch e
                              else
                                none
                          else
                            none
                      else
                        none
                  else
                    none
              else
                none
          else
            none
noncomputable def c5 : Ctr := { ins := [.v Ty155], out := [.str, .bool], F := fun x => g5 x.1 }
noncomputable def l5 : List (Nat × Code) := loopsIn (Tryz.f5.body.getD .skip) 0
theorem w5_L0 (x : h5_L0.T) : runK Tryz.prog Γ t5 (inlN Tryz.prog Γ t5 3) a5 (l5.getD 0 (0, .skip)).2 0 (pkSh h5_L0 x) (loopCls (sh := h5_L0) (es := e5_L0)) = (s5_L0 x : Option _) := by kernel_rfl
theorem w5_L5 (x : h5_L5.T) : runK Tryz.prog Γ t5 (inlN Tryz.prog Γ t5 3) a5 (l5.getD 2 (0, .skip)).2 5 (pkSh h5_L5 x) (loopCls (sh := h5_L5) (es := e5_L5)) = (s5_L5 x : Option _) := by kernel_rfl
theorem w5_L3 (x : h5_L3.T) : runK Tryz.prog Γ t5 (inlN Tryz.prog Γ t5 3) a5 (l5.getD 1 (0, .skip)).2 3 (pkSh h5_L3 x) (loopCls (sh := h5_L3) (es := e5_L3)) = (s5_L3 x : Option _) := by kernel_rfl
theorem w5_L7 (x : h5_L7.T) : runK Tryz.prog Γ t5 (inlN Tryz.prog Γ t5 3) a5 (l5.getD 3 (0, .skip)).2 7 (pkSh h5_L7 x) (loopCls (sh := h5_L7) (es := e5_L7)) = (s5_L7 x : Option _) := by kernel_rfl
theorem w5_L9 (x : h5_L9.T) : runK Tryz.prog Γ t5 (inlN Tryz.prog Γ t5 3) a5 (l5.getD 4 (0, .skip)).2 9 (pkSh h5_L9 x) (loopCls (sh := h5_L9) (es := e5_L9)) = (s5_L9 x : Option _) := by kernel_rfl
theorem w5_L11 (x : h5_L11.T) : runK Tryz.prog Γ t5 (inlN Tryz.prog Γ t5 3) a5 (l5.getD 5 (0, .skip)).2 11 (pkSh h5_L11 x) (loopCls (sh := h5_L11) (es := e5_L11)) = (s5_L11 x : Option _) := by kernel_rfl
theorem v5 : LoopsOk Tryz.prog Γ t5 a5 (loopsIn (Tryz.f5.body.getD .skip) 0) := by
  have e : loopsIn (Tryz.f5.body.getD .skip) 0 = [(0, (l5.getD 0 (0, .skip)).2), (3, (l5.getD 1 (0, .skip)).2), (5, (l5.getD 2 (0, .skip)).2), (7, (l5.getD 3 (0, .skip)).2), (9, (l5.getD 4 (0, .skip)).2), (11, (l5.getD 5 (0, .skip)).2)] := by kernel_rfl
  rw [e]
  exact ⟨fun x d h => (w5_L0 x).trans h, fun x d h => (w5_L3 x).trans h, fun x d h => (w5_L5 x).trans h, fun x d h => (w5_L7 x).trans h, fun x d h => (w5_L9 x).trans h, fun x d h => (w5_L11 x).trans h, trivial⟩
theorem r5 (x : InsT c5.ins) : fnK Tryz.prog Γ t5 a5 Tryz.f5 c5 x = g5 x.1 := by kernel_rfl
theorem k5 : TblOk Tryz.prog t5 := tblOk_cons o13 (tblOk_cons o14 (tblOk_cons o15 (tblOk_cons o16 (tblOk_nil))))
theorem o5 : Holds Tryz.prog 5 c5 := fn_holds (code := Tryz.f5.body.getD .skip) (by kernel_rfl) gamOk k5 Tryz.func5 (by kernel_rfl) (by kernel_rfl) (by kernel_rfl) (by kernel_rfl) v5 (fun x _ h => (r5 x).trans h)
/-! ### 42: loop.example/g00076/impl.within -/
noncomputable def t42 : Tbl := []
noncomputable def a42 : Nat → Option LoopAnn := fun _ => none
noncomputable def g42 (x0 : Int) (x1 : Int) (x2 : Int) : Option ((Bool × Unit) × Unit) :=
  bif (decide (x0 ≥ x1)) then
    some (((decide (x0 ≤ x2)), ()), ())
  else
    some ((false, ()), ())
noncomputable def f42 (x0 : Int) (x1 : Int) (x2 : Int) : Bool :=
  bif (decide (x0 ≥ x1)) then
    (decide (x0 ≤ x2))
  else
    false
theorem n42 (x0 : Int) (x1 : Int) (x2 : Int) : g42 x0 x1 x2 = some ((f42 x0 x1 x2, ()), ()) := by
  simp only [g42, f42, pull1]
noncomputable def c42 : Ctr := { ins := [.v (.int .i64), .v (.int .i64), .v (.int .i64)], out := [.bool], F := fun x => some ((f42 x.1 x.2.1 x.2.2.1, ()), ()) }
theorem v42 : LoopsOk Tryz.prog Γ t42 a42 (loopsIn (Tryz.f42.body.getD .skip) 0) := loopsOk_nil (by kernel_rfl)
theorem r42 (x : InsT c42.ins) : fnK Tryz.prog Γ t42 a42 Tryz.f42 c42 x = g42 x.1 x.2.1 x.2.2.1 := by kernel_rfl
theorem k42 : TblOk Tryz.prog t42 := tblOk_nil
theorem o42 : Holds Tryz.prog 42 c42 := fn_holds (code := Tryz.f42.body.getD .skip) (by kernel_rfl) gamOk k42 Tryz.func42 (by kernel_rfl) (by kernel_rfl) (by kernel_rfl) (by kernel_rfl) v42 (fun x _ h => (r42 x).trans ((n42 x.1 x.2.1 x.2.2.1).trans h))
/-! ### 40: loop.example/g00076/impl.isMem -/
noncomputable def t40 : Tbl := [(42, [], c42)]
noncomputable def a40 : Nat → Option LoopAnn := fun _ => none
noncomputable def g40 (x0 : Int) : Option ((Bool × Unit) × Unit) :=
  bif (f42 x0 (64 : Int) (2048 : Int)) then
    some ((((Int.tmod x0 (4 : Int)) == (0 : Int)), ()), ())
  else
    some ((false, ()), ())
noncomputable def f40 (x0 : Int) : Bool :=
  bif (f42 x0 (64 : Int) (2048 : Int)) then
    ((Int.tmod x0 (4 : Int)) == (0 : Int))
  else
    false
theorem n40 (x0 : Int) : g40 x0 = some ((f40 x0, ()), ()) := by
  simp only [g40, f40, pull1]
noncomputable def c40 : Ctr := { ins := [.v (.int .i64)], out := [.bool], F := fun x => some ((f40 x.1, ()), ()) }
theorem v40 : LoopsOk Tryz.prog Γ t40 a40 (loopsIn (Tryz.f40.body.getD .skip) 0) := loopsOk_nil (by kernel_rfl)
theorem r40 (x : InsT c40.ins) : fnK Tryz.prog Γ t40 a40 Tryz.f40 c40 x = g40 x.1 := by kernel_rfl
theorem k40 : TblOk Tryz.prog t40 := tblOk_cons o42 (tblOk_nil)
theorem o40 : Holds Tryz.prog 40 c40 := fn_holds (code := Tryz.f40.body.getD .skip) (by kernel_rfl) gamOk k40 Tryz.func40 (by kernel_rfl) (by kernel_rfl) (by kernel_rfl) (by kernel_rfl) v40 (fun x _ h => (r40 x).trans ((n40 x.1).trans h))
/-! ### 70: loop.example/g00076/impl.isPower -/
noncomputable def t70 : Tbl := []
noncomputable def a70 : Nat → Option LoopAnn := fun _ => none
noncomputable def g70 (x0 : Int) : Option ((Bool × Unit) × Unit) :=
  bif (decide (x0 > (0 : Int))) then
    some ((((andOf .i64 x0 (wI (x0 - (1 : Int)))) == (0 : Int)), ()), ())
  else
    some ((false, ()), ())
noncomputable def f70 (x0 : Int) : Bool :=
  bif (decide (x0 > (0 : Int))) then
    ((andOf .i64 x0 (wI (x0 - (1 : Int)))) == (0 : Int))
  else
    false
theorem n70 (x0 : Int) : g70 x0 = some ((f70 x0, ()), ()) := by
  simp only [g70, f70, pull1]
noncomputable def c70 : Ctr := { ins := [.v (.int .i64)], out := [.bool], F := fun x => some ((f70 x.1, ()), ()) }
theorem v70 : LoopsOk Tryz.prog Γ t70 a70 (loopsIn (Tryz.f70.body.getD .skip) 0) := loopsOk_nil (by kernel_rfl)
theorem r70 (x : InsT c70.ins) : fnK Tryz.prog Γ t70 a70 Tryz.f70 c70 x = g70 x.1 := by kernel_rfl
theorem k70 : TblOk Tryz.prog t70 := tblOk_nil
theorem o70 : Holds Tryz.prog 70 c70 := fn_holds (code := Tryz.f70.body.getD .skip) (by kernel_rfl) gamOk k70 Tryz.func70 (by kernel_rfl) (by kernel_rfl) (by kernel_rfl) (by kernel_rfl) v70 (fun x _ h => (r70 x).trans ((n70 x.1).trans h))
/-! ### 41: loop.example/g00076/impl.isShape -/
noncomputable def t41 : Tbl := [(42, [], c42), (70, [], c70)]
noncomputable def a41 : Nat → Option LoopAnn := fun _ => none
noncomputable def g41 (x0 : Ta5) : Option ((Bool × Unit) × Unit) :=
  bif (f42 x0.1 (1 : Int) (16 : Int)) then
    bif (f70 x0.1) then
      bif (f42 x0.2.1 (1 : Int) (4 : Int)) then
        bif (f42 x0.2.2.1 (4 : Int) (32 : Int)) then
          some (((f70 x0.2.2.1), ()), ())
        else
          some ((false, ()), ())
      else
        some ((false, ()), ())
    else
      some ((false, ()), ())
  else
    some ((false, ()), ())
noncomputable def f41 (x0 : Ta5) : Bool :=
  bif (f42 x0.1 (1 : Int) (16 : Int)) then
    bif (f70 x0.1) then
      bif (f42 x0.2.1 (1 : Int) (4 : Int)) then
        bif (f42 x0.2.2.1 (4 : Int) (32 : Int)) then
          (f70 x0.2.2.1)
        else
          false
      else
        false
    else
      false
  else
    false
theorem n41 (x0 : Ta5) : g41 x0 = some ((f41 x0, ()), ()) := by
  simp only [g41, f41, pull1]
noncomputable def c41 : Ctr := { ins := [.v Ty50], out := [.bool], F := fun x => some ((f41 x.1, ()), ()) }
theorem v41 : LoopsOk Tryz.prog Γ t41 a41 (loopsIn (Tryz.f41.body.getD .skip) 0) := loopsOk_nil (by kernel_rfl)
theorem r41 (x : InsT c41.ins) : fnK Tryz.prog Γ t41 a41 Tryz.f41 c41 x = g41 x.1 := by kernel_rfl
theorem k41 : TblOk Tryz.prog t41 := tblOk_cons o42 (tblOk_cons o70 (tblOk_nil))
theorem o41 : Holds Tryz.prog 41 c41 := fn_holds (code := Tryz.f41.body.getD .skip) (by kernel_rfl) gamOk k41 Tryz.func41 (by kernel_rfl) (by kernel_rfl) (by kernel_rfl) (by kernel_rfl) v41 (fun x _ h => (r41 x).trans ((n41 x.1).trans h))
/-! ### 43: loop.example/g00076/impl.areCosts -/
noncomputable def t43 : Tbl := [(42, [], c42)]
noncomputable def a43 : Nat → Option LoopAnn := fun c => bif Nat.beq c 0 then some (.unroll 7 [1, 17, 18] [1]) else none
noncomputable def g43 (x0 : Ta48) : Option ((Bool × Unit) × Unit) :=
  bif (!(f42 x0.2.1 (0 : Int) (50 : Int))) then
    some ((false, ()), ())
  else
    bif (!(f42 x0.2.2.1 (0 : Int) (50 : Int))) then
      some ((false, ()), ())
    else
      bif (!(f42 x0.2.2.2.1 (0 : Int) (50 : Int))) then
        some ((false, ()), ())
      else
        bif (!(f42 x0.2.2.2.2.1 (0 : Int) (50 : Int))) then
          some ((false, ()), ())
        else
          bif (!(f42 x0.2.2.2.2.2.1 (0 : Int) (50 : Int))) then
            some ((false, ()), ())
          else
            bif (!(f42 x0.2.2.2.2.2.2.1 (0 : Int) (50 : Int))) then
              some ((false, ()), ())
            else
              some (((f42 x0.1 (1 : Int) (20 : Int)), ()), ())
noncomputable def f43 (x0 : Ta48) : Bool :=
  bif (!(f42 x0.2.1 (0 : Int) (50 : Int))) then
    false
  else
    bif (!(f42 x0.2.2.1 (0 : Int) (50 : Int))) then
      false
    else
      bif (!(f42 x0.2.2.2.1 (0 : Int) (50 : Int))) then
        false
      else
        bif (!(f42 x0.2.2.2.2.1 (0 : Int) (50 : Int))) then
          false
        else
          bif (!(f42 x0.2.2.2.2.2.1 (0 : Int) (50 : Int))) then
            false
          else
            bif (!(f42 x0.2.2.2.2.2.2.1 (0 : Int) (50 : Int))) then
              false
            else
              (f42 x0.1 (1 : Int) (20 : Int))
theorem n43 (x0 : Ta48) : g43 x0 = some ((f43 x0, ()), ()) := by
  simp only [g43, f43, pull1]
noncomputable def c43 : Ctr := { ins := [.v Ty102], out := [.bool], F := fun x => some ((f43 x.1, ()), ()) }
noncomputable def l43 : List (Nat × Code) := loopsIn (Tryz.f43.body.getD .skip) 0
theorem v43 : LoopsOk Tryz.prog Γ t43 a43 (loopsIn (Tryz.f43.body.getD .skip) 0) := by
  have e : loopsIn (Tryz.f43.body.getD .skip) 0 = [(0, (l43.getD 0 (0, .skip)).2)] := by kernel_rfl
  rw [e]
  exact ⟨trivial, trivial⟩
theorem r43 (x : InsT c43.ins) : fnK Tryz.prog Γ t43 a43 Tryz.f43 c43 x = g43 x.1 := by kernel_rfl
theorem k43 : TblOk Tryz.prog t43 := tblOk_cons o42 (tblOk_nil)
theorem o43 : Holds Tryz.prog 43 c43 := fn_holds (code := Tryz.f43.body.getD .skip) (by kernel_rfl) gamOk k43 Tryz.func43 (by kernel_rfl) (by kernel_rfl) (by kernel_rfl) (by kernel_rfl) v43 (fun x _ h => (r43 x).trans ((n43 x.1).trans h))
/-! ### 44: loop.example/g00076/impl.isSpan -/
noncomputable def t44 : Tbl := [(42, [], c42)]
noncomputable def a44 : Nat → Option LoopAnn := fun _ => none
noncomputable def g44 (x0 : Int) : Option ((Bool × Unit) × Unit) :=
  some (((f42 x0 (1 : Int) (5000 : Int)), ()), ())
noncomputable def f44 (x0 : Int) : Bool :=
  (f42 x0 (1 : Int) (5000 : Int))
theorem n44 (x0 : Int) : g44 x0 = some ((f44 x0, ()), ()) := by
  simp only [g44, f44, pull1]
noncomputable def c44 : Ctr := { ins := [.v (.int .i64)], out := [.bool], F := fun x => some ((f44 x.1, ()), ()) }
theorem v44 : LoopsOk Tryz.prog Γ t44 a44 (loopsIn (Tryz.f44.body.getD .skip) 0) := loopsOk_nil (by kernel_rfl)
theorem r44 (x : InsT c44.ins) : fnK Tryz.prog Γ t44 a44 Tryz.f44 c44 x = g44 x.1 := by kernel_rfl
theorem k44 : TblOk Tryz.prog t44 := tblOk_cons o42 (tblOk_nil)
theorem o44 : Holds Tryz.prog 44 c44 := fn_holds (code := Tryz.f44.body.getD .skip) (by kernel_rfl) gamOk k44 Tryz.func44 (by kernel_rfl) (by kernel_rfl) (by kernel_rfl) (by kernel_rfl) v44 (fun x _ h => (r44 x).trans ((n44 x.1).trans h))
/-! ### 94: loop.example/g00076/impl.opCost -/
noncomputable def t94 : Tbl := [(42, [], c42)]
noncomputable def a94 : Nat → Option LoopAnn := fun _ => none
noncomputable def g94 (x0 : Ta48) (x1 : Int) : Option ((Int × Unit) × Unit) :=
  bif (x1 == (9 : Int)) then
    some (((wI (x0.1 + x0.2.1)), ()), ())
  else
    bif (x1 == (10 : Int)) then
      some (((wI (x0.1 + x0.2.1)), ()), ())
    else
      bif (f42 x1 (15 : Int) (18 : Int)) then
        some (((wI (x0.1 + x0.2.2.1)), ()), ())
      else
        bif (decide (x1 ≥ (25 : Int))) then
          some (((wI (x0.1 + x0.2.2.2.2.2.1)), ()), ())
        else
          some ((x0.1, ()), ())
noncomputable def f94 (x0 : Ta48) (x1 : Int) : Int :=
  bif (x1 == (9 : Int)) then
    (wI (x0.1 + x0.2.1))
  else
    bif (x1 == (10 : Int)) then
      (wI (x0.1 + x0.2.1))
    else
      bif (f42 x1 (15 : Int) (18 : Int)) then
        (wI (x0.1 + x0.2.2.1))
      else
        bif (decide (x1 ≥ (25 : Int))) then
          (wI (x0.1 + x0.2.2.2.2.2.1))
        else
          x0.1
theorem n94 (x0 : Ta48) (x1 : Int) : g94 x0 x1 = some ((f94 x0 x1, ()), ()) := by
  simp only [g94, f94, pull1]
noncomputable def c94 : Ctr := { ins := [.v Ty102, .v (.int .i64)], out := [(.int .i64)], F := fun x => some ((f94 x.1 x.2.1, ()), ()) }
theorem v94 : LoopsOk Tryz.prog Γ t94 a94 (loopsIn (Tryz.f94.body.getD .skip) 0) := loopsOk_nil (by kernel_rfl)
theorem r94 (x : InsT c94.ins) : fnK Tryz.prog Γ t94 a94 Tryz.f94 c94 x = g94 x.1 x.2.1 := by kernel_rfl
theorem k94 : TblOk Tryz.prog t94 := tblOk_cons o42 (tblOk_nil)
theorem o94 : Holds Tryz.prog 94 c94 := fn_holds (code := Tryz.f94.body.getD .skip) (by kernel_rfl) gamOk k94 Tryz.func94 (by kernel_rfl) (by kernel_rfl) (by kernel_rfl) (by kernel_rfl) v94 (fun x _ h => (r94 x).trans ((n94 x.1 x.2.1).trans h))
/-! ### 95: loop.example/g00076/impl.accessCost -/
noncomputable def t95 : Tbl := []
noncomputable def a95 : Nat → Option LoopAnn := fun _ => none
noncomputable def g95 (x0 : Ta48) (x1 : Ta8) : Option ((Int × Unit) × Unit) :=
  bif (!x1.1) then
    bif (!x1.2.1) then
      bif x1.2.2.1 then
        some (((wI ((wI ((wI ((0 : Int) + x0.2.2.2.1)) + x0.2.2.2.2.1)) + x0.2.2.2.2.2.2.1)), ()), ())
      else
        some (((wI ((wI ((0 : Int) + x0.2.2.2.1)) + x0.2.2.2.2.1)), ()), ())
    else
      bif x1.2.2.1 then
        some (((wI ((wI ((0 : Int) + x0.2.2.2.1)) + x0.2.2.2.2.2.2.1)), ()), ())
      else
        some (((wI ((0 : Int) + x0.2.2.2.1)), ()), ())
  else
    bif (!x1.2.1) then
      bif x1.2.2.1 then
        some (((wI ((wI ((0 : Int) + x0.2.2.2.2.1)) + x0.2.2.2.2.2.2.1)), ()), ())
      else
        some (((wI ((0 : Int) + x0.2.2.2.2.1)), ()), ())
    else
      bif x1.2.2.1 then
        some (((wI ((0 : Int) + x0.2.2.2.2.2.2.1)), ()), ())
      else
        some (((0 : Int), ()), ())
noncomputable def f95 (x0 : Ta48) (x1 : Ta8) : Int :=
  bif (!x1.1) then
    bif (!x1.2.1) then
      bif x1.2.2.1 then
        (wI ((wI ((wI ((0 : Int) + x0.2.2.2.1)) + x0.2.2.2.2.1)) + x0.2.2.2.2.2.2.1))
      else
        (wI ((wI ((0 : Int) + x0.2.2.2.1)) + x0.2.2.2.2.1))
    else
      bif x1.2.2.1 then
        (wI ((wI ((0 : Int) + x0.2.2.2.1)) + x0.2.2.2.2.2.2.1))
      else
        (wI ((0 : Int) + x0.2.2.2.1))
  else
    bif (!x1.2.1) then
      bif x1.2.2.1 then
        (wI ((wI ((0 : Int) + x0.2.2.2.2.1)) + x0.2.2.2.2.2.2.1))
      else
        (wI ((0 : Int) + x0.2.2.2.2.1))
    else
      bif x1.2.2.1 then
        (wI ((0 : Int) + x0.2.2.2.2.2.2.1))
      else
        (0 : Int)
theorem n95 (x0 : Ta48) (x1 : Ta8) : g95 x0 x1 = some ((f95 x0 x1, ()), ()) := by
  simp only [g95, f95, pull1]
noncomputable def c95 : Ctr := { ins := [.v Ty102, .v (.pair .bool (.pair .bool (.pair .bool .unit)))], out := [(.int .i64)], F := fun x => some ((f95 x.1 x.2.1, ()), ()) }
theorem v95 : LoopsOk Tryz.prog Γ t95 a95 (loopsIn (Tryz.f95.body.getD .skip) 0) := loopsOk_nil (by kernel_rfl)
theorem r95 (x : InsT c95.ins) : fnK Tryz.prog Γ t95 a95 Tryz.f95 c95 x = g95 x.1 x.2.1 := by kernel_rfl
theorem k95 : TblOk Tryz.prog t95 := tblOk_nil
theorem o95 : Holds Tryz.prog 95 c95 := fn_holds (code := Tryz.f95.body.getD .skip) (by kernel_rfl) gamOk k95 Tryz.func95 (by kernel_rfl) (by kernel_rfl) (by kernel_rfl) (by kernel_rfl) v95 (fun x _ h => (r95 x).trans ((n95 x.1 x.2.1).trans h))
/-! ### 71: loop.example/g00076/impl.WorstStep -/
noncomputable def t71 : Tbl := [(43, [], c43), (94, [], c94), (95, [], c95)]
abbrev h71_L0 : Shape := { slots := [(1, .bx 1 0), (3, .v (.int .i64)), (8, .v (.int .i64))], boxes := [(1, .typ Ty102)] }
abbrev e71_L0 : List (XT × Shape) := [(.exit 0, { slots := [(1, .bx 1 0), (3, .v (.int .i64))], boxes := [(1, .typ Ty102)] })]
noncomputable def q71_L0 (t3 : Int) (t8 : Int) (b1 : Ta48) : Option (Ta86 ⊕ (Ta79 ⊕ Empty)) :=
  bif (decide (t8 < (33 : Int))) then
    some (.inl (((), ((if (f94 b1 t8) > t3 then (f94 b1 t8) else t3), ((wI (t8 + (1 : Int))), ()))), (b1, ())))
  else
    some (.inr (.inl (((), (t3, ())), (b1, ()))))
noncomputable def s71_L0 (x : Ta86) : Option (Ta86 ⊕ (Ta79 ⊕ Empty)) := q71_L0 x.1.2.1 x.1.2.2.1 x.2.1
noncomputable def a71 : Nat → Option LoopAnn := fun c => bif Nat.beq c 0 then some (.fix h71_L0 e71_L0 s71_L0) else none
noncomputable def g71 (x0 : Ta48) : Option ((Int × Unit) × Unit) :=
  bif (!(f43 x0)) then
    some (((-1 : Int), ()), ())
  else
    (fixO s71_L0 (((), ((0 : Int), ((0 : Int), ()))), (x0, ()))).bind fun d2 => match d2 with
    | .inl y1 =>
      some (((wI ((wI (y1.1.2.1 + (wI ((2 : Int) * (f95 y1.2.1 (false, (false, (true, ())))))))) + y1.2.1.2.2.2.2.2.1)), ()), ())
    | .inr e => nomatch e
noncomputable def c71 : Ctr := { ins := [.v Ty102], out := [(.int .i64)], F := fun x => g71 x.1 }
noncomputable def l71 : List (Nat × Code) := loopsIn (Tryz.f71.body.getD .skip) 0
theorem w71_L0 (x : h71_L0.T) : runK Tryz.prog Γ t71 (inlN Tryz.prog Γ t71 3) a71 (l71.getD 0 (0, .skip)).2 0 (pkSh h71_L0 x) (loopCls (sh := h71_L0) (es := e71_L0)) = (s71_L0 x : Option _) := by kernel_rfl
theorem v71 : LoopsOk Tryz.prog Γ t71 a71 (loopsIn (Tryz.f71.body.getD .skip) 0) := by
  have e : loopsIn (Tryz.f71.body.getD .skip) 0 = [(0, (l71.getD 0 (0, .skip)).2)] := by kernel_rfl
  rw [e]
  exact ⟨fun x d h => (w71_L0 x).trans h, trivial⟩
theorem r71 (x : InsT c71.ins) : fnK Tryz.prog Γ t71 a71 Tryz.f71 c71 x = g71 x.1 := by kernel_rfl
theorem k71 : TblOk Tryz.prog t71 := tblOk_cons o43 (tblOk_cons o94 (tblOk_cons o95 (tblOk_nil)))
theorem o71 : Holds Tryz.prog 71 c71 := fn_holds (code := Tryz.f71.body.getD .skip) (by kernel_rfl) gamOk k71 Tryz.func71 (by kernel_rfl) (by kernel_rfl) (by kernel_rfl) (by kernel_rfl) v71 (fun x _ h => (r71 x).trans h)
/-! ### 45: loop.example/g00076/impl.worstStep -/
noncomputable def t45 : Tbl := [(71, [], c71)]
noncomputable def a45 : Nat → Option LoopAnn := fun _ => none
noncomputable def g45 (x0 : Ta48) : Option ((Int × Unit) × Unit) :=
  (g71 x0).bind fun y1 =>
    some ((y1.1.1, ()), ())
noncomputable def c45 : Ctr := { ins := [.v Ty102], out := [(.int .i64)], F := fun x => g45 x.1 }
theorem v45 : LoopsOk Tryz.prog Γ t45 a45 (loopsIn (Tryz.f45.body.getD .skip) 0) := loopsOk_nil (by kernel_rfl)
theorem r45 (x : InsT c45.ins) : fnK Tryz.prog Γ t45 a45 Tryz.f45 c45 x = g45 x.1 := by kernel_rfl
theorem k45 : TblOk Tryz.prog t45 := tblOk_cons o71 (tblOk_nil)
theorem o45 : Holds Tryz.prog 45 c45 := fn_holds (code := Tryz.f45.body.getD .skip) (by kernel_rfl) gamOk k45 Tryz.func45 (by kernel_rfl) (by kernel_rfl) (by kernel_rfl) (by kernel_rfl) v45 (fun x _ h => (r45 x).trans h)
/-! ### 96: loop.example/g00076/impl.isLabel -/
noncomputable def t96 : Tbl := [(42, [], c42)]
abbrev h96_L0 : Shape := { slots := [(0, .v .str), (5, .v (.int .i64)), (6, .v (.int .i64))], boxes := [] }
abbrev e96_L0 : List (XT × Shape) := [(.ret, { slots := [(2, .v .bool)], boxes := [] }), (.exit 0, { slots := [(0, .v .str)], boxes := [] })]
noncomputable def q96_L0 (t0 : ByteArray) (t5 : Int) (t6 : Int) : Option (Ta26 ⊕ (((Bool × Unit) × Unit) ⊕ (Ta3 ⊕ Empty))) :=
  bif (decide (t6 < t5)) then
    bif (decide (0 ≤ t6) && decide (t6 < t0.size)) then
      bif (decide ((bt t0 t6) < (97 : Int))) then
        some (.inr (.inl ((false, ()), ())))
      else
        bif (decide (0 ≤ t6) && decide (t6 < t0.size)) then
          bif (decide ((bt t0 t6) > (122 : Int))) then
            some (.inr (.inl ((false, ()), ())))
          else
            some (.inl ((t0, (t5, ((wI (t6 + (1 : Int))), ()))), ()))
        else
          none
    else
      none
  else
    some (.inr (.inr (.inl ((t0, ()), ()))))
noncomputable def s96_L0 (x : Ta26) : Option (Ta26 ⊕ (((Bool × Unit) × Unit) ⊕ (Ta3 ⊕ Empty))) := q96_L0 x.1.1 x.1.2.1 x.1.2.2.1
noncomputable def a96 : Nat → Option LoopAnn := fun c => bif Nat.beq c 0 then some (.fix h96_L0 e96_L0 s96_L0) else none
noncomputable def g96 (x0 : ByteArray) : Option ((Bool × Unit) × Unit) :=
  (fixO s96_L0 ((x0, ((x0.size : Int), ((0 : Int), ()))), ())).bind fun d2 => match d2 with
  | .inl y1 =>
    some ((y1.1.1, ()), ())
  | .inr (.inl y1) =>
    some (((f42 (y1.1.1.size : Int) (1 : Int) (12 : Int)), ()), ())
  | .inr (.inr e) => nomatch e
noncomputable def c96 : Ctr := { ins := [.v .str], out := [.bool], F := fun x => g96 x.1 }
noncomputable def l96 : List (Nat × Code) := loopsIn (Tryz.f96.body.getD .skip) 0
theorem w96_L0 (x : h96_L0.T) : runK Tryz.prog Γ t96 (inlN Tryz.prog Γ t96 3) a96 (l96.getD 0 (0, .skip)).2 0 (pkSh h96_L0 x) (loopCls (sh := h96_L0) (es := e96_L0)) = (s96_L0 x : Option _) := by kernel_rfl
theorem v96 : LoopsOk Tryz.prog Γ t96 a96 (loopsIn (Tryz.f96.body.getD .skip) 0) := by
  have e : loopsIn (Tryz.f96.body.getD .skip) 0 = [(0, (l96.getD 0 (0, .skip)).2)] := by kernel_rfl
  rw [e]
  exact ⟨fun x d h => (w96_L0 x).trans h, trivial⟩
theorem r96 (x : InsT c96.ins) : fnK Tryz.prog Γ t96 a96 Tryz.f96 c96 x = g96 x.1 := by kernel_rfl
theorem k96 : TblOk Tryz.prog t96 := tblOk_cons o42 (tblOk_nil)
theorem o96 : Holds Tryz.prog 96 c96 := fn_holds (code := Tryz.f96.body.getD .skip) (by kernel_rfl) gamOk k96 Tryz.func96 (by kernel_rfl) (by kernel_rfl) (by kernel_rfl) (by kernel_rfl) v96 (fun x _ h => (r96 x).trans h)
/-! ### 72: loop.example/g00076/impl.isName -/
noncomputable def t72 : Tbl := [(96, [], c96)]
noncomputable def a72 : Nat → Option LoopAnn := fun _ => none
noncomputable def g72 (x0 : ByteArray) : Option ((Bool × Unit) × Unit) :=
  (g96 x0).bind fun y1 =>
    bif y1.1.1 then
      some (((decide ((x0.size : Int) ≤ (8 : Int))), ()), ())
    else
      some ((false, ()), ())
noncomputable def c72 : Ctr := { ins := [.v .str], out := [.bool], F := fun x => g72 x.1 }
theorem v72 : LoopsOk Tryz.prog Γ t72 a72 (loopsIn (Tryz.f72.body.getD .skip) 0) := loopsOk_nil (by kernel_rfl)
theorem r72 (x : InsT c72.ins) : fnK Tryz.prog Γ t72 a72 Tryz.f72 c72 x = g72 x.1 := by kernel_rfl
theorem k72 : TblOk Tryz.prog t72 := tblOk_cons o96 (tblOk_nil)
theorem o72 : Holds Tryz.prog 72 c72 := fn_holds (code := Tryz.f72.body.getD .skip) (by kernel_rfl) gamOk k72 Tryz.func72 (by kernel_rfl) (by kernel_rfl) (by kernel_rfl) (by kernel_rfl) v72 (fun x _ h => (r72 x).trans h)
/-! ### 98: loop.example/g00076/impl.partNamed$1 -/
noncomputable def t98 : Tbl := []
noncomputable def a98 : Nat → Option LoopAnn := fun _ => none
noncomputable def g98 (x0 : Ta74) (x1 : ByteArray) : Option ((Bool × Unit) × Unit) :=
  some (((strEq x0.1 x1), ()), ())
noncomputable def f98 (x0 : Ta74) (x1 : ByteArray) : Bool :=
  (strEq x0.1 x1)
theorem n98 (x0 : Ta74) (x1 : ByteArray) : g98 x0 x1 = some ((f98 x0 x1, ()), ()) := by
  simp only [g98, f98, pull1]
noncomputable def c98 : Ctr := { ins := [.v Ty112, .rf .str], out := [.bool], F := fun x => some ((f98 x.1 x.2.1, ()), ()) }
theorem v98 : LoopsOk Tryz.prog Γ t98 a98 (loopsIn (Tryz.f98.body.getD .skip) 0) := loopsOk_nil (by kernel_rfl)
theorem r98 (x : InsT c98.ins) : fnK Tryz.prog Γ t98 a98 Tryz.f98 c98 x = g98 x.1 x.2.1 := by kernel_rfl
theorem k98 : TblOk Tryz.prog t98 := tblOk_nil
theorem o98 : Holds Tryz.prog 98 c98 := fn_holds (code := Tryz.f98.body.getD .skip) (by kernel_rfl) gamOk k98 Tryz.func98 (by kernel_rfl) (by kernel_rfl) (by kernel_rfl) (by kernel_rfl) v98 (fun x _ h => (r98 x).trans ((n98 x.1 x.2.1).trans h))
/-! ### 97: slices.IndexFunc[[]loop.example/g00076/impl.PartRow,loop.example/g00076/impl.PartRow] -/
noncomputable def t97_98 : Tbl := [(98, [], c98)]
abbrev h97_98_L0 : Shape := { slots := [(0, .v Ty113), (1, .clo 98 [.str]), (7, .v (.int .i64)), (8, .v (.int .i64))], boxes := [] }
abbrev e97_98_L0 : List (XT × Shape) := [(.ret, { slots := [(4, .v (.int .i64))], boxes := [] }), (.exit 0, { slots := [], boxes := [] })]
noncomputable def q97_98_L0 (t0 : Ta78) (t1 : (ByteArray × Unit)) (t7 : Int) (t8 : Int) : Option (Ta105 ⊕ (((Int × Unit) × Unit) ⊕ ((Unit × Unit) ⊕ Empty))) :=
  bif (decide (t8 < t7)) then
    bif (decide (0 ≤ t8) && decide (t8 < (t0.len : Int))) then
      bif (f98 (L.get t0 t8.toNat) t1.1) then
        some (.inr (.inl ((t8, ()), ())))
      else
        some (.inl ((t0, (t1, (t7, ((wI (t8 + (1 : Int))), ())))), ()))
    else
      none
  else
    some (.inr (.inr (.inl ((), ()))))
noncomputable def s97_98_L0 (x : Ta105) : Option (Ta105 ⊕ (((Int × Unit) × Unit) ⊕ ((Unit × Unit) ⊕ Empty))) := q97_98_L0 x.1.1 x.1.2.1 x.1.2.2.1 x.1.2.2.2.1
noncomputable def a97_98 : Nat → Option LoopAnn := fun c => bif Nat.beq c 0 then some (.fix h97_98_L0 e97_98_L0 s97_98_L0) else none
noncomputable def g97_98 (x0 : Ta78) (x1 : (ByteArray × Unit)) : Option ((Int × Unit) × Unit) :=
  (fixO s97_98_L0 ((x0, (x1, ((x0.len : Int), ((0 : Int), ())))), ())).bind fun d2 => match d2 with
  | .inl y1 =>
    some ((y1.1.1, ()), ())
  | .inr (.inl y1) =>
    some (((-1 : Int), ()), ())
  | .inr (.inr e) => nomatch e
noncomputable def c97_98 : Ctr := { ins := [.v Ty113, .clo 98 [.str]], out := [(.int .i64)], F := fun x => g97_98 x.1 x.2.1 }
noncomputable def l97_98 : List (Nat × Code) := loopsIn (Tryz.f97.body.getD .skip) 0
theorem w97_98_L0 (x : h97_98_L0.T) : runK Tryz.prog Γ t97_98 (inlN Tryz.prog Γ t97_98 3) a97_98 (l97_98.getD 0 (0, .skip)).2 0 (pkSh h97_98_L0 x) (loopCls (sh := h97_98_L0) (es := e97_98_L0)) = (s97_98_L0 x : Option _) := by kernel_rfl
theorem v97_98 : LoopsOk Tryz.prog Γ t97_98 a97_98 (loopsIn (Tryz.f97.body.getD .skip) 0) := by
  have e : loopsIn (Tryz.f97.body.getD .skip) 0 = [(0, (l97_98.getD 0 (0, .skip)).2)] := by kernel_rfl
  rw [e]
  exact ⟨fun x d h => (w97_98_L0 x).trans h, trivial⟩
theorem r97_98 (x : InsT c97_98.ins) : fnK Tryz.prog Γ t97_98 a97_98 Tryz.f97 c97_98 x = g97_98 x.1 x.2.1 := by kernel_rfl
theorem k97_98 : TblOk Tryz.prog t97_98 := tblOk_cons o98 (tblOk_nil)
theorem o97_98 : Holds Tryz.prog 97 c97_98 := fn_holds (code := Tryz.f97.body.getD .skip) (by kernel_rfl) gamOk k97_98 Tryz.func97 (by kernel_rfl) (by kernel_rfl) (by kernel_rfl) (by kernel_rfl) v97_98 (fun x _ h => (r97_98 x).trans h)
/-! ### 73: loop.example/g00076/impl.partNamed -/
noncomputable def t73 : Tbl := [(97, [98], c97_98)]
noncomputable def a73 : Nat → Option LoopAnn := fun _ => none
noncomputable def g73 (x0 : Ta131) (x1 : ByteArray) : Option ((Int × Unit) × Unit) :=
  (g97_98 x0.2.2.2.2.2.2.2.1 (x1, ())).bind fun y1 =>
    some ((y1.1.1, ()), ())
noncomputable def c73 : Ctr := { ins := [.v Ty155, .v .str], out := [(.int .i64)], F := fun x => g73 x.1 x.2.1 }
theorem v73 : LoopsOk Tryz.prog Γ t73 a73 (loopsIn (Tryz.f73.body.getD .skip) 0) := loopsOk_nil (by kernel_rfl)
theorem r73 (x : InsT c73.ins) : fnK Tryz.prog Γ t73 a73 Tryz.f73 c73 x = g73 x.1 x.2.1 := by kernel_rfl
theorem k73 : TblOk Tryz.prog t73 := tblOk_cons o97_98 (tblOk_nil)
theorem o73 : Holds Tryz.prog 73 c73 := fn_holds (code := Tryz.f73.body.getD .skip) (by kernel_rfl) gamOk k73 Tryz.func73 (by kernel_rfl) (by kernel_rfl) (by kernel_rfl) (by kernel_rfl) v73 (fun x _ h => (r73 x).trans h)
/-! ### 74: loop.example/g00076/impl.isPolicy -/
noncomputable def t74 : Tbl := [(42, [], c42)]
noncomputable def a74 : Nat → Option LoopAnn := fun _ => none
noncomputable def g74 (x0 : (Int × (Int × Unit))) : Option ((Bool × Unit) × Unit) :=
  bif (x0.1 == (1 : Int)) then
    some (((f42 x0.2.1 (0 : Int) (100 : Int)), ()), ())
  else
    bif (x0.1 == (0 : Int)) then
      some (((x0.2.1 == (0 : Int)), ()), ())
    else
      bif (x0.1 == (2 : Int)) then
        some (((x0.2.1 == (0 : Int)), ()), ())
      else
        some ((false, ()), ())
noncomputable def f74 (x0 : (Int × (Int × Unit))) : Bool :=
  bif (x0.1 == (1 : Int)) then
    (f42 x0.2.1 (0 : Int) (100 : Int))
  else
    bif (x0.1 == (0 : Int)) then
      (x0.2.1 == (0 : Int))
    else
      bif (x0.1 == (2 : Int)) then
        (x0.2.1 == (0 : Int))
      else
        false
theorem n74 (x0 : (Int × (Int × Unit))) : g74 x0 = some ((f74 x0, ()), ()) := by
  simp only [g74, f74, pull1]
noncomputable def c74 : Ctr := { ins := [.v Ty29], out := [.bool], F := fun x => some ((f74 x.1, ()), ()) }
theorem v74 : LoopsOk Tryz.prog Γ t74 a74 (loopsIn (Tryz.f74.body.getD .skip) 0) := loopsOk_nil (by kernel_rfl)
theorem r74 (x : InsT c74.ins) : fnK Tryz.prog Γ t74 a74 Tryz.f74 c74 x = g74 x.1 := by kernel_rfl
theorem k74 : TblOk Tryz.prog t74 := tblOk_cons o42 (tblOk_nil)
theorem o74 : Holds Tryz.prog 74 c74 := fn_holds (code := Tryz.f74.body.getD .skip) (by kernel_rfl) gamOk k74 Tryz.func74 (by kernel_rfl) (by kernel_rfl) (by kernel_rfl) (by kernel_rfl) v74 (fun x _ h => (r74 x).trans ((n74 x.1).trans h))
/-! ### 75: loop.example/g00076/impl.isWindow -/
noncomputable def t75 : Tbl := [(42, [], c42)]
noncomputable def a75 : Nat → Option LoopAnn := fun _ => none
noncomputable def g75 (x0 : Ta5) : Option ((Bool × Unit) × Unit) :=
  bif (f42 x0.2.1 (4 : Int) (2048 : Int)) then
    bif ((Int.tmod x0.2.1 (4 : Int)) == (0 : Int)) then
      bif (f42 x0.1 (0 : Int) (wI ((2048 : Int) - x0.2.1))) then
        bif ((Int.tmod x0.1 (4 : Int)) == (0 : Int)) then
          some (((f42 x0.2.2.1 (1 : Int) (7 : Int)), ()), ())
        else
          some ((false, ()), ())
      else
        some ((false, ()), ())
    else
      some ((false, ()), ())
  else
    some ((false, ()), ())
noncomputable def f75 (x0 : Ta5) : Bool :=
  bif (f42 x0.2.1 (4 : Int) (2048 : Int)) then
    bif ((Int.tmod x0.2.1 (4 : Int)) == (0 : Int)) then
      bif (f42 x0.1 (0 : Int) (wI ((2048 : Int) - x0.2.1))) then
        bif ((Int.tmod x0.1 (4 : Int)) == (0 : Int)) then
          (f42 x0.2.2.1 (1 : Int) (7 : Int))
        else
          false
      else
        false
    else
      false
  else
    false
theorem n75 (x0 : Ta5) : g75 x0 = some ((f75 x0, ()), ()) := by
  simp only [g75, f75, pull1]
noncomputable def c75 : Ctr := { ins := [.v Ty50], out := [.bool], F := fun x => some ((f75 x.1, ()), ()) }
theorem v75 : LoopsOk Tryz.prog Γ t75 a75 (loopsIn (Tryz.f75.body.getD .skip) 0) := loopsOk_nil (by kernel_rfl)
theorem r75 (x : InsT c75.ins) : fnK Tryz.prog Γ t75 a75 Tryz.f75 c75 x = g75 x.1 := by kernel_rfl
theorem k75 : TblOk Tryz.prog t75 := tblOk_cons o42 (tblOk_nil)
theorem o75 : Holds Tryz.prog 75 c75 := fn_holds (code := Tryz.f75.body.getD .skip) (by kernel_rfl) gamOk k75 Tryz.func75 (by kernel_rfl) (by kernel_rfl) (by kernel_rfl) (by kernel_rfl) v75 (fun x _ h => (r75 x).trans ((n75 x.1).trans h))
/-! ### 78: loop.example/g00076/impl.areApart -/
noncomputable def t78 : Tbl := []
noncomputable def a78 : Nat → Option LoopAnn := fun _ => none
noncomputable def g78 (x0 : Ta5) (x1 : Ta5) : Option ((Bool × Unit) × Unit) :=
  bif (decide ((wI (x0.1 + x0.2.1)) ≤ x1.1)) then
    some ((true, ()), ())
  else
    some (((decide ((wI (x1.1 + x1.2.1)) ≤ x0.1)), ()), ())
noncomputable def f78 (x0 : Ta5) (x1 : Ta5) : Bool :=
  bif (decide ((wI (x0.1 + x0.2.1)) ≤ x1.1)) then
    true
  else
    (decide ((wI (x1.1 + x1.2.1)) ≤ x0.1))
theorem n78 (x0 : Ta5) (x1 : Ta5) : g78 x0 x1 = some ((f78 x0 x1, ()), ()) := by
  simp only [g78, f78, pull1]
noncomputable def c78 : Ctr := { ins := [.v Ty50, .v Ty50], out := [.bool], F := fun x => some ((f78 x.1 x.2.1, ()), ()) }
theorem v78 : LoopsOk Tryz.prog Γ t78 a78 (loopsIn (Tryz.f78.body.getD .skip) 0) := loopsOk_nil (by kernel_rfl)
theorem r78 (x : InsT c78.ins) : fnK Tryz.prog Γ t78 a78 Tryz.f78 c78 x = g78 x.1 x.2.1 := by kernel_rfl
theorem k78 : TblOk Tryz.prog t78 := tblOk_nil
theorem o78 : Holds Tryz.prog 78 c78 := fn_holds (code := Tryz.f78.body.getD .skip) (by kernel_rfl) gamOk k78 Tryz.func78 (by kernel_rfl) (by kernel_rfl) (by kernel_rfl) (by kernel_rfl) v78 (fun x _ h => (r78 x).trans ((n78 x.1 x.2.1).trans h))
/-! ### 77: loop.example/g00076/impl.areParts$1 -/
noncomputable def t77 : Tbl := [(78, [], c78)]
noncomputable def a77 : Nat → Option LoopAnn := fun _ => none
noncomputable def g77 (x0 : Ta5) (x1 : Ta5) : Option ((Bool × Unit) × Unit) :=
  some (((!(f78 x0 x1)), ()), ())
noncomputable def f77 (x0 : Ta5) (x1 : Ta5) : Bool :=
  (!(f78 x0 x1))
theorem n77 (x0 : Ta5) (x1 : Ta5) : g77 x0 x1 = some ((f77 x0 x1, ()), ()) := by
  simp only [g77, f77, pull1]
noncomputable def c77 : Ctr := { ins := [.v Ty50, .rf Ty50], out := [.bool], F := fun x => some ((f77 x.1 x.2.1, ()), ()) }
theorem v77 : LoopsOk Tryz.prog Γ t77 a77 (loopsIn (Tryz.f77.body.getD .skip) 0) := loopsOk_nil (by kernel_rfl)
theorem r77 (x : InsT c77.ins) : fnK Tryz.prog Γ t77 a77 Tryz.f77 c77 x = g77 x.1 x.2.1 := by kernel_rfl
theorem k77 : TblOk Tryz.prog t77 := tblOk_cons o78 (tblOk_nil)
theorem o77 : Holds Tryz.prog 77 c77 := fn_holds (code := Tryz.f77.body.getD .skip) (by kernel_rfl) gamOk k77 Tryz.func77 (by kernel_rfl) (by kernel_rfl) (by kernel_rfl) (by kernel_rfl) v77 (fun x _ h => (r77 x).trans ((n77 x.1 x.2.1).trans h))
/-! ### 99: slices.IndexFunc[[]loop.example/g00076/impl.Window,loop.example/g00076/impl.Window] -/
noncomputable def t99_77 : Tbl := [(77, [], c77)]
abbrev h99_77_L0 : Shape := { slots := [(0, .v Ty57), (1, .clo 77 [Ty50]), (7, .v (.int .i64)), (8, .v (.int .i64))], boxes := [] }
abbrev e99_77_L0 : List (XT × Shape) := [(.ret, { slots := [(4, .v (.int .i64))], boxes := [] }), (.exit 0, { slots := [], boxes := [] })]
noncomputable def q99_77_L0 (t0 : Ta9) (t1 : Ta18) (t7 : Int) (t8 : Int) : Option (Ta89 ⊕ (((Int × Unit) × Unit) ⊕ ((Unit × Unit) ⊕ Empty))) :=
  bif (decide (t8 < t7)) then
    bif (decide (0 ≤ t8) && decide (t8 < (t0.len : Int))) then
      bif (f77 (L.get t0 t8.toNat) t1.1) then
        some (.inr (.inl ((t8, ()), ())))
      else
        some (.inl ((t0, (t1, (t7, ((wI (t8 + (1 : Int))), ())))), ()))
    else
      none
  else
    some (.inr (.inr (.inl ((), ()))))
noncomputable def s99_77_L0 (x : Ta89) : Option (Ta89 ⊕ (((Int × Unit) × Unit) ⊕ ((Unit × Unit) ⊕ Empty))) := q99_77_L0 x.1.1 x.1.2.1 x.1.2.2.1 x.1.2.2.2.1
noncomputable def a99_77 : Nat → Option LoopAnn := fun c => bif Nat.beq c 0 then some (.fix h99_77_L0 e99_77_L0 s99_77_L0) else none
noncomputable def g99_77 (x0 : Ta9) (x1 : Ta18) : Option ((Int × Unit) × Unit) :=
  (fixO s99_77_L0 ((x0, (x1, ((x0.len : Int), ((0 : Int), ())))), ())).bind fun d2 => match d2 with
  | .inl y1 =>
    some ((y1.1.1, ()), ())
  | .inr (.inl y1) =>
    some (((-1 : Int), ()), ())
  | .inr (.inr e) => nomatch e
noncomputable def c99_77 : Ctr := { ins := [.v Ty57, .clo 77 [Ty50]], out := [(.int .i64)], F := fun x => g99_77 x.1 x.2.1 }
noncomputable def l99_77 : List (Nat × Code) := loopsIn (Tryz.f99.body.getD .skip) 0
theorem w99_77_L0 (x : h99_77_L0.T) : runK Tryz.prog Γ t99_77 (inlN Tryz.prog Γ t99_77 3) a99_77 (l99_77.getD 0 (0, .skip)).2 0 (pkSh h99_77_L0 x) (loopCls (sh := h99_77_L0) (es := e99_77_L0)) = (s99_77_L0 x : Option _) := by kernel_rfl
theorem v99_77 : LoopsOk Tryz.prog Γ t99_77 a99_77 (loopsIn (Tryz.f99.body.getD .skip) 0) := by
  have e : loopsIn (Tryz.f99.body.getD .skip) 0 = [(0, (l99_77.getD 0 (0, .skip)).2)] := by kernel_rfl
  rw [e]
  exact ⟨fun x d h => (w99_77_L0 x).trans h, trivial⟩
theorem r99_77 (x : InsT c99_77.ins) : fnK Tryz.prog Γ t99_77 a99_77 Tryz.f99 c99_77 x = g99_77 x.1 x.2.1 := by kernel_rfl
theorem k99_77 : TblOk Tryz.prog t99_77 := tblOk_cons o77 (tblOk_nil)
theorem o99_77 : Holds Tryz.prog 99 c99_77 := fn_holds (code := Tryz.f99.body.getD .skip) (by kernel_rfl) gamOk k99_77 Tryz.func99 (by kernel_rfl) (by kernel_rfl) (by kernel_rfl) (by kernel_rfl) v99_77 (fun x _ h => (r99_77 x).trans h)
/-! ### 76: slices.ContainsFunc[[]loop.example/g00076/impl.Window,loop.example/g00076/impl.Window] -/
noncomputable def t76_77 : Tbl := [(99, [77], c99_77)]
noncomputable def a76_77 : Nat → Option LoopAnn := fun _ => none
noncomputable def g76_77 (x0 : Ta9) (x1 : Ta18) : Option ((Bool × Unit) × Unit) :=
  (g99_77 x0 x1).bind fun y1 =>
    some (((decide (y1.1.1 ≥ (0 : Int))), ()), ())
noncomputable def c76_77 : Ctr := { ins := [.v Ty57, .clo 77 [Ty50]], out := [.bool], F := fun x => g76_77 x.1 x.2.1 }
theorem v76_77 : LoopsOk Tryz.prog Γ t76_77 a76_77 (loopsIn (Tryz.f76.body.getD .skip) 0) := loopsOk_nil (by kernel_rfl)
theorem r76_77 (x : InsT c76_77.ins) : fnK Tryz.prog Γ t76_77 a76_77 Tryz.f76 c76_77 x = g76_77 x.1 x.2.1 := by kernel_rfl
theorem k76_77 : TblOk Tryz.prog t76_77 := tblOk_cons o99_77 (tblOk_nil)
theorem o76_77 : Holds Tryz.prog 76 c76_77 := fn_holds (code := Tryz.f76.body.getD .skip) (by kernel_rfl) gamOk k76_77 Tryz.func76 (by kernel_rfl) (by kernel_rfl) (by kernel_rfl) (by kernel_rfl) v76_77 (fun x _ h => (r76_77 x).trans h)
/-! ### 106: loop.example/g00076/impl.windowAt$1 -/
noncomputable def t106 : Tbl := []
noncomputable def a106 : Nat → Option LoopAnn := fun _ => none
noncomputable def g106 (x0 : Ta5) (x1 : Int) : Option ((Bool × Unit) × Unit) :=
  bif (decide (x0.1 ≤ x1)) then
    some (((decide (x1 < (wI (x0.1 + x0.2.1)))), ()), ())
  else
    some ((false, ()), ())
noncomputable def f106 (x0 : Ta5) (x1 : Int) : Bool :=
  bif (decide (x0.1 ≤ x1)) then
    (decide (x1 < (wI (x0.1 + x0.2.1))))
  else
    false
theorem n106 (x0 : Ta5) (x1 : Int) : g106 x0 x1 = some ((f106 x0 x1, ()), ()) := by
  simp only [g106, f106, pull1]
noncomputable def c106 : Ctr := { ins := [.v Ty50, .rf (.int .i64)], out := [.bool], F := fun x => some ((f106 x.1 x.2.1, ()), ()) }
theorem v106 : LoopsOk Tryz.prog Γ t106 a106 (loopsIn (Tryz.f106.body.getD .skip) 0) := loopsOk_nil (by kernel_rfl)
theorem r106 (x : InsT c106.ins) : fnK Tryz.prog Γ t106 a106 Tryz.f106 c106 x = g106 x.1 x.2.1 := by kernel_rfl
theorem k106 : TblOk Tryz.prog t106 := tblOk_nil
theorem o106 : Holds Tryz.prog 106 c106 := fn_holds (code := Tryz.f106.body.getD .skip) (by kernel_rfl) gamOk k106 Tryz.func106 (by kernel_rfl) (by kernel_rfl) (by kernel_rfl) (by kernel_rfl) v106 (fun x _ h => (r106 x).trans ((n106 x.1 x.2.1).trans h))
/-! ### 99: slices.IndexFunc[[]loop.example/g00076/impl.Window,loop.example/g00076/impl.Window] -/
noncomputable def t99_106 : Tbl := [(106, [], c106)]
abbrev h99_106_L0 : Shape := { slots := [(0, .v Ty57), (1, .clo 106 [(.int .i64)]), (7, .v (.int .i64)), (8, .v (.int .i64))], boxes := [] }
abbrev e99_106_L0 : List (XT × Shape) := [(.ret, { slots := [(4, .v (.int .i64))], boxes := [] }), (.exit 0, { slots := [], boxes := [] })]
noncomputable def q99_106_L0 (t0 : Ta9) (t1 : (Int × Unit)) (t7 : Int) (t8 : Int) : Option (Ta69 ⊕ (((Int × Unit) × Unit) ⊕ ((Unit × Unit) ⊕ Empty))) :=
  bif (decide (t8 < t7)) then
    bif (decide (0 ≤ t8) && decide (t8 < (t0.len : Int))) then
      bif (f106 (L.get t0 t8.toNat) t1.1) then
        some (.inr (.inl ((t8, ()), ())))
      else
        some (.inl ((t0, (t1, (t7, ((wI (t8 + (1 : Int))), ())))), ()))
    else
      none
  else
    some (.inr (.inr (.inl ((), ()))))
noncomputable def s99_106_L0 (x : Ta69) : Option (Ta69 ⊕ (((Int × Unit) × Unit) ⊕ ((Unit × Unit) ⊕ Empty))) := q99_106_L0 x.1.1 x.1.2.1 x.1.2.2.1 x.1.2.2.2.1
noncomputable def a99_106 : Nat → Option LoopAnn := fun c => bif Nat.beq c 0 then some (.fix h99_106_L0 e99_106_L0 s99_106_L0) else none
noncomputable def g99_106 (x0 : Ta9) (x1 : (Int × Unit)) : Option ((Int × Unit) × Unit) :=
  (fixO s99_106_L0 ((x0, (x1, ((x0.len : Int), ((0 : Int), ())))), ())).bind fun d2 => match d2 with
  | .inl y1 =>
    some ((y1.1.1, ()), ())
  | .inr (.inl y1) =>
    some (((-1 : Int), ()), ())
  | .inr (.inr e) => nomatch e
noncomputable def c99_106 : Ctr := { ins := [.v Ty57, .clo 106 [(.int .i64)]], out := [(.int .i64)], F := fun x => g99_106 x.1 x.2.1 }
noncomputable def l99_106 : List (Nat × Code) := loopsIn (Tryz.f99.body.getD .skip) 0
theorem w99_106_L0 (x : h99_106_L0.T) : runK Tryz.prog Γ t99_106 (inlN Tryz.prog Γ t99_106 3) a99_106 (l99_106.getD 0 (0, .skip)).2 0 (pkSh h99_106_L0 x) (loopCls (sh := h99_106_L0) (es := e99_106_L0)) = (s99_106_L0 x : Option _) := by kernel_rfl
theorem v99_106 : LoopsOk Tryz.prog Γ t99_106 a99_106 (loopsIn (Tryz.f99.body.getD .skip) 0) := by
  have e : loopsIn (Tryz.f99.body.getD .skip) 0 = [(0, (l99_106.getD 0 (0, .skip)).2)] := by kernel_rfl
  rw [e]
  exact ⟨fun x d h => (w99_106_L0 x).trans h, trivial⟩
theorem r99_106 (x : InsT c99_106.ins) : fnK Tryz.prog Γ t99_106 a99_106 Tryz.f99 c99_106 x = g99_106 x.1 x.2.1 := by kernel_rfl
theorem k99_106 : TblOk Tryz.prog t99_106 := tblOk_cons o106 (tblOk_nil)
theorem o99_106 : Holds Tryz.prog 99 c99_106 := fn_holds (code := Tryz.f99.body.getD .skip) (by kernel_rfl) gamOk k99_106 Tryz.func99 (by kernel_rfl) (by kernel_rfl) (by kernel_rfl) (by kernel_rfl) v99_106 (fun x _ h => (r99_106 x).trans h)
/-! ### 100: loop.example/g00076/impl.windowAt -/
noncomputable def t100 : Tbl := [(99, [106], c99_106)]
noncomputable def a100 : Nat → Option LoopAnn := fun _ => none
noncomputable def g100 (x0 : Ta9) (x1 : Int) : Option ((Int × Unit) × Unit) :=
  (g99_106 x0 (x1, ())).bind fun y1 =>
    some ((y1.1.1, ()), ())
noncomputable def c100 : Ctr := { ins := [.v Ty57, .v (.int .i64)], out := [(.int .i64)], F := fun x => g100 x.1 x.2.1 }
theorem v100 : LoopsOk Tryz.prog Γ t100 a100 (loopsIn (Tryz.f100.body.getD .skip) 0) := loopsOk_nil (by kernel_rfl)
theorem r100 (x : InsT c100.ins) : fnK Tryz.prog Γ t100 a100 Tryz.f100 c100 x = g100 x.1 x.2.1 := by kernel_rfl
theorem k100 : TblOk Tryz.prog t100 := tblOk_cons o99_106 (tblOk_nil)
theorem o100 : Holds Tryz.prog 100 c100 := fn_holds (code := Tryz.f100.body.getD .skip) (by kernel_rfl) gamOk k100 Tryz.func100 (by kernel_rfl) (by kernel_rfl) (by kernel_rfl) (by kernel_rfl) v100 (fun x _ h => (r100 x).trans h)
/-! ### 79: loop.example/g00076/impl.runsAt -/
noncomputable def t79 : Tbl := [(100, [], c100)]
noncomputable def a79 : Nat → Option LoopAnn := fun _ => none
noncomputable def g79 (x0 : Ta74) (x1 : Int) : Option ((Bool × Unit) × Unit) :=
  (g100 x0.2.2.2.1 x1).bind fun y1 =>
    bif (decide (y1.1.1 ≥ (0 : Int))) then
      bif (decide (0 ≤ y1.1.1) && decide (y1.1.1 < (x0.2.2.2.1.len : Int))) then
        some ((((andOf .i64 (L.get x0.2.2.2.1 y1.1.1.toNat).2.2.1 (4 : Int)) != (0 : Int)), ()), ())
      else
        none
    else
      some ((false, ()), ())
noncomputable def c79 : Ctr := { ins := [.v Ty112, .v (.int .i64)], out := [.bool], F := fun x => g79 x.1 x.2.1 }
theorem v79 : LoopsOk Tryz.prog Γ t79 a79 (loopsIn (Tryz.f79.body.getD .skip) 0) := loopsOk_nil (by kernel_rfl)
theorem r79 (x : InsT c79.ins) : fnK Tryz.prog Γ t79 a79 Tryz.f79 c79 x = g79 x.1 x.2.1 := by kernel_rfl
theorem k79 : TblOk Tryz.prog t79 := tblOk_cons o100 (tblOk_nil)
theorem o79 : Holds Tryz.prog 79 c79 := fn_holds (code := Tryz.f79.body.getD .skip) (by kernel_rfl) gamOk k79 Tryz.func79 (by kernel_rfl) (by kernel_rfl) (by kernel_rfl) (by kernel_rfl) v79 (fun x _ h => (r79 x).trans h)
/-! ### 46: loop.example/g00076/impl.areParts -/
noncomputable def t46 : Tbl := [(72, [], c72), (73, [], c73), (74, [], c74), (42, [], c42), (75, [], c75), (76, [77], c76_77), (79, [], c79)]
abbrev h46_L2 : Shape := { slots := [(1, .bx 1 0), (3, .exo Ty50 50003), (5, .bx 5 0), (9, .v Ty113), (10, .v (.int .i64)), (11, .v (.int .i64)), (42, .v Ty57), (43, .v (.int .i64)), (44, .v (.int .i64))], boxes := [(1, .typ Ty155), (5, .typ Ty112)] }
abbrev e46_L2 : List (XT × Shape) := [(.ret, { slots := [(2, .v .bool)], boxes := [] }), (.exit 2, { slots := [(1, .bx 1 0), (3, .exo Ty50 50003), (5, .bx 5 0), (9, .v Ty113), (10, .v (.int .i64)), (11, .v (.int .i64))], boxes := [(1, .typ Ty155), (5, .typ Ty112)] })]
noncomputable def q46_L2 (t3 : Ta9) (t9 : Ta78) (t10 : Int) (t11 : Int) (t42 : Ta9) (t43 : Int) (t44 : Int) (b1 : Ta131) (b5 : Ta74) : Option (Ta153 ⊕ (((Bool × Unit) × Unit) ⊕ (((Unit × (Ta9 × (Unit × Ta92))) × Ta144) ⊕ Empty))) :=
  bif (decide (t44 < t43)) then
    bif (decide (0 ≤ t44) && decide (t44 < (t42.len : Int))) then
      bif (!(f75 (L.get t42 t44.toNat))) then
        some (.inr (.inl ((false, ()), ())))
      else
        bif (decide ((wI ((L.get t42 t44.toNat).1 + (L.get t42 t44.toNat).2.1)) > b1.1)) then
          some (.inr (.inl ((false, ()), ())))
        else
          (g76_77 t3 ((L.get t42 t44.toNat), ())).bind fun y3 =>
            bif y3.1.1 then
              some (.inr (.inl ((false, ()), ())))
            else
              bif (decide (t3.len + (L.of (Ty.zero Ty50) [(L.get t42 t44.toNat)]).len ≤ most)) then
                some (.inl (((), ((L.app t3 (L.of (Ty.zero Ty50) [(L.get t42 t44.toNat)])), ((), (t9, (t10, (t11, (t42, (t43, ((wI (t44 + (1 : Int))), ()))))))))), (b1, (b5, ()))))
              else
                none
    else
      none
  else
    some (.inr (.inr (.inl (((), (t3, ((), (t9, (t10, (t11, ())))))), (b1, (b5, ()))))))
noncomputable def s46_L2 (x : Ta153) : Option (Ta153 ⊕ (((Bool × Unit) × Unit) ⊕ (((Unit × (Ta9 × (Unit × Ta92))) × Ta144) ⊕ Empty))) := q46_L2 x.1.2.1 x.1.2.2.2.1 x.1.2.2.2.2.1 x.1.2.2.2.2.2.1 x.1.2.2.2.2.2.2.1 x.1.2.2.2.2.2.2.2.1 x.1.2.2.2.2.2.2.2.2.1 x.2.1 x.2.2.1
abbrev h46_L0 : Shape := { slots := [(1, .bx 1 0), (3, .exo Ty50 50003), (9, .v Ty113), (10, .v (.int .i64)), (11, .v (.int .i64))], boxes := [(1, .typ Ty155)] }
abbrev e46_L0 : List (XT × Shape) := [(.ret, { slots := [(2, .v .bool)], boxes := [] }), (.exit 0, { slots := [], boxes := [] })]
noncomputable def q46_L0 (t3 : Ta9) (t9 : Ta78) (t10 : Int) (t11 : Int) (b1 : Ta131) : Option (Ta149 ⊕ (((Bool × Unit) × Unit) ⊕ ((Unit × Unit) ⊕ Empty))) :=
  bif (decide (t11 < t10)) then
    bif (decide (0 ≤ t11) && decide (t11 < (t9.len : Int))) then
      (g72 (L.get t9 t11.toNat).1).bind fun y1 =>
        bif (!y1.1.1) then
          some (.inr (.inl ((false, ()), ())))
        else
          (g73 b1 (L.get t9 t11.toNat).1).bind fun y2 =>
            bif (decide (y2.1.1 < t11)) then
              some (.inr (.inl ((false, ()), ())))
            else
              bif (!(f74 (L.get t9 t11.toNat).2.2.1)) then
                some (.inr (.inl ((false, ()), ())))
              else
                bif (!(f42 ((L.get t9 t11.toNat).2.2.2.1.len : Int) (1 : Int) (4 : Int))) then
                  some (.inr (.inl ((false, ()), ())))
                else
                  (fixO s46_L2 (((), (t3, ((), (t9, (t10, (t11, ((L.get t9 t11.toNat).2.2.2.1, (((L.get t9 t11.toNat).2.2.2.1.len : Int), ((0 : Int), ()))))))))), (b1, ((L.get t9 t11.toNat), ())))).bind fun d6 => match d6 with
                  | .inl y4 =>
                    some (.inr (.inl y4))
                  | .inr (.inl y4) =>
                    bif ((Int.tmod y4.2.2.1.2.1 (4 : Int)) != (0 : Int)) then
                      some (.inr (.inl ((false, ()), ())))
                    else
                      (g79 y4.2.2.1 y4.2.2.1.2.1).bind fun y5 =>
                        bif (!y5.1.1) then
                          some (.inr (.inl ((false, ()), ())))
                        else
                          some (.inl (((), (y4.1.2.1, (y4.1.2.2.2.1, (y4.1.2.2.2.2.1, ((wI (y4.1.2.2.2.2.2.1 + (1 : Int))), ()))))), (y4.2.1, ())))
                  | .inr (.inr e) => nomatch e
    else
      none
  else
    some (.inr (.inr (.inl ((), ()))))
noncomputable def s46_L0 (x : Ta149) : Option (Ta149 ⊕ (((Bool × Unit) × Unit) ⊕ ((Unit × Unit) ⊕ Empty))) := q46_L0 x.1.2.1 x.1.2.2.1 x.1.2.2.2.1 x.1.2.2.2.2.1 x.2.1
noncomputable def a46 : Nat → Option LoopAnn := fun c => bif Nat.beq c 2 then some (.fix h46_L2 e46_L2 s46_L2) else bif Nat.beq c 0 then some (.fix h46_L0 e46_L0 s46_L0) else none
noncomputable def g46 (x0 : Ta131) : Option ((Bool × Unit) × Unit) :=
  (fixO s46_L0 (((), ((nilL Ty50), (x0.2.2.2.2.2.2.2.1, ((x0.2.2.2.2.2.2.2.1.len : Int), ((0 : Int), ()))))), (x0, ()))).bind fun d8 => match d8 with
  | .inl y7 =>
    some ((y7.1.1, ()), ())
  | .inr (.inl y7) =>
    some ((true, ()), ())
  | .inr (.inr e) => nomatch e
noncomputable def c46 : Ctr := { ins := [.v Ty155], out := [.bool], F := fun x => g46 x.1 }
noncomputable def l46 : List (Nat × Code) := loopsIn (Tryz.f46.body.getD .skip) 0
theorem w46_L2 (x : h46_L2.T) : runK Tryz.prog Γ t46 (inlN Tryz.prog Γ t46 3) a46 (l46.getD 1 (0, .skip)).2 2 (pkSh h46_L2 x) (loopCls (sh := h46_L2) (es := e46_L2)) = (s46_L2 x : Option _) := by kernel_rfl
theorem w46_L0 (x : h46_L0.T) : runK Tryz.prog Γ t46 (inlN Tryz.prog Γ t46 3) a46 (l46.getD 0 (0, .skip)).2 0 (pkSh h46_L0 x) (loopCls (sh := h46_L0) (es := e46_L0)) = (s46_L0 x : Option _) := by kernel_rfl
theorem v46 : LoopsOk Tryz.prog Γ t46 a46 (loopsIn (Tryz.f46.body.getD .skip) 0) := by
  have e : loopsIn (Tryz.f46.body.getD .skip) 0 = [(0, (l46.getD 0 (0, .skip)).2), (2, (l46.getD 1 (0, .skip)).2)] := by kernel_rfl
  rw [e]
  exact ⟨fun x d h => (w46_L0 x).trans h, fun x d h => (w46_L2 x).trans h, trivial⟩
theorem r46 (x : InsT c46.ins) : fnK Tryz.prog Γ t46 a46 Tryz.f46 c46 x = g46 x.1 := by kernel_rfl
theorem k46 : TblOk Tryz.prog t46 := tblOk_cons o72 (tblOk_cons o73 (tblOk_cons o74 (tblOk_cons o42 (tblOk_cons o75 (tblOk_cons o76_77 (tblOk_cons o79 (tblOk_nil)))))))
theorem o46 : Holds Tryz.prog 46 c46 := fn_holds (code := Tryz.f46.body.getD .skip) (by kernel_rfl) gamOk k46 Tryz.func46 (by kernel_rfl) (by kernel_rfl) (by kernel_rfl) (by kernel_rfl) v46 (fun x _ h => (r46 x).trans h)
/-! ### 48: loop.example/g00076/impl.isSound$1 -/
noncomputable def t48 : Tbl := [(42, [], c42)]
noncomputable def a48 : Nat → Option LoopAnn := fun _ => none
noncomputable def g48 (x0 : Int) (x1 : Int) : Option ((Bool × Unit) × Unit) :=
  some (((!(f42 x0 (0 : Int) (wI (x1 - (1 : Int))))), ()), ())
noncomputable def f48 (x0 : Int) (x1 : Int) : Bool :=
  (!(f42 x0 (0 : Int) (wI (x1 - (1 : Int)))))
theorem n48 (x0 : Int) (x1 : Int) : g48 x0 x1 = some ((f48 x0 x1, ()), ()) := by
  simp only [g48, f48, pull1]
noncomputable def c48 : Ctr := { ins := [.v (.int .i64), .rf (.int .i64)], out := [.bool], F := fun x => some ((f48 x.1 x.2.1, ()), ()) }
theorem v48 : LoopsOk Tryz.prog Γ t48 a48 (loopsIn (Tryz.f48.body.getD .skip) 0) := loopsOk_nil (by kernel_rfl)
theorem r48 (x : InsT c48.ins) : fnK Tryz.prog Γ t48 a48 Tryz.f48 c48 x = g48 x.1 x.2.1 := by kernel_rfl
theorem k48 : TblOk Tryz.prog t48 := tblOk_cons o42 (tblOk_nil)
theorem o48 : Holds Tryz.prog 48 c48 := fn_holds (code := Tryz.f48.body.getD .skip) (by kernel_rfl) gamOk k48 Tryz.func48 (by kernel_rfl) (by kernel_rfl) (by kernel_rfl) (by kernel_rfl) v48 (fun x _ h => (r48 x).trans ((n48 x.1 x.2.1).trans h))
/-! ### 80: slices.IndexFunc[[]int,int] -/
noncomputable def t80_48 : Tbl := [(48, [], c48)]
abbrev h80_48_L0 : Shape := { slots := [(0, .v (.sl (.int .i64))), (1, .clo 48 [(.int .i64)]), (7, .v (.int .i64)), (8, .v (.int .i64))], boxes := [] }
abbrev e80_48_L0 : List (XT × Shape) := [(.ret, { slots := [(4, .v (.int .i64))], boxes := [] }), (.exit 0, { slots := [], boxes := [] })]
noncomputable def q80_48_L0 (t0 : (L Int)) (t1 : (Int × Unit)) (t7 : Int) (t8 : Int) : Option (Ta46 ⊕ (((Int × Unit) × Unit) ⊕ ((Unit × Unit) ⊕ Empty))) :=
  bif (decide (t8 < t7)) then
    bif (decide (0 ≤ t8) && decide (t8 < (t0.len : Int))) then
      bif (f48 (L.get t0 t8.toNat) t1.1) then
        some (.inr (.inl ((t8, ()), ())))
      else
        some (.inl ((t0, (t1, (t7, ((wI (t8 + (1 : Int))), ())))), ()))
    else
      none
  else
    some (.inr (.inr (.inl ((), ()))))
noncomputable def s80_48_L0 (x : Ta46) : Option (Ta46 ⊕ (((Int × Unit) × Unit) ⊕ ((Unit × Unit) ⊕ Empty))) := q80_48_L0 x.1.1 x.1.2.1 x.1.2.2.1 x.1.2.2.2.1
noncomputable def a80_48 : Nat → Option LoopAnn := fun c => bif Nat.beq c 0 then some (.fix h80_48_L0 e80_48_L0 s80_48_L0) else none
noncomputable def g80_48 (x0 : (L Int)) (x1 : (Int × Unit)) : Option ((Int × Unit) × Unit) :=
  (fixO s80_48_L0 ((x0, (x1, ((x0.len : Int), ((0 : Int), ())))), ())).bind fun d2 => match d2 with
  | .inl y1 =>
    some ((y1.1.1, ()), ())
  | .inr (.inl y1) =>
    some (((-1 : Int), ()), ())
  | .inr (.inr e) => nomatch e
noncomputable def c80_48 : Ctr := { ins := [.v (.sl (.int .i64)), .clo 48 [(.int .i64)]], out := [(.int .i64)], F := fun x => g80_48 x.1 x.2.1 }
noncomputable def l80_48 : List (Nat × Code) := loopsIn (Tryz.f80.body.getD .skip) 0
theorem w80_48_L0 (x : h80_48_L0.T) : runK Tryz.prog Γ t80_48 (inlN Tryz.prog Γ t80_48 3) a80_48 (l80_48.getD 0 (0, .skip)).2 0 (pkSh h80_48_L0 x) (loopCls (sh := h80_48_L0) (es := e80_48_L0)) = (s80_48_L0 x : Option _) := by kernel_rfl
theorem v80_48 : LoopsOk Tryz.prog Γ t80_48 a80_48 (loopsIn (Tryz.f80.body.getD .skip) 0) := by
  have e : loopsIn (Tryz.f80.body.getD .skip) 0 = [(0, (l80_48.getD 0 (0, .skip)).2)] := by kernel_rfl
  rw [e]
  exact ⟨fun x d h => (w80_48_L0 x).trans h, trivial⟩
theorem r80_48 (x : InsT c80_48.ins) : fnK Tryz.prog Γ t80_48 a80_48 Tryz.f80 c80_48 x = g80_48 x.1 x.2.1 := by kernel_rfl
theorem k80_48 : TblOk Tryz.prog t80_48 := tblOk_cons o48 (tblOk_nil)
theorem o80_48 : Holds Tryz.prog 80 c80_48 := fn_holds (code := Tryz.f80.body.getD .skip) (by kernel_rfl) gamOk k80_48 Tryz.func80 (by kernel_rfl) (by kernel_rfl) (by kernel_rfl) (by kernel_rfl) v80_48 (fun x _ h => (r80_48 x).trans h)
/-! ### 47: slices.ContainsFunc[[]int,int] -/
noncomputable def t47_48 : Tbl := [(80, [48], c80_48)]
noncomputable def a47_48 : Nat → Option LoopAnn := fun _ => none
noncomputable def g47_48 (x0 : (L Int)) (x1 : (Int × Unit)) : Option ((Bool × Unit) × Unit) :=
  (g80_48 x0 x1).bind fun y1 =>
    some (((decide (y1.1.1 ≥ (0 : Int))), ()), ())
noncomputable def c47_48 : Ctr := { ins := [.v (.sl (.int .i64)), .clo 48 [(.int .i64)]], out := [.bool], F := fun x => g47_48 x.1 x.2.1 }
theorem v47_48 : LoopsOk Tryz.prog Γ t47_48 a47_48 (loopsIn (Tryz.f47.body.getD .skip) 0) := loopsOk_nil (by kernel_rfl)
theorem r47_48 (x : InsT c47_48.ins) : fnK Tryz.prog Γ t47_48 a47_48 Tryz.f47 c47_48 x = g47_48 x.1 x.2.1 := by kernel_rfl
theorem k47_48 : TblOk Tryz.prog t47_48 := tblOk_cons o80_48 (tblOk_nil)
theorem o47_48 : Holds Tryz.prog 47 c47_48 := fn_holds (code := Tryz.f47.body.getD .skip) (by kernel_rfl) gamOk k47_48 Tryz.func47 (by kernel_rfl) (by kernel_rfl) (by kernel_rfl) (by kernel_rfl) v47_48 (fun x _ h => (r47_48 x).trans h)
/-! ### 51: loop.example/g00076/impl.isChan -/
noncomputable def t51 : Tbl := [(42, [], c42)]
noncomputable def a51 : Nat → Option LoopAnn := fun _ => none
noncomputable def g51 (x0 : Ta16) : Option ((Bool × Unit) × Unit) :=
  bif (!(f42 x0.2.1 (0 : Int) (5 : Int))) then
    some ((false, ()), ())
  else
    bif (!(f42 x0.2.2.1 (0 : Int) (5 : Int))) then
      some ((false, ()), ())
    else
      bif (x0.2.1 == x0.2.2.1) then
        some ((false, ()), ())
      else
        bif (x0.1 == (0 : Int)) then
          bif (x0.2.2.2.1 == (0 : Int)) then
            some ((true, ()), ())
          else
            bif (x0.1 == (1 : Int)) then
              some (((f42 x0.2.2.2.1 (1 : Int) (8 : Int)), ()), ())
            else
              some ((false, ()), ())
        else
          bif (x0.1 == (1 : Int)) then
            some (((f42 x0.2.2.2.1 (1 : Int) (8 : Int)), ()), ())
          else
            some ((false, ()), ())
noncomputable def f51 (x0 : Ta16) : Bool :=
  bif (!(f42 x0.2.1 (0 : Int) (5 : Int))) then
    false
  else
    bif (!(f42 x0.2.2.1 (0 : Int) (5 : Int))) then
      false
    else
      bif (x0.2.1 == x0.2.2.1) then
        false
      else
        bif (x0.1 == (0 : Int)) then
          bif (x0.2.2.2.1 == (0 : Int)) then
            true
          else
            bif (x0.1 == (1 : Int)) then
              (f42 x0.2.2.2.1 (1 : Int) (8 : Int))
            else
              false
        else
          bif (x0.1 == (1 : Int)) then
            (f42 x0.2.2.2.1 (1 : Int) (8 : Int))
          else
            false
theorem n51 (x0 : Ta16) : g51 x0 = some ((f51 x0, ()), ()) := by
  simp only [g51, f51, pull1]
noncomputable def c51 : Ctr := { ins := [.v Ty71], out := [.bool], F := fun x => some ((f51 x.1, ()), ()) }
theorem v51 : LoopsOk Tryz.prog Γ t51 a51 (loopsIn (Tryz.f51.body.getD .skip) 0) := loopsOk_nil (by kernel_rfl)
theorem r51 (x : InsT c51.ins) : fnK Tryz.prog Γ t51 a51 Tryz.f51 c51 x = g51 x.1 := by kernel_rfl
theorem k51 : TblOk Tryz.prog t51 := tblOk_cons o42 (tblOk_nil)
theorem o51 : Holds Tryz.prog 51 c51 := fn_holds (code := Tryz.f51.body.getD .skip) (by kernel_rfl) gamOk k51 Tryz.func51 (by kernel_rfl) (by kernel_rfl) (by kernel_rfl) (by kernel_rfl) v51 (fun x _ h => (r51 x).trans ((n51 x.1).trans h))
/-! ### 50: loop.example/g00076/impl.isSound$2 -/
noncomputable def t50 : Tbl := [(51, [], c51)]
noncomputable def a50 : Nat → Option LoopAnn := fun _ => none
noncomputable def g50 (x0 : Ta16) (x1 : Int) : Option ((Bool × Unit) × Unit) :=
  bif (!(f51 x0)) then
    some ((true, ()), ())
  else
    bif (decide (x0.2.1 ≥ x1)) then
      some ((true, ()), ())
    else
      some (((decide (x0.2.2.1 ≥ x1)), ()), ())
noncomputable def f50 (x0 : Ta16) (x1 : Int) : Bool :=
  bif (!(f51 x0)) then
    true
  else
    bif (decide (x0.2.1 ≥ x1)) then
      true
    else
      (decide (x0.2.2.1 ≥ x1))
theorem n50 (x0 : Ta16) (x1 : Int) : g50 x0 x1 = some ((f50 x0 x1, ()), ()) := by
  simp only [g50, f50, pull1]
noncomputable def c50 : Ctr := { ins := [.v Ty71, .rf (.int .i64)], out := [.bool], F := fun x => some ((f50 x.1 x.2.1, ()), ()) }
theorem v50 : LoopsOk Tryz.prog Γ t50 a50 (loopsIn (Tryz.f50.body.getD .skip) 0) := loopsOk_nil (by kernel_rfl)
theorem r50 (x : InsT c50.ins) : fnK Tryz.prog Γ t50 a50 Tryz.f50 c50 x = g50 x.1 x.2.1 := by kernel_rfl
theorem k50 : TblOk Tryz.prog t50 := tblOk_cons o51 (tblOk_nil)
theorem o50 : Holds Tryz.prog 50 c50 := fn_holds (code := Tryz.f50.body.getD .skip) (by kernel_rfl) gamOk k50 Tryz.func50 (by kernel_rfl) (by kernel_rfl) (by kernel_rfl) (by kernel_rfl) v50 (fun x _ h => (r50 x).trans ((n50 x.1 x.2.1).trans h))
/-! ### 81: slices.IndexFunc[[]loop.example/g00076/impl.ChanRow,loop.example/g00076/impl.ChanRow] -/
noncomputable def t81_50 : Tbl := [(50, [], c50)]
abbrev h81_50_L0 : Shape := { slots := [(0, .v Ty76), (1, .clo 50 [(.int .i64)]), (7, .v (.int .i64)), (8, .v (.int .i64))], boxes := [] }
abbrev e81_50_L0 : List (XT × Shape) := [(.ret, { slots := [(4, .v (.int .i64))], boxes := [] }), (.exit 0, { slots := [], boxes := [] })]
noncomputable def q81_50_L0 (t0 : Ta22) (t1 : (Int × Unit)) (t7 : Int) (t8 : Int) : Option (Ta77 ⊕ (((Int × Unit) × Unit) ⊕ ((Unit × Unit) ⊕ Empty))) :=
  bif (decide (t8 < t7)) then
    bif (decide (0 ≤ t8) && decide (t8 < (t0.len : Int))) then
      bif (f50 (L.get t0 t8.toNat) t1.1) then
        some (.inr (.inl ((t8, ()), ())))
      else
        some (.inl ((t0, (t1, (t7, ((wI (t8 + (1 : Int))), ())))), ()))
    else
      none
  else
    some (.inr (.inr (.inl ((), ()))))
noncomputable def s81_50_L0 (x : Ta77) : Option (Ta77 ⊕ (((Int × Unit) × Unit) ⊕ ((Unit × Unit) ⊕ Empty))) := q81_50_L0 x.1.1 x.1.2.1 x.1.2.2.1 x.1.2.2.2.1
noncomputable def a81_50 : Nat → Option LoopAnn := fun c => bif Nat.beq c 0 then some (.fix h81_50_L0 e81_50_L0 s81_50_L0) else none
noncomputable def g81_50 (x0 : Ta22) (x1 : (Int × Unit)) : Option ((Int × Unit) × Unit) :=
  (fixO s81_50_L0 ((x0, (x1, ((x0.len : Int), ((0 : Int), ())))), ())).bind fun d2 => match d2 with
  | .inl y1 =>
    some ((y1.1.1, ()), ())
  | .inr (.inl y1) =>
    some (((-1 : Int), ()), ())
  | .inr (.inr e) => nomatch e
noncomputable def c81_50 : Ctr := { ins := [.v Ty76, .clo 50 [(.int .i64)]], out := [(.int .i64)], F := fun x => g81_50 x.1 x.2.1 }
noncomputable def l81_50 : List (Nat × Code) := loopsIn (Tryz.f81.body.getD .skip) 0
theorem w81_50_L0 (x : h81_50_L0.T) : runK Tryz.prog Γ t81_50 (inlN Tryz.prog Γ t81_50 3) a81_50 (l81_50.getD 0 (0, .skip)).2 0 (pkSh h81_50_L0 x) (loopCls (sh := h81_50_L0) (es := e81_50_L0)) = (s81_50_L0 x : Option _) := by kernel_rfl
theorem v81_50 : LoopsOk Tryz.prog Γ t81_50 a81_50 (loopsIn (Tryz.f81.body.getD .skip) 0) := by
  have e : loopsIn (Tryz.f81.body.getD .skip) 0 = [(0, (l81_50.getD 0 (0, .skip)).2)] := by kernel_rfl
  rw [e]
  exact ⟨fun x d h => (w81_50_L0 x).trans h, trivial⟩
theorem r81_50 (x : InsT c81_50.ins) : fnK Tryz.prog Γ t81_50 a81_50 Tryz.f81 c81_50 x = g81_50 x.1 x.2.1 := by kernel_rfl
theorem k81_50 : TblOk Tryz.prog t81_50 := tblOk_cons o50 (tblOk_nil)
theorem o81_50 : Holds Tryz.prog 81 c81_50 := fn_holds (code := Tryz.f81.body.getD .skip) (by kernel_rfl) gamOk k81_50 Tryz.func81 (by kernel_rfl) (by kernel_rfl) (by kernel_rfl) (by kernel_rfl) v81_50 (fun x _ h => (r81_50 x).trans h)
/-! ### 49: slices.ContainsFunc[[]loop.example/g00076/impl.ChanRow,loop.example/g00076/impl.ChanRow] -/
noncomputable def t49_50 : Tbl := [(81, [50], c81_50)]
noncomputable def a49_50 : Nat → Option LoopAnn := fun _ => none
noncomputable def g49_50 (x0 : Ta22) (x1 : (Int × Unit)) : Option ((Bool × Unit) × Unit) :=
  (g81_50 x0 x1).bind fun y1 =>
    some (((decide (y1.1.1 ≥ (0 : Int))), ()), ())
noncomputable def c49_50 : Ctr := { ins := [.v Ty76, .clo 50 [(.int .i64)]], out := [.bool], F := fun x => g49_50 x.1 x.2.1 }
theorem v49_50 : LoopsOk Tryz.prog Γ t49_50 a49_50 (loopsIn (Tryz.f49.body.getD .skip) 0) := loopsOk_nil (by kernel_rfl)
theorem r49_50 (x : InsT c49_50.ins) : fnK Tryz.prog Γ t49_50 a49_50 Tryz.f49 c49_50 x = g49_50 x.1 x.2.1 := by kernel_rfl
theorem k49_50 : TblOk Tryz.prog t49_50 := tblOk_cons o81_50 (tblOk_nil)
theorem o49_50 : Holds Tryz.prog 49 c49_50 := fn_holds (code := Tryz.f49.body.getD .skip) (by kernel_rfl) gamOk k49_50 Tryz.func49 (by kernel_rfl) (by kernel_rfl) (by kernel_rfl) (by kernel_rfl) v49_50 (fun x _ h => (r49_50 x).trans h)
/-! ### 82: loop.example/g00076/impl.depthOf -/
noncomputable def t82 : Tbl := []
noncomputable def a82 : Nat → Option LoopAnn := fun _ => none
noncomputable def g82 (x0 : Ta16) : Option ((Int × Unit) × Unit) :=
  some (((if x0.2.2.2.1 > (1 : Int) then x0.2.2.2.1 else (1 : Int)), ()), ())
noncomputable def f82 (x0 : Ta16) : Int :=
  (if x0.2.2.2.1 > (1 : Int) then x0.2.2.2.1 else (1 : Int))
theorem n82 (x0 : Ta16) : g82 x0 = some ((f82 x0, ()), ()) := by
  simp only [g82, f82, pull1]
noncomputable def c82 : Ctr := { ins := [.v Ty71], out := [(.int .i64)], F := fun x => some ((f82 x.1, ()), ()) }
theorem v82 : LoopsOk Tryz.prog Γ t82 a82 (loopsIn (Tryz.f82.body.getD .skip) 0) := loopsOk_nil (by kernel_rfl)
theorem r82 (x : InsT c82.ins) : fnK Tryz.prog Γ t82 a82 Tryz.f82 c82 x = g82 x.1 := by kernel_rfl
theorem k82 : TblOk Tryz.prog t82 := tblOk_nil
theorem o82 : Holds Tryz.prog 82 c82 := fn_holds (code := Tryz.f82.body.getD .skip) (by kernel_rfl) gamOk k82 Tryz.func82 (by kernel_rfl) (by kernel_rfl) (by kernel_rfl) (by kernel_rfl) v82 (fun x _ h => (r82 x).trans ((n82 x.1).trans h))
/-! ### 52: loop.example/g00076/impl.worstPad -/
noncomputable def t52 : Tbl := [(82, [], c82)]
abbrev h52_L0 : Shape := { slots := [(3, .bx 3 0), (7, .v (.int .i64)), (22, .v Ty76), (23, .v (.int .i64)), (24, .v (.int .i64))], boxes := [(3, .typ Ty102)] }
abbrev e52_L0 : List (XT × Shape) := [(.exit 0, { slots := [(7, .v (.int .i64))], boxes := [] })]
noncomputable def q52_L0 (t7 : Int) (t22 : Ta22) (t23 : Int) (t24 : Int) (b3 : Ta48) : Option (Ta108 ⊕ (((Int × Unit) × Unit) ⊕ Empty)) :=
  bif (decide (t24 < t23)) then
    bif (decide (0 ≤ t24) && decide (t24 < (t22.len : Int))) then
      some (.inl (((), ((wI (t7 + (wI (b3.1 * (f82 (L.get t22 t24.toNat)))))), (t22, (t23, ((wI (t24 + (1 : Int))), ()))))), (b3, ())))
    else
      none
  else
    some (.inr (.inl ((t7, ()), ())))
noncomputable def s52_L0 (x : Ta108) : Option (Ta108 ⊕ (((Int × Unit) × Unit) ⊕ Empty)) := q52_L0 x.1.2.1 x.1.2.2.1 x.1.2.2.2.1 x.1.2.2.2.2.1 x.2.1
noncomputable def a52 : Nat → Option LoopAnn := fun c => bif Nat.beq c 0 then some (.fix h52_L0 e52_L0 s52_L0) else none
noncomputable def g52 (x0 : Ta48) (x1 : Ta5) (x2 : Ta22) : Option ((Int × Unit) × Unit) :=
  (fixO s52_L0 (((), ((wI ((wI ((16 : Int) * x0.1)) + (wI ((wI (x1.1 * x1.2.1)) * x0.2.2.2.2.2.2.1)))), (x2, ((x2.len : Int), ((0 : Int), ()))))), (x0, ()))).bind fun d2 => match d2 with
  | .inl y1 =>
    some ((y1.1.1, ()), ())
  | .inr e => nomatch e
noncomputable def c52 : Ctr := { ins := [.v Ty102, .v Ty50, .v Ty76], out := [(.int .i64)], F := fun x => g52 x.1 x.2.1 x.2.2.1 }
noncomputable def l52 : List (Nat × Code) := loopsIn (Tryz.f52.body.getD .skip) 0
theorem w52_L0 (x : h52_L0.T) : runK Tryz.prog Γ t52 (inlN Tryz.prog Γ t52 3) a52 (l52.getD 0 (0, .skip)).2 0 (pkSh h52_L0 x) (loopCls (sh := h52_L0) (es := e52_L0)) = (s52_L0 x : Option _) := by kernel_rfl
theorem v52 : LoopsOk Tryz.prog Γ t52 a52 (loopsIn (Tryz.f52.body.getD .skip) 0) := by
  have e : loopsIn (Tryz.f52.body.getD .skip) 0 = [(0, (l52.getD 0 (0, .skip)).2)] := by kernel_rfl
  rw [e]
  exact ⟨fun x d h => (w52_L0 x).trans h, trivial⟩
theorem r52 (x : InsT c52.ins) : fnK Tryz.prog Γ t52 a52 Tryz.f52 c52 x = g52 x.1 x.2.1 x.2.2.1 := by kernel_rfl
theorem k52 : TblOk Tryz.prog t52 := tblOk_cons o82 (tblOk_nil)
theorem o52 : Holds Tryz.prog 52 c52 := fn_holds (code := Tryz.f52.body.getD .skip) (by kernel_rfl) gamOk k52 Tryz.func52 (by kernel_rfl) (by kernel_rfl) (by kernel_rfl) (by kernel_rfl) v52 (fun x _ h => (r52 x).trans h)
/-! ### 83: loop.example/g00076/impl.isSlotAt -/
noncomputable def t83 : Tbl := []
noncomputable def a83 : Nat → Option LoopAnn := fun _ => none
noncomputable def g83 (x0 : Ta131) (x1 : Ta5) (x2 : Int) : Option ((Bool × Unit) × Unit) :=
  bif (decide (x1.2.2.1 > (wI (x0.2.2.2.2.1 + x0.2.2.2.2.2.1)))) then
    bif (decide (x1.2.2.1 ≤ x0.2.2.2.2.2.2.1)) then
      bif (decide (x1.2.1 ≥ x2)) then
        some (((decide (x1.2.1 ≤ (wI (x0.2.2.2.2.2.2.1 - x1.2.2.1)))), ()), ())
      else
        some ((false, ()), ())
    else
      some ((false, ()), ())
  else
    some ((false, ()), ())
noncomputable def f83 (x0 : Ta131) (x1 : Ta5) (x2 : Int) : Bool :=
  bif (decide (x1.2.2.1 > (wI (x0.2.2.2.2.1 + x0.2.2.2.2.2.1)))) then
    bif (decide (x1.2.2.1 ≤ x0.2.2.2.2.2.2.1)) then
      bif (decide (x1.2.1 ≥ x2)) then
        (decide (x1.2.1 ≤ (wI (x0.2.2.2.2.2.2.1 - x1.2.2.1))))
      else
        false
    else
      false
  else
    false
theorem n83 (x0 : Ta131) (x1 : Ta5) (x2 : Int) : g83 x0 x1 x2 = some ((f83 x0 x1 x2, ()), ()) := by
  simp only [g83, f83, pull1]
noncomputable def c83 : Ctr := { ins := [.v Ty155, .v Ty50, .v (.int .i64)], out := [.bool], F := fun x => some ((f83 x.1 x.2.1 x.2.2.1, ()), ()) }
theorem v83 : LoopsOk Tryz.prog Γ t83 a83 (loopsIn (Tryz.f83.body.getD .skip) 0) := loopsOk_nil (by kernel_rfl)
theorem r83 (x : InsT c83.ins) : fnK Tryz.prog Γ t83 a83 Tryz.f83 c83 x = g83 x.1 x.2.1 x.2.2.1 := by kernel_rfl
theorem k83 : TblOk Tryz.prog t83 := tblOk_nil
theorem o83 : Holds Tryz.prog 83 c83 := fn_holds (code := Tryz.f83.body.getD .skip) (by kernel_rfl) gamOk k83 Tryz.func83 (by kernel_rfl) (by kernel_rfl) (by kernel_rfl) (by kernel_rfl) v83 (fun x _ h => (r83 x).trans ((n83 x.1 x.2.1 x.2.2.1).trans h))
/-! ### 53: loop.example/g00076/impl.areSlots -/
noncomputable def t53 : Tbl := [(42, [], c42), (83, [], c83)]
abbrev h53_L0 : Shape := { slots := [(1, .bx 1 0), (3, .v (.int .i64)), (7, .v Ty57), (8, .v (.int .i64)), (9, .v (.int .i64))], boxes := [(1, .typ Ty155)] }
abbrev e53_L0 : List (XT × Shape) := [(.ret, { slots := [(2, .v .bool)], boxes := [] }), (.exit 0, { slots := [(1, .bx 1 0)], boxes := [(1, .typ Ty155)] })]
noncomputable def q53_L0 (t3 : Int) (t7 : Ta9) (t8 : Int) (t9 : Int) (b1 : Ta131) : Option (Ta142 ⊕ (((Bool × Unit) × Unit) ⊕ (Ta133 ⊕ Empty))) :=
  bif (decide (t9 < t8)) then
    bif (decide (0 ≤ t9) && decide (t9 < (t7.len : Int))) then
      bif (!(f42 (L.get t7 t9.toNat).1 (0 : Int) (wI ((b1.2.2.2.2.2.2.2.1.len : Int) - (1 : Int))))) then
        some (.inr (.inl ((false, ()), ())))
      else
        bif (!(f83 b1 (L.get t7 t9.toNat) t3)) then
          some (.inr (.inl ((false, ()), ())))
        else
          some (.inl (((), ((wI ((L.get t7 t9.toNat).2.1 + (L.get t7 t9.toNat).2.2.1)), (t7, (t8, ((wI (t9 + (1 : Int))), ()))))), (b1, ())))
    else
      none
  else
    some (.inr (.inr (.inl (((), ()), (b1, ())))))
noncomputable def s53_L0 (x : Ta142) : Option (Ta142 ⊕ (((Bool × Unit) × Unit) ⊕ (Ta133 ⊕ Empty))) := q53_L0 x.1.2.1 x.1.2.2.1 x.1.2.2.2.1 x.1.2.2.2.2.1 x.2.1
noncomputable def a53 : Nat → Option LoopAnn := fun c => bif Nat.beq c 0 then some (.fix h53_L0 e53_L0 s53_L0) else none
noncomputable def g53 (x0 : Ta131) : Option ((Bool × Unit) × Unit) :=
  (fixO s53_L0 (((), ((0 : Int), (x0.2.2.2.2.2.2.2.2.2.2.1, ((x0.2.2.2.2.2.2.2.2.2.2.1.len : Int), ((0 : Int), ()))))), (x0, ()))).bind fun d2 => match d2 with
  | .inl y1 =>
    some ((y1.1.1, ()), ())
  | .inr (.inl y1) =>
    some (((f42 (y1.2.1.2.2.2.2.2.2.2.2.2.2.1.len : Int) (1 : Int) (16 : Int)), ()), ())
  | .inr (.inr e) => nomatch e
noncomputable def c53 : Ctr := { ins := [.v Ty155], out := [.bool], F := fun x => g53 x.1 }
noncomputable def l53 : List (Nat × Code) := loopsIn (Tryz.f53.body.getD .skip) 0
theorem w53_L0 (x : h53_L0.T) : runK Tryz.prog Γ t53 (inlN Tryz.prog Γ t53 3) a53 (l53.getD 0 (0, .skip)).2 0 (pkSh h53_L0 x) (loopCls (sh := h53_L0) (es := e53_L0)) = (s53_L0 x : Option _) := by kernel_rfl
theorem v53 : LoopsOk Tryz.prog Γ t53 a53 (loopsIn (Tryz.f53.body.getD .skip) 0) := by
  have e : loopsIn (Tryz.f53.body.getD .skip) 0 = [(0, (l53.getD 0 (0, .skip)).2)] := by kernel_rfl
  rw [e]
  exact ⟨fun x d h => (w53_L0 x).trans h, trivial⟩
theorem r53 (x : InsT c53.ins) : fnK Tryz.prog Γ t53 a53 Tryz.f53 c53 x = g53 x.1 := by kernel_rfl
theorem k53 : TblOk Tryz.prog t53 := tblOk_cons o42 (tblOk_cons o83 (tblOk_nil))
theorem o53 : Holds Tryz.prog 53 c53 := fn_holds (code := Tryz.f53.body.getD .skip) (by kernel_rfl) gamOk k53 Tryz.func53 (by kernel_rfl) (by kernel_rfl) (by kernel_rfl) (by kernel_rfl) v53 (fun x _ h => (r53 x).trans h)
/-! ### 23: loop.example/g00076/impl.isSound -/
noncomputable def t23 : Tbl := [(40, [], c40), (41, [], c41), (42, [], c42), (43, [], c43), (44, [], c44), (45, [], c45), (46, [], c46), (47, [48], c47_48), (49, [50], c49_50), (52, [], c52), (53, [], c53)]
noncomputable def a23 : Nat → Option LoopAnn := fun _ => none
noncomputable def g23 (x0 : Ta131) : Option ((Bool × Unit) × Unit) :=
  bif (!(f40 x0.1)) then
    some ((false, ()), ())
  else
    bif (!(f41 x0.2.1)) then
      some ((false, ()), ())
    else
      bif (!(f42 x0.2.2.1 (1 : Int) (8 : Int))) then
        some ((false, ()), ())
      else
        bif (!(f43 x0.2.2.2.1)) then
          some ((false, ()), ())
        else
          bif (!(f44 x0.2.2.2.2.1)) then
            some ((false, ()), ())
          else
            bif (!(f44 x0.2.2.2.2.2.1)) then
              some ((false, ()), ())
            else
              bif (!(f44 x0.2.2.2.2.2.2.1)) then
                some ((false, ()), ())
              else
                (g45 x0.2.2.2.1).bind fun y1 =>
                  bif (decide (x0.2.2.2.2.2.1 < y1.1.1)) then
                    some ((false, ()), ())
                  else
                    bif (!(f42 (x0.2.2.2.2.2.2.2.1.len : Int) (1 : Int) (6 : Int))) then
                      some ((false, ()), ())
                    else
                      (g46 x0).bind fun y2 =>
                        bif (!y2.1.1) then
                          some ((false, ()), ())
                        else
                          bif (decide ((x0.2.2.2.2.2.2.2.2.1.len : Int) > (8 : Int))) then
                            some ((false, ()), ())
                          else
                            (g47_48 x0.2.2.2.2.2.2.2.2.1 ((x0.2.2.2.2.2.2.2.1.len : Int), ())).bind fun y3 =>
                              bif y3.1.1 then
                                some ((false, ()), ())
                              else
                                bif (decide ((x0.2.2.2.2.2.2.2.2.2.1.len : Int) > (8 : Int))) then
                                  some ((false, ()), ())
                                else
                                  (g49_50 x0.2.2.2.2.2.2.2.2.2.1 ((x0.2.2.2.2.2.2.2.1.len : Int), ())).bind fun y4 =>
                                    bif y4.1.1 then
                                      some ((false, ()), ())
                                    else
                                      (g52 x0.2.2.2.1 x0.2.1 x0.2.2.2.2.2.2.2.2.2.1).bind fun y5 =>
                                        bif (decide (x0.2.2.2.2.1 < y5.1.1)) then
                                          some ((false, ()), ())
                                        else
                                          (g53 x0).bind fun y6 =>
                                            some ((y6.1.1, ()), ())
noncomputable def c23 : Ctr := { ins := [.v Ty155], out := [.bool], F := fun x => g23 x.1 }
theorem v23 : LoopsOk Tryz.prog Γ t23 a23 (loopsIn (Tryz.f23.body.getD .skip) 0) := loopsOk_nil (by kernel_rfl)
theorem r23 (x : InsT c23.ins) : fnK Tryz.prog Γ t23 a23 Tryz.f23 c23 x = g23 x.1 := by kernel_rfl
theorem k23 : TblOk Tryz.prog t23 := tblOk_cons o40 (tblOk_cons o41 (tblOk_cons o42 (tblOk_cons o43 (tblOk_cons o44 (tblOk_cons o45 (tblOk_cons o46 (tblOk_cons o47_48 (tblOk_cons o49_50 (tblOk_cons o52 (tblOk_cons o53 (tblOk_nil)))))))))))
theorem o23 : Holds Tryz.prog 23 c23 := fn_holds (code := Tryz.f23.body.getD .skip) (by kernel_rfl) gamOk k23 Tryz.func23 (by kernel_rfl) (by kernel_rfl) (by kernel_rfl) (by kernel_rfl) v23 (fun x _ h => (r23 x).trans h)
/-! ### 101: internal/strconv.Itoa -/
noncomputable def t101 : Tbl := [(107, [], cFI)]
noncomputable def a101 : Nat → Option LoopAnn := fun _ => none
noncomputable def g101 (x0 : Int) : Option Ta3 :=
  (gFI x0 (10 : Int)).bind fun y1 =>
    some ((y1.1.1, ()), ())
noncomputable def c101 : Ctr := { ins := [.v (.int .i64)], out := [.str], F := fun x => g101 x.1 }
theorem v101 : LoopsOk Tryz.prog Γ t101 a101 (loopsIn (Tryz.f101.body.getD .skip) 0) := loopsOk_nil (by kernel_rfl)
theorem r101 (x : InsT c101.ins) : fnK Tryz.prog Γ t101 a101 Tryz.f101 c101 x = g101 x.1 := by kernel_rfl
theorem k101 : TblOk Tryz.prog t101 := tblOk_cons oFI (tblOk_nil)
theorem o101 : Holds Tryz.prog 101 c101 := fn_holds (code := Tryz.f101.body.getD .skip) (by kernel_rfl) gamOk k101 Tryz.func101 (by kernel_rfl) (by kernel_rfl) (by kernel_rfl) (by kernel_rfl) v101 (fun x _ h => (r101 x).trans h)
/-! ### 84: strconv.Itoa -/
noncomputable def t84 : Tbl := [(101, [], c101)]
noncomputable def a84 : Nat → Option LoopAnn := fun _ => none
noncomputable def g84 (x0 : Int) : Option Ta3 :=
  (g101 x0).bind fun y1 =>
    some ((y1.1.1, ()), ())
noncomputable def c84 : Ctr := { ins := [.v (.int .i64)], out := [.str], F := fun x => g84 x.1 }
theorem v84 : LoopsOk Tryz.prog Γ t84 a84 (loopsIn (Tryz.f84.body.getD .skip) 0) := loopsOk_nil (by kernel_rfl)
theorem r84 (x : InsT c84.ins) : fnK Tryz.prog Γ t84 a84 Tryz.f84 c84 x = g84 x.1 := by kernel_rfl
theorem k84 : TblOk Tryz.prog t84 := tblOk_cons o101 (tblOk_nil)
theorem o84 : Holds Tryz.prog 84 c84 := fn_holds (code := Tryz.f84.body.getD .skip) (by kernel_rfl) gamOk k84 Tryz.func84 (by kernel_rfl) (by kernel_rfl) (by kernel_rfl) (by kernel_rfl) v84 (fun x _ h => (r84 x).trans h)
/-! ### 55: loop.example/g00076/impl.DecText -/
noncomputable def t55 : Tbl := [(84, [], c84)]
noncomputable def a55 : Nat → Option LoopAnn := fun _ => none
noncomputable def g55 (x0 : Int) : Option Ta3 :=
  (g84 x0).bind fun y1 =>
    some ((y1.1.1, ()), ())
noncomputable def c55 : Ctr := { ins := [.v (.int .i64)], out := [.str], F := fun x => g55 x.1 }
theorem v55 : LoopsOk Tryz.prog Γ t55 a55 (loopsIn (Tryz.f55.body.getD .skip) 0) := loopsOk_nil (by kernel_rfl)
theorem r55 (x : InsT c55.ins) : fnK Tryz.prog Γ t55 a55 Tryz.f55 c55 x = g55 x.1 := by kernel_rfl
theorem k55 : TblOk Tryz.prog t55 := tblOk_cons o84 (tblOk_nil)
theorem o55 : Holds Tryz.prog 55 c55 := fn_holds (code := Tryz.f55.body.getD .skip) (by kernel_rfl) gamOk k55 Tryz.func55 (by kernel_rfl) (by kernel_rfl) (by kernel_rfl) (by kernel_rfl) v55 (fun x _ h => (r55 x).trans h)
/-! ### 54: loop.example/g00076/impl.confLine -/
noncomputable def t54 : Tbl := [(55, [], c55)]
abbrev h54_L0 : Shape := { slots := [(0, .v .str), (7, .v (.sl (.int .i64))), (8, .v (.int .i64)), (9, .v (.int .i64))], boxes := [] }
abbrev e54_L0 : List (XT × Shape) := [(.exit 0, { slots := [(0, .v .str)], boxes := [] })]
noncomputable def q54_L0 (t0 : ByteArray) (t7 : (L Int)) (t8 : Int) (t9 : Int) : Option (Ta40 ⊕ (Ta3 ⊕ Empty)) :=
  bif (decide (t9 < t8)) then
    bif (decide (0 ≤ t9) && decide (t9 < (t7.len : Int))) then
      (g55 (L.get t7 t9.toNat)).bind fun y1 =>
        bif (Nat.ble ((⟨#[32]⟩ : ByteArray).size + y1.1.1.size) 9223372036854775807) then
          bif (Nat.ble (t0.size + ((⟨#[32]⟩ : ByteArray) ++ y1.1.1).size) 9223372036854775807) then
            some (.inl (((t0 ++ ((⟨#[32]⟩ : ByteArray) ++ y1.1.1)), (t7, (t8, ((wI (t9 + (1 : Int))), ())))), ()))
          else
            none
        else
          none
    else
      none
  else
    some (.inr (.inl ((t0, ()), ())))
noncomputable def s54_L0 (x : Ta40) : Option (Ta40 ⊕ (Ta3 ⊕ Empty)) := q54_L0 x.1.1 x.1.2.1 x.1.2.2.1 x.1.2.2.2.1
noncomputable def a54 : Nat → Option LoopAnn := fun c => bif Nat.beq c 0 then some (.fix h54_L0 e54_L0 s54_L0) else none
noncomputable def g54 (x0 : ByteArray) (x1 : (L Int)) : Option Ta3 :=
  (fixO s54_L0 ((x0, (x1, ((x1.len : Int), ((0 : Int), ())))), ())).bind fun d3 => match d3 with
  | .inl y2 =>
    bif (Nat.ble (y2.1.1.size + (⟨#[10]⟩ : ByteArray).size) 9223372036854775807) then
      some (((y2.1.1 ++ (⟨#[10]⟩ : ByteArray)), ()), ())
    else
      none
  | .inr e => nomatch e
noncomputable def c54 : Ctr := { ins := [.v .str, .v (.sl (.int .i64))], out := [.str], F := fun x => g54 x.1 x.2.1 }
noncomputable def l54 : List (Nat × Code) := loopsIn (Tryz.f54.body.getD .skip) 0
theorem w54_L0 (x : h54_L0.T) : runK Tryz.prog Γ t54 (inlN Tryz.prog Γ t54 3) a54 (l54.getD 0 (0, .skip)).2 0 (pkSh h54_L0 x) (loopCls (sh := h54_L0) (es := e54_L0)) = (s54_L0 x : Option _) := by kernel_rfl
theorem v54 : LoopsOk Tryz.prog Γ t54 a54 (loopsIn (Tryz.f54.body.getD .skip) 0) := by
  have e : loopsIn (Tryz.f54.body.getD .skip) 0 = [(0, (l54.getD 0 (0, .skip)).2)] := by kernel_rfl
  rw [e]
  exact ⟨fun x d h => (w54_L0 x).trans h, trivial⟩
theorem r54 (x : InsT c54.ins) : fnK Tryz.prog Γ t54 a54 Tryz.f54 c54 x = g54 x.1 x.2.1 := by kernel_rfl
theorem k54 : TblOk Tryz.prog t54 := tblOk_cons o55 (tblOk_nil)
theorem o54 : Holds Tryz.prog 54 c54 := fn_holds (code := Tryz.f54.body.getD .skip) (by kernel_rfl) gamOk k54 Tryz.func54 (by kernel_rfl) (by kernel_rfl) (by kernel_rfl) (by kernel_rfl) v54 (fun x _ h => (r54 x).trans h)
/-! ### 56: loop.example/g00076/impl.permText -/
noncomputable def t56 : Tbl := []
noncomputable def a56 : Nat → Option LoopAnn := fun c => bif Nat.beq c 0 then some (.unroll 4 [0, 3, 6] [6]) else none
noncomputable def g56 (x0 : Int) : Option Ta3 :=
  bif ((andOf .i64 (shrOf .i64 x0 (0 : Int)) (1 : Int)) == (1 : Int)) then
    bif (Nat.ble ((⟨#[]⟩ : ByteArray).size + (Utf8.encode (114 : Int)).size) 9223372036854775807) then
      bif ((andOf .i64 (shrOf .i64 x0 (1 : Int)) (1 : Int)) == (1 : Int)) then
        bif (Nat.ble (((⟨#[]⟩ : ByteArray) ++ (Utf8.encode (114 : Int))).size + (Utf8.encode (119 : Int)).size) 9223372036854775807) then
          bif ((andOf .i64 (shrOf .i64 x0 (2 : Int)) (1 : Int)) == (1 : Int)) then
            bif (Nat.ble ((((⟨#[]⟩ : ByteArray) ++ (Utf8.encode (114 : Int))) ++ (Utf8.encode (119 : Int))).size + (Utf8.encode (120 : Int)).size) 9223372036854775807) then
              some ((((((⟨#[]⟩ : ByteArray) ++ (Utf8.encode (114 : Int))) ++ (Utf8.encode (119 : Int))) ++ (Utf8.encode (120 : Int))), ()), ())
            else
              none
          else
            some (((((⟨#[]⟩ : ByteArray) ++ (Utf8.encode (114 : Int))) ++ (Utf8.encode (119 : Int))), ()), ())
        else
          none
      else
        bif ((andOf .i64 (shrOf .i64 x0 (2 : Int)) (1 : Int)) == (1 : Int)) then
          bif (Nat.ble (((⟨#[]⟩ : ByteArray) ++ (Utf8.encode (114 : Int))).size + (Utf8.encode (120 : Int)).size) 9223372036854775807) then
            some (((((⟨#[]⟩ : ByteArray) ++ (Utf8.encode (114 : Int))) ++ (Utf8.encode (120 : Int))), ()), ())
          else
            none
        else
          some ((((⟨#[]⟩ : ByteArray) ++ (Utf8.encode (114 : Int))), ()), ())
    else
      none
  else
    bif ((andOf .i64 (shrOf .i64 x0 (1 : Int)) (1 : Int)) == (1 : Int)) then
      bif (Nat.ble ((⟨#[]⟩ : ByteArray).size + (Utf8.encode (119 : Int)).size) 9223372036854775807) then
        bif ((andOf .i64 (shrOf .i64 x0 (2 : Int)) (1 : Int)) == (1 : Int)) then
          bif (Nat.ble (((⟨#[]⟩ : ByteArray) ++ (Utf8.encode (119 : Int))).size + (Utf8.encode (120 : Int)).size) 9223372036854775807) then
            some (((((⟨#[]⟩ : ByteArray) ++ (Utf8.encode (119 : Int))) ++ (Utf8.encode (120 : Int))), ()), ())
          else
            none
        else
          some ((((⟨#[]⟩ : ByteArray) ++ (Utf8.encode (119 : Int))), ()), ())
      else
        none
    else
      bif ((andOf .i64 (shrOf .i64 x0 (2 : Int)) (1 : Int)) == (1 : Int)) then
        bif (Nat.ble ((⟨#[]⟩ : ByteArray).size + (Utf8.encode (120 : Int)).size) 9223372036854775807) then
          some ((((⟨#[]⟩ : ByteArray) ++ (Utf8.encode (120 : Int))), ()), ())
        else
          none
      else
        some (((⟨#[]⟩ : ByteArray), ()), ())
noncomputable def c56 : Ctr := { ins := [.v (.int .i64)], out := [.str], F := fun x => g56 x.1 }
noncomputable def l56 : List (Nat × Code) := loopsIn (Tryz.f56.body.getD .skip) 0
theorem v56 : LoopsOk Tryz.prog Γ t56 a56 (loopsIn (Tryz.f56.body.getD .skip) 0) := by
  have e : loopsIn (Tryz.f56.body.getD .skip) 0 = [(0, (l56.getD 0 (0, .skip)).2)] := by kernel_rfl
  rw [e]
  exact ⟨trivial, trivial⟩
theorem r56 (x : InsT c56.ins) : fnK Tryz.prog Γ t56 a56 Tryz.f56 c56 x = g56 x.1 := by kernel_rfl
theorem k56 : TblOk Tryz.prog t56 := tblOk_nil
theorem o56 : Holds Tryz.prog 56 c56 := fn_holds (code := Tryz.f56.body.getD .skip) (by kernel_rfl) gamOk k56 Tryz.func56 (by kernel_rfl) (by kernel_rfl) (by kernel_rfl) (by kernel_rfl) v56 (fun x _ h => (r56 x).trans h)
/-! ### 24: loop.example/g00076/impl.printConf -/
noncomputable def t24 : Tbl := [(54, [], c54), (55, [], c55), (56, [], c56)]
abbrev h24_L0 : Shape := { slots := [(1, .bx 1 0), (4, .v .str), (75, .v Ty113), (76, .v (.int .i64)), (77, .v (.int .i64))], boxes := [(1, .typ Ty155)] }
abbrev e24_L0 : List (XT × Shape) := [(.exit 0, { slots := [(1, .bx 1 0), (4, .v .str)], boxes := [(1, .typ Ty155)] })]
noncomputable def q24_L0 (t4 : ByteArray) (t75 : Ta78) (t76 : Int) (t77 : Int) (b1 : Ta131) : Option (Ta148 ⊕ (Ta135 ⊕ Empty)) :=
  bif (decide (t77 < t76)) then
    bif (decide (0 ≤ t77) && decide (t77 < (t75.len : Int))) then
      bif (Nat.ble ((⟨#[112, 97, 114, 116, 32]⟩ : ByteArray).size + (L.get t75 t77.toNat).1.size) 9223372036854775807) then
        bif (Nat.ble (((⟨#[112, 97, 114, 116, 32]⟩ : ByteArray) ++ (L.get t75 t77.toNat).1).size + (⟨#[32]⟩ : ByteArray).size) 9223372036854775807) then
          (g55 (L.get t75 t77.toNat).2.1).bind fun y8 =>
            bif (Nat.ble ((((⟨#[112, 97, 114, 116, 32]⟩ : ByteArray) ++ (L.get t75 t77.toNat).1) ++ (⟨#[32]⟩ : ByteArray)).size + y8.1.1.size) 9223372036854775807) then
              bif (Nat.ble (((((⟨#[112, 97, 114, 116, 32]⟩ : ByteArray) ++ (L.get t75 t77.toNat).1) ++ (⟨#[32]⟩ : ByteArray)) ++ y8.1.1).size + (⟨#[32]⟩ : ByteArray).size) 9223372036854775807) then
                bif ((L.get t75 t77.toNat).2.2.1.1 == (0 : Int)) then
                  bif (Nat.ble ((((((⟨#[112, 97, 114, 116, 32]⟩ : ByteArray) ++ (L.get t75 t77.toNat).1) ++ (⟨#[32]⟩ : ByteArray)) ++ y8.1.1) ++ (⟨#[32]⟩ : ByteArray)).size + (⟨#[104, 97, 108, 116, 10]⟩ : ByteArray).size) 9223372036854775807) then
                    bif (Nat.ble (t4.size + ((((((⟨#[112, 97, 114, 116, 32]⟩ : ByteArray) ++ (L.get t75 t77.toNat).1) ++ (⟨#[32]⟩ : ByteArray)) ++ y8.1.1) ++ (⟨#[32]⟩ : ByteArray)) ++ (⟨#[104, 97, 108, 116, 10]⟩ : ByteArray)).size) 9223372036854775807) then
                      some (.inl (((), ((t4 ++ ((((((⟨#[112, 97, 114, 116, 32]⟩ : ByteArray) ++ (L.get t75 t77.toNat).1) ++ (⟨#[32]⟩ : ByteArray)) ++ y8.1.1) ++ (⟨#[32]⟩ : ByteArray)) ++ (⟨#[104, 97, 108, 116, 10]⟩ : ByteArray))), (t75, (t76, ((wI (t77 + (1 : Int))), ()))))), (b1, ())))
                    else
                      none
                  else
                    none
                else
                  bif ((L.get t75 t77.toNat).2.2.1.1 == (2 : Int)) then
                    bif (Nat.ble ((((((⟨#[112, 97, 114, 116, 32]⟩ : ByteArray) ++ (L.get t75 t77.toNat).1) ++ (⟨#[32]⟩ : ByteArray)) ++ y8.1.1) ++ (⟨#[32]⟩ : ByteArray)).size + (⟨#[115, 107, 105, 112, 10]⟩ : ByteArray).size) 9223372036854775807) then
                      bif (Nat.ble (t4.size + ((((((⟨#[112, 97, 114, 116, 32]⟩ : ByteArray) ++ (L.get t75 t77.toNat).1) ++ (⟨#[32]⟩ : ByteArray)) ++ y8.1.1) ++ (⟨#[32]⟩ : ByteArray)) ++ (⟨#[115, 107, 105, 112, 10]⟩ : ByteArray)).size) 9223372036854775807) then
                        some (.inl (((), ((t4 ++ ((((((⟨#[112, 97, 114, 116, 32]⟩ : ByteArray) ++ (L.get t75 t77.toNat).1) ++ (⟨#[32]⟩ : ByteArray)) ++ y8.1.1) ++ (⟨#[32]⟩ : ByteArray)) ++ (⟨#[115, 107, 105, 112, 10]⟩ : ByteArray))), (t75, (t76, ((wI (t77 + (1 : Int))), ()))))), (b1, ())))
                      else
                        none
                    else
                      none
                  else
                    bif (Nat.ble ((((((⟨#[112, 97, 114, 116, 32]⟩ : ByteArray) ++ (L.get t75 t77.toNat).1) ++ (⟨#[32]⟩ : ByteArray)) ++ y8.1.1) ++ (⟨#[32]⟩ : ByteArray)).size + (⟨#[114, 101, 115, 116, 97, 114, 116]⟩ : ByteArray).size) 9223372036854775807) then
                      (g54 ((((((⟨#[112, 97, 114, 116, 32]⟩ : ByteArray) ++ (L.get t75 t77.toNat).1) ++ (⟨#[32]⟩ : ByteArray)) ++ y8.1.1) ++ (⟨#[32]⟩ : ByteArray)) ++ (⟨#[114, 101, 115, 116, 97, 114, 116]⟩ : ByteArray)) (L.of (Ty.zero (.int .i64)) [(L.get t75 t77.toNat).2.2.1.2.1])).bind fun y9 =>
                        bif (Nat.ble (t4.size + y9.1.1.size) 9223372036854775807) then
                          some (.inl (((), ((t4 ++ y9.1.1), (t75, (t76, ((wI (t77 + (1 : Int))), ()))))), (b1, ())))
                        else
                          none
                    else
                      none
              else
                none
            else
              none
        else
          none
      else
        none
    else
      none
  else
    some (.inr (.inl (((), (t4, ())), (b1, ()))))
noncomputable def s24_L0 (x : Ta148) : Option (Ta148 ⊕ (Ta135 ⊕ Empty)) := q24_L0 x.1.2.1 x.1.2.2.1 x.1.2.2.2.1 x.1.2.2.2.2.1 x.2.1
abbrev h24_L5 : Shape := { slots := [(1, .bx 1 0), (4, .v .str), (9, .bx 9 0), (116, .v Ty113), (117, .v (.int .i64)), (118, .v (.int .i64)), (123, .v Ty57), (124, .v (.int .i64)), (125, .v (.int .i64))], boxes := [(1, .typ Ty155), (9, .typ Ty112)] }
abbrev e24_L5 : List (XT × Shape) := [(.exit 5, { slots := [(1, .bx 1 0), (4, .v .str), (116, .v Ty113), (117, .v (.int .i64)), (118, .v (.int .i64))], boxes := [(1, .typ Ty155)] })]
noncomputable def q24_L5 (t4 : ByteArray) (t116 : Ta78) (t117 : Int) (t118 : Int) (t123 : Ta9) (t124 : Int) (t125 : Int) (b1 : Ta131) (b9 : Ta74) : Option (Ta152 ⊕ (Ta148 ⊕ Empty)) :=
  bif (decide (t125 < t124)) then
    bif (decide (0 ≤ t125) && decide (t125 < (t123.len : Int))) then
      bif (Nat.ble ((⟨#[119, 105, 110, 100, 111, 119, 32]⟩ : ByteArray).size + b9.1.size) 9223372036854775807) then
        bif (Nat.ble (((⟨#[119, 105, 110, 100, 111, 119, 32]⟩ : ByteArray) ++ b9.1).size + (⟨#[32]⟩ : ByteArray).size) 9223372036854775807) then
          (g55 (L.get t123 t125.toNat).1).bind fun y11 =>
            bif (Nat.ble ((((⟨#[119, 105, 110, 100, 111, 119, 32]⟩ : ByteArray) ++ b9.1) ++ (⟨#[32]⟩ : ByteArray)).size + y11.1.1.size) 9223372036854775807) then
              bif (Nat.ble (((((⟨#[119, 105, 110, 100, 111, 119, 32]⟩ : ByteArray) ++ b9.1) ++ (⟨#[32]⟩ : ByteArray)) ++ y11.1.1).size + (⟨#[32]⟩ : ByteArray).size) 9223372036854775807) then
                (g55 (L.get t123 t125.toNat).2.1).bind fun y12 =>
                  bif (Nat.ble ((((((⟨#[119, 105, 110, 100, 111, 119, 32]⟩ : ByteArray) ++ b9.1) ++ (⟨#[32]⟩ : ByteArray)) ++ y11.1.1) ++ (⟨#[32]⟩ : ByteArray)).size + y12.1.1.size) 9223372036854775807) then
                    bif (Nat.ble (((((((⟨#[119, 105, 110, 100, 111, 119, 32]⟩ : ByteArray) ++ b9.1) ++ (⟨#[32]⟩ : ByteArray)) ++ y11.1.1) ++ (⟨#[32]⟩ : ByteArray)) ++ y12.1.1).size + (⟨#[32]⟩ : ByteArray).size) 9223372036854775807) then
                      (g56 (L.get t123 t125.toNat).2.2.1).bind fun y13 =>
                        bif (Nat.ble ((((((((⟨#[119, 105, 110, 100, 111, 119, 32]⟩ : ByteArray) ++ b9.1) ++ (⟨#[32]⟩ : ByteArray)) ++ y11.1.1) ++ (⟨#[32]⟩ : ByteArray)) ++ y12.1.1) ++ (⟨#[32]⟩ : ByteArray)).size + y13.1.1.size) 9223372036854775807) then
                          bif (Nat.ble (((((((((⟨#[119, 105, 110, 100, 111, 119, 32]⟩ : ByteArray) ++ b9.1) ++ (⟨#[32]⟩ : ByteArray)) ++ y11.1.1) ++ (⟨#[32]⟩ : ByteArray)) ++ y12.1.1) ++ (⟨#[32]⟩ : ByteArray)) ++ y13.1.1).size + (⟨#[10]⟩ : ByteArray).size) 9223372036854775807) then
                            bif (Nat.ble (t4.size + (((((((((⟨#[119, 105, 110, 100, 111, 119, 32]⟩ : ByteArray) ++ b9.1) ++ (⟨#[32]⟩ : ByteArray)) ++ y11.1.1) ++ (⟨#[32]⟩ : ByteArray)) ++ y12.1.1) ++ (⟨#[32]⟩ : ByteArray)) ++ y13.1.1) ++ (⟨#[10]⟩ : ByteArray)).size) 9223372036854775807) then
                              some (.inl (((), ((t4 ++ (((((((((⟨#[119, 105, 110, 100, 111, 119, 32]⟩ : ByteArray) ++ b9.1) ++ (⟨#[32]⟩ : ByteArray)) ++ y11.1.1) ++ (⟨#[32]⟩ : ByteArray)) ++ y12.1.1) ++ (⟨#[32]⟩ : ByteArray)) ++ y13.1.1) ++ (⟨#[10]⟩ : ByteArray))), ((), (t116, (t117, (t118, (t123, (t124, ((wI (t125 + (1 : Int))), ()))))))))), (b1, (b9, ()))))
                            else
                              none
                          else
                            none
                        else
                          none
                    else
                      none
                  else
                    none
              else
                none
            else
              none
        else
          none
      else
        none
    else
      none
  else
    some (.inr (.inl (((), (t4, (t116, (t117, (t118, ()))))), (b1, ()))))
noncomputable def s24_L5 (x : Ta152) : Option (Ta152 ⊕ (Ta148 ⊕ Empty)) := q24_L5 x.1.2.1 x.1.2.2.2.1 x.1.2.2.2.2.1 x.1.2.2.2.2.2.1 x.1.2.2.2.2.2.2.1 x.1.2.2.2.2.2.2.2.1 x.1.2.2.2.2.2.2.2.2.1 x.2.1 x.2.2.1
abbrev h24_L3 : Shape := { slots := [(1, .bx 1 0), (4, .v .str), (116, .v Ty113), (117, .v (.int .i64)), (118, .v (.int .i64))], boxes := [(1, .typ Ty155)] }
abbrev e24_L3 : List (XT × Shape) := [(.exit 3, { slots := [(1, .bx 1 0), (4, .v .str)], boxes := [(1, .typ Ty155)] })]
noncomputable def q24_L3 (t4 : ByteArray) (t116 : Ta78) (t117 : Int) (t118 : Int) (b1 : Ta131) : Option (Ta148 ⊕ (Ta135 ⊕ Empty)) :=
  bif (decide (t118 < t117)) then
    bif (decide (0 ≤ t118) && decide (t118 < (t116.len : Int))) then
      (fixO s24_L5 (((), (t4, ((), (t116, (t117, (t118, ((L.get t116 t118.toNat).2.2.2.1, (((L.get t116 t118.toNat).2.2.2.1.len : Int), ((0 : Int), ()))))))))), (b1, ((L.get t116 t118.toNat), ())))).bind fun d15 => match d15 with
      | .inl y14 =>
        some (.inl (((), (y14.1.2.1, (y14.1.2.2.1, (y14.1.2.2.2.1, ((wI (y14.1.2.2.2.2.1 + (1 : Int))), ()))))), y14.2))
      | .inr e => nomatch e
    else
      none
  else
    some (.inr (.inl (((), (t4, ())), (b1, ()))))
noncomputable def s24_L3 (x : Ta148) : Option (Ta148 ⊕ (Ta135 ⊕ Empty)) := q24_L3 x.1.2.1 x.1.2.2.1 x.1.2.2.2.1 x.1.2.2.2.2.1 x.2.1
abbrev h24_L7 : Shape := { slots := [(1, .bx 1 0), (4, .v .str), (153, .v (.sl (.int .i64))), (154, .v (.int .i64)), (155, .v (.int .i64))], boxes := [(1, .typ Ty155)] }
abbrev e24_L7 : List (XT × Shape) := [(.exit 7, { slots := [(1, .bx 1 0), (4, .v .str)], boxes := [(1, .typ Ty155)] })]
noncomputable def q24_L7 (t4 : ByteArray) (t153 : (L Int)) (t154 : Int) (t155 : Int) (b1 : Ta131) : Option (Ta140 ⊕ (Ta135 ⊕ Empty)) :=
  bif (decide (t155 < t154)) then
    bif (decide (0 ≤ t155) && decide (t155 < (t153.len : Int))) then
      bif (decide (0 ≤ (L.get t153 t155.toNat)) && decide ((L.get t153 t155.toNat) < (b1.2.2.2.2.2.2.2.1.len : Int))) then
        bif (Nat.ble ((⟨#[100, 101, 118, 32]⟩ : ByteArray).size + (L.get b1.2.2.2.2.2.2.2.1 (L.get t153 t155.toNat).toNat).1.size) 9223372036854775807) then
          bif (Nat.ble (((⟨#[100, 101, 118, 32]⟩ : ByteArray) ++ (L.get b1.2.2.2.2.2.2.2.1 (L.get t153 t155.toNat).toNat).1).size + (⟨#[10]⟩ : ByteArray).size) 9223372036854775807) then
            bif (Nat.ble (t4.size + (((⟨#[100, 101, 118, 32]⟩ : ByteArray) ++ (L.get b1.2.2.2.2.2.2.2.1 (L.get t153 t155.toNat).toNat).1) ++ (⟨#[10]⟩ : ByteArray)).size) 9223372036854775807) then
              some (.inl (((), ((t4 ++ (((⟨#[100, 101, 118, 32]⟩ : ByteArray) ++ (L.get b1.2.2.2.2.2.2.2.1 (L.get t153 t155.toNat).toNat).1) ++ (⟨#[10]⟩ : ByteArray))), (t153, (t154, ((wI (t155 + (1 : Int))), ()))))), (b1, ())))
            else
              none
          else
            none
        else
          none
      else
        none
    else
      none
  else
    some (.inr (.inl (((), (t4, ())), (b1, ()))))
noncomputable def s24_L7 (x : Ta140) : Option (Ta140 ⊕ (Ta135 ⊕ Empty)) := q24_L7 x.1.2.1 x.1.2.2.1 x.1.2.2.2.1 x.1.2.2.2.2.1 x.2.1
abbrev h24_L9 : Shape := { slots := [(1, .bx 1 0), (4, .v .str), (171, .v Ty76), (172, .v (.int .i64)), (173, .v (.int .i64))], boxes := [(1, .typ Ty155)] }
abbrev e24_L9 : List (XT × Shape) := [(.exit 9, { slots := [(1, .bx 1 0), (4, .v .str)], boxes := [(1, .typ Ty155)] })]
noncomputable def q24_L9 (t4 : ByteArray) (t171 : Ta22) (t172 : Int) (t173 : Int) (b1 : Ta131) : Option (Ta145 ⊕ (Ta135 ⊕ Empty)) :=
  bif (decide (t173 < t172)) then
    bif (decide (0 ≤ t173) && decide (t173 < (t171.len : Int))) then
      bif (decide (0 ≤ (L.get t171 t173.toNat).2.1) && decide ((L.get t171 t173.toNat).2.1 < (b1.2.2.2.2.2.2.2.1.len : Int))) then
        bif (Nat.ble ((L.get b1.2.2.2.2.2.2.2.1 (L.get t171 t173.toNat).2.1.toNat).1.size + (⟨#[32]⟩ : ByteArray).size) 9223372036854775807) then
          bif (decide (0 ≤ (L.get t171 t173.toNat).2.2.1) && decide ((L.get t171 t173.toNat).2.2.1 < (b1.2.2.2.2.2.2.2.1.len : Int))) then
            bif (Nat.ble (((L.get b1.2.2.2.2.2.2.2.1 (L.get t171 t173.toNat).2.1.toNat).1 ++ (⟨#[32]⟩ : ByteArray)).size + (L.get b1.2.2.2.2.2.2.2.1 (L.get t171 t173.toNat).2.2.1.toNat).1.size) 9223372036854775807) then
              bif ((L.get t171 t173.toNat).1 == (0 : Int)) then
                bif (Nat.ble ((⟨#[99, 104, 97, 110, 32, 115, 97, 109, 112, 108, 101, 32]⟩ : ByteArray).size + (((L.get b1.2.2.2.2.2.2.2.1 (L.get t171 t173.toNat).2.1.toNat).1 ++ (⟨#[32]⟩ : ByteArray)) ++ (L.get b1.2.2.2.2.2.2.2.1 (L.get t171 t173.toNat).2.2.1.toNat).1).size) 9223372036854775807) then
                  bif (Nat.ble (((⟨#[99, 104, 97, 110, 32, 115, 97, 109, 112, 108, 101, 32]⟩ : ByteArray) ++ (((L.get b1.2.2.2.2.2.2.2.1 (L.get t171 t173.toNat).2.1.toNat).1 ++ (⟨#[32]⟩ : ByteArray)) ++ (L.get b1.2.2.2.2.2.2.2.1 (L.get t171 t173.toNat).2.2.1.toNat).1)).size + (⟨#[10]⟩ : ByteArray).size) 9223372036854775807) then
                    bif (Nat.ble (t4.size + (((⟨#[99, 104, 97, 110, 32, 115, 97, 109, 112, 108, 101, 32]⟩ : ByteArray) ++ (((L.get b1.2.2.2.2.2.2.2.1 (L.get t171 t173.toNat).2.1.toNat).1 ++ (⟨#[32]⟩ : ByteArray)) ++ (L.get b1.2.2.2.2.2.2.2.1 (L.get t171 t173.toNat).2.2.1.toNat).1)) ++ (⟨#[10]⟩ : ByteArray)).size) 9223372036854775807) then
                      some (.inl (((), ((t4 ++ (((⟨#[99, 104, 97, 110, 32, 115, 97, 109, 112, 108, 101, 32]⟩ : ByteArray) ++ (((L.get b1.2.2.2.2.2.2.2.1 (L.get t171 t173.toNat).2.1.toNat).1 ++ (⟨#[32]⟩ : ByteArray)) ++ (L.get b1.2.2.2.2.2.2.2.1 (L.get t171 t173.toNat).2.2.1.toNat).1)) ++ (⟨#[10]⟩ : ByteArray))), (t171, (t172, ((wI (t173 + (1 : Int))), ()))))), (b1, ())))
                    else
                      none
                  else
                    none
                else
                  none
              else
                bif (Nat.ble ((⟨#[99, 104, 97, 110, 32, 113, 117, 101, 117, 101, 32]⟩ : ByteArray).size + (((L.get b1.2.2.2.2.2.2.2.1 (L.get t171 t173.toNat).2.1.toNat).1 ++ (⟨#[32]⟩ : ByteArray)) ++ (L.get b1.2.2.2.2.2.2.2.1 (L.get t171 t173.toNat).2.2.1.toNat).1).size) 9223372036854775807) then
                  (g54 ((⟨#[99, 104, 97, 110, 32, 113, 117, 101, 117, 101, 32]⟩ : ByteArray) ++ (((L.get b1.2.2.2.2.2.2.2.1 (L.get t171 t173.toNat).2.1.toNat).1 ++ (⟨#[32]⟩ : ByteArray)) ++ (L.get b1.2.2.2.2.2.2.2.1 (L.get t171 t173.toNat).2.2.1.toNat).1)) (L.of (Ty.zero (.int .i64)) [(L.get t171 t173.toNat).2.2.2.1])).bind fun y18 =>
                    bif (Nat.ble (t4.size + y18.1.1.size) 9223372036854775807) then
                      some (.inl (((), ((t4 ++ y18.1.1), (t171, (t172, ((wI (t173 + (1 : Int))), ()))))), (b1, ())))
                    else
                      none
                else
                  none
            else
              none
          else
            none
        else
          none
      else
        none
    else
      none
  else
    some (.inr (.inl (((), (t4, ())), (b1, ()))))
noncomputable def s24_L9 (x : Ta145) : Option (Ta145 ⊕ (Ta135 ⊕ Empty)) := q24_L9 x.1.2.1 x.1.2.2.1 x.1.2.2.2.1 x.1.2.2.2.2.1 x.2.1
abbrev h24_L11 : Shape := { slots := [(1, .bx 1 0), (4, .v .str), (211, .v Ty57), (212, .v (.int .i64)), (213, .v (.int .i64))], boxes := [(1, .typ Ty155)] }
abbrev e24_L11 : List (XT × Shape) := [(.exit 11, { slots := [(4, .v .str)], boxes := [] })]
noncomputable def q24_L11 (t4 : ByteArray) (t211 : Ta9) (t212 : Int) (t213 : Int) (b1 : Ta131) : Option (Ta143 ⊕ (Ta3 ⊕ Empty)) :=
  bif (decide (t213 < t212)) then
    bif (decide (0 ≤ t213) && decide (t213 < (t211.len : Int))) then
      bif (decide (0 ≤ (L.get t211 t213.toNat).1) && decide ((L.get t211 t213.toNat).1 < (b1.2.2.2.2.2.2.2.1.len : Int))) then
        bif (Nat.ble ((⟨#[115, 108, 111, 116, 32]⟩ : ByteArray).size + (L.get b1.2.2.2.2.2.2.2.1 (L.get t211 t213.toNat).1.toNat).1.size) 9223372036854775807) then
          (g54 ((⟨#[115, 108, 111, 116, 32]⟩ : ByteArray) ++ (L.get b1.2.2.2.2.2.2.2.1 (L.get t211 t213.toNat).1.toNat).1) (L.of (Ty.zero (.int .i64)) [(L.get t211 t213.toNat).2.1, (L.get t211 t213.toNat).2.2.1])).bind fun y20 =>
            bif (Nat.ble (t4.size + y20.1.1.size) 9223372036854775807) then
              some (.inl (((), ((t4 ++ y20.1.1), (t211, (t212, ((wI (t213 + (1 : Int))), ()))))), (b1, ())))
            else
              none
        else
          none
      else
        none
    else
      none
  else
    some (.inr (.inl ((t4, ()), ())))
noncomputable def s24_L11 (x : Ta143) : Option (Ta143 ⊕ (Ta3 ⊕ Empty)) := q24_L11 x.1.2.1 x.1.2.2.1 x.1.2.2.2.1 x.1.2.2.2.2.1 x.2.1
noncomputable def a24 : Nat → Option LoopAnn := fun c => bif Nat.beq c 0 then some (.fix h24_L0 e24_L0 s24_L0) else bif Nat.beq c 5 then some (.fix h24_L5 e24_L5 s24_L5) else bif Nat.beq c 3 then some (.fix h24_L3 e24_L3 s24_L3) else bif Nat.beq c 7 then some (.fix h24_L7 e24_L7 s24_L7) else bif Nat.beq c 9 then some (.fix h24_L9 e24_L9 s24_L9) else bif Nat.beq c 11 then some (.fix h24_L11 e24_L11 s24_L11) else none
noncomputable def g24 (x0 : Ta131) : Option Ta3 :=
  (g54 (⟨#[109, 101, 109]⟩ : ByteArray) (L.of (Ty.zero (.int .i64)) [x0.1])).bind fun y1 =>
    (g54 (⟨#[99, 97, 99, 104, 101]⟩ : ByteArray) (L.of (Ty.zero (.int .i64)) [x0.2.1.1, x0.2.1.2.1, x0.2.1.2.2.1])).bind fun y2 =>
      bif (Nat.ble (y1.1.1.size + y2.1.1.size) 9223372036854775807) then
        (g54 (⟨#[116, 108, 98]⟩ : ByteArray) (L.of (Ty.zero (.int .i64)) [x0.2.2.1])).bind fun y3 =>
          bif (Nat.ble ((y1.1.1 ++ y2.1.1).size + y3.1.1.size) 9223372036854775807) then
            (g54 (⟨#[99, 111, 115, 116, 115]⟩ : ByteArray) (L.of (Ty.zero (.int .i64)) [x0.2.2.2.1.1, x0.2.2.2.1.2.1, x0.2.2.2.1.2.2.1, x0.2.2.2.1.2.2.2.1, x0.2.2.2.1.2.2.2.2.1, x0.2.2.2.1.2.2.2.2.2.1, x0.2.2.2.1.2.2.2.2.2.2.1])).bind fun y4 =>
              bif (Nat.ble (((y1.1.1 ++ y2.1.1) ++ y3.1.1).size + y4.1.1.size) 9223372036854775807) then
                (g54 (⟨#[112, 97, 100]⟩ : ByteArray) (L.of (Ty.zero (.int .i64)) [x0.2.2.2.2.1])).bind fun y5 =>
                  bif (Nat.ble ((((y1.1.1 ++ y2.1.1) ++ y3.1.1) ++ y4.1.1).size + y5.1.1.size) 9223372036854775807) then
                    (g54 (⟨#[103, 117, 97, 114, 100]⟩ : ByteArray) (L.of (Ty.zero (.int .i64)) [x0.2.2.2.2.2.1])).bind fun y6 =>
                      bif (Nat.ble (((((y1.1.1 ++ y2.1.1) ++ y3.1.1) ++ y4.1.1) ++ y5.1.1).size + y6.1.1.size) 9223372036854775807) then
                        (g54 (⟨#[109, 97, 106, 111, 114]⟩ : ByteArray) (L.of (Ty.zero (.int .i64)) [x0.2.2.2.2.2.2.1])).bind fun y7 =>
                          bif (Nat.ble ((((((y1.1.1 ++ y2.1.1) ++ y3.1.1) ++ y4.1.1) ++ y5.1.1) ++ y6.1.1).size + y7.1.1.size) 9223372036854775807) then
                            (fixO s24_L0 (((), (((((((y1.1.1 ++ y2.1.1) ++ y3.1.1) ++ y4.1.1) ++ y5.1.1) ++ y6.1.1) ++ y7.1.1), (x0.2.2.2.2.2.2.2.1, ((x0.2.2.2.2.2.2.2.1.len : Int), ((0 : Int), ()))))), (x0, ()))).bind fun d26 => match d26 with
                            | .inl y10 =>
                              (fixO s24_L3 (((), (y10.1.2.1, (y10.2.1.2.2.2.2.2.2.2.1, ((y10.2.1.2.2.2.2.2.2.2.1.len : Int), ((0 : Int), ()))))), y10.2)).bind fun d25 => match d25 with
                              | .inl y16 =>
                                (fixO s24_L7 (((), (y16.1.2.1, (y16.2.1.2.2.2.2.2.2.2.2.1, ((y16.2.1.2.2.2.2.2.2.2.2.1.len : Int), ((0 : Int), ()))))), y16.2)).bind fun d24 => match d24 with
                                | .inl y17 =>
                                  (fixO s24_L9 (((), (y17.1.2.1, (y17.2.1.2.2.2.2.2.2.2.2.2.1, ((y17.2.1.2.2.2.2.2.2.2.2.2.1.len : Int), ((0 : Int), ()))))), y17.2)).bind fun d23 => match d23 with
                                  | .inl y19 =>
                                    (fixO s24_L11 (((), (y19.1.2.1, (y19.2.1.2.2.2.2.2.2.2.2.2.2.1, ((y19.2.1.2.2.2.2.2.2.2.2.2.2.1.len : Int), ((0 : Int), ()))))), y19.2)).bind fun d22 => match d22 with
                                    | .inl y21 =>
                                      some ((y21.1.1, ()), ())
                                    | .inr e => nomatch e
                                  | .inr e => nomatch e
                                | .inr e => nomatch e
                              | .inr e => nomatch e
                            | .inr e => nomatch e
                          else
                            none
                      else
                        none
                  else
                    none
              else
                none
          else
            none
      else
        none
noncomputable def c24 : Ctr := { ins := [.v Ty155], out := [.str], F := fun x => g24 x.1 }
noncomputable def l24 : List (Nat × Code) := loopsIn (Tryz.f24.body.getD .skip) 0
theorem w24_L0 (x : h24_L0.T) : runK Tryz.prog Γ t24 (inlN Tryz.prog Γ t24 3) a24 (l24.getD 0 (0, .skip)).2 0 (pkSh h24_L0 x) (loopCls (sh := h24_L0) (es := e24_L0)) = (s24_L0 x : Option _) := by kernel_rfl
theorem w24_L5 (x : h24_L5.T) : runK Tryz.prog Γ t24 (inlN Tryz.prog Γ t24 3) a24 (l24.getD 2 (0, .skip)).2 5 (pkSh h24_L5 x) (loopCls (sh := h24_L5) (es := e24_L5)) = (s24_L5 x : Option _) := by kernel_rfl
theorem w24_L3 (x : h24_L3.T) : runK Tryz.prog Γ t24 (inlN Tryz.prog Γ t24 3) a24 (l24.getD 1 (0, .skip)).2 3 (pkSh h24_L3 x) (loopCls (sh := h24_L3) (es := e24_L3)) = (s24_L3 x : Option _) := by kernel_rfl
theorem w24_L7 (x : h24_L7.T) : runK Tryz.prog Γ t24 (inlN Tryz.prog Γ t24 3) a24 (l24.getD 3 (0, .skip)).2 7 (pkSh h24_L7 x) (loopCls (sh := h24_L7) (es := e24_L7)) = (s24_L7 x : Option _) := by kernel_rfl
theorem w24_L9 (x : h24_L9.T) : runK Tryz.prog Γ t24 (inlN Tryz.prog Γ t24 3) a24 (l24.getD 4 (0, .skip)).2 9 (pkSh h24_L9 x) (loopCls (sh := h24_L9) (es := e24_L9)) = (s24_L9 x : Option _) := by kernel_rfl
theorem w24_L11 (x : h24_L11.T) : runK Tryz.prog Γ t24 (inlN Tryz.prog Γ t24 3) a24 (l24.getD 5 (0, .skip)).2 11 (pkSh h24_L11 x) (loopCls (sh := h24_L11) (es := e24_L11)) = (s24_L11 x : Option _) := by kernel_rfl
theorem v24 : LoopsOk Tryz.prog Γ t24 a24 (loopsIn (Tryz.f24.body.getD .skip) 0) := by
  have e : loopsIn (Tryz.f24.body.getD .skip) 0 = [(0, (l24.getD 0 (0, .skip)).2), (3, (l24.getD 1 (0, .skip)).2), (5, (l24.getD 2 (0, .skip)).2), (7, (l24.getD 3 (0, .skip)).2), (9, (l24.getD 4 (0, .skip)).2), (11, (l24.getD 5 (0, .skip)).2)] := by kernel_rfl
  rw [e]
  exact ⟨fun x d h => (w24_L0 x).trans h, fun x d h => (w24_L3 x).trans h, fun x d h => (w24_L5 x).trans h, fun x d h => (w24_L7 x).trans h, fun x d h => (w24_L9 x).trans h, fun x d h => (w24_L11 x).trans h, trivial⟩
theorem r24 (x : InsT c24.ins) : fnK Tryz.prog Γ t24 a24 Tryz.f24 c24 x = g24 x.1 := by kernel_rfl
theorem k24 : TblOk Tryz.prog t24 := tblOk_cons o54 (tblOk_cons o55 (tblOk_cons o56 (tblOk_nil)))
theorem o24 : Holds Tryz.prog 24 c24 := fn_holds (code := Tryz.f24.body.getD .skip) (by kernel_rfl) gamOk k24 Tryz.func24 (by kernel_rfl) (by kernel_rfl) (by kernel_rfl) (by kernel_rfl) v24 (fun x _ h => (r24 x).trans h)
/-! ### 7: loop.example/g00076/impl.PrintConf -/
noncomputable def t7 : Tbl := [(23, [], c23), (24, [], c24)]
noncomputable def a7 : Nat → Option LoopAnn := fun _ => none
noncomputable def g7 (x0 : Ta131) : Option ((ByteArray × (Bool × Unit)) × Unit) :=
  (g23 x0).bind fun y1 =>
    bif (!y1.1.1) then
      some (((⟨#[]⟩ : ByteArray), false, ()), ())
    else
      (g24 x0).bind fun y2 =>
        some ((y2.1.1, true, ()), ())
noncomputable def c7 : Ctr := { ins := [.v Ty155], out := [.str, .bool], F := fun x => g7 x.1 }
theorem v7 : LoopsOk Tryz.prog Γ t7 a7 (loopsIn (Tryz.f7.body.getD .skip) 0) := loopsOk_nil (by kernel_rfl)
theorem r7 (x : InsT c7.ins) : fnK Tryz.prog Γ t7 a7 Tryz.f7 c7 x = g7 x.1 := by kernel_rfl
theorem k7 : TblOk Tryz.prog t7 := tblOk_cons o23 (tblOk_cons o24 (tblOk_nil))
theorem o7 : Holds Tryz.prog 7 c7 := fn_holds (code := Tryz.f7.body.getD .skip) (by kernel_rfl) gamOk k7 Tryz.func7 (by kernel_rfl) (by kernel_rfl) (by kernel_rfl) (by kernel_rfl) v7 (fun x _ h => (r7 x).trans h)
/-! ### 25: loop.example/g00076/laws.eqShape -/
noncomputable def t25 : Tbl := []
noncomputable def a25 : Nat → Option LoopAnn := fun _ => none
noncomputable def g25 (x0 : Ta5) (x1 : Ta5) : Option ((Bool × Unit) × Unit) :=
  bif (x0.1 != x1.1) then
    some ((false, ()), ())
  else
    bif (x0.2.1 != x1.2.1) then
      some ((false, ()), ())
    else
      bif (x0.2.2.1 != x1.2.2.1) then
        some ((false, ()), ())
      else
        some ((true, ()), ())
noncomputable def f25 (x0 : Ta5) (x1 : Ta5) : Bool :=
  bif (x0.1 != x1.1) then
    false
  else
    bif (x0.2.1 != x1.2.1) then
      false
    else
      bif (x0.2.2.1 != x1.2.2.1) then
        false
      else
        true
theorem n25 (x0 : Ta5) (x1 : Ta5) : g25 x0 x1 = some ((f25 x0 x1, ()), ()) := by
  simp only [g25, f25, pull1]
noncomputable def c25 : Ctr := { ins := [.v Ty50, .v Ty50], out := [.bool], F := fun x => some ((f25 x.1 x.2.1, ()), ()) }
theorem v25 : LoopsOk Tryz.prog Γ t25 a25 (loopsIn (Tryz.f25.body.getD .skip) 0) := loopsOk_nil (by kernel_rfl)
theorem r25 (x : InsT c25.ins) : fnK Tryz.prog Γ t25 a25 Tryz.f25 c25 x = g25 x.1 x.2.1 := by kernel_rfl
theorem k25 : TblOk Tryz.prog t25 := tblOk_nil
theorem o25 : Holds Tryz.prog 25 c25 := fn_holds (code := Tryz.f25.body.getD .skip) (by kernel_rfl) gamOk k25 Tryz.func25 (by kernel_rfl) (by kernel_rfl) (by kernel_rfl) (by kernel_rfl) v25 (fun x _ h => (r25 x).trans ((n25 x.1 x.2.1).trans h))
/-! ### 26: loop.example/g00076/laws.eqCosts -/
noncomputable def t26 : Tbl := []
noncomputable def a26 : Nat → Option LoopAnn := fun _ => none
noncomputable def g26 (x0 : Ta48) (x1 : Ta48) : Option ((Bool × Unit) × Unit) :=
  bif (x0.1 != x1.1) then
    some ((false, ()), ())
  else
    bif (x0.2.1 != x1.2.1) then
      some ((false, ()), ())
    else
      bif (x0.2.2.1 != x1.2.2.1) then
        some ((false, ()), ())
      else
        bif (x0.2.2.2.1 != x1.2.2.2.1) then
          some ((false, ()), ())
        else
          bif (x0.2.2.2.2.1 != x1.2.2.2.2.1) then
            some ((false, ()), ())
          else
            bif (x0.2.2.2.2.2.1 != x1.2.2.2.2.2.1) then
              some ((false, ()), ())
            else
              bif (x0.2.2.2.2.2.2.1 != x1.2.2.2.2.2.2.1) then
                some ((false, ()), ())
              else
                some ((true, ()), ())
noncomputable def f26 (x0 : Ta48) (x1 : Ta48) : Bool :=
  bif (x0.1 != x1.1) then
    false
  else
    bif (x0.2.1 != x1.2.1) then
      false
    else
      bif (x0.2.2.1 != x1.2.2.1) then
        false
      else
        bif (x0.2.2.2.1 != x1.2.2.2.1) then
          false
        else
          bif (x0.2.2.2.2.1 != x1.2.2.2.2.1) then
            false
          else
            bif (x0.2.2.2.2.2.1 != x1.2.2.2.2.2.1) then
              false
            else
              bif (x0.2.2.2.2.2.2.1 != x1.2.2.2.2.2.2.1) then
                false
              else
                true
theorem n26 (x0 : Ta48) (x1 : Ta48) : g26 x0 x1 = some ((f26 x0 x1, ()), ()) := by
  simp only [g26, f26, pull1]
noncomputable def c26 : Ctr := { ins := [.v Ty102, .v Ty102], out := [.bool], F := fun x => some ((f26 x.1 x.2.1, ()), ()) }
theorem v26 : LoopsOk Tryz.prog Γ t26 a26 (loopsIn (Tryz.f26.body.getD .skip) 0) := loopsOk_nil (by kernel_rfl)
theorem r26 (x : InsT c26.ins) : fnK Tryz.prog Γ t26 a26 Tryz.f26 c26 x = g26 x.1 x.2.1 := by kernel_rfl
theorem k26 : TblOk Tryz.prog t26 := tblOk_nil
theorem o26 : Holds Tryz.prog 26 c26 := fn_holds (code := Tryz.f26.body.getD .skip) (by kernel_rfl) gamOk k26 Tryz.func26 (by kernel_rfl) (by kernel_rfl) (by kernel_rfl) (by kernel_rfl) v26 (fun x _ h => (r26 x).trans ((n26 x.1 x.2.1).trans h))
/-! ### 85: loop.example/g00076/laws.eqPolicy -/
noncomputable def t85 : Tbl := []
noncomputable def a85 : Nat → Option LoopAnn := fun _ => none
noncomputable def g85 (x0 : (Int × (Int × Unit))) (x1 : (Int × (Int × Unit))) : Option ((Bool × Unit) × Unit) :=
  bif (x0.1 != x1.1) then
    some ((false, ()), ())
  else
    bif (x0.2.1 != x1.2.1) then
      some ((false, ()), ())
    else
      some ((true, ()), ())
noncomputable def f85 (x0 : (Int × (Int × Unit))) (x1 : (Int × (Int × Unit))) : Bool :=
  bif (x0.1 != x1.1) then
    false
  else
    bif (x0.2.1 != x1.2.1) then
      false
    else
      true
theorem n85 (x0 : (Int × (Int × Unit))) (x1 : (Int × (Int × Unit))) : g85 x0 x1 = some ((f85 x0 x1, ()), ()) := by
  simp only [g85, f85, pull1]
noncomputable def c85 : Ctr := { ins := [.v Ty29, .v Ty29], out := [.bool], F := fun x => some ((f85 x.1 x.2.1, ()), ()) }
theorem v85 : LoopsOk Tryz.prog Γ t85 a85 (loopsIn (Tryz.f85.body.getD .skip) 0) := loopsOk_nil (by kernel_rfl)
theorem r85 (x : InsT c85.ins) : fnK Tryz.prog Γ t85 a85 Tryz.f85 c85 x = g85 x.1 x.2.1 := by kernel_rfl
theorem k85 : TblOk Tryz.prog t85 := tblOk_nil
theorem o85 : Holds Tryz.prog 85 c85 := fn_holds (code := Tryz.f85.body.getD .skip) (by kernel_rfl) gamOk k85 Tryz.func85 (by kernel_rfl) (by kernel_rfl) (by kernel_rfl) (by kernel_rfl) v85 (fun x _ h => (r85 x).trans ((n85 x.1 x.2.1).trans h))
/-! ### 102: loop.example/g00076/laws.eqWindow -/
noncomputable def t102 : Tbl := []
noncomputable def a102 : Nat → Option LoopAnn := fun _ => none
noncomputable def g102 (x0 : Ta5) (x1 : Ta5) : Option ((Bool × Unit) × Unit) :=
  bif (x0.1 != x1.1) then
    some ((false, ()), ())
  else
    bif (x0.2.1 != x1.2.1) then
      some ((false, ()), ())
    else
      bif (x0.2.2.1 != x1.2.2.1) then
        some ((false, ()), ())
      else
        some ((true, ()), ())
noncomputable def f102 (x0 : Ta5) (x1 : Ta5) : Bool :=
  bif (x0.1 != x1.1) then
    false
  else
    bif (x0.2.1 != x1.2.1) then
      false
    else
      bif (x0.2.2.1 != x1.2.2.1) then
        false
      else
        true
theorem n102 (x0 : Ta5) (x1 : Ta5) : g102 x0 x1 = some ((f102 x0 x1, ()), ()) := by
  simp only [g102, f102, pull1]
noncomputable def c102 : Ctr := { ins := [.v Ty50, .v Ty50], out := [.bool], F := fun x => some ((f102 x.1 x.2.1, ()), ()) }
theorem v102 : LoopsOk Tryz.prog Γ t102 a102 (loopsIn (Tryz.f102.body.getD .skip) 0) := loopsOk_nil (by kernel_rfl)
theorem r102 (x : InsT c102.ins) : fnK Tryz.prog Γ t102 a102 Tryz.f102 c102 x = g102 x.1 x.2.1 := by kernel_rfl
theorem k102 : TblOk Tryz.prog t102 := tblOk_nil
theorem o102 : Holds Tryz.prog 102 c102 := fn_holds (code := Tryz.f102.body.getD .skip) (by kernel_rfl) gamOk k102 Tryz.func102 (by kernel_rfl) (by kernel_rfl) (by kernel_rfl) (by kernel_rfl) v102 (fun x _ h => (r102 x).trans ((n102 x.1 x.2.1).trans h))
/-! ### 86: loop.example/g00076/laws.eqWindowS -/
noncomputable def t86 : Tbl := [(102, [], c102)]
abbrev h86_L0 : Shape := { slots := [(0, .v Ty57), (1, .v Ty57), (5, .v (.int .i64))], boxes := [] }
abbrev e86_L0 : List (XT × Shape) := [(.ret, { slots := [(4, .v .bool)], boxes := [] }), (.exit 0, { slots := [], boxes := [] })]
noncomputable def q86_L0 (t0 : Ta9) (t1 : Ta9) (t5 : Int) : Option (Ta80 ⊕ (((Bool × Unit) × Unit) ⊕ ((Unit × Unit) ⊕ Empty))) :=
  bif (decide (t5 < (t0.len : Int))) then
    bif (decide (0 ≤ t5) && decide (t5 < (t0.len : Int))) then
      bif (decide (0 ≤ t5) && decide (t5 < (t1.len : Int))) then
        bif (!(f102 (L.get t0 t5.toNat) (L.get t1 t5.toNat))) then
          some (.inr (.inl ((false, ()), ())))
        else
          some (.inl ((t0, (t1, ((wI (t5 + (1 : Int))), ()))), ()))
      else
        none
    else
      none
  else
    some (.inr (.inr (.inl ((), ()))))
noncomputable def s86_L0 (x : Ta80) : Option (Ta80 ⊕ (((Bool × Unit) × Unit) ⊕ ((Unit × Unit) ⊕ Empty))) := q86_L0 x.1.1 x.1.2.1 x.1.2.2.1
noncomputable def a86 : Nat → Option LoopAnn := fun c => bif Nat.beq c 0 then some (.fix h86_L0 e86_L0 s86_L0) else none
noncomputable def g86 (x0 : Ta9) (x1 : Ta9) : Option ((Bool × Unit) × Unit) :=
  bif ((x0.len : Int) != (x1.len : Int)) then
    some ((false, ()), ())
  else
    (fixO s86_L0 ((x0, (x1, ((0 : Int), ()))), ())).bind fun d2 => match d2 with
    | .inl y1 =>
      some ((y1.1.1, ()), ())
    | .inr (.inl y1) =>
      some ((true, ()), ())
    | .inr (.inr e) => nomatch e
noncomputable def c86 : Ctr := { ins := [.v Ty57, .v Ty57], out := [.bool], F := fun x => g86 x.1 x.2.1 }
noncomputable def l86 : List (Nat × Code) := loopsIn (Tryz.f86.body.getD .skip) 0
theorem w86_L0 (x : h86_L0.T) : runK Tryz.prog Γ t86 (inlN Tryz.prog Γ t86 3) a86 (l86.getD 0 (0, .skip)).2 0 (pkSh h86_L0 x) (loopCls (sh := h86_L0) (es := e86_L0)) = (s86_L0 x : Option _) := by kernel_rfl
theorem v86 : LoopsOk Tryz.prog Γ t86 a86 (loopsIn (Tryz.f86.body.getD .skip) 0) := by
  have e : loopsIn (Tryz.f86.body.getD .skip) 0 = [(0, (l86.getD 0 (0, .skip)).2)] := by kernel_rfl
  rw [e]
  exact ⟨fun x d h => (w86_L0 x).trans h, trivial⟩
theorem r86 (x : InsT c86.ins) : fnK Tryz.prog Γ t86 a86 Tryz.f86 c86 x = g86 x.1 x.2.1 := by kernel_rfl
theorem k86 : TblOk Tryz.prog t86 := tblOk_cons o102 (tblOk_nil)
theorem o86 : Holds Tryz.prog 86 c86 := fn_holds (code := Tryz.f86.body.getD .skip) (by kernel_rfl) gamOk k86 Tryz.func86 (by kernel_rfl) (by kernel_rfl) (by kernel_rfl) (by kernel_rfl) v86 (fun x _ h => (r86 x).trans h)
/-! ### 57: loop.example/g00076/laws.eqPartRow -/
noncomputable def t57 : Tbl := [(85, [], c85), (86, [], c86)]
noncomputable def a57 : Nat → Option LoopAnn := fun _ => none
noncomputable def g57 (x0 : Ta74) (x1 : Ta74) : Option ((Bool × Unit) × Unit) :=
  bif (!strEq x0.1 x1.1) then
    some ((false, ()), ())
  else
    bif (x0.2.1 != x1.2.1) then
      some ((false, ()), ())
    else
      bif (!(f85 x0.2.2.1 x1.2.2.1)) then
        some ((false, ()), ())
      else
        (g86 x0.2.2.2.1 x1.2.2.2.1).bind fun y1 =>
          bif (!y1.1.1) then
            some ((false, ()), ())
          else
            some ((true, ()), ())
noncomputable def c57 : Ctr := { ins := [.v Ty112, .v Ty112], out := [.bool], F := fun x => g57 x.1 x.2.1 }
theorem v57 : LoopsOk Tryz.prog Γ t57 a57 (loopsIn (Tryz.f57.body.getD .skip) 0) := loopsOk_nil (by kernel_rfl)
theorem r57 (x : InsT c57.ins) : fnK Tryz.prog Γ t57 a57 Tryz.f57 c57 x = g57 x.1 x.2.1 := by kernel_rfl
theorem k57 : TblOk Tryz.prog t57 := tblOk_cons o85 (tblOk_cons o86 (tblOk_nil))
theorem o57 : Holds Tryz.prog 57 c57 := fn_holds (code := Tryz.f57.body.getD .skip) (by kernel_rfl) gamOk k57 Tryz.func57 (by kernel_rfl) (by kernel_rfl) (by kernel_rfl) (by kernel_rfl) v57 (fun x _ h => (r57 x).trans h)
/-! ### 27: loop.example/g00076/laws.eqPartRowS -/
noncomputable def t27 : Tbl := [(57, [], c57)]
abbrev h27_L0 : Shape := { slots := [(0, .v Ty113), (1, .v Ty113), (5, .v (.int .i64))], boxes := [] }
abbrev e27_L0 : List (XT × Shape) := [(.ret, { slots := [(4, .v .bool)], boxes := [] }), (.exit 0, { slots := [], boxes := [] })]
noncomputable def q27_L0 (t0 : Ta78) (t1 : Ta78) (t5 : Int) : Option (Ta123 ⊕ (((Bool × Unit) × Unit) ⊕ ((Unit × Unit) ⊕ Empty))) :=
  bif (decide (t5 < (t0.len : Int))) then
    bif (decide (0 ≤ t5) && decide (t5 < (t0.len : Int))) then
      bif (decide (0 ≤ t5) && decide (t5 < (t1.len : Int))) then
        (g57 (L.get t0 t5.toNat) (L.get t1 t5.toNat)).bind fun y1 =>
          bif (!y1.1.1) then
            some (.inr (.inl ((false, ()), ())))
          else
            some (.inl ((t0, (t1, ((wI (t5 + (1 : Int))), ()))), ()))
      else
        none
    else
      none
  else
    some (.inr (.inr (.inl ((), ()))))
noncomputable def s27_L0 (x : Ta123) : Option (Ta123 ⊕ (((Bool × Unit) × Unit) ⊕ ((Unit × Unit) ⊕ Empty))) := q27_L0 x.1.1 x.1.2.1 x.1.2.2.1
noncomputable def a27 : Nat → Option LoopAnn := fun c => bif Nat.beq c 0 then some (.fix h27_L0 e27_L0 s27_L0) else none
noncomputable def g27 (x0 : Ta78) (x1 : Ta78) : Option ((Bool × Unit) × Unit) :=
  bif ((x0.len : Int) != (x1.len : Int)) then
    some ((false, ()), ())
  else
    (fixO s27_L0 ((x0, (x1, ((0 : Int), ()))), ())).bind fun d3 => match d3 with
    | .inl y2 =>
      some ((y2.1.1, ()), ())
    | .inr (.inl y2) =>
      some ((true, ()), ())
    | .inr (.inr e) => nomatch e
noncomputable def c27 : Ctr := { ins := [.v Ty113, .v Ty113], out := [.bool], F := fun x => g27 x.1 x.2.1 }
noncomputable def l27 : List (Nat × Code) := loopsIn (Tryz.f27.body.getD .skip) 0
theorem w27_L0 (x : h27_L0.T) : runK Tryz.prog Γ t27 (inlN Tryz.prog Γ t27 3) a27 (l27.getD 0 (0, .skip)).2 0 (pkSh h27_L0 x) (loopCls (sh := h27_L0) (es := e27_L0)) = (s27_L0 x : Option _) := by kernel_rfl
theorem v27 : LoopsOk Tryz.prog Γ t27 a27 (loopsIn (Tryz.f27.body.getD .skip) 0) := by
  have e : loopsIn (Tryz.f27.body.getD .skip) 0 = [(0, (l27.getD 0 (0, .skip)).2)] := by kernel_rfl
  rw [e]
  exact ⟨fun x d h => (w27_L0 x).trans h, trivial⟩
theorem r27 (x : InsT c27.ins) : fnK Tryz.prog Γ t27 a27 Tryz.f27 c27 x = g27 x.1 x.2.1 := by kernel_rfl
theorem k27 : TblOk Tryz.prog t27 := tblOk_cons o57 (tblOk_nil)
theorem o27 : Holds Tryz.prog 27 c27 := fn_holds (code := Tryz.f27.body.getD .skip) (by kernel_rfl) gamOk k27 Tryz.func27 (by kernel_rfl) (by kernel_rfl) (by kernel_rfl) (by kernel_rfl) v27 (fun x _ h => (r27 x).trans h)
/-! ### 28: loop.example/g00076/laws.eqIntS -/
noncomputable def t28 : Tbl := []
abbrev h28_L0 : Shape := { slots := [(0, .v (.sl (.int .i64))), (1, .v (.sl (.int .i64))), (5, .v (.int .i64))], boxes := [] }
abbrev e28_L0 : List (XT × Shape) := [(.ret, { slots := [(4, .v .bool)], boxes := [] }), (.exit 0, { slots := [], boxes := [] })]
noncomputable def q28_L0 (t0 : (L Int)) (t1 : (L Int)) (t5 : Int) : Option (Ta30 ⊕ (((Bool × Unit) × Unit) ⊕ ((Unit × Unit) ⊕ Empty))) :=
  bif (decide (t5 < (t0.len : Int))) then
    bif (decide (0 ≤ t5) && decide (t5 < (t0.len : Int))) then
      bif (decide (0 ≤ t5) && decide (t5 < (t1.len : Int))) then
        bif ((L.get t0 t5.toNat) != (L.get t1 t5.toNat)) then
          some (.inr (.inl ((false, ()), ())))
        else
          some (.inl ((t0, (t1, ((wI (t5 + (1 : Int))), ()))), ()))
      else
        none
    else
      none
  else
    some (.inr (.inr (.inl ((), ()))))
noncomputable def s28_L0 (x : Ta30) : Option (Ta30 ⊕ (((Bool × Unit) × Unit) ⊕ ((Unit × Unit) ⊕ Empty))) := q28_L0 x.1.1 x.1.2.1 x.1.2.2.1
noncomputable def a28 : Nat → Option LoopAnn := fun c => bif Nat.beq c 0 then some (.fix h28_L0 e28_L0 s28_L0) else none
noncomputable def g28 (x0 : (L Int)) (x1 : (L Int)) : Option ((Bool × Unit) × Unit) :=
  bif ((x0.len : Int) != (x1.len : Int)) then
    some ((false, ()), ())
  else
    (fixO s28_L0 ((x0, (x1, ((0 : Int), ()))), ())).bind fun d2 => match d2 with
    | .inl y1 =>
      some ((y1.1.1, ()), ())
    | .inr (.inl y1) =>
      some ((true, ()), ())
    | .inr (.inr e) => nomatch e
noncomputable def c28 : Ctr := { ins := [.v (.sl (.int .i64)), .v (.sl (.int .i64))], out := [.bool], F := fun x => g28 x.1 x.2.1 }
noncomputable def l28 : List (Nat × Code) := loopsIn (Tryz.f28.body.getD .skip) 0
theorem w28_L0 (x : h28_L0.T) : runK Tryz.prog Γ t28 (inlN Tryz.prog Γ t28 3) a28 (l28.getD 0 (0, .skip)).2 0 (pkSh h28_L0 x) (loopCls (sh := h28_L0) (es := e28_L0)) = (s28_L0 x : Option _) := by kernel_rfl
theorem v28 : LoopsOk Tryz.prog Γ t28 a28 (loopsIn (Tryz.f28.body.getD .skip) 0) := by
  have e : loopsIn (Tryz.f28.body.getD .skip) 0 = [(0, (l28.getD 0 (0, .skip)).2)] := by kernel_rfl
  rw [e]
  exact ⟨fun x d h => (w28_L0 x).trans h, trivial⟩
theorem r28 (x : InsT c28.ins) : fnK Tryz.prog Γ t28 a28 Tryz.f28 c28 x = g28 x.1 x.2.1 := by kernel_rfl
theorem k28 : TblOk Tryz.prog t28 := tblOk_nil
theorem o28 : Holds Tryz.prog 28 c28 := fn_holds (code := Tryz.f28.body.getD .skip) (by kernel_rfl) gamOk k28 Tryz.func28 (by kernel_rfl) (by kernel_rfl) (by kernel_rfl) (by kernel_rfl) v28 (fun x _ h => (r28 x).trans h)
/-! ### 58: loop.example/g00076/laws.eqChanRow -/
noncomputable def t58 : Tbl := []
noncomputable def a58 : Nat → Option LoopAnn := fun _ => none
noncomputable def g58 (x0 : Ta16) (x1 : Ta16) : Option ((Bool × Unit) × Unit) :=
  bif (x0.1 != x1.1) then
    some ((false, ()), ())
  else
    bif (x0.2.1 != x1.2.1) then
      some ((false, ()), ())
    else
      bif (x0.2.2.1 != x1.2.2.1) then
        some ((false, ()), ())
      else
        bif (x0.2.2.2.1 != x1.2.2.2.1) then
          some ((false, ()), ())
        else
          some ((true, ()), ())
noncomputable def f58 (x0 : Ta16) (x1 : Ta16) : Bool :=
  bif (x0.1 != x1.1) then
    false
  else
    bif (x0.2.1 != x1.2.1) then
      false
    else
      bif (x0.2.2.1 != x1.2.2.1) then
        false
      else
        bif (x0.2.2.2.1 != x1.2.2.2.1) then
          false
        else
          true
theorem n58 (x0 : Ta16) (x1 : Ta16) : g58 x0 x1 = some ((f58 x0 x1, ()), ()) := by
  simp only [g58, f58, pull1]
noncomputable def c58 : Ctr := { ins := [.v Ty71, .v Ty71], out := [.bool], F := fun x => some ((f58 x.1 x.2.1, ()), ()) }
theorem v58 : LoopsOk Tryz.prog Γ t58 a58 (loopsIn (Tryz.f58.body.getD .skip) 0) := loopsOk_nil (by kernel_rfl)
theorem r58 (x : InsT c58.ins) : fnK Tryz.prog Γ t58 a58 Tryz.f58 c58 x = g58 x.1 x.2.1 := by kernel_rfl
theorem k58 : TblOk Tryz.prog t58 := tblOk_nil
theorem o58 : Holds Tryz.prog 58 c58 := fn_holds (code := Tryz.f58.body.getD .skip) (by kernel_rfl) gamOk k58 Tryz.func58 (by kernel_rfl) (by kernel_rfl) (by kernel_rfl) (by kernel_rfl) v58 (fun x _ h => (r58 x).trans ((n58 x.1 x.2.1).trans h))
/-! ### 29: loop.example/g00076/laws.eqChanRowS -/
noncomputable def t29 : Tbl := [(58, [], c58)]
abbrev h29_L0 : Shape := { slots := [(0, .v Ty76), (1, .v Ty76), (5, .v (.int .i64))], boxes := [] }
abbrev e29_L0 : List (XT × Shape) := [(.ret, { slots := [(4, .v .bool)], boxes := [] }), (.exit 0, { slots := [], boxes := [] })]
noncomputable def q29_L0 (t0 : Ta22) (t1 : Ta22) (t5 : Int) : Option (Ta91 ⊕ (((Bool × Unit) × Unit) ⊕ ((Unit × Unit) ⊕ Empty))) :=
  bif (decide (t5 < (t0.len : Int))) then
    bif (decide (0 ≤ t5) && decide (t5 < (t0.len : Int))) then
      bif (decide (0 ≤ t5) && decide (t5 < (t1.len : Int))) then
        bif (!(f58 (L.get t0 t5.toNat) (L.get t1 t5.toNat))) then
          some (.inr (.inl ((false, ()), ())))
        else
          some (.inl ((t0, (t1, ((wI (t5 + (1 : Int))), ()))), ()))
      else
        none
    else
      none
  else
    some (.inr (.inr (.inl ((), ()))))
noncomputable def s29_L0 (x : Ta91) : Option (Ta91 ⊕ (((Bool × Unit) × Unit) ⊕ ((Unit × Unit) ⊕ Empty))) := q29_L0 x.1.1 x.1.2.1 x.1.2.2.1
noncomputable def a29 : Nat → Option LoopAnn := fun c => bif Nat.beq c 0 then some (.fix h29_L0 e29_L0 s29_L0) else none
noncomputable def g29 (x0 : Ta22) (x1 : Ta22) : Option ((Bool × Unit) × Unit) :=
  bif ((x0.len : Int) != (x1.len : Int)) then
    some ((false, ()), ())
  else
    (fixO s29_L0 ((x0, (x1, ((0 : Int), ()))), ())).bind fun d2 => match d2 with
    | .inl y1 =>
      some ((y1.1.1, ()), ())
    | .inr (.inl y1) =>
      some ((true, ()), ())
    | .inr (.inr e) => nomatch e
noncomputable def c29 : Ctr := { ins := [.v Ty76, .v Ty76], out := [.bool], F := fun x => g29 x.1 x.2.1 }
noncomputable def l29 : List (Nat × Code) := loopsIn (Tryz.f29.body.getD .skip) 0
theorem w29_L0 (x : h29_L0.T) : runK Tryz.prog Γ t29 (inlN Tryz.prog Γ t29 3) a29 (l29.getD 0 (0, .skip)).2 0 (pkSh h29_L0 x) (loopCls (sh := h29_L0) (es := e29_L0)) = (s29_L0 x : Option _) := by kernel_rfl
theorem v29 : LoopsOk Tryz.prog Γ t29 a29 (loopsIn (Tryz.f29.body.getD .skip) 0) := by
  have e : loopsIn (Tryz.f29.body.getD .skip) 0 = [(0, (l29.getD 0 (0, .skip)).2)] := by kernel_rfl
  rw [e]
  exact ⟨fun x d h => (w29_L0 x).trans h, trivial⟩
theorem r29 (x : InsT c29.ins) : fnK Tryz.prog Γ t29 a29 Tryz.f29 c29 x = g29 x.1 x.2.1 := by kernel_rfl
theorem k29 : TblOk Tryz.prog t29 := tblOk_cons o58 (tblOk_nil)
theorem o29 : Holds Tryz.prog 29 c29 := fn_holds (code := Tryz.f29.body.getD .skip) (by kernel_rfl) gamOk k29 Tryz.func29 (by kernel_rfl) (by kernel_rfl) (by kernel_rfl) (by kernel_rfl) v29 (fun x _ h => (r29 x).trans h)
/-! ### 59: loop.example/g00076/laws.eqSlot -/
noncomputable def t59 : Tbl := []
noncomputable def a59 : Nat → Option LoopAnn := fun _ => none
noncomputable def g59 (x0 : Ta5) (x1 : Ta5) : Option ((Bool × Unit) × Unit) :=
  bif (x0.1 != x1.1) then
    some ((false, ()), ())
  else
    bif (x0.2.1 != x1.2.1) then
      some ((false, ()), ())
    else
      bif (x0.2.2.1 != x1.2.2.1) then
        some ((false, ()), ())
      else
        some ((true, ()), ())
noncomputable def f59 (x0 : Ta5) (x1 : Ta5) : Bool :=
  bif (x0.1 != x1.1) then
    false
  else
    bif (x0.2.1 != x1.2.1) then
      false
    else
      bif (x0.2.2.1 != x1.2.2.1) then
        false
      else
        true
theorem n59 (x0 : Ta5) (x1 : Ta5) : g59 x0 x1 = some ((f59 x0 x1, ()), ()) := by
  simp only [g59, f59, pull1]
noncomputable def c59 : Ctr := { ins := [.v Ty50, .v Ty50], out := [.bool], F := fun x => some ((f59 x.1 x.2.1, ()), ()) }
theorem v59 : LoopsOk Tryz.prog Γ t59 a59 (loopsIn (Tryz.f59.body.getD .skip) 0) := loopsOk_nil (by kernel_rfl)
theorem r59 (x : InsT c59.ins) : fnK Tryz.prog Γ t59 a59 Tryz.f59 c59 x = g59 x.1 x.2.1 := by kernel_rfl
theorem k59 : TblOk Tryz.prog t59 := tblOk_nil
theorem o59 : Holds Tryz.prog 59 c59 := fn_holds (code := Tryz.f59.body.getD .skip) (by kernel_rfl) gamOk k59 Tryz.func59 (by kernel_rfl) (by kernel_rfl) (by kernel_rfl) (by kernel_rfl) v59 (fun x _ h => (r59 x).trans ((n59 x.1 x.2.1).trans h))
end Go.VE.VFnExactPrintConf
