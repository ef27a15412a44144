import Derived.Test.YtlgaidekljnpjaaGreatVeZ
import Derived.Test.YtlgaidekljnpjaaGreatProg
/- What the functions do that laws.FnExactPartOk reaches, as plain functions, and that they do it. -/
set_option linter.unusedVariables false
set_option linter.unusedSimpArgs false
namespace Go.VE.VFnExactPartOk
open Go.Proofs Go.VE
abbrev Ta0 : Type := (Int × ((L Int) × Unit))
abbrev Ta1 : Type := ((L Int) × (Int × Unit))
abbrev Ty2 : Ty := (.pair (.int .i64) .unit)
abbrev Ta3 : Type := (L (Int × (Bool × Unit)))
abbrev Ty4 : Ty := (.pair (.int .u32) .unit)
abbrev Ta5 : Type := (((L Int) × Unit) × Unit)
abbrev Ta6 : Type := (ByteArray × (Int × Unit))
abbrev Ta7 : Type := ((ByteArray × Unit) × Unit)
abbrev Ta8 : Type := (Int × (Int × (Int × Unit)))
abbrev Ta9 : Type := (Int × ((L (L Int)) × Unit))
abbrev Ta10 : Type := (L Ta0)
abbrev Ta11 : Type := ((L Int) × ((L Int) × Unit))
abbrev Ta12 : Type := ((L (L Int)) × (Int × Unit))
abbrev Ta13 : Type := (L Ta3)
abbrev Ta14 : Type := (Int × (Int × (Bool × Unit)))
abbrev Ta15 : Type := ((L ((L Int) × Unit)) × Unit)
abbrev Ta16 : Type := (Unit × (Int × (Int × Unit)))
abbrev Ta17 : Type := (Bool × (Bool × (Int × Unit)))
abbrev Ta18 : Type := (Unit × (Bool × (Int × Unit)))
abbrev Ta19 : Type := (Unit × (Unit × (Int × Unit)))
abbrev Ta20 : Type := (Int × (Unit × (Unit × Unit)))
abbrev Ty21 : Ty := (.pair (.sl (.int .u32)) .unit)
abbrev Ty22 : Ty := (.pair (.sl (.int .i64)) .unit)
abbrev Ta23 : Type := (Bool × (Bool × (Bool × Unit)))
abbrev Ta24 : Type := (L Ta8)
abbrev Ta25 : Type := (L Ta11)
abbrev Ta26 : Type := ((L Int) × (Int × (Int × Unit)))
abbrev Ta27 : Type := ((L Int) × (Unit × (Int × Unit)))
abbrev Ta28 : Type := (Ta0 × Unit)
abbrev Ta29 : Type := ((Unit × Unit) × ((L Int) × Unit))
abbrev Ta30 : Type := (Ta3 × Unit)
abbrev Ta31 : Type := (ByteArray × (Int × (Int × Unit)))
abbrev Ta32 : Type := (Ta6 × Unit)
abbrev Ta33 : Type := (Int × Ta8)
abbrev Ta34 : Type := ((L (L Int)) × (Int × (Int × Unit)))
abbrev Ty35 : Ty := (.pair (.sl (.sl (.int .u8))) .unit)
abbrev Ta36 : Type := ((L Int) × Ta1)
abbrev Ty37 : Ty := (.sl Ty21)
abbrev Ta38 : Type := (Int × Ta14)
abbrev Ta39 : Type := (Ta8 × Unit)
abbrev Ta40 : Type := ((L (L Int)) × (Unit × (Int × Unit)))
abbrev Ta41 : Type := (Ta10 × Unit)
abbrev Ta42 : Type := ((Int × Unit) × (Int × (Int × Unit)))
abbrev Ta43 : Type := ((L ((L Int) × Unit)) × (Int × Unit))
abbrev Ta44 : Type := (Ta13 × Unit)
abbrev Ta45 : Type := (Int × Ta17)
abbrev Ta46 : Type := (Int × Ta18)
abbrev Ta47 : Type := (Int × Ta19)
abbrev Ty48 : Ty := (.pair (.int .i64) (.pair .bool .unit))
abbrev Ty49 : Ty := (.pair .bool Ty4)
abbrev Ta50 : Type := (L Ta33)
abbrev Ta51 : Type := ((L Int) × Ta9)
abbrev Ta52 : Type := ((L Int) × Ta8)
abbrev Ta53 : Type := (Ta24 × Unit)
abbrev Ta54 : Type := (Ta25 × Unit)
abbrev Ta55 : Type := (Unit × Ta26)
abbrev Ta56 : Type := (Ta3 × (Int × Unit))
abbrev Ta57 : Type := (Ta31 × Unit)
abbrev Ta58 : Type := ((ByteArray × Unit) × (Int × (Int × Unit)))
abbrev Ta59 : Type := (Int × Ta33)
abbrev Ta60 : Type := ((L (L Int)) × Ta12)
abbrev Ty61 : Ty := (.pair (.int .i64) Ty2)
abbrev Ty62 : Ty := (.sl Ty48)
abbrev Ta63 : Type := (Ta34 × Unit)
abbrev Ta64 : Type := ((L ((L Int) × Unit)) × (Int × (Int × Unit)))
abbrev Ta65 : Type := (Int × Ta40)
abbrev Ta66 : Type := (Ta36 × Unit)
abbrev Ta67 : Type := (Ta10 × (Int × Unit))
abbrev Ta68 : Type := (Int × Ta45)
abbrev Ta69 : Type := (Ta39 × Unit)
abbrev Ta70 : Type := ((L ((L Int) × Unit)) × (Unit × (Int × Unit)))
abbrev Ta71 : Type := (Ta13 × (Int × Unit))
abbrev Ta72 : Type := (Ta50 × Unit)
abbrev Ta73 : Type := (Ta51 × Unit)
abbrev Ta74 : Type := (Ta24 × (Int × Unit))
abbrev Ta75 : Type := ((L Int) × Ta42)
abbrev Ta76 : Type := (Ta52 × Unit)
abbrev Ta77 : Type := (Ta25 × (Int × Unit))
abbrev Ta78 : Type := (Ta53 × Unit)
abbrev Ta79 : Type := (Ta3 × (Int × (Int × Unit)))
abbrev Ta80 : Type := (Int × Ta56)
abbrev Ty81 : Ty := (.pair (.int .i64) Ty21)
abbrev Ty82 : Ty := (.sl Ty62)
abbrev Ty83 : Ty := (.pair (.int .i64) Ty22)
abbrev Ta84 : Type := (Ta3 × (Unit × (Int × Unit)))
abbrev Ta85 : Type := (Int × Ta59)
abbrev Ta86 : Type := (Ta10 × (Int × (Int × Unit)))
abbrev Ty87 : Ty := (.pair .bool Ty49)
abbrev Ta88 : Type := (Ta60 × Unit)
abbrev Ta89 : Type := (Ta13 × (Int × (Int × Unit)))
abbrev Ta90 : Type := (Ta64 × Unit)
abbrev Ta91 : Type := (Int × Ta68)
abbrev Ta92 : Type := (Ta27 × ((L Int) × Unit))
abbrev Ta93 : Type := (Ta10 × (Unit × (Int × Unit)))
abbrev Ta94 : Type := (Ta13 × (Unit × (Int × Unit)))
abbrev Ty95 : Ty := (.pair (.int .u32) Ty35)
abbrev Ty96 : Ty := (.pair (.sl (.int .u32)) Ty21)
abbrev Ty97 : Ty := (.sl Ty81)
abbrev Ta98 : Type := (Ta25 × (Int × (Int × Unit)))
abbrev Ta99 : Type := (Ta24 × (Int × (Int × Unit)))
abbrev Ta100 : Type := (Ta50 × (Int × Unit))
abbrev Ta101 : Type := (Ta24 × (Unit × (Int × Unit)))
abbrev Ta102 : Type := (Ta25 × (Unit × (Int × Unit)))
abbrev Ta103 : Type := (Ta74 × Unit)
abbrev Ta104 : Type := (Int × Ta79)
abbrev Ta105 : Type := (Ta75 × Unit)
abbrev Ty106 : Ty := (.pair (.int .i64) Ty48)
abbrev Ta107 : Type := ((Unit × Unit) × Ta53)
abbrev Ta108 : Type := (Unit × Ta80)
abbrev Ta109 : Type := ((Unit × (Int × Unit)) × Ta28)
abbrev Ta110 : Type := (Int × Ta85)
abbrev Ta111 : Type := (Ta86 × Unit)
abbrev Ta112 : Type := (Int × Ta91)
abbrev Ta113 : Type := (Ta40 × ((L (L Int)) × Unit))
abbrev Ta114 : Type := (Ta39 × (Int × (Int × Unit)))
abbrev Ta115 : Type := ((L ((L Int) × Unit)) × Ta43)
abbrev Ta116 : Type := (Ta89 × Unit)
abbrev Ty117 : Ty := (.sl Ty96)
abbrev Ta118 : Type := (Unit × Ta89)
abbrev Ty119 : Ty := (.pair (.int .i64) Ty61)
abbrev Ty120 : Ty := (.pair Ty82 .unit)
abbrev Ta121 : Type := (Int × Ta99)
abbrev Ta122 : Type := (Ta50 × (Int × (Int × Unit)))
abbrev Ta123 : Type := ((Int × (Int × Unit)) × Ta53)
abbrev Ta124 : Type := (Ta98 × Unit)
abbrev Ta125 : Type := ((L ((L Int) × Unit)) × Ta54)
abbrev Ta126 : Type := (Ta50 × (Unit × (Int × Unit)))
abbrev Ta127 : Type := (Ta99 × Unit)
abbrev Ta128 : Type := (Unit × Ta99)
abbrev Ta129 : Type := (Int × Ta104)
abbrev Ta130 : Type := (Unit × Ta98)
abbrev Ta131 : Type := (Unit × Ta104)
abbrev Ta132 : Type := (Ta16 × Ta28)
abbrev Ta133 : Type := (Ta3 × Ta42)
abbrev Ta134 : Type := (Ta110 × Unit)
abbrev Ta135 : Type := (Ta8 × Ta39)
abbrev Ty136 : Ty := (.sl Ty119)
abbrev Ta137 : Type := (Ta8 × Ta44)
abbrev Ta138 : Type := (Bool × Ta112)
abbrev Ta139 : Type := (Ta115 × Unit)
abbrev Ta140 : Type := (Ta3 × Ta56)
abbrev Ty141 : Ty := (.pair (.int .u32) Ty87)
abbrev Ta142 : Type := (Int × Ta121)
abbrev Ta143 : Type := (Int × Ta122)
abbrev Ta144 : Type := ((L (L Int)) × Ta99)
abbrev Ta145 : Type := (Int × Ta123)
abbrev Ta146 : Type := (Ta50 × Ta16)
abbrev Ta147 : Type := (Ta24 × Ta42)
abbrev Ta148 : Type := (Unit × Ta121)
abbrev Ta149 : Type := (Unit × Ta122)
abbrev Ta150 : Type := (Int × Ta130)
abbrev Ta151 : Type := (Ta133 × Unit)
abbrev Ty152 : Ty := (.pair Ty117 .unit)
abbrev Ta153 : Type := (Ta10 × Ta67)
abbrev Ty154 : Ty := (.pair (.int .i64) Ty106)
abbrev Ta155 : Type := (Ta55 × Ta28)
abbrev Ta156 : Type := (Ta137 × Unit)
abbrev Ta157 : Type := (Ta70 × Ta15)
abbrev Ta158 : Type := (Ta13 × Ta71)
abbrev Ta159 : Type := (Ta140 × Unit)
abbrev Ty160 : Ty := (.pair (.sl (.int .u32)) Ty95)
abbrev Ta161 : Type := (Ta50 × Ta42)
abbrev Ta162 : Type := (Unit × Ta143)
abbrev Ta163 : Type := (Ta144 × Unit)
abbrev Ta164 : Type := (Ta147 × Unit)
abbrev Ta165 : Type := (Unit × Ta149)
abbrev Ty166 : Ty := (.pair Ty136 .unit)
abbrev Ty167 : Ty := (.pair (.int .i64) Ty119)
abbrev Ta168 : Type := (Ta50 × Ta53)
abbrev Ta169 : Type := (Ta24 × Ta74)
abbrev Ta170 : Type := (Ta25 × Ta77)
abbrev Ta171 : Type := (Ta153 × Unit)
abbrev Ta172 : Type := (ByteArray × Ta145)
abbrev Ta173 : Type := (Ta158 × Unit)
abbrev Ta174 : Type := (Ta84 × Ta30)
abbrev Ty175 : Ty := (.sl Ty167)
abbrev Ta176 : Type := (Ta161 × Unit)
abbrev Ta177 : Type := (Int × Ta165)
abbrev Ta178 : Type := (L Ta172)
abbrev Ty179 : Ty := (.pair (.int .u32) Ty141)
abbrev Ta180 : Type := (Ta24 × Ta99)
abbrev Ta181 : Type := ((Unit × (Int × Unit)) × Ta134)
abbrev Ta182 : Type := (Ta169 × Unit)
abbrev Ta183 : Type := (Ta170 × Unit)
abbrev Ta184 : Type := (Ta93 × Ta41)
abbrev Ta185 : Type := (Ta172 × Unit)
abbrev Ta186 : Type := ((L Int) × Ta168)
abbrev Ta187 : Type := (Ta94 × Ta44)
abbrev Ta188 : Type := (Ta10 × Ta125)
abbrev Ta189 : Type := (Ta24 × Ta114)
abbrev Ta190 : Type := (Ta13 × Ta129)
abbrev Ta191 : Type := (Ta178 × Unit)
abbrev Ta192 : Type := (Ta50 × Ta100)
abbrev Ta193 : Type := (Ta16 × Ta134)
abbrev Ta194 : Type := (Ta180 × Unit)
abbrev Ta195 : Type := (Ta101 × Ta53)
abbrev Ta196 : Type := (Ta102 × Ta54)
abbrev Ty197 : Ty := (.pair (.int .i64) Ty167)
abbrev Ta198 : Type := (Ta19 × Ta135)
abbrev Ta199 : Type := ((Unit × (Int × Unit)) × Ta156)
abbrev Ta200 : Type := (Ta189 × Unit)
abbrev Ta201 : Type := (Ta178 × (Int × Unit))
abbrev Ta202 : Type := (Ta192 × Unit)
abbrev Ta203 : Type := (Ta101 × Ta73)
abbrev Ty204 : Ty := (.pair (.int .u32) Ty179)
abbrev Ta205 : Type := ((L (L Int)) × Ta188)
abbrev Ta206 : Type := (Ta178 × (Int × (Int × Unit)))
abbrev Ta207 : Type := (Ta178 × (Unit × (Int × Unit)))
abbrev Ta208 : Type := (Ta126 × Ta72)
abbrev Ta209 : Type := (Ta128 × Ta73)
abbrev Ty210 : Ty := (.pair Ty37 Ty152)
abbrev Ta211 : Type := (Bool × Ta205)
abbrev Ty212 : Ty := (.pair (.int .i64) Ty197)
abbrev Ta213 : Type := (Ta206 × Unit)
abbrev Ta214 : Type := (Ta3 × Ta190)
abbrev Ta215 : Type := (Int × Ta211)
abbrev Ty216 : Ty := (.pair (.int .u32) Ty204)
abbrev Ty217 : Ty := (.pair Ty61 Ty166)
abbrev Ty218 : Ty := (.pair Ty119 Ty120)
abbrev Ta219 : Type := (Unit × Ta214)
abbrev Ta220 : Type := (Ta46 × Ta185)
abbrev Ta221 : Type := (Ta178 × Ta58)
abbrev Ta222 : Type := (Ta108 × Ta156)
abbrev Ty223 : Ty := (.pair (.int .i64) Ty212)
abbrev Ta224 : Type := (Ta178 × Ta74)
abbrev Ty225 : Ty := (.pair .bool Ty216)
abbrev Ta226 : Type := (Ta146 × Ta134)
abbrev Ta227 : Type := (Ta118 × Ta156)
abbrev Ta228 : Type := (Ta221 × Unit)
abbrev Ta229 : Type := (Ta131 × Ta156)
abbrev Ta230 : Type := (Ta24 × Ta206)
abbrev Ta231 : Type := (Ta224 × Unit)
abbrev Ta232 : Type := (Ta162 × Ta134)
abbrev Ty233 : Ty := (.pair (.int .i64) Ty217)
abbrev Ta234 : Type := (Ta0 × Ta215)
abbrev Ta235 : Type := (Unit × Ta230)
abbrev Ta236 : Type := (Ta178 × Ta142)
abbrev Ty237 : Ty := (.pair .str Ty233)
abbrev Ty238 : Ty := (.sl Ty237)
abbrev Ta239 : Type := (Unit × Ta236)
abbrev Ty240 : Ty := (.pair Ty175 Ty166)
abbrev Ty241 : Ty := (.pair Ty97 Ty210)
abbrev Ta242 : Type := (Ta178 × Ta186)
abbrev Ta243 : Type := (Int × Ta242)
abbrev Ta244 : Type := (Ta178 × Ta201)
abbrev Ta245 : Type := (Int × Ta243)
abbrev Ty246 : Ty := (.pair (.sl (.int .i64)) Ty240)
abbrev Ta247 : Type := (Ta244 × Unit)
abbrev Ta248 : Type := (Ta24 × Ta239)
abbrev Ta249 : Type := (Int × Ta245)
abbrev Ty250 : Ty := (.pair (.sl (.sl (.int .u8))) Ty241)
abbrev Ta251 : Type := (Ta207 × Ta191)
abbrev Ta252 : Type := (Ta219 × Ta156)
abbrev Ta253 : Type := (Unit × Ta248)
abbrev Ty254 : Ty := (.pair .bool Ty250)
abbrev Ta255 : Type := (Ta137 × Ta234)
abbrev Ty256 : Ty := (.pair (.int .i64) Ty254)
abbrev Ta257 : Type := (Ta38 × Ta255)
abbrev Ta258 : Type := (Ta110 × Ta249)
abbrev Ta259 : Type := (Int × Ta258)
abbrev Ty260 : Ty := (.pair Ty83 Ty256)
abbrev Ta261 : Type := (Ta8 × Ta259)
abbrev Ta262 : Type := (Int × Ta261)
abbrev Ta263 : Type := (Ta262 × Unit)
abbrev Ta264 : Type := (Ta138 × Ta257)
abbrev Ta265 : Type := ((Unit × Unit) × Ta263)
abbrev Ta266 : Type := ((Unit × (Int × Unit)) × Ta263)
abbrev Ta267 : Type := (Ta16 × Ta263)
abbrev Ta268 : Type := (Ta65 × Ta263)
abbrev Ty269 : Ty := (.pair Ty238 Ty246)
abbrev Ta270 : Type := (Ta51 × Ta264)
abbrev Ta271 : Type := (Ta270 × Unit)
abbrev Ty272 : Ty := (.pair (.int .i64) Ty269)
abbrev Ta273 : Type := (Ta148 × Ta263)
abbrev Ta274 : Type := (Ta150 × Ta263)
abbrev Ta275 : Type := (Ta262 × Ta185)
abbrev Ty276 : Ty := (.pair (.int .i64) Ty272)
abbrev Ty277 : Ty := (.pair (.int .i64) Ty276)
abbrev Ty278 : Ty := (.pair Ty218 Ty260)
abbrev Ta279 : Type := (Ta235 × Ta263)
abbrev Ty280 : Ty := (.pair Ty154 Ty278)
abbrev Ty281 : Ty := (.pair Ty223 Ty277)
abbrev Ty282 : Ty := (.pair (.int .i64) Ty281)
abbrev Ta283 : Type := (Ta253 × Ta275)
abbrev Ty284 : Ty := (.pair Ty119 Ty282)
abbrev Ty285 : Ty := (.pair Ty225 Ty280)
abbrev Ty286 : Ty := (.pair (.int .i64) Ty284)
abbrev Ta287 : Type := (Ta262 × Ta271)
abbrev Ta288 : Type := (Ta20 × Ta287)
abbrev Ta289 : Type := (Ta47 × Ta287)
abbrev Ty290 : Ty := (.pair Ty160 Ty285)
abbrev Ta291 : Type := (Ta177 × Ta287)
def Γ : TypeId → Option Ty := fun e => bif Nat.beq e 3 then some (.int .i64) else bif Nat.beq e 5 then some (.int .u8) else bif Nat.beq e 81 then some (.int .u32) else bif Nat.beq e 131 then some Ty119 else bif Nat.beq e 134 then some (.sl (.int .u8)) else bif Nat.beq e 167 then some Ty237 else bif Nat.beq e 188 then some Ty237 else bif Nat.beq e 191 then some Ty167 else bif Nat.beq e 193 then some Ty167 else bif Nat.beq e 195 then some Ty119 else bif Nat.beq e 208 then some Ty119 else bif Nat.beq e 215 then some Ty62 else bif Nat.beq e 216 then some Ty62 else bif Nat.beq e 218 then some Ty48 else bif Nat.beq e 226 then some Ty81 else bif Nat.beq e 229 then some Ty21 else bif Nat.beq e 232 then some Ty96 else bif Nat.beq e 235 then some Ty81 else bif Nat.beq e 237 then some Ty21 else bif Nat.beq e 239 then some Ty96 else bif Nat.beq e 269 then some Ty48 else bif Nat.beq e 275 then some Ty119 else none
theorem gamOk : GamOk Tryz.prog Γ := gamOk_of [3, 5, 81, 131, 134, 167, 188, 191, 193, 195, 208, 215, 216, 218, 226, 229, 232, 235, 237, 239, 269, 275] (fun e ty h => by
  simp only [Γ] at h
  cases h3 : Nat.beq e 3 with
  | true => simp [Nat.eq_of_beq_eq_true h3]
  | false =>
  simp only [h3, cond_false] at h
  cases h5 : Nat.beq e 5 with
  | true => simp [Nat.eq_of_beq_eq_true h5]
  | false =>
  simp only [h5, cond_false] at h
  cases h81 : Nat.beq e 81 with
  | true => simp [Nat.eq_of_beq_eq_true h81]
  | false =>
  simp only [h81, cond_false] at h
  cases h131 : Nat.beq e 131 with
  | true => simp [Nat.eq_of_beq_eq_true h131]
  | false =>
  simp only [h131, cond_false] at h
  cases h134 : Nat.beq e 134 with
  | true => simp [Nat.eq_of_beq_eq_true h134]
  | false =>
  simp only [h134, cond_false] at h
  cases h167 : Nat.beq e 167 with
  | true => simp [Nat.eq_of_beq_eq_true h167]
  | false =>
  simp only [h167, cond_false] at h
  cases h188 : Nat.beq e 188 with
  | true => simp [Nat.eq_of_beq_eq_true h188]
  | false =>
  simp only [h188, cond_false] at h
  cases h191 : Nat.beq e 191 with
  | true => simp [Nat.eq_of_beq_eq_true h191]
  | false =>
  simp only [h191, cond_false] at h
  cases h193 : Nat.beq e 193 with
  | true => simp [Nat.eq_of_beq_eq_true h193]
  | false =>
  simp only [h193, cond_false] at h
  cases h195 : Nat.beq e 195 with
  | true => simp [Nat.eq_of_beq_eq_true h195]
  | false =>
  simp only [h195, cond_false] at h
  cases h208 : Nat.beq e 208 with
  | true => simp [Nat.eq_of_beq_eq_true h208]
  | false =>
  simp only [h208, cond_false] at h
  cases h215 : Nat.beq e 215 with
  | true => simp [Nat.eq_of_beq_eq_true h215]
  | false =>
  simp only [h215, cond_false] at h
  cases h216 : Nat.beq e 216 with
  | true => simp [Nat.eq_of_beq_eq_true h216]
  | false =>
  simp only [h216, cond_false] at h
  cases h218 : Nat.beq e 218 with
  | true => simp [Nat.eq_of_beq_eq_true h218]
  | false =>
  simp only [h218, cond_false] at h
  cases h226 : Nat.beq e 226 with
  | true => simp [Nat.eq_of_beq_eq_true h226]
  | false =>
  simp only [h226, cond_false] at h
  cases h229 : Nat.beq e 229 with
  | true => simp [Nat.eq_of_beq_eq_true h229]
  | false =>
  simp only [h229, cond_false] at h
  cases h232 : Nat.beq e 232 with
  | true => simp [Nat.eq_of_beq_eq_true h232]
  | false =>
  simp only [h232, cond_false] at h
  cases h235 : Nat.beq e 235 with
  | true => simp [Nat.eq_of_beq_eq_true h235]
  | false =>
  simp only [h235, cond_false] at h
  cases h237 : Nat.beq e 237 with
  | true => simp [Nat.eq_of_beq_eq_true h237]
  | false =>
  simp only [h237, cond_false] at h
  cases h239 : Nat.beq e 239 with
  | true => simp [Nat.eq_of_beq_eq_true h239]
  | false =>
  simp only [h239, cond_false] at h
  cases h269 : Nat.beq e 269 with
  | true => simp [Nat.eq_of_beq_eq_true h269]
  | false =>
  simp only [h269, cond_false] at h
  cases h275 : Nat.beq e 275 with
  | true => simp [Nat.eq_of_beq_eq_true h275]
  | false =>
  simp only [h275, cond_false] at h
  cases h) (by kernel_rfl)
/-! ### 187: loop.example/g00076/laws.szWindowS -/
noncomputable def t187 : Tbl := []
noncomputable def a187 : Nat → Option LoopAnn := fun _ => none
noncomputable def g187 (x0 : Ta24) (x1 : Int) : Option ((Int × Unit) × Unit) :=
  bif (decide ((wI (x1 - (x0.len : Int))) < (0 : Int))) then
    some (((-1 : Int), ()), ())
  else
    some (((wI (x1 - (x0.len : Int))), ()), ())
noncomputable def f187 (x0 : Ta24) (x1 : Int) : Int :=
  bif (decide ((wI (x1 - (x0.len : Int))) < (0 : Int))) then
    (-1 : Int)
  else
    (wI (x1 - (x0.len : Int)))
theorem n187 (x0 : Ta24) (x1 : Int) : g187 x0 x1 = some ((f187 x0 x1, ()), ()) := by
  simp only [g187, f187, pull1]
noncomputable def c187 : Ctr := { ins := [.v Ty136, .v (.int .i64)], out := [(.int .i64)], F := fun x => some ((f187 x.1 x.2.1, ()), ()) }
theorem v187 : LoopsOk Tryz.prog Γ t187 a187 (loopsIn (Tryz.f187.body.getD .skip) 0) := loopsOk_nil (by kernel_rfl)
theorem r187 (x : InsT c187.ins) : fnK Tryz.prog Γ t187 a187 Tryz.f187 c187 x = g187 x.1 x.2.1 := by kernel_rfl
theorem k187 : TblOk Tryz.prog t187 := tblOk_nil
theorem o187 : Holds Tryz.prog 187 c187 := fn_holds (code := Tryz.f187.body.getD .skip) (by kernel_rfl) gamOk k187 Tryz.func187 (by kernel_rfl) (by kernel_rfl) (by kernel_rfl) (by kernel_rfl) v187 (fun x _ h => (r187 x).trans ((n187 x.1 x.2.1).trans h))
/-! ### 127: loop.example/g00076/laws.szPartRow -/
noncomputable def t127 : Tbl := [(187, [], c187)]
noncomputable def a127 : Nat → Option LoopAnn := fun _ => none
noncomputable def g127 (x0 : Ta172) (x1 : Int) : Option ((Int × Unit) × Unit) :=
  bif (decide ((wI (x1 - (x0.1.size : Int))) < (0 : Int))) then
    some (((-1 : Int), ()), ())
  else
    bif (decide ((f187 x0.2.2.2.1 (wI (x1 - (x0.1.size : Int)))) < (0 : Int))) then
      some (((-1 : Int), ()), ())
    else
      some (((f187 x0.2.2.2.1 (wI (x1 - (x0.1.size : Int)))), ()), ())
noncomputable def f127 (x0 : Ta172) (x1 : Int) : Int :=
  bif (decide ((wI (x1 - (x0.1.size : Int))) < (0 : Int))) then
    (-1 : Int)
  else
    bif (decide ((f187 x0.2.2.2.1 (wI (x1 - (x0.1.size : Int)))) < (0 : Int))) then
      (-1 : Int)
    else
      (f187 x0.2.2.2.1 (wI (x1 - (x0.1.size : Int))))
theorem n127 (x0 : Ta172) (x1 : Int) : g127 x0 x1 = some ((f127 x0 x1, ()), ()) := by
  simp only [g127, f127, pull1]
noncomputable def c127 : Ctr := { ins := [.v Ty237, .v (.int .i64)], out := [(.int .i64)], F := fun x => some ((f127 x.1 x.2.1, ()), ()) }
theorem v127 : LoopsOk Tryz.prog Γ t127 a127 (loopsIn (Tryz.f127.body.getD .skip) 0) := loopsOk_nil (by kernel_rfl)
theorem r127 (x : InsT c127.ins) : fnK Tryz.prog Γ t127 a127 Tryz.f127 c127 x = g127 x.1 x.2.1 := by kernel_rfl
theorem k127 : TblOk Tryz.prog t127 := tblOk_cons o187 (tblOk_nil)
theorem o127 : Holds Tryz.prog 127 c127 := fn_holds (code := Tryz.f127.body.getD .skip) (by kernel_rfl) gamOk k127 Tryz.func127 (by kernel_rfl) (by kernel_rfl) (by kernel_rfl) (by kernel_rfl) v127 (fun x _ h => (r127 x).trans ((n127 x.1 x.2.1).trans h))
/-! ### 52: loop.example/g00076/laws.szPartRowS -/
noncomputable def t52 : Tbl := [(127, [], c127)]
abbrev h52_L0 : Shape := { slots := [(0, .v Ty238), (1, .v (.int .i64)), (5, .v (.int .i64))], boxes := [] }
abbrev e52_L0 : List (XT × Shape) := [(.ret, { slots := [(4, .v (.int .i64))], boxes := [] }), (.exit 0, { slots := [(1, .v (.int .i64))], boxes := [] })]
noncomputable def q52_L0 (t0 : Ta178) (t1 : Int) (t5 : Int) : Option (Ta213 ⊕ (((Int × Unit) × Unit) ⊕ (((Int × Unit) × Unit) ⊕ Empty))) :=
  bif (decide (t5 < (t0.len : Int))) then
    bif (decide (0 ≤ t5) && decide (t5 < (t0.len : Int))) then
      bif (decide ((f127 (L.get t0 t5.toNat) t1) < (0 : Int))) then
        some (.inr (.inl (((-1 : Int), ()), ())))
      else
        some (.inl ((t0, ((f127 (L.get t0 t5.toNat) t1), ((wI (t5 + (1 : Int))), ()))), ()))
    else
      none
  else
    some (.inr (.inr (.inl ((t1, ()), ()))))
noncomputable def s52_L0 (x : Ta213) : Option (Ta213 ⊕ (((Int × Unit) × Unit) ⊕ (((Int × Unit) × Unit) ⊕ Empty))) := q52_L0 x.1.1 x.1.2.1 x.1.2.2.1
noncomputable def a52 : Nat → Option LoopAnn := fun c => bif Nat.beq c 0 then some (.fix h52_L0 e52_L0 s52_L0) else none
noncomputable def g52 (x0 : Ta178) (x1 : Int) : Option ((Int × Unit) × Unit) :=
  bif (decide ((wI (x1 - (x0.len : Int))) < (0 : Int))) then
    some (((-1 : Int), ()), ())
  else
    (fixO s52_L0 ((x0, ((wI (x1 - (x0.len : Int))), ((0 : Int), ()))), ())).bind fun d2 => match d2 with
    | .inl y1 =>
      some ((y1.1.1, ()), ())
    | .inr (.inl y1) =>
      some ((y1.1.1, ()), ())
    | .inr (.inr e) => nomatch e
noncomputable def c52 : Ctr := { ins := [.v Ty238, .v (.int .i64)], out := [(.int .i64)], F := fun x => g52 x.1 x.2.1 }
noncomputable def l52 : List (Nat × Code) := loopsIn (Tryz.f52.body.getD .skip) 0
theorem w52_L0 (x : h52_L0.T) : runK Tryz.prog Γ t52 a52 (l52.getD 0 (0, .skip)).2 0 (pkSh h52_L0 x) (loopCls (sh := h52_L0) (es := e52_L0)) = (s52_L0 x : Option _) := by kernel_rfl
theorem v52 : LoopsOk Tryz.prog Γ t52 a52 (loopsIn (Tryz.f52.body.getD .skip) 0) := by
  have e : loopsIn (Tryz.f52.body.getD .skip) 0 = [(0, (l52.getD 0 (0, .skip)).2)] := by kernel_rfl
  rw [e]
  exact ⟨fun x d h => (w52_L0 x).trans h, trivial⟩
theorem r52 (x : InsT c52.ins) : fnK Tryz.prog Γ t52 a52 Tryz.f52 c52 x = g52 x.1 x.2.1 := by kernel_rfl
theorem k52 : TblOk Tryz.prog t52 := tblOk_cons o127 (tblOk_nil)
theorem o52 : Holds Tryz.prog 52 c52 := fn_holds (code := Tryz.f52.body.getD .skip) (by kernel_rfl) gamOk k52 Tryz.func52 (by kernel_rfl) (by kernel_rfl) (by kernel_rfl) (by kernel_rfl) v52 (fun x _ h => (r52 x).trans h)
/-! ### 53: loop.example/g00076/laws.szIntS -/
noncomputable def t53 : Tbl := []
noncomputable def a53 : Nat → Option LoopAnn := fun _ => none
noncomputable def g53 (x0 : (L Int)) (x1 : Int) : Option ((Int × Unit) × Unit) :=
  bif (decide ((wI (x1 - (x0.len : Int))) < (0 : Int))) then
    some (((-1 : Int), ()), ())
  else
    some (((wI (x1 - (x0.len : Int))), ()), ())
noncomputable def f53 (x0 : (L Int)) (x1 : Int) : Int :=
  bif (decide ((wI (x1 - (x0.len : Int))) < (0 : Int))) then
    (-1 : Int)
  else
    (wI (x1 - (x0.len : Int)))
theorem n53 (x0 : (L Int)) (x1 : Int) : g53 x0 x1 = some ((f53 x0 x1, ()), ()) := by
  simp only [g53, f53, pull1]
noncomputable def c53 : Ctr := { ins := [.v (.sl (.int .i64)), .v (.int .i64)], out := [(.int .i64)], F := fun x => some ((f53 x.1 x.2.1, ()), ()) }
theorem v53 : LoopsOk Tryz.prog Γ t53 a53 (loopsIn (Tryz.f53.body.getD .skip) 0) := loopsOk_nil (by kernel_rfl)
theorem r53 (x : InsT c53.ins) : fnK Tryz.prog Γ t53 a53 Tryz.f53 c53 x = g53 x.1 x.2.1 := by kernel_rfl
theorem k53 : TblOk Tryz.prog t53 := tblOk_nil
theorem o53 : Holds Tryz.prog 53 c53 := fn_holds (code := Tryz.f53.body.getD .skip) (by kernel_rfl) gamOk k53 Tryz.func53 (by kernel_rfl) (by kernel_rfl) (by kernel_rfl) (by kernel_rfl) v53 (fun x _ h => (r53 x).trans ((n53 x.1 x.2.1).trans h))
/-! ### 54: loop.example/g00076/laws.szChanRowS -/
noncomputable def t54 : Tbl := []
noncomputable def a54 : Nat → Option LoopAnn := fun _ => none
noncomputable def g54 (x0 : Ta50) (x1 : Int) : Option ((Int × Unit) × Unit) :=
  bif (decide ((wI (x1 - (x0.len : Int))) < (0 : Int))) then
    some (((-1 : Int), ()), ())
  else
    some (((wI (x1 - (x0.len : Int))), ()), ())
noncomputable def f54 (x0 : Ta50) (x1 : Int) : Int :=
  bif (decide ((wI (x1 - (x0.len : Int))) < (0 : Int))) then
    (-1 : Int)
  else
    (wI (x1 - (x0.len : Int)))
theorem n54 (x0 : Ta50) (x1 : Int) : g54 x0 x1 = some ((f54 x0 x1, ()), ()) := by
  simp only [g54, f54, pull1]
noncomputable def c54 : Ctr := { ins := [.v Ty175, .v (.int .i64)], out := [(.int .i64)], F := fun x => some ((f54 x.1 x.2.1, ()), ()) }
theorem v54 : LoopsOk Tryz.prog Γ t54 a54 (loopsIn (Tryz.f54.body.getD .skip) 0) := loopsOk_nil (by kernel_rfl)
theorem r54 (x : InsT c54.ins) : fnK Tryz.prog Γ t54 a54 Tryz.f54 c54 x = g54 x.1 x.2.1 := by kernel_rfl
theorem k54 : TblOk Tryz.prog t54 := tblOk_nil
theorem o54 : Holds Tryz.prog 54 c54 := fn_holds (code := Tryz.f54.body.getD .skip) (by kernel_rfl) gamOk k54 Tryz.func54 (by kernel_rfl) (by kernel_rfl) (by kernel_rfl) (by kernel_rfl) v54 (fun x _ h => (r54 x).trans ((n54 x.1 x.2.1).trans h))
/-! ### 55: loop.example/g00076/laws.szSlotS -/
noncomputable def t55 : Tbl := []
noncomputable def a55 : Nat → Option LoopAnn := fun _ => none
noncomputable def g55 (x0 : Ta24) (x1 : Int) : Option ((Int × Unit) × Unit) :=
  bif (decide ((wI (x1 - (x0.len : Int))) < (0 : Int))) then
    some (((-1 : Int), ()), ())
  else
    some (((wI (x1 - (x0.len : Int))), ()), ())
noncomputable def f55 (x0 : Ta24) (x1 : Int) : Int :=
  bif (decide ((wI (x1 - (x0.len : Int))) < (0 : Int))) then
    (-1 : Int)
  else
    (wI (x1 - (x0.len : Int)))
theorem n55 (x0 : Ta24) (x1 : Int) : g55 x0 x1 = some ((f55 x0 x1, ()), ()) := by
  simp only [g55, f55, pull1]
noncomputable def c55 : Ctr := { ins := [.v Ty136, .v (.int .i64)], out := [(.int .i64)], F := fun x => some ((f55 x.1 x.2.1, ()), ()) }
theorem v55 : LoopsOk Tryz.prog Γ t55 a55 (loopsIn (Tryz.f55.body.getD .skip) 0) := loopsOk_nil (by kernel_rfl)
theorem r55 (x : InsT c55.ins) : fnK Tryz.prog Γ t55 a55 Tryz.f55 c55 x = g55 x.1 x.2.1 := by kernel_rfl
theorem k55 : TblOk Tryz.prog t55 := tblOk_nil
theorem o55 : Holds Tryz.prog 55 c55 := fn_holds (code := Tryz.f55.body.getD .skip) (by kernel_rfl) gamOk k55 Tryz.func55 (by kernel_rfl) (by kernel_rfl) (by kernel_rfl) (by kernel_rfl) v55 (fun x _ h => (r55 x).trans ((n55 x.1 x.2.1).trans h))
/-! ### 13: loop.example/g00076/laws.szTables -/
noncomputable def t13 : Tbl := [(52, [], c52), (53, [], c53), (54, [], c54), (55, [], c55)]
noncomputable def a13 : Nat → Option LoopAnn := fun _ => none
noncomputable def g13 (x0 : Ta262) (x1 : Int) : Option ((Int × Unit) × Unit) :=
  (g52 x0.2.2.2.2.2.2.2.1 x1).bind fun y1 =>
    bif (decide (y1.1.1 < (0 : Int))) then
      some (((-1 : Int), ()), ())
    else
      bif (decide ((f53 x0.2.2.2.2.2.2.2.2.1 y1.1.1) < (0 : Int))) then
        some (((-1 : Int), ()), ())
      else
        bif (decide ((f54 x0.2.2.2.2.2.2.2.2.2.1 (f53 x0.2.2.2.2.2.2.2.2.1 y1.1.1)) < (0 : Int))) then
          some (((-1 : Int), ()), ())
        else
          bif (decide ((f55 x0.2.2.2.2.2.2.2.2.2.2.1 (f54 x0.2.2.2.2.2.2.2.2.2.1 (f53 x0.2.2.2.2.2.2.2.2.1 y1.1.1))) < (0 : Int))) then
            some (((-1 : Int), ()), ())
          else
            some (((f55 x0.2.2.2.2.2.2.2.2.2.2.1 (f54 x0.2.2.2.2.2.2.2.2.2.1 (f53 x0.2.2.2.2.2.2.2.2.1 y1.1.1))), ()), ())
noncomputable def c13 : Ctr := { ins := [.v Ty286, .v (.int .i64)], out := [(.int .i64)], F := fun x => g13 x.1 x.2.1 }
theorem v13 : LoopsOk Tryz.prog Γ t13 a13 (loopsIn (Tryz.f13.body.getD .skip) 0) := loopsOk_nil (by kernel_rfl)
theorem r13 (x : InsT c13.ins) : fnK Tryz.prog Γ t13 a13 Tryz.f13 c13 x = g13 x.1 x.2.1 := by kernel_rfl
theorem k13 : TblOk Tryz.prog t13 := tblOk_cons o52 (tblOk_cons o53 (tblOk_cons o54 (tblOk_cons o55 (tblOk_nil))))
theorem o13 : Holds Tryz.prog 13 c13 := fn_holds (code := Tryz.f13.body.getD .skip) (by kernel_rfl) gamOk k13 Tryz.func13 (by kernel_rfl) (by kernel_rfl) (by kernel_rfl) (by kernel_rfl) v13 (fun x _ h => (r13 x).trans h)
/-! ### 156: loop.example/g00076/laws.szUint32S -/
noncomputable def t156 : Tbl := []
noncomputable def a156 : Nat → Option LoopAnn := fun _ => none
noncomputable def g156 (x0 : (L Int)) (x1 : Int) : Option ((Int × Unit) × Unit) :=
  bif (decide ((wI (x1 - (x0.len : Int))) < (0 : Int))) then
    some (((-1 : Int), ()), ())
  else
    some (((wI (x1 - (x0.len : Int))), ()), ())
noncomputable def f156 (x0 : (L Int)) (x1 : Int) : Int :=
  bif (decide ((wI (x1 - (x0.len : Int))) < (0 : Int))) then
    (-1 : Int)
  else
    (wI (x1 - (x0.len : Int)))
theorem n156 (x0 : (L Int)) (x1 : Int) : g156 x0 x1 = some ((f156 x0 x1, ()), ()) := by
  simp only [g156, f156, pull1]
noncomputable def c156 : Ctr := { ins := [.v (.sl (.int .u32)), .v (.int .i64)], out := [(.int .i64)], F := fun x => some ((f156 x.1 x.2.1, ()), ()) }
theorem v156 : LoopsOk Tryz.prog Γ t156 a156 (loopsIn (Tryz.f156.body.getD .skip) 0) := loopsOk_nil (by kernel_rfl)
theorem r156 (x : InsT c156.ins) : fnK Tryz.prog Γ t156 a156 Tryz.f156 c156 x = g156 x.1 x.2.1 := by kernel_rfl
theorem k156 : TblOk Tryz.prog t156 := tblOk_nil
theorem o156 : Holds Tryz.prog 156 c156 := fn_holds (code := Tryz.f156.body.getD .skip) (by kernel_rfl) gamOk k156 Tryz.func156 (by kernel_rfl) (by kernel_rfl) (by kernel_rfl) (by kernel_rfl) v156 (fun x _ h => (r156 x).trans ((n156 x.1 x.2.1).trans h))
/-! ### 78: loop.example/g00076/laws.szByteS -/
noncomputable def t78 : Tbl := []
noncomputable def a78 : Nat → Option LoopAnn := fun _ => none
noncomputable def g78 (x0 : (L Int)) (x1 : Int) : Option ((Int × Unit) × Unit) :=
  bif (decide ((wI (x1 - (x0.len : Int))) < (0 : Int))) then
    some (((-1 : Int), ()), ())
  else
    some (((wI (x1 - (x0.len : Int))), ()), ())
noncomputable def f78 (x0 : (L Int)) (x1 : Int) : Int :=
  bif (decide ((wI (x1 - (x0.len : Int))) < (0 : Int))) then
    (-1 : Int)
  else
    (wI (x1 - (x0.len : Int)))
theorem n78 (x0 : (L Int)) (x1 : Int) : g78 x0 x1 = some ((f78 x0 x1, ()), ()) := by
  simp only [g78, f78, pull1]
noncomputable def c78 : Ctr := { ins := [.v (.sl (.int .u8)), .v (.int .i64)], out := [(.int .i64)], F := fun x => some ((f78 x.1 x.2.1, ()), ()) }
theorem v78 : LoopsOk Tryz.prog Γ t78 a78 (loopsIn (Tryz.f78.body.getD .skip) 0) := loopsOk_nil (by kernel_rfl)
theorem r78 (x : InsT c78.ins) : fnK Tryz.prog Γ t78 a78 Tryz.f78 c78 x = g78 x.1 x.2.1 := by kernel_rfl
theorem k78 : TblOk Tryz.prog t78 := tblOk_nil
theorem o78 : Holds Tryz.prog 78 c78 := fn_holds (code := Tryz.f78.body.getD .skip) (by kernel_rfl) gamOk k78 Tryz.func78 (by kernel_rfl) (by kernel_rfl) (by kernel_rfl) (by kernel_rfl) v78 (fun x _ h => (r78 x).trans ((n78 x.1 x.2.1).trans h))
/-! ### 26: loop.example/g00076/laws.szByteSS -/
noncomputable def t26 : Tbl := [(78, [], c78)]
abbrev h26_L0 : Shape := { slots := [(0, .v (.sl (.sl (.int .u8)))), (1, .v (.int .i64)), (5, .v (.int .i64))], boxes := [] }
abbrev e26_L0 : List (XT × Shape) := [(.ret, { slots := [(4, .v (.int .i64))], boxes := [] }), (.exit 0, { slots := [(1, .v (.int .i64))], boxes := [] })]
noncomputable def q26_L0 (t0 : (L (L Int))) (t1 : Int) (t5 : Int) : Option (Ta63 ⊕ (((Int × Unit) × Unit) ⊕ (((Int × Unit) × Unit) ⊕ Empty))) :=
  bif (decide (t5 < (t0.len : Int))) then
    bif (decide (0 ≤ t5) && decide (t5 < (t0.len : Int))) then
      bif (decide ((f78 (L.get t0 t5.toNat) t1) < (0 : Int))) then
        some (.inr (.inl (((-1 : Int), ()), ())))
      else
        some (.inl ((t0, ((f78 (L.get t0 t5.toNat) t1), ((wI (t5 + (1 : Int))), ()))), ()))
    else
      none
  else
    some (.inr (.inr (.inl ((t1, ()), ()))))
noncomputable def s26_L0 (x : Ta63) : Option (Ta63 ⊕ (((Int × Unit) × Unit) ⊕ (((Int × Unit) × Unit) ⊕ Empty))) := q26_L0 x.1.1 x.1.2.1 x.1.2.2.1
noncomputable def a26 : Nat → Option LoopAnn := fun c => bif Nat.beq c 0 then some (.fix h26_L0 e26_L0 s26_L0) else none
noncomputable def g26 (x0 : (L (L Int))) (x1 : Int) : Option ((Int × Unit) × Unit) :=
  bif (decide ((wI (x1 - (x0.len : Int))) < (0 : Int))) then
    some (((-1 : Int), ()), ())
  else
    (fixO s26_L0 ((x0, ((wI (x1 - (x0.len : Int))), ((0 : Int), ()))), ())).bind fun d2 => match d2 with
    | .inl y1 =>
      some ((y1.1.1, ()), ())
    | .inr (.inl y1) =>
      some ((y1.1.1, ()), ())
    | .inr (.inr e) => nomatch e
noncomputable def c26 : Ctr := { ins := [.v (.sl (.sl (.int .u8))), .v (.int .i64)], out := [(.int .i64)], F := fun x => g26 x.1 x.2.1 }
noncomputable def l26 : List (Nat × Code) := loopsIn (Tryz.f26.body.getD .skip) 0
theorem w26_L0 (x : h26_L0.T) : runK Tryz.prog Γ t26 a26 (l26.getD 0 (0, .skip)).2 0 (pkSh h26_L0 x) (loopCls (sh := h26_L0) (es := e26_L0)) = (s26_L0 x : Option _) := by kernel_rfl
theorem v26 : LoopsOk Tryz.prog Γ t26 a26 (loopsIn (Tryz.f26.body.getD .skip) 0) := by
  have e : loopsIn (Tryz.f26.body.getD .skip) 0 = [(0, (l26.getD 0 (0, .skip)).2)] := by kernel_rfl
  rw [e]
  exact ⟨fun x d h => (w26_L0 x).trans h, trivial⟩
theorem r26 (x : InsT c26.ins) : fnK Tryz.prog Γ t26 a26 Tryz.f26 c26 x = g26 x.1 x.2.1 := by kernel_rfl
theorem k26 : TblOk Tryz.prog t26 := tblOk_cons o78 (tblOk_nil)
theorem o26 : Holds Tryz.prog 26 c26 := fn_holds (code := Tryz.f26.body.getD .skip) (by kernel_rfl) gamOk k26 Tryz.func26 (by kernel_rfl) (by kernel_rfl) (by kernel_rfl) (by kernel_rfl) v26 (fun x _ h => (r26 x).trans h)
/-! ### 103: loop.example/g00076/laws.szGuest -/
noncomputable def t103 : Tbl := [(156, [], c156), (26, [], c26)]
noncomputable def a103 : Nat → Option LoopAnn := fun _ => none
noncomputable def g103 (x0 : Ta51) (x1 : Int) : Option ((Int × Unit) × Unit) :=
  bif (decide ((f156 x0.1 x1) < (0 : Int))) then
    some (((-1 : Int), ()), ())
  else
    (g26 x0.2.2.1 (f156 x0.1 x1)).bind fun y1 =>
      bif (decide (y1.1.1 < (0 : Int))) then
        some (((-1 : Int), ()), ())
      else
        some ((y1.1.1, ()), ())
noncomputable def c103 : Ctr := { ins := [.v Ty160, .v (.int .i64)], out := [(.int .i64)], F := fun x => g103 x.1 x.2.1 }
theorem v103 : LoopsOk Tryz.prog Γ t103 a103 (loopsIn (Tryz.f103.body.getD .skip) 0) := loopsOk_nil (by kernel_rfl)
theorem r103 (x : InsT c103.ins) : fnK Tryz.prog Γ t103 a103 Tryz.f103 c103 x = g103 x.1 x.2.1 := by kernel_rfl
theorem k103 : TblOk Tryz.prog t103 := tblOk_cons o156 (tblOk_cons o26 (tblOk_nil))
theorem o103 : Holds Tryz.prog 103 c103 := fn_holds (code := Tryz.f103.body.getD .skip) (by kernel_rfl) gamOk k103 Tryz.func103 (by kernel_rfl) (by kernel_rfl) (by kernel_rfl) (by kernel_rfl) v103 (fun x _ h => (r103 x).trans h)
/-! ### 161: loop.example/g00076/laws.szWayS -/
noncomputable def t161 : Tbl := []
noncomputable def a161 : Nat → Option LoopAnn := fun _ => none
noncomputable def g161 (x0 : Ta3) (x1 : Int) : Option ((Int × Unit) × Unit) :=
  bif (decide ((wI (x1 - (x0.len : Int))) < (0 : Int))) then
    some (((-1 : Int), ()), ())
  else
    some (((wI (x1 - (x0.len : Int))), ()), ())
noncomputable def f161 (x0 : Ta3) (x1 : Int) : Int :=
  bif (decide ((wI (x1 - (x0.len : Int))) < (0 : Int))) then
    (-1 : Int)
  else
    (wI (x1 - (x0.len : Int)))
theorem n161 (x0 : Ta3) (x1 : Int) : g161 x0 x1 = some ((f161 x0 x1, ()), ()) := by
  simp only [g161, f161, pull1]
noncomputable def c161 : Ctr := { ins := [.v Ty62, .v (.int .i64)], out := [(.int .i64)], F := fun x => some ((f161 x.1 x.2.1, ()), ()) }
theorem v161 : LoopsOk Tryz.prog Γ t161 a161 (loopsIn (Tryz.f161.body.getD .skip) 0) := loopsOk_nil (by kernel_rfl)
theorem r161 (x : InsT c161.ins) : fnK Tryz.prog Γ t161 a161 Tryz.f161 c161 x = g161 x.1 x.2.1 := by kernel_rfl
theorem k161 : TblOk Tryz.prog t161 := tblOk_nil
theorem o161 : Holds Tryz.prog 161 c161 := fn_holds (code := Tryz.f161.body.getD .skip) (by kernel_rfl) gamOk k161 Tryz.func161 (by kernel_rfl) (by kernel_rfl) (by kernel_rfl) (by kernel_rfl) v161 (fun x _ h => (r161 x).trans ((n161 x.1 x.2.1).trans h))
/-! ### 94: loop.example/g00076/laws.szWaySS -/
noncomputable def t94 : Tbl := [(161, [], c161)]
abbrev h94_L0 : Shape := { slots := [(0, .v Ty82), (1, .v (.int .i64)), (5, .v (.int .i64))], boxes := [] }
abbrev e94_L0 : List (XT × Shape) := [(.ret, { slots := [(4, .v (.int .i64))], boxes := [] }), (.exit 0, { slots := [(1, .v (.int .i64))], boxes := [] })]
noncomputable def q94_L0 (t0 : Ta13) (t1 : Int) (t5 : Int) : Option (Ta116 ⊕ (((Int × Unit) × Unit) ⊕ (((Int × Unit) × Unit) ⊕ Empty))) :=
  bif (decide (t5 < (t0.len : Int))) then
    bif (decide (0 ≤ t5) && decide (t5 < (t0.len : Int))) then
      bif (decide ((f161 (L.get t0 t5.toNat) t1) < (0 : Int))) then
        some (.inr (.inl (((-1 : Int), ()), ())))
      else
        some (.inl ((t0, ((f161 (L.get t0 t5.toNat) t1), ((wI (t5 + (1 : Int))), ()))), ()))
    else
      none
  else
    some (.inr (.inr (.inl ((t1, ()), ()))))
noncomputable def s94_L0 (x : Ta116) : Option (Ta116 ⊕ (((Int × Unit) × Unit) ⊕ (((Int × Unit) × Unit) ⊕ Empty))) := q94_L0 x.1.1 x.1.2.1 x.1.2.2.1
noncomputable def a94 : Nat → Option LoopAnn := fun c => bif Nat.beq c 0 then some (.fix h94_L0 e94_L0 s94_L0) else none
noncomputable def g94 (x0 : Ta13) (x1 : Int) : Option ((Int × Unit) × Unit) :=
  bif (decide ((wI (x1 - (x0.len : Int))) < (0 : Int))) then
    some (((-1 : Int), ()), ())
  else
    (fixO s94_L0 ((x0, ((wI (x1 - (x0.len : Int))), ((0 : Int), ()))), ())).bind fun d2 => match d2 with
    | .inl y1 =>
      some ((y1.1.1, ()), ())
    | .inr (.inl y1) =>
      some ((y1.1.1, ()), ())
    | .inr (.inr e) => nomatch e
noncomputable def c94 : Ctr := { ins := [.v Ty82, .v (.int .i64)], out := [(.int .i64)], F := fun x => g94 x.1 x.2.1 }
noncomputable def l94 : List (Nat × Code) := loopsIn (Tryz.f94.body.getD .skip) 0
theorem w94_L0 (x : h94_L0.T) : runK Tryz.prog Γ t94 a94 (l94.getD 0 (0, .skip)).2 0 (pkSh h94_L0 x) (loopCls (sh := h94_L0) (es := e94_L0)) = (s94_L0 x : Option _) := by kernel_rfl
theorem v94 : LoopsOk Tryz.prog Γ t94 a94 (loopsIn (Tryz.f94.body.getD .skip) 0) := by
  have e : loopsIn (Tryz.f94.body.getD .skip) 0 = [(0, (l94.getD 0 (0, .skip)).2)] := by kernel_rfl
  rw [e]
  exact ⟨fun x d h => (w94_L0 x).trans h, trivial⟩
theorem r94 (x : InsT c94.ins) : fnK Tryz.prog Γ t94 a94 Tryz.f94 c94 x = g94 x.1 x.2.1 := by kernel_rfl
theorem k94 : TblOk Tryz.prog t94 := tblOk_cons o161 (tblOk_nil)
theorem o94 : Holds Tryz.prog 94 c94 := fn_holds (code := Tryz.f94.body.getD .skip) (by kernel_rfl) gamOk k94 Tryz.func94 (by kernel_rfl) (by kernel_rfl) (by kernel_rfl) (by kernel_rfl) v94 (fun x _ h => (r94 x).trans h)
/-! ### 41: loop.example/g00076/laws.szCache -/
noncomputable def t41 : Tbl := [(94, [], c94)]
noncomputable def a41 : Nat → Option LoopAnn := fun _ => none
noncomputable def g41 (x0 : Ta137) (x1 : Int) : Option ((Int × Unit) × Unit) :=
  (g94 x0.2.1 x1).bind fun y1 =>
    bif (decide (y1.1.1 < (0 : Int))) then
      some (((-1 : Int), ()), ())
    else
      some ((y1.1.1, ()), ())
noncomputable def c41 : Ctr := { ins := [.v Ty218, .v (.int .i64)], out := [(.int .i64)], F := fun x => g41 x.1 x.2.1 }
theorem v41 : LoopsOk Tryz.prog Γ t41 a41 (loopsIn (Tryz.f41.body.getD .skip) 0) := loopsOk_nil (by kernel_rfl)
theorem r41 (x : InsT c41.ins) : fnK Tryz.prog Γ t41 a41 Tryz.f41 c41 x = g41 x.1 x.2.1 := by kernel_rfl
theorem k41 : TblOk Tryz.prog t41 := tblOk_cons o94 (tblOk_nil)
theorem o41 : Holds Tryz.prog 41 c41 := fn_holds (code := Tryz.f41.body.getD .skip) (by kernel_rfl) gamOk k41 Tryz.func41 (by kernel_rfl) (by kernel_rfl) (by kernel_rfl) (by kernel_rfl) v41 (fun x _ h => (r41 x).trans h)
/-! ### 104: loop.example/g00076/laws.szTlb -/
noncomputable def t104 : Tbl := [(53, [], c53)]
noncomputable def a104 : Nat → Option LoopAnn := fun _ => none
noncomputable def g104 (x0 : Ta0) (x1 : Int) : Option ((Int × Unit) × Unit) :=
  bif (decide ((f53 x0.2.1 x1) < (0 : Int))) then
    some (((-1 : Int), ()), ())
  else
    some (((f53 x0.2.1 x1), ()), ())
noncomputable def f104 (x0 : Ta0) (x1 : Int) : Int :=
  bif (decide ((f53 x0.2.1 x1) < (0 : Int))) then
    (-1 : Int)
  else
    (f53 x0.2.1 x1)
theorem n104 (x0 : Ta0) (x1 : Int) : g104 x0 x1 = some ((f104 x0 x1, ()), ()) := by
  simp only [g104, f104, pull1]
noncomputable def c104 : Ctr := { ins := [.v Ty83, .v (.int .i64)], out := [(.int .i64)], F := fun x => some ((f104 x.1 x.2.1, ()), ()) }
theorem v104 : LoopsOk Tryz.prog Γ t104 a104 (loopsIn (Tryz.f104.body.getD .skip) 0) := loopsOk_nil (by kernel_rfl)
theorem r104 (x : InsT c104.ins) : fnK Tryz.prog Γ t104 a104 Tryz.f104 c104 x = g104 x.1 x.2.1 := by kernel_rfl
theorem k104 : TblOk Tryz.prog t104 := tblOk_cons o53 (tblOk_nil)
theorem o104 : Holds Tryz.prog 104 c104 := fn_holds (code := Tryz.f104.body.getD .skip) (by kernel_rfl) gamOk k104 Tryz.func104 (by kernel_rfl) (by kernel_rfl) (by kernel_rfl) (by kernel_rfl) v104 (fun x _ h => (r104 x).trans ((n104 x.1 x.2.1).trans h))
/-! ### 170: loop.example/g00076/laws.szOutEnd -/
noncomputable def t170 : Tbl := [(156, [], c156)]
noncomputable def a170 : Nat → Option LoopAnn := fun _ => none
noncomputable def g170 (x0 : Ta0) (x1 : Int) : Option ((Int × Unit) × Unit) :=
  bif (decide ((f156 x0.2.1 x1) < (0 : Int))) then
    some (((-1 : Int), ()), ())
  else
    some (((f156 x0.2.1 x1), ()), ())
noncomputable def f170 (x0 : Ta0) (x1 : Int) : Int :=
  bif (decide ((f156 x0.2.1 x1) < (0 : Int))) then
    (-1 : Int)
  else
    (f156 x0.2.1 x1)
theorem n170 (x0 : Ta0) (x1 : Int) : g170 x0 x1 = some ((f170 x0 x1, ()), ()) := by
  simp only [g170, f170, pull1]
noncomputable def c170 : Ctr := { ins := [.v Ty81, .v (.int .i64)], out := [(.int .i64)], F := fun x => some ((f170 x.1 x.2.1, ()), ()) }
theorem v170 : LoopsOk Tryz.prog Γ t170 a170 (loopsIn (Tryz.f170.body.getD .skip) 0) := loopsOk_nil (by kernel_rfl)
theorem r170 (x : InsT c170.ins) : fnK Tryz.prog Γ t170 a170 Tryz.f170 c170 x = g170 x.1 x.2.1 := by kernel_rfl
theorem k170 : TblOk Tryz.prog t170 := tblOk_cons o156 (tblOk_nil)
theorem o170 : Holds Tryz.prog 170 c170 := fn_holds (code := Tryz.f170.body.getD .skip) (by kernel_rfl) gamOk k170 Tryz.func170 (by kernel_rfl) (by kernel_rfl) (by kernel_rfl) (by kernel_rfl) v170 (fun x _ h => (r170 x).trans ((n170 x.1 x.2.1).trans h))
/-! ### 105: loop.example/g00076/laws.szOutEndS -/
noncomputable def t105 : Tbl := [(170, [], c170)]
abbrev h105_L0 : Shape := { slots := [(0, .v Ty97), (1, .v (.int .i64)), (5, .v (.int .i64))], boxes := [] }
abbrev e105_L0 : List (XT × Shape) := [(.ret, { slots := [(4, .v (.int .i64))], boxes := [] }), (.exit 0, { slots := [(1, .v (.int .i64))], boxes := [] })]
noncomputable def q105_L0 (t0 : Ta10) (t1 : Int) (t5 : Int) : Option (Ta111 ⊕ (((Int × Unit) × Unit) ⊕ (((Int × Unit) × Unit) ⊕ Empty))) :=
  bif (decide (t5 < (t0.len : Int))) then
    bif (decide (0 ≤ t5) && decide (t5 < (t0.len : Int))) then
      bif (decide ((f170 (L.get t0 t5.toNat) t1) < (0 : Int))) then
        some (.inr (.inl (((-1 : Int), ()), ())))
      else
        some (.inl ((t0, ((f170 (L.get t0 t5.toNat) t1), ((wI (t5 + (1 : Int))), ()))), ()))
    else
      none
  else
    some (.inr (.inr (.inl ((t1, ()), ()))))
noncomputable def s105_L0 (x : Ta111) : Option (Ta111 ⊕ (((Int × Unit) × Unit) ⊕ (((Int × Unit) × Unit) ⊕ Empty))) := q105_L0 x.1.1 x.1.2.1 x.1.2.2.1
noncomputable def a105 : Nat → Option LoopAnn := fun c => bif Nat.beq c 0 then some (.fix h105_L0 e105_L0 s105_L0) else none
noncomputable def g105 (x0 : Ta10) (x1 : Int) : Option ((Int × Unit) × Unit) :=
  bif (decide ((wI (x1 - (x0.len : Int))) < (0 : Int))) then
    some (((-1 : Int), ()), ())
  else
    (fixO s105_L0 ((x0, ((wI (x1 - (x0.len : Int))), ((0 : Int), ()))), ())).bind fun d2 => match d2 with
    | .inl y1 =>
      some ((y1.1.1, ()), ())
    | .inr (.inl y1) =>
      some ((y1.1.1, ()), ())
    | .inr (.inr e) => nomatch e
noncomputable def c105 : Ctr := { ins := [.v Ty97, .v (.int .i64)], out := [(.int .i64)], F := fun x => g105 x.1 x.2.1 }
noncomputable def l105 : List (Nat × Code) := loopsIn (Tryz.f105.body.getD .skip) 0
theorem w105_L0 (x : h105_L0.T) : runK Tryz.prog Γ t105 a105 (l105.getD 0 (0, .skip)).2 0 (pkSh h105_L0 x) (loopCls (sh := h105_L0) (es := e105_L0)) = (s105_L0 x : Option _) := by kernel_rfl
theorem v105 : LoopsOk Tryz.prog Γ t105 a105 (loopsIn (Tryz.f105.body.getD .skip) 0) := by
  have e : loopsIn (Tryz.f105.body.getD .skip) 0 = [(0, (l105.getD 0 (0, .skip)).2)] := by kernel_rfl
  rw [e]
  exact ⟨fun x d h => (w105_L0 x).trans h, trivial⟩
theorem r105 (x : InsT c105.ins) : fnK Tryz.prog Γ t105 a105 Tryz.f105 c105 x = g105 x.1 x.2.1 := by kernel_rfl
theorem k105 : TblOk Tryz.prog t105 := tblOk_cons o170 (tblOk_nil)
theorem o105 : Holds Tryz.prog 105 c105 := fn_holds (code := Tryz.f105.body.getD .skip) (by kernel_rfl) gamOk k105 Tryz.func105 (by kernel_rfl) (by kernel_rfl) (by kernel_rfl) (by kernel_rfl) v105 (fun x _ h => (r105 x).trans h)
/-! ### 171: loop.example/g00076/laws.szInEnd -/
noncomputable def t171 : Tbl := [(156, [], c156)]
noncomputable def a171 : Nat → Option LoopAnn := fun _ => none
noncomputable def g171 (x0 : ((L Int) × Unit)) (x1 : Int) : Option ((Int × Unit) × Unit) :=
  bif (decide ((f156 x0.1 x1) < (0 : Int))) then
    some (((-1 : Int), ()), ())
  else
    some (((f156 x0.1 x1), ()), ())
noncomputable def f171 (x0 : ((L Int) × Unit)) (x1 : Int) : Int :=
  bif (decide ((f156 x0.1 x1) < (0 : Int))) then
    (-1 : Int)
  else
    (f156 x0.1 x1)
theorem n171 (x0 : ((L Int) × Unit)) (x1 : Int) : g171 x0 x1 = some ((f171 x0 x1, ()), ()) := by
  simp only [g171, f171, pull1]
noncomputable def c171 : Ctr := { ins := [.v Ty21, .v (.int .i64)], out := [(.int .i64)], F := fun x => some ((f171 x.1 x.2.1, ()), ()) }
theorem v171 : LoopsOk Tryz.prog Γ t171 a171 (loopsIn (Tryz.f171.body.getD .skip) 0) := loopsOk_nil (by kernel_rfl)
theorem r171 (x : InsT c171.ins) : fnK Tryz.prog Γ t171 a171 Tryz.f171 c171 x = g171 x.1 x.2.1 := by kernel_rfl
theorem k171 : TblOk Tryz.prog t171 := tblOk_cons o156 (tblOk_nil)
theorem o171 : Holds Tryz.prog 171 c171 := fn_holds (code := Tryz.f171.body.getD .skip) (by kernel_rfl) gamOk k171 Tryz.func171 (by kernel_rfl) (by kernel_rfl) (by kernel_rfl) (by kernel_rfl) v171 (fun x _ h => (r171 x).trans ((n171 x.1 x.2.1).trans h))
/-! ### 106: loop.example/g00076/laws.szInEndS -/
noncomputable def t106 : Tbl := [(171, [], c171)]
abbrev h106_L0 : Shape := { slots := [(0, .v Ty37), (1, .v (.int .i64)), (5, .v (.int .i64))], boxes := [] }
abbrev e106_L0 : List (XT × Shape) := [(.ret, { slots := [(4, .v (.int .i64))], boxes := [] }), (.exit 0, { slots := [(1, .v (.int .i64))], boxes := [] })]
noncomputable def q106_L0 (t0 : (L ((L Int) × Unit))) (t1 : Int) (t5 : Int) : Option (Ta90 ⊕ (((Int × Unit) × Unit) ⊕ (((Int × Unit) × Unit) ⊕ Empty))) :=
  bif (decide (t5 < (t0.len : Int))) then
    bif (decide (0 ≤ t5) && decide (t5 < (t0.len : Int))) then
      bif (decide ((f171 (L.get t0 t5.toNat) t1) < (0 : Int))) then
        some (.inr (.inl (((-1 : Int), ()), ())))
      else
        some (.inl ((t0, ((f171 (L.get t0 t5.toNat) t1), ((wI (t5 + (1 : Int))), ()))), ()))
    else
      none
  else
    some (.inr (.inr (.inl ((t1, ()), ()))))
noncomputable def s106_L0 (x : Ta90) : Option (Ta90 ⊕ (((Int × Unit) × Unit) ⊕ (((Int × Unit) × Unit) ⊕ Empty))) := q106_L0 x.1.1 x.1.2.1 x.1.2.2.1
noncomputable def a106 : Nat → Option LoopAnn := fun c => bif Nat.beq c 0 then some (.fix h106_L0 e106_L0 s106_L0) else none
noncomputable def g106 (x0 : (L ((L Int) × Unit))) (x1 : Int) : Option ((Int × Unit) × Unit) :=
  bif (decide ((wI (x1 - (x0.len : Int))) < (0 : Int))) then
    some (((-1 : Int), ()), ())
  else
    (fixO s106_L0 ((x0, ((wI (x1 - (x0.len : Int))), ((0 : Int), ()))), ())).bind fun d2 => match d2 with
    | .inl y1 =>
      some ((y1.1.1, ()), ())
    | .inr (.inl y1) =>
      some ((y1.1.1, ()), ())
    | .inr (.inr e) => nomatch e
noncomputable def c106 : Ctr := { ins := [.v Ty37, .v (.int .i64)], out := [(.int .i64)], F := fun x => g106 x.1 x.2.1 }
noncomputable def l106 : List (Nat × Code) := loopsIn (Tryz.f106.body.getD .skip) 0
theorem w106_L0 (x : h106_L0.T) : runK Tryz.prog Γ t106 a106 (l106.getD 0 (0, .skip)).2 0 (pkSh h106_L0 x) (loopCls (sh := h106_L0) (es := e106_L0)) = (s106_L0 x : Option _) := by kernel_rfl
theorem v106 : LoopsOk Tryz.prog Γ t106 a106 (loopsIn (Tryz.f106.body.getD .skip) 0) := by
  have e : loopsIn (Tryz.f106.body.getD .skip) 0 = [(0, (l106.getD 0 (0, .skip)).2)] := by kernel_rfl
  rw [e]
  exact ⟨fun x d h => (w106_L0 x).trans h, trivial⟩
theorem r106 (x : InsT c106.ins) : fnK Tryz.prog Γ t106 a106 Tryz.f106 c106 x = g106 x.1 x.2.1 := by kernel_rfl
theorem k106 : TblOk Tryz.prog t106 := tblOk_cons o171 (tblOk_nil)
theorem o106 : Holds Tryz.prog 106 c106 := fn_holds (code := Tryz.f106.body.getD .skip) (by kernel_rfl) gamOk k106 Tryz.func106 (by kernel_rfl) (by kernel_rfl) (by kernel_rfl) (by kernel_rfl) v106 (fun x _ h => (r106 x).trans h)
/-! ### 172: loop.example/g00076/laws.szDevState -/
noncomputable def t172 : Tbl := [(156, [], c156)]
noncomputable def a172 : Nat → Option LoopAnn := fun _ => none
noncomputable def g172 (x0 : Ta11) (x1 : Int) : Option ((Int × Unit) × Unit) :=
  bif (decide ((f156 x0.1 x1) < (0 : Int))) then
    some (((-1 : Int), ()), ())
  else
    bif (decide ((f156 x0.2.1 (f156 x0.1 x1)) < (0 : Int))) then
      some (((-1 : Int), ()), ())
    else
      some (((f156 x0.2.1 (f156 x0.1 x1)), ()), ())
noncomputable def f172 (x0 : Ta11) (x1 : Int) : Int :=
  bif (decide ((f156 x0.1 x1) < (0 : Int))) then
    (-1 : Int)
  else
    bif (decide ((f156 x0.2.1 (f156 x0.1 x1)) < (0 : Int))) then
      (-1 : Int)
    else
      (f156 x0.2.1 (f156 x0.1 x1))
theorem n172 (x0 : Ta11) (x1 : Int) : g172 x0 x1 = some ((f172 x0 x1, ()), ()) := by
  simp only [g172, f172, pull1]
noncomputable def c172 : Ctr := { ins := [.v Ty96, .v (.int .i64)], out := [(.int .i64)], F := fun x => some ((f172 x.1 x.2.1, ()), ()) }
theorem v172 : LoopsOk Tryz.prog Γ t172 a172 (loopsIn (Tryz.f172.body.getD .skip) 0) := loopsOk_nil (by kernel_rfl)
theorem r172 (x : InsT c172.ins) : fnK Tryz.prog Γ t172 a172 Tryz.f172 c172 x = g172 x.1 x.2.1 := by kernel_rfl
theorem k172 : TblOk Tryz.prog t172 := tblOk_cons o156 (tblOk_nil)
theorem o172 : Holds Tryz.prog 172 c172 := fn_holds (code := Tryz.f172.body.getD .skip) (by kernel_rfl) gamOk k172 Tryz.func172 (by kernel_rfl) (by kernel_rfl) (by kernel_rfl) (by kernel_rfl) v172 (fun x _ h => (r172 x).trans ((n172 x.1 x.2.1).trans h))
/-! ### 107: loop.example/g00076/laws.szDevStateS -/
noncomputable def t107 : Tbl := [(172, [], c172)]
abbrev h107_L0 : Shape := { slots := [(0, .v Ty117), (1, .v (.int .i64)), (5, .v (.int .i64))], boxes := [] }
abbrev e107_L0 : List (XT × Shape) := [(.ret, { slots := [(4, .v (.int .i64))], boxes := [] }), (.exit 0, { slots := [(1, .v (.int .i64))], boxes := [] })]
noncomputable def q107_L0 (t0 : Ta25) (t1 : Int) (t5 : Int) : Option (Ta124 ⊕ (((Int × Unit) × Unit) ⊕ (((Int × Unit) × Unit) ⊕ Empty))) :=
  bif (decide (t5 < (t0.len : Int))) then
    bif (decide (0 ≤ t5) && decide (t5 < (t0.len : Int))) then
      bif (decide ((f172 (L.get t0 t5.toNat) t1) < (0 : Int))) then
        some (.inr (.inl (((-1 : Int), ()), ())))
      else
        some (.inl ((t0, ((f172 (L.get t0 t5.toNat) t1), ((wI (t5 + (1 : Int))), ()))), ()))
    else
      none
  else
    some (.inr (.inr (.inl ((t1, ()), ()))))
noncomputable def s107_L0 (x : Ta124) : Option (Ta124 ⊕ (((Int × Unit) × Unit) ⊕ (((Int × Unit) × Unit) ⊕ Empty))) := q107_L0 x.1.1 x.1.2.1 x.1.2.2.1
noncomputable def a107 : Nat → Option LoopAnn := fun c => bif Nat.beq c 0 then some (.fix h107_L0 e107_L0 s107_L0) else none
noncomputable def g107 (x0 : Ta25) (x1 : Int) : Option ((Int × Unit) × Unit) :=
  bif (decide ((wI (x1 - (x0.len : Int))) < (0 : Int))) then
    some (((-1 : Int), ()), ())
  else
    (fixO s107_L0 ((x0, ((wI (x1 - (x0.len : Int))), ((0 : Int), ()))), ())).bind fun d2 => match d2 with
    | .inl y1 =>
      some ((y1.1.1, ()), ())
    | .inr (.inl y1) =>
      some ((y1.1.1, ()), ())
    | .inr (.inr e) => nomatch e
noncomputable def c107 : Ctr := { ins := [.v Ty117, .v (.int .i64)], out := [(.int .i64)], F := fun x => g107 x.1 x.2.1 }
noncomputable def l107 : List (Nat × Code) := loopsIn (Tryz.f107.body.getD .skip) 0
theorem w107_L0 (x : h107_L0.T) : runK Tryz.prog Γ t107 a107 (l107.getD 0 (0, .skip)).2 0 (pkSh h107_L0 x) (loopCls (sh := h107_L0) (es := e107_L0)) = (s107_L0 x : Option _) := by kernel_rfl
theorem v107 : LoopsOk Tryz.prog Γ t107 a107 (loopsIn (Tryz.f107.body.getD .skip) 0) := by
  have e : loopsIn (Tryz.f107.body.getD .skip) 0 = [(0, (l107.getD 0 (0, .skip)).2)] := by kernel_rfl
  rw [e]
  exact ⟨fun x d h => (w107_L0 x).trans h, trivial⟩
theorem r107 (x : InsT c107.ins) : fnK Tryz.prog Γ t107 a107 Tryz.f107 c107 x = g107 x.1 x.2.1 := by kernel_rfl
theorem k107 : TblOk Tryz.prog t107 := tblOk_cons o172 (tblOk_nil)
theorem o107 : Holds Tryz.prog 107 c107 := fn_holds (code := Tryz.f107.body.getD .skip) (by kernel_rfl) gamOk k107 Tryz.func107 (by kernel_rfl) (by kernel_rfl) (by kernel_rfl) (by kernel_rfl) v107 (fun x _ h => (r107 x).trans h)
/-! ### 47: loop.example/g00076/laws.szPartState -/
noncomputable def t47 : Tbl := [(103, [], c103), (41, [], c41), (104, [], c104), (26, [], c26), (105, [], c105), (106, [], c106), (107, [], c107)]
noncomputable def a47 : Nat → Option LoopAnn := fun _ => none
noncomputable def g47 (x0 : Ta270) (x1 : Int) : Option ((Int × Unit) × Unit) :=
  (g103 x0.1 x1).bind fun y1 =>
    bif (decide (y1.1.1 < (0 : Int))) then
      some (((-1 : Int), ()), ())
    else
      (g41 x0.2.2.2.1 y1.1.1).bind fun y2 =>
        bif (decide (y2.1.1 < (0 : Int))) then
          some (((-1 : Int), ()), ())
        else
          bif (decide ((f104 x0.2.2.2.2.1 y2.1.1) < (0 : Int))) then
            some (((-1 : Int), ()), ())
          else
            (g26 x0.2.2.2.2.2.2.2.1 (f104 x0.2.2.2.2.1 y2.1.1)).bind fun y3 =>
              bif (decide (y3.1.1 < (0 : Int))) then
                some (((-1 : Int), ()), ())
              else
                (g105 x0.2.2.2.2.2.2.2.2.1 y3.1.1).bind fun y4 =>
                  bif (decide (y4.1.1 < (0 : Int))) then
                    some (((-1 : Int), ()), ())
                  else
                    (g106 x0.2.2.2.2.2.2.2.2.2.1 y4.1.1).bind fun y5 =>
                      bif (decide (y5.1.1 < (0 : Int))) then
                        some (((-1 : Int), ()), ())
                      else
                        (g107 x0.2.2.2.2.2.2.2.2.2.2.1 y5.1.1).bind fun y6 =>
                          bif (decide (y6.1.1 < (0 : Int))) then
                            some (((-1 : Int), ()), ())
                          else
                            some ((y6.1.1, ()), ())
noncomputable def c47 : Ctr := { ins := [.v Ty290, .v (.int .i64)], out := [(.int .i64)], F := fun x => g47 x.1 x.2.1 }
theorem v47 : LoopsOk Tryz.prog Γ t47 a47 (loopsIn (Tryz.f47.body.getD .skip) 0) := loopsOk_nil (by kernel_rfl)
theorem r47 (x : InsT c47.ins) : fnK Tryz.prog Γ t47 a47 Tryz.f47 c47 x = g47 x.1 x.2.1 := by kernel_rfl
theorem k47 : TblOk Tryz.prog t47 := tblOk_cons o103 (tblOk_cons o41 (tblOk_cons o104 (tblOk_cons o26 (tblOk_cons o105 (tblOk_cons o106 (tblOk_cons o107 (tblOk_nil)))))))
theorem o47 : Holds Tryz.prog 47 c47 := fn_holds (code := Tryz.f47.body.getD .skip) (by kernel_rfl) gamOk k47 Tryz.func47 (by kernel_rfl) (by kernel_rfl) (by kernel_rfl) (by kernel_rfl) v47 (fun x _ h => (r47 x).trans h)
/-! ### 58: loop.example/g00076/laws.toShape -/
noncomputable def t58 : Tbl := []
noncomputable def a58 : Nat → Option LoopAnn := fun _ => none
noncomputable def g58 (x0 : Ta8) : Option Ta69 :=
  some ((x0, ()), ())
noncomputable def f58 (x0 : Ta8) : Ta8 :=
  x0
theorem n58 (x0 : Ta8) : g58 x0 = some ((f58 x0, ()), ()) := by
  simp only [g58, f58, pull1]
noncomputable def c58 : Ctr := { ins := [.v Ty119], out := [Ty119], F := fun x => some ((f58 x.1, ()), ()) }
theorem v58 : LoopsOk Tryz.prog Γ t58 a58 (loopsIn (Tryz.f58.body.getD .skip) 0) := loopsOk_nil (by kernel_rfl)
theorem r58 (x : InsT c58.ins) : fnK Tryz.prog Γ t58 a58 Tryz.f58 c58 x = g58 x.1 := by kernel_rfl
theorem k58 : TblOk Tryz.prog t58 := tblOk_nil
theorem o58 : Holds Tryz.prog 58 c58 := fn_holds (code := Tryz.f58.body.getD .skip) (by kernel_rfl) gamOk k58 Tryz.func58 (by kernel_rfl) (by kernel_rfl) (by kernel_rfl) (by kernel_rfl) v58 (fun x _ h => (r58 x).trans ((n58 x.1).trans h))
/-! ### 59: loop.example/g00076/laws.toCosts -/
noncomputable def t59 : Tbl := []
noncomputable def a59 : Nat → Option LoopAnn := fun _ => none
noncomputable def g59 (x0 : Ta110) : Option (Ta134 × Unit) :=
  some ((x0, ()), ())
noncomputable def f59 (x0 : Ta110) : Ta110 :=
  x0
theorem n59 (x0 : Ta110) : g59 x0 = some ((f59 x0, ()), ()) := by
  simp only [g59, f59, pull1]
noncomputable def c59 : Ctr := { ins := [.v Ty223], out := [Ty223], F := fun x => some ((f59 x.1, ()), ()) }
theorem v59 : LoopsOk Tryz.prog Γ t59 a59 (loopsIn (Tryz.f59.body.getD .skip) 0) := loopsOk_nil (by kernel_rfl)
theorem r59 (x : InsT c59.ins) : fnK Tryz.prog Γ t59 a59 Tryz.f59 c59 x = g59 x.1 := by kernel_rfl
theorem k59 : TblOk Tryz.prog t59 := tblOk_nil
theorem o59 : Holds Tryz.prog 59 c59 := fn_holds (code := Tryz.f59.body.getD .skip) (by kernel_rfl) gamOk k59 Tryz.func59 (by kernel_rfl) (by kernel_rfl) (by kernel_rfl) (by kernel_rfl) v59 (fun x _ h => (r59 x).trans ((n59 x.1).trans h))
/-! ### 188: loop.example/g00076/laws.toPolicy -/
noncomputable def t188 : Tbl := []
noncomputable def a188 : Nat → Option LoopAnn := fun _ => none
noncomputable def g188 (x0 : (Int × (Int × Unit))) : Option (((Int × (Int × Unit)) × Unit) × Unit) :=
  some ((x0, ()), ())
noncomputable def f188 (x0 : (Int × (Int × Unit))) : (Int × (Int × Unit)) :=
  x0
theorem n188 (x0 : (Int × (Int × Unit))) : g188 x0 = some ((f188 x0, ()), ()) := by
  simp only [g188, f188, pull1]
noncomputable def c188 : Ctr := { ins := [.v Ty61], out := [Ty61], F := fun x => some ((f188 x.1, ()), ()) }
theorem v188 : LoopsOk Tryz.prog Γ t188 a188 (loopsIn (Tryz.f188.body.getD .skip) 0) := loopsOk_nil (by kernel_rfl)
theorem r188 (x : InsT c188.ins) : fnK Tryz.prog Γ t188 a188 Tryz.f188 c188 x = g188 x.1 := by kernel_rfl
theorem k188 : TblOk Tryz.prog t188 := tblOk_nil
theorem o188 : Holds Tryz.prog 188 c188 := fn_holds (code := Tryz.f188.body.getD .skip) (by kernel_rfl) gamOk k188 Tryz.func188 (by kernel_rfl) (by kernel_rfl) (by kernel_rfl) (by kernel_rfl) v188 (fun x _ h => (r188 x).trans ((n188 x.1).trans h))
/-! ### 226: loop.example/g00076/laws.toWindow -/
noncomputable def t226 : Tbl := []
noncomputable def a226 : Nat → Option LoopAnn := fun _ => none
noncomputable def g226 (x0 : Ta8) : Option Ta69 :=
  some ((x0, ()), ())
noncomputable def f226 (x0 : Ta8) : Ta8 :=
  x0
theorem n226 (x0 : Ta8) : g226 x0 = some ((f226 x0, ()), ()) := by
  simp only [g226, f226, pull1]
noncomputable def c226 : Ctr := { ins := [.v Ty119], out := [Ty119], F := fun x => some ((f226 x.1, ()), ()) }
theorem v226 : LoopsOk Tryz.prog Γ t226 a226 (loopsIn (Tryz.f226.body.getD .skip) 0) := loopsOk_nil (by kernel_rfl)
theorem r226 (x : InsT c226.ins) : fnK Tryz.prog Γ t226 a226 Tryz.f226 c226 x = g226 x.1 := by kernel_rfl
theorem k226 : TblOk Tryz.prog t226 := tblOk_nil
theorem o226 : Holds Tryz.prog 226 c226 := fn_holds (code := Tryz.f226.body.getD .skip) (by kernel_rfl) gamOk k226 Tryz.func226 (by kernel_rfl) (by kernel_rfl) (by kernel_rfl) (by kernel_rfl) v226 (fun x _ h => (r226 x).trans ((n226 x.1).trans h))
/-! ### 189: loop.example/g00076/laws.toWindowS -/
noncomputable def t189 : Tbl := [(226, [], c226)]
abbrev h189_L0 : Shape := { slots := [(0, .v Ty136), (3, .ms 7), (4, .v (.int .i64))], boxes := [(7, .arr Ty119)] }
abbrev e189_L0 : List (XT × Shape) := [(.exit 0, { slots := [(3, .ms 7)], boxes := [(7, .arr Ty119)] })]
noncomputable def q189_L0 (t0 : Ta24) (t4 : Int) (r7 : Ta24) : Option (Ta195 ⊕ (Ta107 ⊕ Empty)) :=
  bif (decide (t4 < (t0.len : Int))) then
    bif (decide (0 ≤ t4) && decide (t4 < (t0.len : Int))) then
      bif (decide (0 ≤ t4) && decide (t4 < (r7.len : Int))) then
        some (.inl ((t0, ((), ((wI (t4 + (1 : Int))), ()))), ((L.set r7 t4.toNat (f226 (L.get t0 t4.toNat))), ())))
      else
        none
    else
      none
  else
    some (.inr (.inl (((), ()), (r7, ()))))
noncomputable def s189_L0 (x : Ta195) : Option (Ta195 ⊕ (Ta107 ⊕ Empty)) := q189_L0 x.1.1 x.1.2.2.1 x.2.1
noncomputable def a189 : Nat → Option LoopAnn := fun c => bif Nat.beq c 0 then some (.fix h189_L0 e189_L0 s189_L0) else none
noncomputable def g189 (x0 : Ta24) : Option Ta78 :=
  bif (decide ((x0.len : Int) = (x0.len : Int)) && (decide (0 ≤ (x0.len : Int)) && (decide ((x0.len : Int) ≤ 2 ^ 40) && decide (24 * (x0.len : Int) ≤ 2 ^ 48)))) then
    (fixO s189_L0 ((x0, ((), ((0 : Int), ()))), ((L.rep (x0.len : Int).toNat (Ty.zero Ty119)), ()))).bind fun d2 => match d2 with
    | .inl y1 =>
      some ((y1.2.1, ()), ())
    | .inr e => nomatch e
  else
    none
noncomputable def c189 : Ctr := { ins := [.v Ty136], out := [Ty136], F := fun x => g189 x.1 }
noncomputable def l189 : List (Nat × Code) := loopsIn (Tryz.f189.body.getD .skip) 0
theorem w189_L0 (x : h189_L0.T) : runK Tryz.prog Γ t189 a189 (l189.getD 0 (0, .skip)).2 0 (pkSh h189_L0 x) (loopCls (sh := h189_L0) (es := e189_L0)) = (s189_L0 x : Option _) := by kernel_rfl
theorem v189 : LoopsOk Tryz.prog Γ t189 a189 (loopsIn (Tryz.f189.body.getD .skip) 0) := by
  have e : loopsIn (Tryz.f189.body.getD .skip) 0 = [(0, (l189.getD 0 (0, .skip)).2)] := by kernel_rfl
  rw [e]
  exact ⟨fun x d h => (w189_L0 x).trans h, trivial⟩
theorem r189 (x : InsT c189.ins) : fnK Tryz.prog Γ t189 a189 Tryz.f189 c189 x = g189 x.1 := by kernel_rfl
theorem k189 : TblOk Tryz.prog t189 := tblOk_cons o226 (tblOk_nil)
theorem o189 : Holds Tryz.prog 189 c189 := fn_holds (code := Tryz.f189.body.getD .skip) (by kernel_rfl) gamOk k189 Tryz.func189 (by kernel_rfl) (by kernel_rfl) (by kernel_rfl) (by kernel_rfl) v189 (fun x _ h => (r189 x).trans h)
/-! ### 128: loop.example/g00076/laws.toPartRow -/
noncomputable def t128 : Tbl := [(188, [], c188), (189, [], c189)]
noncomputable def a128 : Nat → Option LoopAnn := fun _ => none
noncomputable def g128 (x0 : Ta172) : Option (Ta185 × Unit) :=
  (g189 x0.2.2.2.1).bind fun y1 =>
    some (((x0.1, (x0.2.1, ((f188 x0.2.2.1), y1.1))), ()), ())
noncomputable def c128 : Ctr := { ins := [.v Ty237], out := [Ty237], F := fun x => g128 x.1 }
theorem v128 : LoopsOk Tryz.prog Γ t128 a128 (loopsIn (Tryz.f128.body.getD .skip) 0) := loopsOk_nil (by kernel_rfl)
theorem r128 (x : InsT c128.ins) : fnK Tryz.prog Γ t128 a128 Tryz.f128 c128 x = g128 x.1 := by kernel_rfl
theorem k128 : TblOk Tryz.prog t128 := tblOk_cons o188 (tblOk_cons o189 (tblOk_nil))
theorem o128 : Holds Tryz.prog 128 c128 := fn_holds (code := Tryz.f128.body.getD .skip) (by kernel_rfl) gamOk k128 Tryz.func128 (by kernel_rfl) (by kernel_rfl) (by kernel_rfl) (by kernel_rfl) v128 (fun x _ h => (r128 x).trans h)
/-! ### 60: loop.example/g00076/laws.toPartRowS -/
noncomputable def t60 : Tbl := [(128, [], c128)]
abbrev h60_L0 : Shape := { slots := [(0, .v Ty238), (3, .ms 7), (4, .v (.int .i64))], boxes := [(7, .arr Ty237)] }
abbrev e60_L0 : List (XT × Shape) := [(.exit 0, { slots := [(3, .ms 7)], boxes := [(7, .arr Ty237)] })]
noncomputable def q60_L0 (t0 : Ta178) (t4 : Int) (r7 : Ta178) : Option (Ta251 ⊕ (((Unit × Unit) × Ta191) ⊕ Empty)) :=
  bif (decide (t4 < (t0.len : Int))) then
    bif (decide (0 ≤ t4) && decide (t4 < (t0.len : Int))) then
      (g128 (L.get t0 t4.toNat)).bind fun y1 =>
        bif (decide (0 ≤ t4) && decide (t4 < (r7.len : Int))) then
          some (.inl ((t0, ((), ((wI (t4 + (1 : Int))), ()))), ((L.set r7 t4.toNat y1.1.1), ())))
        else
          none
    else
      none
  else
    some (.inr (.inl (((), ()), (r7, ()))))
noncomputable def s60_L0 (x : Ta251) : Option (Ta251 ⊕ (((Unit × Unit) × Ta191) ⊕ Empty)) := q60_L0 x.1.1 x.1.2.2.1 x.2.1
noncomputable def a60 : Nat → Option LoopAnn := fun c => bif Nat.beq c 0 then some (.fix h60_L0 e60_L0 s60_L0) else none
noncomputable def g60 (x0 : Ta178) : Option (Ta191 × Unit) :=
  bif (decide ((x0.len : Int) = (x0.len : Int)) && (decide (0 ≤ (x0.len : Int)) && (decide ((x0.len : Int) ≤ 2 ^ 40) && decide (64 * (x0.len : Int) ≤ 2 ^ 48)))) then
    (fixO s60_L0 ((x0, ((), ((0 : Int), ()))), ((L.rep (x0.len : Int).toNat (Ty.zero Ty237)), ()))).bind fun d3 => match d3 with
    | .inl y2 =>
      some ((y2.2.1, ()), ())
    | .inr e => nomatch e
  else
    none
noncomputable def c60 : Ctr := { ins := [.v Ty238], out := [Ty238], F := fun x => g60 x.1 }
noncomputable def l60 : List (Nat × Code) := loopsIn (Tryz.f60.body.getD .skip) 0
theorem w60_L0 (x : h60_L0.T) : runK Tryz.prog Γ t60 a60 (l60.getD 0 (0, .skip)).2 0 (pkSh h60_L0 x) (loopCls (sh := h60_L0) (es := e60_L0)) = (s60_L0 x : Option _) := by kernel_rfl
theorem v60 : LoopsOk Tryz.prog Γ t60 a60 (loopsIn (Tryz.f60.body.getD .skip) 0) := by
  have e : loopsIn (Tryz.f60.body.getD .skip) 0 = [(0, (l60.getD 0 (0, .skip)).2)] := by kernel_rfl
  rw [e]
  exact ⟨fun x d h => (w60_L0 x).trans h, trivial⟩
theorem r60 (x : InsT c60.ins) : fnK Tryz.prog Γ t60 a60 Tryz.f60 c60 x = g60 x.1 := by kernel_rfl
theorem k60 : TblOk Tryz.prog t60 := tblOk_cons o128 (tblOk_nil)
theorem o60 : Holds Tryz.prog 60 c60 := fn_holds (code := Tryz.f60.body.getD .skip) (by kernel_rfl) gamOk k60 Tryz.func60 (by kernel_rfl) (by kernel_rfl) (by kernel_rfl) (by kernel_rfl) v60 (fun x _ h => (r60 x).trans h)
/-! ### 61: loop.example/g00076/laws.toIntS -/
noncomputable def t61 : Tbl := []
abbrev h61_L0 : Shape := { slots := [(0, .v (.sl (.int .i64))), (3, .ms 7), (4, .v (.int .i64))], boxes := [(7, .arr (.int .i64))] }
abbrev e61_L0 : List (XT × Shape) := [(.exit 0, { slots := [(3, .ms 7)], boxes := [(7, .arr (.int .i64))] })]
noncomputable def q61_L0 (t0 : (L Int)) (t4 : Int) (r7 : (L Int)) : Option (Ta92 ⊕ (Ta29 ⊕ Empty)) :=
  bif (decide (t4 < (t0.len : Int))) then
    bif (decide (0 ≤ t4) && decide (t4 < (t0.len : Int))) then
      bif (decide (0 ≤ t4) && decide (t4 < (r7.len : Int))) then
        some (.inl ((t0, ((), ((wI (t4 + (1 : Int))), ()))), ((L.set r7 t4.toNat (L.get t0 t4.toNat)), ())))
      else
        none
    else
      none
  else
    some (.inr (.inl (((), ()), (r7, ()))))
noncomputable def s61_L0 (x : Ta92) : Option (Ta92 ⊕ (Ta29 ⊕ Empty)) := q61_L0 x.1.1 x.1.2.2.1 x.2.1
noncomputable def a61 : Nat → Option LoopAnn := fun c => bif Nat.beq c 0 then some (.fix h61_L0 e61_L0 s61_L0) else none
noncomputable def g61 (x0 : (L Int)) : Option Ta5 :=
  bif (decide ((x0.len : Int) = (x0.len : Int)) && (decide (0 ≤ (x0.len : Int)) && (decide ((x0.len : Int) ≤ 2 ^ 40) && decide (8 * (x0.len : Int) ≤ 2 ^ 48)))) then
    (fixO s61_L0 ((x0, ((), ((0 : Int), ()))), ((L.rep (x0.len : Int).toNat (Ty.zero (.int .i64))), ()))).bind fun d2 => match d2 with
    | .inl y1 =>
      some ((y1.2.1, ()), ())
    | .inr e => nomatch e
  else
    none
noncomputable def c61 : Ctr := { ins := [.v (.sl (.int .i64))], out := [(.sl (.int .i64))], F := fun x => g61 x.1 }
noncomputable def l61 : List (Nat × Code) := loopsIn (Tryz.f61.body.getD .skip) 0
theorem w61_L0 (x : h61_L0.T) : runK Tryz.prog Γ t61 a61 (l61.getD 0 (0, .skip)).2 0 (pkSh h61_L0 x) (loopCls (sh := h61_L0) (es := e61_L0)) = (s61_L0 x : Option _) := by kernel_rfl
theorem v61 : LoopsOk Tryz.prog Γ t61 a61 (loopsIn (Tryz.f61.body.getD .skip) 0) := by
  have e : loopsIn (Tryz.f61.body.getD .skip) 0 = [(0, (l61.getD 0 (0, .skip)).2)] := by kernel_rfl
  rw [e]
  exact ⟨fun x d h => (w61_L0 x).trans h, trivial⟩
theorem r61 (x : InsT c61.ins) : fnK Tryz.prog Γ t61 a61 Tryz.f61 c61 x = g61 x.1 := by kernel_rfl
theorem k61 : TblOk Tryz.prog t61 := tblOk_nil
theorem o61 : Holds Tryz.prog 61 c61 := fn_holds (code := Tryz.f61.body.getD .skip) (by kernel_rfl) gamOk k61 Tryz.func61 (by kernel_rfl) (by kernel_rfl) (by kernel_rfl) (by kernel_rfl) v61 (fun x _ h => (r61 x).trans h)
/-! ### 129: loop.example/g00076/laws.toChanRow -/
noncomputable def t129 : Tbl := []
noncomputable def a129 : Nat → Option LoopAnn := fun _ => none
noncomputable def g129 (x0 : Ta33) : Option ((Ta33 × Unit) × Unit) :=
  some ((x0, ()), ())
noncomputable def f129 (x0 : Ta33) : Ta33 :=
  x0
theorem n129 (x0 : Ta33) : g129 x0 = some ((f129 x0, ()), ()) := by
  simp only [g129, f129, pull1]
noncomputable def c129 : Ctr := { ins := [.v Ty167], out := [Ty167], F := fun x => some ((f129 x.1, ()), ()) }
theorem v129 : LoopsOk Tryz.prog Γ t129 a129 (loopsIn (Tryz.f129.body.getD .skip) 0) := loopsOk_nil (by kernel_rfl)
theorem r129 (x : InsT c129.ins) : fnK Tryz.prog Γ t129 a129 Tryz.f129 c129 x = g129 x.1 := by kernel_rfl
theorem k129 : TblOk Tryz.prog t129 := tblOk_nil
theorem o129 : Holds Tryz.prog 129 c129 := fn_holds (code := Tryz.f129.body.getD .skip) (by kernel_rfl) gamOk k129 Tryz.func129 (by kernel_rfl) (by kernel_rfl) (by kernel_rfl) (by kernel_rfl) v129 (fun x _ h => (r129 x).trans ((n129 x.1).trans h))
/-! ### 62: loop.example/g00076/laws.toChanRowS -/
noncomputable def t62 : Tbl := [(129, [], c129)]
abbrev h62_L0 : Shape := { slots := [(0, .v Ty175), (3, .ms 7), (4, .v (.int .i64))], boxes := [(7, .arr Ty167)] }
abbrev e62_L0 : List (XT × Shape) := [(.exit 0, { slots := [(3, .ms 7)], boxes := [(7, .arr Ty167)] })]
noncomputable def q62_L0 (t0 : Ta50) (t4 : Int) (r7 : Ta50) : Option (Ta208 ⊕ (((Unit × Unit) × Ta72) ⊕ Empty)) :=
  bif (decide (t4 < (t0.len : Int))) then
    bif (decide (0 ≤ t4) && decide (t4 < (t0.len : Int))) then
      bif (decide (0 ≤ t4) && decide (t4 < (r7.len : Int))) then
        some (.inl ((t0, ((), ((wI (t4 + (1 : Int))), ()))), ((L.set r7 t4.toNat (f129 (L.get t0 t4.toNat))), ())))
      else
        none
    else
      none
  else
    some (.inr (.inl (((), ()), (r7, ()))))
noncomputable def s62_L0 (x : Ta208) : Option (Ta208 ⊕ (((Unit × Unit) × Ta72) ⊕ Empty)) := q62_L0 x.1.1 x.1.2.2.1 x.2.1
noncomputable def a62 : Nat → Option LoopAnn := fun c => bif Nat.beq c 0 then some (.fix h62_L0 e62_L0 s62_L0) else none
noncomputable def g62 (x0 : Ta50) : Option (Ta72 × Unit) :=
  bif (decide ((x0.len : Int) = (x0.len : Int)) && (decide (0 ≤ (x0.len : Int)) && (decide ((x0.len : Int) ≤ 2 ^ 40) && decide (32 * (x0.len : Int) ≤ 2 ^ 48)))) then
    (fixO s62_L0 ((x0, ((), ((0 : Int), ()))), ((L.rep (x0.len : Int).toNat (Ty.zero Ty167)), ()))).bind fun d2 => match d2 with
    | .inl y1 =>
      some ((y1.2.1, ()), ())
    | .inr e => nomatch e
  else
    none
noncomputable def c62 : Ctr := { ins := [.v Ty175], out := [Ty175], F := fun x => g62 x.1 }
noncomputable def l62 : List (Nat × Code) := loopsIn (Tryz.f62.body.getD .skip) 0
theorem w62_L0 (x : h62_L0.T) : runK Tryz.prog Γ t62 a62 (l62.getD 0 (0, .skip)).2 0 (pkSh h62_L0 x) (loopCls (sh := h62_L0) (es := e62_L0)) = (s62_L0 x : Option _) := by kernel_rfl
theorem v62 : LoopsOk Tryz.prog Γ t62 a62 (loopsIn (Tryz.f62.body.getD .skip) 0) := by
  have e : loopsIn (Tryz.f62.body.getD .skip) 0 = [(0, (l62.getD 0 (0, .skip)).2)] := by kernel_rfl
  rw [e]
  exact ⟨fun x d h => (w62_L0 x).trans h, trivial⟩
theorem r62 (x : InsT c62.ins) : fnK Tryz.prog Γ t62 a62 Tryz.f62 c62 x = g62 x.1 := by kernel_rfl
theorem k62 : TblOk Tryz.prog t62 := tblOk_cons o129 (tblOk_nil)
theorem o62 : Holds Tryz.prog 62 c62 := fn_holds (code := Tryz.f62.body.getD .skip) (by kernel_rfl) gamOk k62 Tryz.func62 (by kernel_rfl) (by kernel_rfl) (by kernel_rfl) (by kernel_rfl) v62 (fun x _ h => (r62 x).trans h)
/-! ### 130: loop.example/g00076/laws.toSlot -/
noncomputable def t130 : Tbl := []
noncomputable def a130 : Nat → Option LoopAnn := fun _ => none
noncomputable def g130 (x0 : Ta8) : Option Ta69 :=
  some ((x0, ()), ())
noncomputable def f130 (x0 : Ta8) : Ta8 :=
  x0
theorem n130 (x0 : Ta8) : g130 x0 = some ((f130 x0, ()), ()) := by
  simp only [g130, f130, pull1]
noncomputable def c130 : Ctr := { ins := [.v Ty119], out := [Ty119], F := fun x => some ((f130 x.1, ()), ()) }
theorem v130 : LoopsOk Tryz.prog Γ t130 a130 (loopsIn (Tryz.f130.body.getD .skip) 0) := loopsOk_nil (by kernel_rfl)
theorem r130 (x : InsT c130.ins) : fnK Tryz.prog Γ t130 a130 Tryz.f130 c130 x = g130 x.1 := by kernel_rfl
theorem k130 : TblOk Tryz.prog t130 := tblOk_nil
theorem o130 : Holds Tryz.prog 130 c130 := fn_holds (code := Tryz.f130.body.getD .skip) (by kernel_rfl) gamOk k130 Tryz.func130 (by kernel_rfl) (by kernel_rfl) (by kernel_rfl) (by kernel_rfl) v130 (fun x _ h => (r130 x).trans ((n130 x.1).trans h))
/-! ### 63: loop.example/g00076/laws.toSlotS -/
noncomputable def t63 : Tbl := [(130, [], c130)]
abbrev h63_L0 : Shape := { slots := [(0, .v Ty136), (3, .ms 7), (4, .v (.int .i64))], boxes := [(7, .arr Ty119)] }
abbrev e63_L0 : List (XT × Shape) := [(.exit 0, { slots := [(3, .ms 7)], boxes := [(7, .arr Ty119)] })]
noncomputable def q63_L0 (t0 : Ta24) (t4 : Int) (r7 : Ta24) : Option (Ta195 ⊕ (Ta107 ⊕ Empty)) :=
  bif (decide (t4 < (t0.len : Int))) then
    bif (decide (0 ≤ t4) && decide (t4 < (t0.len : Int))) then
      bif (decide (0 ≤ t4) && decide (t4 < (r7.len : Int))) then
        some (.inl ((t0, ((), ((wI (t4 + (1 : Int))), ()))), ((L.set r7 t4.toNat (f130 (L.get t0 t4.toNat))), ())))
      else
        none
    else
      none
  else
    some (.inr (.inl (((), ()), (r7, ()))))
noncomputable def s63_L0 (x : Ta195) : Option (Ta195 ⊕ (Ta107 ⊕ Empty)) := q63_L0 x.1.1 x.1.2.2.1 x.2.1
noncomputable def a63 : Nat → Option LoopAnn := fun c => bif Nat.beq c 0 then some (.fix h63_L0 e63_L0 s63_L0) else none
noncomputable def g63 (x0 : Ta24) : Option Ta78 :=
  bif (decide ((x0.len : Int) = (x0.len : Int)) && (decide (0 ≤ (x0.len : Int)) && (decide ((x0.len : Int) ≤ 2 ^ 40) && decide (24 * (x0.len : Int) ≤ 2 ^ 48)))) then
    (fixO s63_L0 ((x0, ((), ((0 : Int), ()))), ((L.rep (x0.len : Int).toNat (Ty.zero Ty119)), ()))).bind fun d2 => match d2 with
    | .inl y1 =>
      some ((y1.2.1, ()), ())
    | .inr e => nomatch e
  else
    none
noncomputable def c63 : Ctr := { ins := [.v Ty136], out := [Ty136], F := fun x => g63 x.1 }
noncomputable def l63 : List (Nat × Code) := loopsIn (Tryz.f63.body.getD .skip) 0
theorem w63_L0 (x : h63_L0.T) : runK Tryz.prog Γ t63 a63 (l63.getD 0 (0, .skip)).2 0 (pkSh h63_L0 x) (loopCls (sh := h63_L0) (es := e63_L0)) = (s63_L0 x : Option _) := by kernel_rfl
theorem v63 : LoopsOk Tryz.prog Γ t63 a63 (loopsIn (Tryz.f63.body.getD .skip) 0) := by
  have e : loopsIn (Tryz.f63.body.getD .skip) 0 = [(0, (l63.getD 0 (0, .skip)).2)] := by kernel_rfl
  rw [e]
  exact ⟨fun x d h => (w63_L0 x).trans h, trivial⟩
theorem r63 (x : InsT c63.ins) : fnK Tryz.prog Γ t63 a63 Tryz.f63 c63 x = g63 x.1 := by kernel_rfl
theorem k63 : TblOk Tryz.prog t63 := tblOk_cons o130 (tblOk_nil)
theorem o63 : Holds Tryz.prog 63 c63 := fn_holds (code := Tryz.f63.body.getD .skip) (by kernel_rfl) gamOk k63 Tryz.func63 (by kernel_rfl) (by kernel_rfl) (by kernel_rfl) (by kernel_rfl) v63 (fun x _ h => (r63 x).trans h)
/-! ### 15: loop.example/g00076/laws.toTables -/
noncomputable def t15 : Tbl := [(58, [], c58), (59, [], c59), (60, [], c60), (61, [], c61), (62, [], c62), (63, [], c63)]
noncomputable def a15 : Nat → Option LoopAnn := fun _ => none
noncomputable def g15 (x0 : Ta262) : Option (Ta263 × Unit) :=
  (g60 x0.2.2.2.2.2.2.2.1).bind fun y1 =>
    (g61 x0.2.2.2.2.2.2.2.2.1).bind fun y2 =>
      (g62 x0.2.2.2.2.2.2.2.2.2.1).bind fun y3 =>
        (g63 x0.2.2.2.2.2.2.2.2.2.2.1).bind fun y4 =>
          some (((x0.1, ((f58 x0.2.1), (x0.2.2.1, ((f59 x0.2.2.2.1), (x0.2.2.2.2.1, (x0.2.2.2.2.2.1, (x0.2.2.2.2.2.2.1, (y1.1.1, (y2.1.1, (y3.1.1, y4.1)))))))))), ()), ())
noncomputable def c15 : Ctr := { ins := [.v Ty286], out := [Ty286], F := fun x => g15 x.1 }
theorem v15 : LoopsOk Tryz.prog Γ t15 a15 (loopsIn (Tryz.f15.body.getD .skip) 0) := loopsOk_nil (by kernel_rfl)
theorem r15 (x : InsT c15.ins) : fnK Tryz.prog Γ t15 a15 Tryz.f15 c15 x = g15 x.1 := by kernel_rfl
theorem k15 : TblOk Tryz.prog t15 := tblOk_cons o58 (tblOk_cons o59 (tblOk_cons o60 (tblOk_cons o61 (tblOk_cons o62 (tblOk_cons o63 (tblOk_nil))))))
theorem o15 : Holds Tryz.prog 15 c15 := fn_holds (code := Tryz.f15.body.getD .skip) (by kernel_rfl) gamOk k15 Tryz.func15 (by kernel_rfl) (by kernel_rfl) (by kernel_rfl) (by kernel_rfl) v15 (fun x _ h => (r15 x).trans h)
/-! ### 158: loop.example/g00076/laws.toUint32S -/
noncomputable def t158 : Tbl := []
abbrev h158_L0 : Shape := { slots := [(0, .v (.sl (.int .u32))), (3, .ms 7), (4, .v (.int .i64))], boxes := [(7, .arr (.int .u32))] }
abbrev e158_L0 : List (XT × Shape) := [(.exit 0, { slots := [(3, .ms 7)], boxes := [(7, .arr (.int .u32))] })]
noncomputable def q158_L0 (t0 : (L Int)) (t4 : Int) (r7 : (L Int)) : Option (Ta92 ⊕ (Ta29 ⊕ Empty)) :=
  bif (decide (t4 < (t0.len : Int))) then
    bif (decide (0 ≤ t4) && decide (t4 < (t0.len : Int))) then
      bif (decide (0 ≤ t4) && decide (t4 < (r7.len : Int))) then
        some (.inl ((t0, ((), ((wI (t4 + (1 : Int))), ()))), ((L.set r7 t4.toNat (L.get t0 t4.toNat)), ())))
      else
        none
    else
      none
  else
    some (.inr (.inl (((), ()), (r7, ()))))
noncomputable def s158_L0 (x : Ta92) : Option (Ta92 ⊕ (Ta29 ⊕ Empty)) := q158_L0 x.1.1 x.1.2.2.1 x.2.1
noncomputable def a158 : Nat → Option LoopAnn := fun c => bif Nat.beq c 0 then some (.fix h158_L0 e158_L0 s158_L0) else none
noncomputable def g158 (x0 : (L Int)) : Option Ta5 :=
  bif (decide ((x0.len : Int) = (x0.len : Int)) && (decide (0 ≤ (x0.len : Int)) && (decide ((x0.len : Int) ≤ 2 ^ 40) && decide (4 * (x0.len : Int) ≤ 2 ^ 48)))) then
    (fixO s158_L0 ((x0, ((), ((0 : Int), ()))), ((L.rep (x0.len : Int).toNat (Ty.zero (.int .u32))), ()))).bind fun d2 => match d2 with
    | .inl y1 =>
      some ((y1.2.1, ()), ())
    | .inr e => nomatch e
  else
    none
noncomputable def c158 : Ctr := { ins := [.v (.sl (.int .u32))], out := [(.sl (.int .u32))], F := fun x => g158 x.1 }
noncomputable def l158 : List (Nat × Code) := loopsIn (Tryz.f158.body.getD .skip) 0
theorem w158_L0 (x : h158_L0.T) : runK Tryz.prog Γ t158 a158 (l158.getD 0 (0, .skip)).2 0 (pkSh h158_L0 x) (loopCls (sh := h158_L0) (es := e158_L0)) = (s158_L0 x : Option _) := by kernel_rfl
theorem v158 : LoopsOk Tryz.prog Γ t158 a158 (loopsIn (Tryz.f158.body.getD .skip) 0) := by
  have e : loopsIn (Tryz.f158.body.getD .skip) 0 = [(0, (l158.getD 0 (0, .skip)).2)] := by kernel_rfl
  rw [e]
  exact ⟨fun x d h => (w158_L0 x).trans h, trivial⟩
theorem r158 (x : InsT c158.ins) : fnK Tryz.prog Γ t158 a158 Tryz.f158 c158 x = g158 x.1 := by kernel_rfl
theorem k158 : TblOk Tryz.prog t158 := tblOk_nil
theorem o158 : Holds Tryz.prog 158 c158 := fn_holds (code := Tryz.f158.body.getD .skip) (by kernel_rfl) gamOk k158 Tryz.func158 (by kernel_rfl) (by kernel_rfl) (by kernel_rfl) (by kernel_rfl) v158 (fun x _ h => (r158 x).trans h)
/-! ### 81: loop.example/g00076/laws.toByteS -/
noncomputable def t81 : Tbl := []
abbrev h81_L0 : Shape := { slots := [(0, .v (.sl (.int .u8))), (3, .ms 7), (4, .v (.int .i64))], boxes := [(7, .arr (.int .u8))] }
abbrev e81_L0 : List (XT × Shape) := [(.exit 0, { slots := [(3, .ms 7)], boxes := [(7, .arr (.int .u8))] })]
noncomputable def q81_L0 (t0 : (L Int)) (t4 : Int) (r7 : (L Int)) : Option (Ta92 ⊕ (Ta29 ⊕ Empty)) :=
  bif (decide (t4 < (t0.len : Int))) then
    bif (decide (0 ≤ t4) && decide (t4 < (t0.len : Int))) then
      bif (decide (0 ≤ t4) && decide (t4 < (r7.len : Int))) then
        some (.inl ((t0, ((), ((wI (t4 + (1 : Int))), ()))), ((L.set r7 t4.toNat (L.get t0 t4.toNat)), ())))
      else
        none
    else
      none
  else
    some (.inr (.inl (((), ()), (r7, ()))))
noncomputable def s81_L0 (x : Ta92) : Option (Ta92 ⊕ (Ta29 ⊕ Empty)) := q81_L0 x.1.1 x.1.2.2.1 x.2.1
noncomputable def a81 : Nat → Option LoopAnn := fun c => bif Nat.beq c 0 then some (.fix h81_L0 e81_L0 s81_L0) else none
noncomputable def g81 (x0 : (L Int)) : Option Ta5 :=
  bif (decide ((x0.len : Int) = (x0.len : Int)) && (decide (0 ≤ (x0.len : Int)) && (decide ((x0.len : Int) ≤ 2 ^ 40) && decide (1 * (x0.len : Int) ≤ 2 ^ 48)))) then
    (fixO s81_L0 ((x0, ((), ((0 : Int), ()))), ((L.rep (x0.len : Int).toNat (Ty.zero (.int .u8))), ()))).bind fun d2 => match d2 with
    | .inl y1 =>
      some ((y1.2.1, ()), ())
    | .inr e => nomatch e
  else
    none
noncomputable def c81 : Ctr := { ins := [.v (.sl (.int .u8))], out := [(.sl (.int .u8))], F := fun x => g81 x.1 }
noncomputable def l81 : List (Nat × Code) := loopsIn (Tryz.f81.body.getD .skip) 0
theorem w81_L0 (x : h81_L0.T) : runK Tryz.prog Γ t81 a81 (l81.getD 0 (0, .skip)).2 0 (pkSh h81_L0 x) (loopCls (sh := h81_L0) (es := e81_L0)) = (s81_L0 x : Option _) := by kernel_rfl
theorem v81 : LoopsOk Tryz.prog Γ t81 a81 (loopsIn (Tryz.f81.body.getD .skip) 0) := by
  have e : loopsIn (Tryz.f81.body.getD .skip) 0 = [(0, (l81.getD 0 (0, .skip)).2)] := by kernel_rfl
  rw [e]
  exact ⟨fun x d h => (w81_L0 x).trans h, trivial⟩
theorem r81 (x : InsT c81.ins) : fnK Tryz.prog Γ t81 a81 Tryz.f81 c81 x = g81 x.1 := by kernel_rfl
theorem k81 : TblOk Tryz.prog t81 := tblOk_nil
theorem o81 : Holds Tryz.prog 81 c81 := fn_holds (code := Tryz.f81.body.getD .skip) (by kernel_rfl) gamOk k81 Tryz.func81 (by kernel_rfl) (by kernel_rfl) (by kernel_rfl) (by kernel_rfl) v81 (fun x _ h => (r81 x).trans h)
/-! ### 28: loop.example/g00076/laws.toByteSS -/
noncomputable def t28 : Tbl := [(81, [], c81)]
abbrev h28_L0 : Shape := { slots := [(0, .v (.sl (.sl (.int .u8)))), (3, .ms 7), (4, .v (.int .i64))], boxes := [(7, .arr (.sl (.int .u8)))] }
abbrev e28_L0 : List (XT × Shape) := [(.exit 0, { slots := [(3, .ms 7)], boxes := [(7, .arr (.sl (.int .u8)))] })]
noncomputable def q28_L0 (t0 : (L (L Int))) (t4 : Int) (r7 : (L (L Int))) : Option (Ta113 ⊕ (((Unit × Unit) × ((L (L Int)) × Unit)) ⊕ Empty)) :=
  bif (decide (t4 < (t0.len : Int))) then
    bif (decide (0 ≤ t4) && decide (t4 < (t0.len : Int))) then
      (g81 (L.get t0 t4.toNat)).bind fun y1 =>
        bif (decide (0 ≤ t4) && decide (t4 < (r7.len : Int))) then
          some (.inl ((t0, ((), ((wI (t4 + (1 : Int))), ()))), ((L.set r7 t4.toNat y1.1.1), ())))
        else
          none
    else
      none
  else
    some (.inr (.inl (((), ()), (r7, ()))))
noncomputable def s28_L0 (x : Ta113) : Option (Ta113 ⊕ (((Unit × Unit) × ((L (L Int)) × Unit)) ⊕ Empty)) := q28_L0 x.1.1 x.1.2.2.1 x.2.1
noncomputable def a28 : Nat → Option LoopAnn := fun c => bif Nat.beq c 0 then some (.fix h28_L0 e28_L0 s28_L0) else none
noncomputable def g28 (x0 : (L (L Int))) : Option (((L (L Int)) × Unit) × Unit) :=
  bif (decide ((x0.len : Int) = (x0.len : Int)) && (decide (0 ≤ (x0.len : Int)) && (decide ((x0.len : Int) ≤ 2 ^ 40) && decide (24 * (x0.len : Int) ≤ 2 ^ 48)))) then
    (fixO s28_L0 ((x0, ((), ((0 : Int), ()))), ((L.rep (x0.len : Int).toNat (Ty.zero (.sl (.int .u8)))), ()))).bind fun d3 => match d3 with
    | .inl y2 =>
      some ((y2.2.1, ()), ())
    | .inr e => nomatch e
  else
    none
noncomputable def c28 : Ctr := { ins := [.v (.sl (.sl (.int .u8)))], out := [(.sl (.sl (.int .u8)))], F := fun x => g28 x.1 }
noncomputable def l28 : List (Nat × Code) := loopsIn (Tryz.f28.body.getD .skip) 0
theorem w28_L0 (x : h28_L0.T) : runK Tryz.prog Γ t28 a28 (l28.getD 0 (0, .skip)).2 0 (pkSh h28_L0 x) (loopCls (sh := h28_L0) (es := e28_L0)) = (s28_L0 x : Option _) := by kernel_rfl
theorem v28 : LoopsOk Tryz.prog Γ t28 a28 (loopsIn (Tryz.f28.body.getD .skip) 0) := by
  have e : loopsIn (Tryz.f28.body.getD .skip) 0 = [(0, (l28.getD 0 (0, .skip)).2)] := by kernel_rfl
  rw [e]
  exact ⟨fun x d h => (w28_L0 x).trans h, trivial⟩
theorem r28 (x : InsT c28.ins) : fnK Tryz.prog Γ t28 a28 Tryz.f28 c28 x = g28 x.1 := by kernel_rfl
theorem k28 : TblOk Tryz.prog t28 := tblOk_cons o81 (tblOk_nil)
theorem o28 : Holds Tryz.prog 28 c28 := fn_holds (code := Tryz.f28.body.getD .skip) (by kernel_rfl) gamOk k28 Tryz.func28 (by kernel_rfl) (by kernel_rfl) (by kernel_rfl) (by kernel_rfl) v28 (fun x _ h => (r28 x).trans h)
/-! ### 112: loop.example/g00076/laws.toGuest -/
noncomputable def t112 : Tbl := [(158, [], c158), (28, [], c28)]
noncomputable def a112 : Nat → Option LoopAnn := fun _ => none
noncomputable def g112 (x0 : Ta51) : Option (Ta73 × Unit) :=
  (g158 x0.1).bind fun y1 =>
    (g28 x0.2.2.1).bind fun y2 =>
      some (((y1.1.1, (x0.2.1, y2.1)), ()), ())
noncomputable def c112 : Ctr := { ins := [.v Ty160], out := [Ty160], F := fun x => g112 x.1 }
theorem v112 : LoopsOk Tryz.prog Γ t112 a112 (loopsIn (Tryz.f112.body.getD .skip) 0) := loopsOk_nil (by kernel_rfl)
theorem r112 (x : InsT c112.ins) : fnK Tryz.prog Γ t112 a112 Tryz.f112 c112 x = g112 x.1 := by kernel_rfl
theorem k112 : TblOk Tryz.prog t112 := tblOk_cons o158 (tblOk_cons o28 (tblOk_nil))
theorem o112 : Holds Tryz.prog 112 c112 := fn_holds (code := Tryz.f112.body.getD .skip) (by kernel_rfl) gamOk k112 Tryz.func112 (by kernel_rfl) (by kernel_rfl) (by kernel_rfl) (by kernel_rfl) v112 (fun x _ h => (r112 x).trans h)
/-! ### 113: loop.example/g00076/laws.toVirt -/
noncomputable def t113 : Tbl := []
noncomputable def a113 : Nat → Option LoopAnn := fun _ => none
noncomputable def g113 (x0 : Ta138) : Option ((Ta138 × Unit) × Unit) :=
  some ((x0, ()), ())
noncomputable def f113 (x0 : Ta138) : Ta138 :=
  x0
theorem n113 (x0 : Ta138) : g113 x0 = some ((f113 x0, ()), ()) := by
  simp only [g113, f113, pull1]
noncomputable def c113 : Ctr := { ins := [.v Ty225], out := [Ty225], F := fun x => some ((f113 x.1, ()), ()) }
theorem v113 : LoopsOk Tryz.prog Γ t113 a113 (loopsIn (Tryz.f113.body.getD .skip) 0) := loopsOk_nil (by kernel_rfl)
theorem r113 (x : InsT c113.ins) : fnK Tryz.prog Γ t113 a113 Tryz.f113 c113 x = g113 x.1 := by kernel_rfl
theorem k113 : TblOk Tryz.prog t113 := tblOk_nil
theorem o113 : Holds Tryz.prog 113 c113 := fn_holds (code := Tryz.f113.body.getD .skip) (by kernel_rfl) gamOk k113 Tryz.func113 (by kernel_rfl) (by kernel_rfl) (by kernel_rfl) (by kernel_rfl) v113 (fun x _ h => (r113 x).trans ((n113 x.1).trans h))
/-! ### 114: loop.example/g00076/laws.toHealth -/
noncomputable def t114 : Tbl := []
noncomputable def a114 : Nat → Option LoopAnn := fun _ => none
noncomputable def g114 (x0 : Ta38) : Option ((Ta38 × Unit) × Unit) :=
  some ((x0, ()), ())
noncomputable def f114 (x0 : Ta38) : Ta38 :=
  x0
theorem n114 (x0 : Ta38) : g114 x0 = some ((f114 x0, ()), ()) := by
  simp only [g114, f114, pull1]
noncomputable def c114 : Ctr := { ins := [.v Ty154], out := [Ty154], F := fun x => some ((f114 x.1, ()), ()) }
theorem v114 : LoopsOk Tryz.prog Γ t114 a114 (loopsIn (Tryz.f114.body.getD .skip) 0) := loopsOk_nil (by kernel_rfl)
theorem r114 (x : InsT c114.ins) : fnK Tryz.prog Γ t114 a114 Tryz.f114 c114 x = g114 x.1 := by kernel_rfl
theorem k114 : TblOk Tryz.prog t114 := tblOk_nil
theorem o114 : Holds Tryz.prog 114 c114 := fn_holds (code := Tryz.f114.body.getD .skip) (by kernel_rfl) gamOk k114 Tryz.func114 (by kernel_rfl) (by kernel_rfl) (by kernel_rfl) (by kernel_rfl) v114 (fun x _ h => (r114 x).trans ((n114 x.1).trans h))
/-! ### 215: loop.example/g00076/laws.toWay -/
noncomputable def t215 : Tbl := []
noncomputable def a215 : Nat → Option LoopAnn := fun _ => none
noncomputable def g215 (x0 : (Int × (Bool × Unit))) : Option (((Int × (Bool × Unit)) × Unit) × Unit) :=
  some ((x0, ()), ())
noncomputable def f215 (x0 : (Int × (Bool × Unit))) : (Int × (Bool × Unit)) :=
  x0
theorem n215 (x0 : (Int × (Bool × Unit))) : g215 x0 = some ((f215 x0, ()), ()) := by
  simp only [g215, f215, pull1]
noncomputable def c215 : Ctr := { ins := [.v Ty48], out := [Ty48], F := fun x => some ((f215 x.1, ()), ()) }
theorem v215 : LoopsOk Tryz.prog Γ t215 a215 (loopsIn (Tryz.f215.body.getD .skip) 0) := loopsOk_nil (by kernel_rfl)
theorem r215 (x : InsT c215.ins) : fnK Tryz.prog Γ t215 a215 Tryz.f215 c215 x = g215 x.1 := by kernel_rfl
theorem k215 : TblOk Tryz.prog t215 := tblOk_nil
theorem o215 : Holds Tryz.prog 215 c215 := fn_holds (code := Tryz.f215.body.getD .skip) (by kernel_rfl) gamOk k215 Tryz.func215 (by kernel_rfl) (by kernel_rfl) (by kernel_rfl) (by kernel_rfl) v215 (fun x _ h => (r215 x).trans ((n215 x.1).trans h))
/-! ### 164: loop.example/g00076/laws.toWayS -/
noncomputable def t164 : Tbl := [(215, [], c215)]
abbrev h164_L0 : Shape := { slots := [(0, .v Ty62), (3, .ms 7), (4, .v (.int .i64))], boxes := [(7, .arr Ty48)] }
abbrev e164_L0 : List (XT × Shape) := [(.exit 0, { slots := [(3, .ms 7)], boxes := [(7, .arr Ty48)] })]
noncomputable def q164_L0 (t0 : Ta3) (t4 : Int) (r7 : Ta3) : Option (Ta174 ⊕ (((Unit × Unit) × Ta30) ⊕ Empty)) :=
  bif (decide (t4 < (t0.len : Int))) then
    bif (decide (0 ≤ t4) && decide (t4 < (t0.len : Int))) then
      bif (decide (0 ≤ t4) && decide (t4 < (r7.len : Int))) then
        some (.inl ((t0, ((), ((wI (t4 + (1 : Int))), ()))), ((L.set r7 t4.toNat (f215 (L.get t0 t4.toNat))), ())))
      else
        none
    else
      none
  else
    some (.inr (.inl (((), ()), (r7, ()))))
noncomputable def s164_L0 (x : Ta174) : Option (Ta174 ⊕ (((Unit × Unit) × Ta30) ⊕ Empty)) := q164_L0 x.1.1 x.1.2.2.1 x.2.1
noncomputable def a164 : Nat → Option LoopAnn := fun c => bif Nat.beq c 0 then some (.fix h164_L0 e164_L0 s164_L0) else none
noncomputable def g164 (x0 : Ta3) : Option (Ta30 × Unit) :=
  bif (decide ((x0.len : Int) = (x0.len : Int)) && (decide (0 ≤ (x0.len : Int)) && (decide ((x0.len : Int) ≤ 2 ^ 40) && decide (16 * (x0.len : Int) ≤ 2 ^ 48)))) then
    (fixO s164_L0 ((x0, ((), ((0 : Int), ()))), ((L.rep (x0.len : Int).toNat (Ty.zero Ty48)), ()))).bind fun d2 => match d2 with
    | .inl y1 =>
      some ((y1.2.1, ()), ())
    | .inr e => nomatch e
  else
    none
noncomputable def c164 : Ctr := { ins := [.v Ty62], out := [Ty62], F := fun x => g164 x.1 }
noncomputable def l164 : List (Nat × Code) := loopsIn (Tryz.f164.body.getD .skip) 0
theorem w164_L0 (x : h164_L0.T) : runK Tryz.prog Γ t164 a164 (l164.getD 0 (0, .skip)).2 0 (pkSh h164_L0 x) (loopCls (sh := h164_L0) (es := e164_L0)) = (s164_L0 x : Option _) := by kernel_rfl
theorem v164 : LoopsOk Tryz.prog Γ t164 a164 (loopsIn (Tryz.f164.body.getD .skip) 0) := by
  have e : loopsIn (Tryz.f164.body.getD .skip) 0 = [(0, (l164.getD 0 (0, .skip)).2)] := by kernel_rfl
  rw [e]
  exact ⟨fun x d h => (w164_L0 x).trans h, trivial⟩
theorem r164 (x : InsT c164.ins) : fnK Tryz.prog Γ t164 a164 Tryz.f164 c164 x = g164 x.1 := by kernel_rfl
theorem k164 : TblOk Tryz.prog t164 := tblOk_cons o215 (tblOk_nil)
theorem o164 : Holds Tryz.prog 164 c164 := fn_holds (code := Tryz.f164.body.getD .skip) (by kernel_rfl) gamOk k164 Tryz.func164 (by kernel_rfl) (by kernel_rfl) (by kernel_rfl) (by kernel_rfl) v164 (fun x _ h => (r164 x).trans h)
/-! ### 98: loop.example/g00076/laws.toWaySS -/
noncomputable def t98 : Tbl := [(164, [], c164)]
abbrev h98_L0 : Shape := { slots := [(0, .v Ty82), (3, .ms 7), (4, .v (.int .i64))], boxes := [(7, .arr Ty62)] }
abbrev e98_L0 : List (XT × Shape) := [(.exit 0, { slots := [(3, .ms 7)], boxes := [(7, .arr Ty62)] })]
noncomputable def q98_L0 (t0 : Ta13) (t4 : Int) (r7 : Ta13) : Option (Ta187 ⊕ (((Unit × Unit) × Ta44) ⊕ Empty)) :=
  bif (decide (t4 < (t0.len : Int))) then
    bif (decide (0 ≤ t4) && decide (t4 < (t0.len : Int))) then
      (g164 (L.get t0 t4.toNat)).bind fun y1 =>
        bif (decide (0 ≤ t4) && decide (t4 < (r7.len : Int))) then
          some (.inl ((t0, ((), ((wI (t4 + (1 : Int))), ()))), ((L.set r7 t4.toNat y1.1.1), ())))
        else
          none
    else
      none
  else
    some (.inr (.inl (((), ()), (r7, ()))))
noncomputable def s98_L0 (x : Ta187) : Option (Ta187 ⊕ (((Unit × Unit) × Ta44) ⊕ Empty)) := q98_L0 x.1.1 x.1.2.2.1 x.2.1
noncomputable def a98 : Nat → Option LoopAnn := fun c => bif Nat.beq c 0 then some (.fix h98_L0 e98_L0 s98_L0) else none
noncomputable def g98 (x0 : Ta13) : Option (Ta44 × Unit) :=
  bif (decide ((x0.len : Int) = (x0.len : Int)) && (decide (0 ≤ (x0.len : Int)) && (decide ((x0.len : Int) ≤ 2 ^ 40) && decide (24 * (x0.len : Int) ≤ 2 ^ 48)))) then
    (fixO s98_L0 ((x0, ((), ((0 : Int), ()))), ((L.rep (x0.len : Int).toNat (Ty.zero Ty62)), ()))).bind fun d3 => match d3 with
    | .inl y2 =>
      some ((y2.2.1, ()), ())
    | .inr e => nomatch e
  else
    none
noncomputable def c98 : Ctr := { ins := [.v Ty82], out := [Ty82], F := fun x => g98 x.1 }
noncomputable def l98 : List (Nat × Code) := loopsIn (Tryz.f98.body.getD .skip) 0
theorem w98_L0 (x : h98_L0.T) : runK Tryz.prog Γ t98 a98 (l98.getD 0 (0, .skip)).2 0 (pkSh h98_L0 x) (loopCls (sh := h98_L0) (es := e98_L0)) = (s98_L0 x : Option _) := by kernel_rfl
theorem v98 : LoopsOk Tryz.prog Γ t98 a98 (loopsIn (Tryz.f98.body.getD .skip) 0) := by
  have e : loopsIn (Tryz.f98.body.getD .skip) 0 = [(0, (l98.getD 0 (0, .skip)).2)] := by kernel_rfl
  rw [e]
  exact ⟨fun x d h => (w98_L0 x).trans h, trivial⟩
theorem r98 (x : InsT c98.ins) : fnK Tryz.prog Γ t98 a98 Tryz.f98 c98 x = g98 x.1 := by kernel_rfl
theorem k98 : TblOk Tryz.prog t98 := tblOk_cons o164 (tblOk_nil)
theorem o98 : Holds Tryz.prog 98 c98 := fn_holds (code := Tryz.f98.body.getD .skip) (by kernel_rfl) gamOk k98 Tryz.func98 (by kernel_rfl) (by kernel_rfl) (by kernel_rfl) (by kernel_rfl) v98 (fun x _ h => (r98 x).trans h)
/-! ### 43: loop.example/g00076/laws.toCache -/
noncomputable def t43 : Tbl := [(58, [], c58), (98, [], c98)]
noncomputable def a43 : Nat → Option LoopAnn := fun _ => none
noncomputable def g43 (x0 : Ta137) : Option (Ta156 × Unit) :=
  (g98 x0.2.1).bind fun y1 =>
    some ((((f58 x0.1), y1.1), ()), ())
noncomputable def c43 : Ctr := { ins := [.v Ty218], out := [Ty218], F := fun x => g43 x.1 }
theorem v43 : LoopsOk Tryz.prog Γ t43 a43 (loopsIn (Tryz.f43.body.getD .skip) 0) := loopsOk_nil (by kernel_rfl)
theorem r43 (x : InsT c43.ins) : fnK Tryz.prog Γ t43 a43 Tryz.f43 c43 x = g43 x.1 := by kernel_rfl
theorem k43 : TblOk Tryz.prog t43 := tblOk_cons o58 (tblOk_cons o98 (tblOk_nil))
theorem o43 : Holds Tryz.prog 43 c43 := fn_holds (code := Tryz.f43.body.getD .skip) (by kernel_rfl) gamOk k43 Tryz.func43 (by kernel_rfl) (by kernel_rfl) (by kernel_rfl) (by kernel_rfl) v43 (fun x _ h => (r43 x).trans h)
/-! ### 115: loop.example/g00076/laws.toTlb -/
noncomputable def t115 : Tbl := [(61, [], c61)]
noncomputable def a115 : Nat → Option LoopAnn := fun _ => none
noncomputable def g115 (x0 : Ta0) : Option (Ta28 × Unit) :=
  (g61 x0.2.1).bind fun y1 =>
    some (((x0.1, y1.1), ()), ())
noncomputable def c115 : Ctr := { ins := [.v Ty83], out := [Ty83], F := fun x => g115 x.1 }
theorem v115 : LoopsOk Tryz.prog Γ t115 a115 (loopsIn (Tryz.f115.body.getD .skip) 0) := loopsOk_nil (by kernel_rfl)
theorem r115 (x : InsT c115.ins) : fnK Tryz.prog Γ t115 a115 Tryz.f115 c115 x = g115 x.1 := by kernel_rfl
theorem k115 : TblOk Tryz.prog t115 := tblOk_cons o61 (tblOk_nil)
theorem o115 : Holds Tryz.prog 115 c115 := fn_holds (code := Tryz.f115.body.getD .skip) (by kernel_rfl) gamOk k115 Tryz.func115 (by kernel_rfl) (by kernel_rfl) (by kernel_rfl) (by kernel_rfl) v115 (fun x _ h => (r115 x).trans h)
/-! ### 177: loop.example/g00076/laws.toOutEnd -/
noncomputable def t177 : Tbl := [(158, [], c158)]
noncomputable def a177 : Nat → Option LoopAnn := fun _ => none
noncomputable def g177 (x0 : Ta0) : Option (Ta28 × Unit) :=
  (g158 x0.2.1).bind fun y1 =>
    some (((x0.1, y1.1), ()), ())
noncomputable def c177 : Ctr := { ins := [.v Ty81], out := [Ty81], F := fun x => g177 x.1 }
theorem v177 : LoopsOk Tryz.prog Γ t177 a177 (loopsIn (Tryz.f177.body.getD .skip) 0) := loopsOk_nil (by kernel_rfl)
theorem r177 (x : InsT c177.ins) : fnK Tryz.prog Γ t177 a177 Tryz.f177 c177 x = g177 x.1 := by kernel_rfl
theorem k177 : TblOk Tryz.prog t177 := tblOk_cons o158 (tblOk_nil)
theorem o177 : Holds Tryz.prog 177 c177 := fn_holds (code := Tryz.f177.body.getD .skip) (by kernel_rfl) gamOk k177 Tryz.func177 (by kernel_rfl) (by kernel_rfl) (by kernel_rfl) (by kernel_rfl) v177 (fun x _ h => (r177 x).trans h)
/-! ### 116: loop.example/g00076/laws.toOutEndS -/
noncomputable def t116 : Tbl := [(177, [], c177)]
abbrev h116_L0 : Shape := { slots := [(0, .v Ty97), (3, .ms 7), (4, .v (.int .i64))], boxes := [(7, .arr Ty81)] }
abbrev e116_L0 : List (XT × Shape) := [(.exit 0, { slots := [(3, .ms 7)], boxes := [(7, .arr Ty81)] })]
noncomputable def q116_L0 (t0 : Ta10) (t4 : Int) (r7 : Ta10) : Option (Ta184 ⊕ (((Unit × Unit) × Ta41) ⊕ Empty)) :=
  bif (decide (t4 < (t0.len : Int))) then
    bif (decide (0 ≤ t4) && decide (t4 < (t0.len : Int))) then
      (g177 (L.get t0 t4.toNat)).bind fun y1 =>
        bif (decide (0 ≤ t4) && decide (t4 < (r7.len : Int))) then
          some (.inl ((t0, ((), ((wI (t4 + (1 : Int))), ()))), ((L.set r7 t4.toNat y1.1.1), ())))
        else
          none
    else
      none
  else
    some (.inr (.inl (((), ()), (r7, ()))))
noncomputable def s116_L0 (x : Ta184) : Option (Ta184 ⊕ (((Unit × Unit) × Ta41) ⊕ Empty)) := q116_L0 x.1.1 x.1.2.2.1 x.2.1
noncomputable def a116 : Nat → Option LoopAnn := fun c => bif Nat.beq c 0 then some (.fix h116_L0 e116_L0 s116_L0) else none
noncomputable def g116 (x0 : Ta10) : Option (Ta41 × Unit) :=
  bif (decide ((x0.len : Int) = (x0.len : Int)) && (decide (0 ≤ (x0.len : Int)) && (decide ((x0.len : Int) ≤ 2 ^ 40) && decide (32 * (x0.len : Int) ≤ 2 ^ 48)))) then
    (fixO s116_L0 ((x0, ((), ((0 : Int), ()))), ((L.rep (x0.len : Int).toNat (Ty.zero Ty81)), ()))).bind fun d3 => match d3 with
    | .inl y2 =>
      some ((y2.2.1, ()), ())
    | .inr e => nomatch e
  else
    none
noncomputable def c116 : Ctr := { ins := [.v Ty97], out := [Ty97], F := fun x => g116 x.1 }
noncomputable def l116 : List (Nat × Code) := loopsIn (Tryz.f116.body.getD .skip) 0
theorem w116_L0 (x : h116_L0.T) : runK Tryz.prog Γ t116 a116 (l116.getD 0 (0, .skip)).2 0 (pkSh h116_L0 x) (loopCls (sh := h116_L0) (es := e116_L0)) = (s116_L0 x : Option _) := by kernel_rfl
theorem v116 : LoopsOk Tryz.prog Γ t116 a116 (loopsIn (Tryz.f116.body.getD .skip) 0) := by
  have e : loopsIn (Tryz.f116.body.getD .skip) 0 = [(0, (l116.getD 0 (0, .skip)).2)] := by kernel_rfl
  rw [e]
  exact ⟨fun x d h => (w116_L0 x).trans h, trivial⟩
theorem r116 (x : InsT c116.ins) : fnK Tryz.prog Γ t116 a116 Tryz.f116 c116 x = g116 x.1 := by kernel_rfl
theorem k116 : TblOk Tryz.prog t116 := tblOk_cons o177 (tblOk_nil)
theorem o116 : Holds Tryz.prog 116 c116 := fn_holds (code := Tryz.f116.body.getD .skip) (by kernel_rfl) gamOk k116 Tryz.func116 (by kernel_rfl) (by kernel_rfl) (by kernel_rfl) (by kernel_rfl) v116 (fun x _ h => (r116 x).trans h)
/-! ### 178: loop.example/g00076/laws.toInEnd -/
noncomputable def t178 : Tbl := [(158, [], c158)]
noncomputable def a178 : Nat → Option LoopAnn := fun _ => none
noncomputable def g178 (x0 : ((L Int) × Unit)) : Option (Ta5 × Unit) :=
  (g158 x0.1).bind fun y1 =>
    some ((y1.1, ()), ())
noncomputable def c178 : Ctr := { ins := [.v Ty21], out := [Ty21], F := fun x => g178 x.1 }
theorem v178 : LoopsOk Tryz.prog Γ t178 a178 (loopsIn (Tryz.f178.body.getD .skip) 0) := loopsOk_nil (by kernel_rfl)
theorem r178 (x : InsT c178.ins) : fnK Tryz.prog Γ t178 a178 Tryz.f178 c178 x = g178 x.1 := by kernel_rfl
theorem k178 : TblOk Tryz.prog t178 := tblOk_cons o158 (tblOk_nil)
theorem o178 : Holds Tryz.prog 178 c178 := fn_holds (code := Tryz.f178.body.getD .skip) (by kernel_rfl) gamOk k178 Tryz.func178 (by kernel_rfl) (by kernel_rfl) (by kernel_rfl) (by kernel_rfl) v178 (fun x _ h => (r178 x).trans h)
/-! ### 117: loop.example/g00076/laws.toInEndS -/
noncomputable def t117 : Tbl := [(178, [], c178)]
abbrev h117_L0 : Shape := { slots := [(0, .v Ty37), (3, .ms 7), (4, .v (.int .i64))], boxes := [(7, .arr Ty21)] }
abbrev e117_L0 : List (XT × Shape) := [(.exit 0, { slots := [(3, .ms 7)], boxes := [(7, .arr Ty21)] })]
noncomputable def q117_L0 (t0 : (L ((L Int) × Unit))) (t4 : Int) (r7 : (L ((L Int) × Unit))) : Option (Ta157 ⊕ (((Unit × Unit) × Ta15) ⊕ Empty)) :=
  bif (decide (t4 < (t0.len : Int))) then
    bif (decide (0 ≤ t4) && decide (t4 < (t0.len : Int))) then
      (g178 (L.get t0 t4.toNat)).bind fun y1 =>
        bif (decide (0 ≤ t4) && decide (t4 < (r7.len : Int))) then
          some (.inl ((t0, ((), ((wI (t4 + (1 : Int))), ()))), ((L.set r7 t4.toNat y1.1.1), ())))
        else
          none
    else
      none
  else
    some (.inr (.inl (((), ()), (r7, ()))))
noncomputable def s117_L0 (x : Ta157) : Option (Ta157 ⊕ (((Unit × Unit) × Ta15) ⊕ Empty)) := q117_L0 x.1.1 x.1.2.2.1 x.2.1
noncomputable def a117 : Nat → Option LoopAnn := fun c => bif Nat.beq c 0 then some (.fix h117_L0 e117_L0 s117_L0) else none
noncomputable def g117 (x0 : (L ((L Int) × Unit))) : Option (Ta15 × Unit) :=
  bif (decide ((x0.len : Int) = (x0.len : Int)) && (decide (0 ≤ (x0.len : Int)) && (decide ((x0.len : Int) ≤ 2 ^ 40) && decide (24 * (x0.len : Int) ≤ 2 ^ 48)))) then
    (fixO s117_L0 ((x0, ((), ((0 : Int), ()))), ((L.rep (x0.len : Int).toNat (Ty.zero Ty21)), ()))).bind fun d3 => match d3 with
    | .inl y2 =>
      some ((y2.2.1, ()), ())
    | .inr e => nomatch e
  else
    none
noncomputable def c117 : Ctr := { ins := [.v Ty37], out := [Ty37], F := fun x => g117 x.1 }
noncomputable def l117 : List (Nat × Code) := loopsIn (Tryz.f117.body.getD .skip) 0
theorem w117_L0 (x : h117_L0.T) : runK Tryz.prog Γ t117 a117 (l117.getD 0 (0, .skip)).2 0 (pkSh h117_L0 x) (loopCls (sh := h117_L0) (es := e117_L0)) = (s117_L0 x : Option _) := by kernel_rfl
theorem v117 : LoopsOk Tryz.prog Γ t117 a117 (loopsIn (Tryz.f117.body.getD .skip) 0) := by
  have e : loopsIn (Tryz.f117.body.getD .skip) 0 = [(0, (l117.getD 0 (0, .skip)).2)] := by kernel_rfl
  rw [e]
  exact ⟨fun x d h => (w117_L0 x).trans h, trivial⟩
theorem r117 (x : InsT c117.ins) : fnK Tryz.prog Γ t117 a117 Tryz.f117 c117 x = g117 x.1 := by kernel_rfl
theorem k117 : TblOk Tryz.prog t117 := tblOk_cons o178 (tblOk_nil)
theorem o117 : Holds Tryz.prog 117 c117 := fn_holds (code := Tryz.f117.body.getD .skip) (by kernel_rfl) gamOk k117 Tryz.func117 (by kernel_rfl) (by kernel_rfl) (by kernel_rfl) (by kernel_rfl) v117 (fun x _ h => (r117 x).trans h)
/-! ### 179: loop.example/g00076/laws.toDevState -/
noncomputable def t179 : Tbl := [(158, [], c158)]
noncomputable def a179 : Nat → Option LoopAnn := fun _ => none
noncomputable def g179 (x0 : Ta11) : Option ((Ta11 × Unit) × Unit) :=
  (g158 x0.1).bind fun y1 =>
    (g158 x0.2.1).bind fun y2 =>
      some (((y1.1.1, y2.1), ()), ())
noncomputable def c179 : Ctr := { ins := [.v Ty96], out := [Ty96], F := fun x => g179 x.1 }
theorem v179 : LoopsOk Tryz.prog Γ t179 a179 (loopsIn (Tryz.f179.body.getD .skip) 0) := loopsOk_nil (by kernel_rfl)
theorem r179 (x : InsT c179.ins) : fnK Tryz.prog Γ t179 a179 Tryz.f179 c179 x = g179 x.1 := by kernel_rfl
theorem k179 : TblOk Tryz.prog t179 := tblOk_cons o158 (tblOk_nil)
theorem o179 : Holds Tryz.prog 179 c179 := fn_holds (code := Tryz.f179.body.getD .skip) (by kernel_rfl) gamOk k179 Tryz.func179 (by kernel_rfl) (by kernel_rfl) (by kernel_rfl) (by kernel_rfl) v179 (fun x _ h => (r179 x).trans h)
/-! ### 118: loop.example/g00076/laws.toDevStateS -/
noncomputable def t118 : Tbl := [(179, [], c179)]
abbrev h118_L0 : Shape := { slots := [(0, .v Ty117), (3, .ms 7), (4, .v (.int .i64))], boxes := [(7, .arr Ty96)] }
abbrev e118_L0 : List (XT × Shape) := [(.exit 0, { slots := [(3, .ms 7)], boxes := [(7, .arr Ty96)] })]
noncomputable def q118_L0 (t0 : Ta25) (t4 : Int) (r7 : Ta25) : Option (Ta196 ⊕ (((Unit × Unit) × Ta54) ⊕ Empty)) :=
  bif (decide (t4 < (t0.len : Int))) then
    bif (decide (0 ≤ t4) && decide (t4 < (t0.len : Int))) then
      (g179 (L.get t0 t4.toNat)).bind fun y1 =>
        bif (decide (0 ≤ t4) && decide (t4 < (r7.len : Int))) then
          some (.inl ((t0, ((), ((wI (t4 + (1 : Int))), ()))), ((L.set r7 t4.toNat y1.1.1), ())))
        else
          none
    else
      none
  else
    some (.inr (.inl (((), ()), (r7, ()))))
noncomputable def s118_L0 (x : Ta196) : Option (Ta196 ⊕ (((Unit × Unit) × Ta54) ⊕ Empty)) := q118_L0 x.1.1 x.1.2.2.1 x.2.1
noncomputable def a118 : Nat → Option LoopAnn := fun c => bif Nat.beq c 0 then some (.fix h118_L0 e118_L0 s118_L0) else none
noncomputable def g118 (x0 : Ta25) : Option (Ta54 × Unit) :=
  bif (decide ((x0.len : Int) = (x0.len : Int)) && (decide (0 ≤ (x0.len : Int)) && (decide ((x0.len : Int) ≤ 2 ^ 40) && decide (48 * (x0.len : Int) ≤ 2 ^ 48)))) then
    (fixO s118_L0 ((x0, ((), ((0 : Int), ()))), ((L.rep (x0.len : Int).toNat (Ty.zero Ty96)), ()))).bind fun d3 => match d3 with
    | .inl y2 =>
      some ((y2.2.1, ()), ())
    | .inr e => nomatch e
  else
    none
noncomputable def c118 : Ctr := { ins := [.v Ty117], out := [Ty117], F := fun x => g118 x.1 }
noncomputable def l118 : List (Nat × Code) := loopsIn (Tryz.f118.body.getD .skip) 0
theorem w118_L0 (x : h118_L0.T) : runK Tryz.prog Γ t118 a118 (l118.getD 0 (0, .skip)).2 0 (pkSh h118_L0 x) (loopCls (sh := h118_L0) (es := e118_L0)) = (s118_L0 x : Option _) := by kernel_rfl
theorem v118 : LoopsOk Tryz.prog Γ t118 a118 (loopsIn (Tryz.f118.body.getD .skip) 0) := by
  have e : loopsIn (Tryz.f118.body.getD .skip) 0 = [(0, (l118.getD 0 (0, .skip)).2)] := by kernel_rfl
  rw [e]
  exact ⟨fun x d h => (w118_L0 x).trans h, trivial⟩
theorem r118 (x : InsT c118.ins) : fnK Tryz.prog Γ t118 a118 Tryz.f118 c118 x = g118 x.1 := by kernel_rfl
theorem k118 : TblOk Tryz.prog t118 := tblOk_cons o179 (tblOk_nil)
theorem o118 : Holds Tryz.prog 118 c118 := fn_holds (code := Tryz.f118.body.getD .skip) (by kernel_rfl) gamOk k118 Tryz.func118 (by kernel_rfl) (by kernel_rfl) (by kernel_rfl) (by kernel_rfl) v118 (fun x _ h => (r118 x).trans h)
/-! ### 49: loop.example/g00076/laws.toPartState -/
noncomputable def t49 : Tbl := [(112, [], c112), (113, [], c113), (114, [], c114), (43, [], c43), (115, [], c115), (28, [], c28), (116, [], c116), (117, [], c117), (118, [], c118)]
noncomputable def a49 : Nat → Option LoopAnn := fun _ => none
noncomputable def g49 (x0 : Ta270) : Option (Ta271 × Unit) :=
  (g112 x0.1).bind fun y1 =>
    (g43 x0.2.2.2.1).bind fun y2 =>
      (g115 x0.2.2.2.2.1).bind fun y3 =>
        (g28 x0.2.2.2.2.2.2.2.1).bind fun y4 =>
          (g116 x0.2.2.2.2.2.2.2.2.1).bind fun y5 =>
            (g117 x0.2.2.2.2.2.2.2.2.2.1).bind fun y6 =>
              (g118 x0.2.2.2.2.2.2.2.2.2.2.1).bind fun y7 =>
                some (((y1.1.1, ((f113 x0.2.1), ((f114 x0.2.2.1), (y2.1.1, (y3.1.1, (x0.2.2.2.2.2.1, (x0.2.2.2.2.2.2.1, (y4.1.1, (y5.1.1, (y6.1.1, y7.1)))))))))), ()), ())
noncomputable def c49 : Ctr := { ins := [.v Ty290], out := [Ty290], F := fun x => g49 x.1 }
theorem v49 : LoopsOk Tryz.prog Γ t49 a49 (loopsIn (Tryz.f49.body.getD .skip) 0) := loopsOk_nil (by kernel_rfl)
theorem r49 (x : InsT c49.ins) : fnK Tryz.prog Γ t49 a49 Tryz.f49 c49 x = g49 x.1 := by kernel_rfl
theorem k49 : TblOk Tryz.prog t49 := tblOk_cons o112 (tblOk_cons o113 (tblOk_cons o114 (tblOk_cons o43 (tblOk_cons o115 (tblOk_cons o28 (tblOk_cons o116 (tblOk_cons o117 (tblOk_cons o118 (tblOk_nil)))))))))
theorem o49 : Holds Tryz.prog 49 c49 := fn_holds (code := Tryz.f49.body.getD .skip) (by kernel_rfl) gamOk k49 Tryz.func49 (by kernel_rfl) (by kernel_rfl) (by kernel_rfl) (by kernel_rfl) v49 (fun x _ h => (r49 x).trans h)
/-! ### 77: loop.example/g00076/spec.l01In -/
noncomputable def t77 : Tbl := []
noncomputable def a77 : Nat → Option LoopAnn := fun _ => none
noncomputable def g77 (x0 : Int) (x1 : Int) (x2 : Int) : Option ((Bool × Unit) × Unit) :=
  bif (decide (x0 ≥ x1)) then
    some (((decide (x0 ≤ x2)), ()), ())
  else
    some ((false, ()), ())
noncomputable def f77 (x0 : Int) (x1 : Int) (x2 : Int) : Bool :=
  bif (decide (x0 ≥ x1)) then
    (decide (x0 ≤ x2))
  else
    false
theorem n77 (x0 : Int) (x1 : Int) (x2 : Int) : g77 x0 x1 x2 = some ((f77 x0 x1 x2, ()), ()) := by
  simp only [g77, f77, pull1]
noncomputable def c77 : Ctr := { ins := [.v (.int .i64), .v (.int .i64), .v (.int .i64)], out := [.bool], F := fun x => some ((f77 x.1 x.2.1 x.2.2.1, ()), ()) }
theorem v77 : LoopsOk Tryz.prog Γ t77 a77 (loopsIn (Tryz.f77.body.getD .skip) 0) := loopsOk_nil (by kernel_rfl)
theorem r77 (x : InsT c77.ins) : fnK Tryz.prog Γ t77 a77 Tryz.f77 c77 x = g77 x.1 x.2.1 x.2.2.1 := by kernel_rfl
theorem k77 : TblOk Tryz.prog t77 := tblOk_nil
theorem o77 : Holds Tryz.prog 77 c77 := fn_holds (code := Tryz.f77.body.getD .skip) (by kernel_rfl) gamOk k77 Tryz.func77 (by kernel_rfl) (by kernel_rfl) (by kernel_rfl) (by kernel_rfl) v77 (fun x _ h => (r77 x).trans ((n77 x.1 x.2.1 x.2.2.1).trans h))
/-! ### 162: loop.example/g00076/spec.ShapeOk -/
noncomputable def t162 : Tbl := [(77, [], c77)]
noncomputable def a162 : Nat → Option LoopAnn := fun _ => none
noncomputable def g162 (x0 : Ta8) : Option ((Bool × Unit) × Unit) :=
  bif (x0.1 == (1 : Int)) then
    bif (x0.2.2.1 == (4 : Int)) then
      some (((f77 x0.2.1 (1 : Int) (4 : Int)), ()), ())
    else
      bif (x0.2.2.1 == (8 : Int)) then
        some (((f77 x0.2.1 (1 : Int) (4 : Int)), ()), ())
      else
        bif (x0.2.2.1 == (16 : Int)) then
          some (((f77 x0.2.1 (1 : Int) (4 : Int)), ()), ())
        else
          bif (x0.2.2.1 == (32 : Int)) then
            some (((f77 x0.2.1 (1 : Int) (4 : Int)), ()), ())
          else
            some ((false, ()), ())
  else
    bif (x0.1 == (2 : Int)) then
      bif (x0.2.2.1 == (4 : Int)) then
        some (((f77 x0.2.1 (1 : Int) (4 : Int)), ()), ())
      else
        bif (x0.2.2.1 == (8 : Int)) then
          some (((f77 x0.2.1 (1 : Int) (4 : Int)), ()), ())
        else
          bif (x0.2.2.1 == (16 : Int)) then
            some (((f77 x0.2.1 (1 : Int) (4 : Int)), ()), ())
          else
            bif (x0.2.2.1 == (32 : Int)) then
              some (((f77 x0.2.1 (1 : Int) (4 : Int)), ()), ())
            else
              some ((false, ()), ())
    else
      bif (x0.1 == (4 : Int)) then
        bif (x0.2.2.1 == (4 : Int)) then
          some (((f77 x0.2.1 (1 : Int) (4 : Int)), ()), ())
        else
          bif (x0.2.2.1 == (8 : Int)) then
            some (((f77 x0.2.1 (1 : Int) (4 : Int)), ()), ())
          else
            bif (x0.2.2.1 == (16 : Int)) then
              some (((f77 x0.2.1 (1 : Int) (4 : Int)), ()), ())
            else
              bif (x0.2.2.1 == (32 : Int)) then
                some (((f77 x0.2.1 (1 : Int) (4 : Int)), ()), ())
              else
                some ((false, ()), ())
      else
        bif (x0.1 == (8 : Int)) then
          bif (x0.2.2.1 == (4 : Int)) then
            some (((f77 x0.2.1 (1 : Int) (4 : Int)), ()), ())
          else
            bif (x0.2.2.1 == (8 : Int)) then
              some (((f77 x0.2.1 (1 : Int) (4 : Int)), ()), ())
            else
              bif (x0.2.2.1 == (16 : Int)) then
                some (((f77 x0.2.1 (1 : Int) (4 : Int)), ()), ())
              else
                bif (x0.2.2.1 == (32 : Int)) then
                  some (((f77 x0.2.1 (1 : Int) (4 : Int)), ()), ())
                else
                  some ((false, ()), ())
        else
          bif (x0.2.2.1 == (4 : Int)) then
            bif (x0.1 == (16 : Int)) then
              some (((f77 x0.2.1 (1 : Int) (4 : Int)), ()), ())
            else
              some ((false, ()), ())
          else
            bif (x0.2.2.1 == (8 : Int)) then
              bif (x0.1 == (16 : Int)) then
                some (((f77 x0.2.1 (1 : Int) (4 : Int)), ()), ())
              else
                some ((false, ()), ())
            else
              bif (x0.2.2.1 == (16 : Int)) then
                bif (x0.1 == (16 : Int)) then
                  some (((f77 x0.2.1 (1 : Int) (4 : Int)), ()), ())
                else
                  some ((false, ()), ())
              else
                bif (x0.1 == (16 : Int)) then
                  bif (x0.2.2.1 == (32 : Int)) then
                    some (((f77 x0.2.1 (1 : Int) (4 : Int)), ()), ())
                  else
                    some ((false, ()), ())
                else
                  some ((false, ()), ())
noncomputable def f162 (x0 : Ta8) : Bool :=
  bif (x0.1 == (1 : Int)) then
    bif (x0.2.2.1 == (4 : Int)) then
      (f77 x0.2.1 (1 : Int) (4 : Int))
    else
      bif (x0.2.2.1 == (8 : Int)) then
        (f77 x0.2.1 (1 : Int) (4 : Int))
      else
        bif (x0.2.2.1 == (16 : Int)) then
          (f77 x0.2.1 (1 : Int) (4 : Int))
        else
          bif (x0.2.2.1 == (32 : Int)) then
            (f77 x0.2.1 (1 : Int) (4 : Int))
          else
            false
  else
    bif (x0.1 == (2 : Int)) then
      bif (x0.2.2.1 == (4 : Int)) then
        (f77 x0.2.1 (1 : Int) (4 : Int))
      else
        bif (x0.2.2.1 == (8 : Int)) then
          (f77 x0.2.1 (1 : Int) (4 : Int))
        else
          bif (x0.2.2.1 == (16 : Int)) then
            (f77 x0.2.1 (1 : Int) (4 : Int))
          else
            bif (x0.2.2.1 == (32 : Int)) then
              (f77 x0.2.1 (1 : Int) (4 : Int))
            else
              false
    else
      bif (x0.1 == (4 : Int)) then
        bif (x0.2.2.1 == (4 : Int)) then
          (f77 x0.2.1 (1 : Int) (4 : Int))
        else
          bif (x0.2.2.1 == (8 : Int)) then
            (f77 x0.2.1 (1 : Int) (4 : Int))
          else
            bif (x0.2.2.1 == (16 : Int)) then
              (f77 x0.2.1 (1 : Int) (4 : Int))
            else
              bif (x0.2.2.1 == (32 : Int)) then
                (f77 x0.2.1 (1 : Int) (4 : Int))
              else
                false
      else
        bif (x0.1 == (8 : Int)) then
          bif (x0.2.2.1 == (4 : Int)) then
            (f77 x0.2.1 (1 : Int) (4 : Int))
          else
            bif (x0.2.2.1 == (8 : Int)) then
              (f77 x0.2.1 (1 : Int) (4 : Int))
            else
              bif (x0.2.2.1 == (16 : Int)) then
                (f77 x0.2.1 (1 : Int) (4 : Int))
              else
                bif (x0.2.2.1 == (32 : Int)) then
                  (f77 x0.2.1 (1 : Int) (4 : Int))
                else
                  false
        else
          bif (x0.2.2.1 == (4 : Int)) then
            bif (x0.1 == (16 : Int)) then
              (f77 x0.2.1 (1 : Int) (4 : Int))
            else
              false
          else
            bif (x0.2.2.1 == (8 : Int)) then
              bif (x0.1 == (16 : Int)) then
                (f77 x0.2.1 (1 : Int) (4 : Int))
              else
                false
            else
              bif (x0.2.2.1 == (16 : Int)) then
                bif (x0.1 == (16 : Int)) then
                  (f77 x0.2.1 (1 : Int) (4 : Int))
                else
                  false
              else
                bif (x0.1 == (16 : Int)) then
                  bif (x0.2.2.1 == (32 : Int)) then
                    (f77 x0.2.1 (1 : Int) (4 : Int))
                  else
                    false
                else
                  false
theorem n162 (x0 : Ta8) : g162 x0 = some ((f162 x0, ()), ()) := by
  simp only [g162, f162, pull1]
noncomputable def c162 : Ctr := { ins := [.v Ty119], out := [.bool], F := fun x => some ((f162 x.1, ()), ()) }
theorem v162 : LoopsOk Tryz.prog Γ t162 a162 (loopsIn (Tryz.f162.body.getD .skip) 0) := loopsOk_nil (by kernel_rfl)
theorem r162 (x : InsT c162.ins) : fnK Tryz.prog Γ t162 a162 Tryz.f162 c162 x = g162 x.1 := by kernel_rfl
theorem k162 : TblOk Tryz.prog t162 := tblOk_cons o77 (tblOk_nil)
theorem o162 : Holds Tryz.prog 162 c162 := fn_holds (code := Tryz.f162.body.getD .skip) (by kernel_rfl) gamOk k162 Tryz.func162 (by kernel_rfl) (by kernel_rfl) (by kernel_rfl) (by kernel_rfl) v162 (fun x _ h => (r162 x).trans ((n162 x.1).trans h))
/-! ### 152: loop.example/g00076/spec.CostsOk -/
noncomputable def t152 : Tbl := [(77, [], c77)]
noncomputable def a152 : Nat → Option LoopAnn := fun _ => none
noncomputable def g152 (x0 : Ta110) : Option ((Bool × Unit) × Unit) :=
  bif (f77 x0.1 (1 : Int) (20 : Int)) then
    bif (f77 x0.2.1 (0 : Int) (50 : Int)) then
      bif (f77 x0.2.2.1 (0 : Int) (50 : Int)) then
        bif (f77 x0.2.2.2.1 (0 : Int) (50 : Int)) then
          bif (f77 x0.2.2.2.2.1 (0 : Int) (50 : Int)) then
            bif (f77 x0.2.2.2.2.2.1 (0 : Int) (50 : Int)) then
              some (((f77 x0.2.2.2.2.2.2.1 (0 : Int) (50 : Int)), ()), ())
            else
              some ((false, ()), ())
          else
            some ((false, ()), ())
        else
          some ((false, ()), ())
      else
        some ((false, ()), ())
    else
      some ((false, ()), ())
  else
    some ((false, ()), ())
noncomputable def f152 (x0 : Ta110) : Bool :=
  bif (f77 x0.1 (1 : Int) (20 : Int)) then
    bif (f77 x0.2.1 (0 : Int) (50 : Int)) then
      bif (f77 x0.2.2.1 (0 : Int) (50 : Int)) then
        bif (f77 x0.2.2.2.1 (0 : Int) (50 : Int)) then
          bif (f77 x0.2.2.2.2.1 (0 : Int) (50 : Int)) then
            bif (f77 x0.2.2.2.2.2.1 (0 : Int) (50 : Int)) then
              (f77 x0.2.2.2.2.2.2.1 (0 : Int) (50 : Int))
            else
              false
          else
            false
        else
          false
      else
        false
    else
      false
  else
    false
theorem n152 (x0 : Ta110) : g152 x0 = some ((f152 x0, ()), ()) := by
  simp only [g152, f152, pull1]
noncomputable def c152 : Ctr := { ins := [.v Ty223], out := [.bool], F := fun x => some ((f152 x.1, ()), ()) }
theorem v152 : LoopsOk Tryz.prog Γ t152 a152 (loopsIn (Tryz.f152.body.getD .skip) 0) := loopsOk_nil (by kernel_rfl)
theorem r152 (x : InsT c152.ins) : fnK Tryz.prog Γ t152 a152 Tryz.f152 c152 x = g152 x.1 := by kernel_rfl
theorem k152 : TblOk Tryz.prog t152 := tblOk_cons o77 (tblOk_nil)
theorem o152 : Holds Tryz.prog 152 c152 := fn_holds (code := Tryz.f152.body.getD .skip) (by kernel_rfl) gamOk k152 Tryz.func152 (by kernel_rfl) (by kernel_rfl) (by kernel_rfl) (by kernel_rfl) v152 (fun x _ h => (r152 x).trans ((n152 x.1).trans h))
/-! ### 236: loop.example/g00076/spec.l02Forms -/
noncomputable def t236 : Tbl := []
noncomputable def a236 : Nat → Option LoopAnn := fun _ => none
noncomputable def g236 : Option Ta5 :=
  some (((L.of (Ty.zero (.int .i64)) [(0 : Int), (7 : Int), (7 : Int), (7 : Int), (7 : Int), (7 : Int), (7 : Int), (7 : Int), (7 : Int), (7 : Int), (7 : Int), (7 : Int), (7 : Int), (11 : Int), (9 : Int), (11 : Int), (11 : Int), (11 : Int), (11 : Int), (11 : Int), (11 : Int), (11 : Int), (9 : Int), (10 : Int), (1 : Int), (11 : Int), (11 : Int), (11 : Int), (9 : Int), (9 : Int), (0 : Int), (0 : Int), (8 : Int)]), ()), ())
noncomputable def f236 : (L Int) :=
  (L.of (Ty.zero (.int .i64)) [(0 : Int), (7 : Int), (7 : Int), (7 : Int), (7 : Int), (7 : Int), (7 : Int), (7 : Int), (7 : Int), (7 : Int), (7 : Int), (7 : Int), (7 : Int), (11 : Int), (9 : Int), (11 : Int), (11 : Int), (11 : Int), (11 : Int), (11 : Int), (11 : Int), (11 : Int), (9 : Int), (10 : Int), (1 : Int), (11 : Int), (11 : Int), (11 : Int), (9 : Int), (9 : Int), (0 : Int), (0 : Int), (8 : Int)])
theorem n236 : g236 = some ((f236, ()), ()) := by
  simp only [g236, f236, pull1]
noncomputable def c236 : Ctr := { ins := [], out := [(.sl (.int .i64))], F := fun x => some ((f236, ()), ()) }
theorem v236 : LoopsOk Tryz.prog Γ t236 a236 (loopsIn (Tryz.f236.body.getD .skip) 0) := loopsOk_nil (by kernel_rfl)
theorem r236 (x : InsT c236.ins) : fnK Tryz.prog Γ t236 a236 Tryz.f236 c236 x = g236 := by kernel_rfl
theorem k236 : TblOk Tryz.prog t236 := tblOk_nil
theorem o236 : Holds Tryz.prog 236 c236 := fn_holds (code := Tryz.f236.body.getD .skip) (by kernel_rfl) gamOk k236 Tryz.func236 (by kernel_rfl) (by kernel_rfl) (by kernel_rfl) (by kernel_rfl) v236 (fun x _ h => (r236 x).trans ((n236).trans h))
/-! ### 208: loop.example/g00076/spec.FormOf -/
noncomputable def t208 : Tbl := [(77, [], c77), (236, [], c236)]
noncomputable def a208 : Nat → Option LoopAnn := fun _ => none
noncomputable def g208 (x0 : Int) : Option ((Int × Unit) × Unit) :=
  bif (!(f77 x0 (0 : Int) (32 : Int))) then
    some (((-1 : Int), ()), ())
  else
    bif (decide (0 ≤ x0) && decide (x0 < ((f236).len : Int))) then
      some (((L.get (f236) x0.toNat), ()), ())
    else
      none
noncomputable def c208 : Ctr := { ins := [.v (.int .i64)], out := [(.int .i64)], F := fun x => g208 x.1 }
theorem v208 : LoopsOk Tryz.prog Γ t208 a208 (loopsIn (Tryz.f208.body.getD .skip) 0) := loopsOk_nil (by kernel_rfl)
theorem r208 (x : InsT c208.ins) : fnK Tryz.prog Γ t208 a208 Tryz.f208 c208 x = g208 x.1 := by kernel_rfl
theorem k208 : TblOk Tryz.prog t208 := tblOk_cons o77 (tblOk_cons o236 (tblOk_nil))
theorem o208 : Holds Tryz.prog 208 c208 := fn_holds (code := Tryz.f208.body.getD .skip) (by kernel_rfl) gamOk k208 Tryz.func208 (by kernel_rfl) (by kernel_rfl) (by kernel_rfl) (by kernel_rfl) v208 (fun x _ h => (r208 x).trans h)
/-! ### 153: loop.example/g00076/spec.OpCost -/
noncomputable def t153 : Tbl := [(152, [], c152), (208, [], c208), (77, [], c77)]
noncomputable def a153 : Nat → Option LoopAnn := fun _ => none
noncomputable def g153 (x0 : Ta110) (x1 : Int) : Option ((Int × Unit) × Unit) :=
  bif (!(f152 x0)) then
    some (((-1 : Int), ()), ())
  else
    (g208 x1).bind fun y1 =>
      bif (decide (y1.1.1 < (0 : Int))) then
        some (((-1 : Int), ()), ())
      else
        bif (x1 == (9 : Int)) then
          some (((wI (x0.1 + x0.2.1)), ()), ())
        else
          bif (x1 == (10 : Int)) then
            some (((wI (x0.1 + x0.2.1)), ()), ())
          else
            bif (f77 x1 (15 : Int) (18 : Int)) then
              some (((wI (x0.1 + x0.2.2.1)), ()), ())
            else
              bif (decide (x1 ≥ (25 : Int))) then
                some (((wI (x0.1 + x0.2.2.2.2.2.1)), ()), ())
              else
                some ((x0.1, ()), ())
noncomputable def c153 : Ctr := { ins := [.v Ty223, .v (.int .i64)], out := [(.int .i64)], F := fun x => g153 x.1 x.2.1 }
theorem v153 : LoopsOk Tryz.prog Γ t153 a153 (loopsIn (Tryz.f153.body.getD .skip) 0) := loopsOk_nil (by kernel_rfl)
theorem r153 (x : InsT c153.ins) : fnK Tryz.prog Γ t153 a153 Tryz.f153 c153 x = g153 x.1 x.2.1 := by kernel_rfl
theorem k153 : TblOk Tryz.prog t153 := tblOk_cons o152 (tblOk_cons o208 (tblOk_cons o77 (tblOk_nil)))
theorem o153 : Holds Tryz.prog 153 c153 := fn_holds (code := Tryz.f153.body.getD .skip) (by kernel_rfl) gamOk k153 Tryz.func153 (by kernel_rfl) (by kernel_rfl) (by kernel_rfl) (by kernel_rfl) v153 (fun x _ h => (r153 x).trans h)
/-! ### 209: loop.example/g00076/spec.AccessCost -/
noncomputable def t209 : Tbl := [(152, [], c152)]
noncomputable def a209 : Nat → Option LoopAnn := fun _ => none
noncomputable def g209 (x0 : Ta110) (x1 : Ta23) : Option ((Int × Unit) × Unit) :=
  bif (!(f152 x0)) then
    some (((-1 : Int), ()), ())
  else
    bif (!x1.1) then
      bif (!x1.2.1) then
        bif x1.2.2.1 then
          some (((wI ((wI ((wI ((0 : Int) + x0.2.2.2.1)) + x0.2.2.2.2.1)) + x0.2.2.2.2.2.2.1)), ()), ())
        else
          some (((wI ((wI ((0 : Int) + x0.2.2.2.1)) + x0.2.2.2.2.1)), ()), ())
      else
        bif x1.2.2.1 then
          some (((wI ((wI ((0 : Int) + x0.2.2.2.1)) + x0.2.2.2.2.2.2.1)), ()), ())
        else
          some (((wI ((0 : Int) + x0.2.2.2.1)), ()), ())
    else
      bif (!x1.2.1) then
        bif x1.2.2.1 then
          some (((wI ((wI ((0 : Int) + x0.2.2.2.2.1)) + x0.2.2.2.2.2.2.1)), ()), ())
        else
          some (((wI ((0 : Int) + x0.2.2.2.2.1)), ()), ())
      else
        bif x1.2.2.1 then
          some (((wI ((0 : Int) + x0.2.2.2.2.2.2.1)), ()), ())
        else
          some (((0 : Int), ()), ())
noncomputable def f209 (x0 : Ta110) (x1 : Ta23) : Int :=
  bif (!(f152 x0)) then
    (-1 : Int)
  else
    bif (!x1.1) then
      bif (!x1.2.1) then
        bif x1.2.2.1 then
          (wI ((wI ((wI ((0 : Int) + x0.2.2.2.1)) + x0.2.2.2.2.1)) + x0.2.2.2.2.2.2.1))
        else
          (wI ((wI ((0 : Int) + x0.2.2.2.1)) + x0.2.2.2.2.1))
      else
        bif x1.2.2.1 then
          (wI ((wI ((0 : Int) + x0.2.2.2.1)) + x0.2.2.2.2.2.2.1))
        else
          (wI ((0 : Int) + x0.2.2.2.1))
    else
      bif (!x1.2.1) then
        bif x1.2.2.1 then
          (wI ((wI ((0 : Int) + x0.2.2.2.2.1)) + x0.2.2.2.2.2.2.1))
        else
          (wI ((0 : Int) + x0.2.2.2.2.1))
      else
        bif x1.2.2.1 then
          (wI ((0 : Int) + x0.2.2.2.2.2.2.1))
        else
          (0 : Int)
theorem n209 (x0 : Ta110) (x1 : Ta23) : g209 x0 x1 = some ((f209 x0 x1, ()), ()) := by
  simp only [g209, f209, pull1]
noncomputable def c209 : Ctr := { ins := [.v Ty223, .v (.pair .bool (.pair .bool (.pair .bool .unit)))], out := [(.int .i64)], F := fun x => some ((f209 x.1 x.2.1, ()), ()) }
theorem v209 : LoopsOk Tryz.prog Γ t209 a209 (loopsIn (Tryz.f209.body.getD .skip) 0) := loopsOk_nil (by kernel_rfl)
theorem r209 (x : InsT c209.ins) : fnK Tryz.prog Γ t209 a209 Tryz.f209 c209 x = g209 x.1 x.2.1 := by kernel_rfl
theorem k209 : TblOk Tryz.prog t209 := tblOk_cons o152 (tblOk_nil)
theorem o209 : Holds Tryz.prog 209 c209 := fn_holds (code := Tryz.f209.body.getD .skip) (by kernel_rfl) gamOk k209 Tryz.func209 (by kernel_rfl) (by kernel_rfl) (by kernel_rfl) (by kernel_rfl) v209 (fun x _ h => (r209 x).trans ((n209 x.1 x.2.1).trans h))
/-! ### 154: loop.example/g00076/spec.WorstAccess -/
noncomputable def t154 : Tbl := [(209, [], c209)]
abbrev h154_L0 : Shape := { slots := [(1, .bx 1 0), (3, .v (.int .i64)), (4, .v (.int .i64))], boxes := [(1, .typ Ty223)] }
abbrev e154_L0 : List (XT × Shape) := [(.exit 0, { slots := [(3, .v (.int .i64))], boxes := [] })]
noncomputable def q154_L0 (t3 : Int) (t4 : Int) (b1 : Ta110) : Option (Ta193 ⊕ (((Int × Unit) × Unit) ⊕ Empty)) :=
  bif (decide (t4 < (8 : Int))) then
    bif (decide ((f209 b1 (((Int.tmod t4 (2 : Int)) == (1 : Int)), (((Int.tmod (wI (Int.tdiv t4 (2 : Int))) (2 : Int)) == (1 : Int)), (((wI (Int.tdiv t4 (4 : Int))) == (1 : Int)), ())))) > t3)) then
      some (.inl (((), ((f209 b1 (((Int.tmod t4 (2 : Int)) == (1 : Int)), (((Int.tmod (wI (Int.tdiv t4 (2 : Int))) (2 : Int)) == (1 : Int)), (((wI (Int.tdiv t4 (4 : Int))) == (1 : Int)), ())))), ((wI (t4 + (1 : Int))), ()))), (b1, ())))
    else
      some (.inl (((), (t3, ((wI (t4 + (1 : Int))), ()))), (b1, ())))
  else
    some (.inr (.inl ((t3, ()), ())))
noncomputable def s154_L0 (x : Ta193) : Option (Ta193 ⊕ (((Int × Unit) × Unit) ⊕ Empty)) := q154_L0 x.1.2.1 x.1.2.2.1 x.2.1
noncomputable def a154 : Nat → Option LoopAnn := fun c => bif Nat.beq c 0 then some (.fix h154_L0 e154_L0 s154_L0) else none
noncomputable def g154 (x0 : Ta110) : Option ((Int × Unit) × Unit) :=
  (fixO s154_L0 (((), ((-1 : Int), ((0 : Int), ()))), (x0, ()))).bind fun d2 => match d2 with
  | .inl y1 =>
    some ((y1.1.1, ()), ())
  | .inr e => nomatch e
noncomputable def c154 : Ctr := { ins := [.v Ty223], out := [(.int .i64)], F := fun x => g154 x.1 }
noncomputable def l154 : List (Nat × Code) := loopsIn (Tryz.f154.body.getD .skip) 0
theorem w154_L0 (x : h154_L0.T) : runK Tryz.prog Γ t154 a154 (l154.getD 0 (0, .skip)).2 0 (pkSh h154_L0 x) (loopCls (sh := h154_L0) (es := e154_L0)) = (s154_L0 x : Option _) := by kernel_rfl
theorem v154 : LoopsOk Tryz.prog Γ t154 a154 (loopsIn (Tryz.f154.body.getD .skip) 0) := by
  have e : loopsIn (Tryz.f154.body.getD .skip) 0 = [(0, (l154.getD 0 (0, .skip)).2)] := by kernel_rfl
  rw [e]
  exact ⟨fun x d h => (w154_L0 x).trans h, trivial⟩
theorem r154 (x : InsT c154.ins) : fnK Tryz.prog Γ t154 a154 Tryz.f154 c154 x = g154 x.1 := by kernel_rfl
theorem k154 : TblOk Tryz.prog t154 := tblOk_cons o209 (tblOk_nil)
theorem o154 : Holds Tryz.prog 154 c154 := fn_holds (code := Tryz.f154.body.getD .skip) (by kernel_rfl) gamOk k154 Tryz.func154 (by kernel_rfl) (by kernel_rfl) (by kernel_rfl) (by kernel_rfl) v154 (fun x _ h => (r154 x).trans h)
/-! ### 84: loop.example/g00076/spec.WorstStep -/
noncomputable def t84 : Tbl := [(152, [], c152), (153, [], c153), (154, [], c154)]
abbrev h84_L0 : Shape := { slots := [(1, .bx 1 0), (3, .v (.int .i64)), (4, .v (.int .i64))], boxes := [(1, .typ Ty223)] }
abbrev e84_L0 : List (XT × Shape) := [(.exit 0, { slots := [(1, .bx 1 0), (3, .v (.int .i64))], boxes := [(1, .typ Ty223)] })]
noncomputable def q84_L0 (t3 : Int) (t4 : Int) (b1 : Ta110) : Option (Ta193 ⊕ (Ta181 ⊕ Empty)) :=
  bif (decide (t4 < (33 : Int))) then
    (g153 b1 t4).bind fun y1 =>
      bif (decide (y1.1.1 > t3)) then
        (g153 b1 t4).bind fun y2 =>
          some (.inl (((), (y2.1.1, ((wI (t4 + (1 : Int))), ()))), (b1, ())))
      else
        some (.inl (((), (t3, ((wI (t4 + (1 : Int))), ()))), (b1, ())))
  else
    some (.inr (.inl (((), (t3, ())), (b1, ()))))
noncomputable def s84_L0 (x : Ta193) : Option (Ta193 ⊕ (Ta181 ⊕ Empty)) := q84_L0 x.1.2.1 x.1.2.2.1 x.2.1
noncomputable def a84 : Nat → Option LoopAnn := fun c => bif Nat.beq c 0 then some (.fix h84_L0 e84_L0 s84_L0) else none
noncomputable def g84 (x0 : Ta110) : Option ((Int × Unit) × Unit) :=
  bif (!(f152 x0)) then
    some (((-1 : Int), ()), ())
  else
    (fixO s84_L0 (((), ((0 : Int), ((0 : Int), ()))), (x0, ()))).bind fun d5 => match d5 with
    | .inl y3 =>
      (g154 y3.2.1).bind fun y4 =>
        some (((wI ((wI (y3.1.2.1 + (wI ((2 : Int) * y4.1.1)))) + y3.2.1.2.2.2.2.2.1)), ()), ())
    | .inr e => nomatch e
noncomputable def c84 : Ctr := { ins := [.v Ty223], out := [(.int .i64)], F := fun x => g84 x.1 }
noncomputable def l84 : List (Nat × Code) := loopsIn (Tryz.f84.body.getD .skip) 0
theorem w84_L0 (x : h84_L0.T) : runK Tryz.prog Γ t84 a84 (l84.getD 0 (0, .skip)).2 0 (pkSh h84_L0 x) (loopCls (sh := h84_L0) (es := e84_L0)) = (s84_L0 x : Option _) := by kernel_rfl
theorem v84 : LoopsOk Tryz.prog Γ t84 a84 (loopsIn (Tryz.f84.body.getD .skip) 0) := by
  have e : loopsIn (Tryz.f84.body.getD .skip) 0 = [(0, (l84.getD 0 (0, .skip)).2)] := by kernel_rfl
  rw [e]
  exact ⟨fun x d h => (w84_L0 x).trans h, trivial⟩
theorem r84 (x : InsT c84.ins) : fnK Tryz.prog Γ t84 a84 Tryz.f84 c84 x = g84 x.1 := by kernel_rfl
theorem k84 : TblOk Tryz.prog t84 := tblOk_cons o152 (tblOk_cons o153 (tblOk_cons o154 (tblOk_nil)))
theorem o84 : Holds Tryz.prog 84 c84 := fn_holds (code := Tryz.f84.body.getD .skip) (by kernel_rfl) gamOk k84 Tryz.func84 (by kernel_rfl) (by kernel_rfl) (by kernel_rfl) (by kernel_rfl) v84 (fun x _ h => (r84 x).trans h)
/-! ### 148: loop.example/g00076/spec.l13Head -/
noncomputable def t148 : Tbl := [(77, [], c77), (162, [], c162), (152, [], c152), (84, [], c84)]
noncomputable def a148 : Nat → Option LoopAnn := fun _ => none
noncomputable def g148 (x0 : Ta262) : Option ((Bool × Unit) × Unit) :=
  bif (!(f77 x0.1 (64 : Int) (2048 : Int))) then
    some ((false, ()), ())
  else
    bif ((Int.tmod x0.1 (4 : Int)) != (0 : Int)) then
      some ((false, ()), ())
    else
      bif (!(f162 x0.2.1)) then
        some ((false, ()), ())
      else
        bif (!(f77 x0.2.2.1 (1 : Int) (8 : Int))) then
          some ((false, ()), ())
        else
          bif (!(f152 x0.2.2.2.1)) then
            some ((false, ()), ())
          else
            bif (f77 x0.2.2.2.2.1 (1 : Int) (5000 : Int)) then
              bif (f77 x0.2.2.2.2.2.1 (1 : Int) (5000 : Int)) then
                bif (f77 x0.2.2.2.2.2.2.1 (1 : Int) (5000 : Int)) then
                  (g84 x0.2.2.2.1).bind fun y1 =>
                    some (((decide (x0.2.2.2.2.2.1 ≥ y1.1.1)), ()), ())
                else
                  some ((false, ()), ())
              else
                some ((false, ()), ())
            else
              some ((false, ()), ())
noncomputable def c148 : Ctr := { ins := [.v Ty286], out := [.bool], F := fun x => g148 x.1 }
theorem v148 : LoopsOk Tryz.prog Γ t148 a148 (loopsIn (Tryz.f148.body.getD .skip) 0) := loopsOk_nil (by kernel_rfl)
theorem r148 (x : InsT c148.ins) : fnK Tryz.prog Γ t148 a148 Tryz.f148 c148 x = g148 x.1 := by kernel_rfl
theorem k148 : TblOk Tryz.prog t148 := tblOk_cons o77 (tblOk_cons o162 (tblOk_cons o152 (tblOk_cons o84 (tblOk_nil))))
theorem o148 : Holds Tryz.prog 148 c148 := fn_holds (code := Tryz.f148.body.getD .skip) (by kernel_rfl) gamOk k148 Tryz.func148 (by kernel_rfl) (by kernel_rfl) (by kernel_rfl) (by kernel_rfl) v148 (fun x _ h => (r148 x).trans h)
/-! ### 240: loop.example/g00076/spec.LabelOk -/
noncomputable def t240 : Tbl := [(77, [], c77)]
abbrev h240_L0 : Shape := { slots := [(0, .v .str), (3, .v (.int .i64))], boxes := [] }
abbrev e240_L0 : List (XT × Shape) := [(.ret, { slots := [(2, .v .bool)], boxes := [] }), (.exit 0, { slots := [(0, .v .str)], boxes := [] })]
noncomputable def q240_L0 (t0 : ByteArray) (t3 : Int) : Option (Ta32 ⊕ (((Bool × Unit) × Unit) ⊕ (Ta7 ⊕ Empty))) :=
  bif (decide (t3 < (t0.size : Int))) then
    bif (decide (t3 < (13 : Int))) then
      bif (decide (0 ≤ t3) && decide (t3 < t0.size)) then
        bif (!(f77 (wI ((bt t0 t3))) (97 : Int) (122 : Int))) then
          some (.inr (.inl ((false, ()), ())))
        else
          some (.inl ((t0, ((wI (t3 + (1 : Int))), ())), ()))
      else
        none
    else
      some (.inr (.inr (.inl ((t0, ()), ()))))
  else
    some (.inr (.inr (.inl ((t0, ()), ()))))
noncomputable def s240_L0 (x : Ta32) : Option (Ta32 ⊕ (((Bool × Unit) × Unit) ⊕ (Ta7 ⊕ Empty))) := q240_L0 x.1.1 x.1.2.1
noncomputable def a240 : Nat → Option LoopAnn := fun c => bif Nat.beq c 0 then some (.fix h240_L0 e240_L0 s240_L0) else none
noncomputable def g240 (x0 : ByteArray) : Option ((Bool × Unit) × Unit) :=
  (fixO s240_L0 ((x0, ((0 : Int), ())), ())).bind fun d2 => match d2 with
  | .inl y1 =>
    some ((y1.1.1, ()), ())
  | .inr (.inl y1) =>
    some (((f77 (y1.1.1.size : Int) (1 : Int) (12 : Int)), ()), ())
  | .inr (.inr e) => nomatch e
noncomputable def c240 : Ctr := { ins := [.v .str], out := [.bool], F := fun x => g240 x.1 }
noncomputable def l240 : List (Nat × Code) := loopsIn (Tryz.f240.body.getD .skip) 0
theorem w240_L0 (x : h240_L0.T) : runK Tryz.prog Γ t240 a240 (l240.getD 0 (0, .skip)).2 0 (pkSh h240_L0 x) (loopCls (sh := h240_L0) (es := e240_L0)) = (s240_L0 x : Option _) := by kernel_rfl
theorem v240 : LoopsOk Tryz.prog Γ t240 a240 (loopsIn (Tryz.f240.body.getD .skip) 0) := by
  have e : loopsIn (Tryz.f240.body.getD .skip) 0 = [(0, (l240.getD 0 (0, .skip)).2)] := by kernel_rfl
  rw [e]
  exact ⟨fun x d h => (w240_L0 x).trans h, trivial⟩
theorem r240 (x : InsT c240.ins) : fnK Tryz.prog Γ t240 a240 Tryz.f240 c240 x = g240 x.1 := by kernel_rfl
theorem k240 : TblOk Tryz.prog t240 := tblOk_cons o77 (tblOk_nil)
theorem o240 : Holds Tryz.prog 240 c240 := fn_holds (code := Tryz.f240.body.getD .skip) (by kernel_rfl) gamOk k240 Tryz.func240 (by kernel_rfl) (by kernel_rfl) (by kernel_rfl) (by kernel_rfl) v240 (fun x _ h => (r240 x).trans h)
/-! ### 233: loop.example/g00076/spec.NameOk -/
noncomputable def t233 : Tbl := [(240, [], c240)]
noncomputable def a233 : Nat → Option LoopAnn := fun _ => none
noncomputable def g233 (x0 : ByteArray) : Option ((Bool × Unit) × Unit) :=
  bif (decide ((x0.size : Int) ≤ (8 : Int))) then
    (g240 x0).bind fun y1 =>
      some ((y1.1.1, ()), ())
  else
    some ((false, ()), ())
noncomputable def c233 : Ctr := { ins := [.v .str], out := [.bool], F := fun x => g233 x.1 }
theorem v233 : LoopsOk Tryz.prog Γ t233 a233 (loopsIn (Tryz.f233.body.getD .skip) 0) := loopsOk_nil (by kernel_rfl)
theorem r233 (x : InsT c233.ins) : fnK Tryz.prog Γ t233 a233 Tryz.f233 c233 x = g233 x.1 := by kernel_rfl
theorem k233 : TblOk Tryz.prog t233 := tblOk_cons o240 (tblOk_nil)
theorem o233 : Holds Tryz.prog 233 c233 := fn_holds (code := Tryz.f233.body.getD .skip) (by kernel_rfl) gamOk k233 Tryz.func233 (by kernel_rfl) (by kernel_rfl) (by kernel_rfl) (by kernel_rfl) v233 (fun x _ h => (r233 x).trans h)
/-! ### 234: loop.example/g00076/spec.PolicyOk -/
noncomputable def t234 : Tbl := [(77, [], c77)]
noncomputable def a234 : Nat → Option LoopAnn := fun _ => none
noncomputable def g234 (x0 : (Int × (Int × Unit))) : Option ((Bool × Unit) × Unit) :=
  bif (x0.1 == (1 : Int)) then
    some (((f77 x0.2.1 (0 : Int) (100 : Int)), ()), ())
  else
    bif (x0.1 == (0 : Int)) then
      some (((x0.2.1 == (0 : Int)), ()), ())
    else
      bif (x0.1 == (2 : Int)) then
        some (((x0.2.1 == (0 : Int)), ()), ())
      else
        some ((false, ()), ())
noncomputable def f234 (x0 : (Int × (Int × Unit))) : Bool :=
  bif (x0.1 == (1 : Int)) then
    (f77 x0.2.1 (0 : Int) (100 : Int))
  else
    bif (x0.1 == (0 : Int)) then
      (x0.2.1 == (0 : Int))
    else
      bif (x0.1 == (2 : Int)) then
        (x0.2.1 == (0 : Int))
      else
        false
theorem n234 (x0 : (Int × (Int × Unit))) : g234 x0 = some ((f234 x0, ()), ()) := by
  simp only [g234, f234, pull1]
noncomputable def c234 : Ctr := { ins := [.v Ty61], out := [.bool], F := fun x => some ((f234 x.1, ()), ()) }
theorem v234 : LoopsOk Tryz.prog Γ t234 a234 (loopsIn (Tryz.f234.body.getD .skip) 0) := loopsOk_nil (by kernel_rfl)
theorem r234 (x : InsT c234.ins) : fnK Tryz.prog Γ t234 a234 Tryz.f234 c234 x = g234 x.1 := by kernel_rfl
theorem k234 : TblOk Tryz.prog t234 := tblOk_cons o77 (tblOk_nil)
theorem o234 : Holds Tryz.prog 234 c234 := fn_holds (code := Tryz.f234.body.getD .skip) (by kernel_rfl) gamOk k234 Tryz.func234 (by kernel_rfl) (by kernel_rfl) (by kernel_rfl) (by kernel_rfl) v234 (fun x _ h => (r234 x).trans ((n234 x.1).trans h))
/-! ### 219: loop.example/g00076/spec.WindowOk -/
noncomputable def t219 : Tbl := [(77, [], c77)]
noncomputable def a219 : Nat → Option LoopAnn := fun _ => none
noncomputable def g219 (x0 : Ta8) : Option ((Bool × Unit) × Unit) :=
  bif (f77 x0.1 (0 : Int) (2048 : Int)) then
    bif (f77 x0.2.1 (4 : Int) (2048 : Int)) then
      bif ((Int.tmod x0.1 (4 : Int)) == (0 : Int)) then
        bif ((Int.tmod x0.2.1 (4 : Int)) == (0 : Int)) then
          bif (decide ((wI (x0.1 + x0.2.1)) ≤ (2048 : Int))) then
            some (((f77 x0.2.2.1 (1 : Int) (7 : Int)), ()), ())
          else
            some ((false, ()), ())
        else
          some ((false, ()), ())
      else
        some ((false, ()), ())
    else
      some ((false, ()), ())
  else
    some ((false, ()), ())
noncomputable def f219 (x0 : Ta8) : Bool :=
  bif (f77 x0.1 (0 : Int) (2048 : Int)) then
    bif (f77 x0.2.1 (4 : Int) (2048 : Int)) then
      bif ((Int.tmod x0.1 (4 : Int)) == (0 : Int)) then
        bif ((Int.tmod x0.2.1 (4 : Int)) == (0 : Int)) then
          bif (decide ((wI (x0.1 + x0.2.1)) ≤ (2048 : Int))) then
            (f77 x0.2.2.1 (1 : Int) (7 : Int))
          else
            false
        else
          false
      else
        false
    else
      false
  else
    false
theorem n219 (x0 : Ta8) : g219 x0 = some ((f219 x0, ()), ()) := by
  simp only [g219, f219, pull1]
noncomputable def c219 : Ctr := { ins := [.v Ty119], out := [.bool], F := fun x => some ((f219 x.1, ()), ()) }
theorem v219 : LoopsOk Tryz.prog Γ t219 a219 (loopsIn (Tryz.f219.body.getD .skip) 0) := loopsOk_nil (by kernel_rfl)
theorem r219 (x : InsT c219.ins) : fnK Tryz.prog Γ t219 a219 Tryz.f219 c219 x = g219 x.1 := by kernel_rfl
theorem k219 : TblOk Tryz.prog t219 := tblOk_cons o77 (tblOk_nil)
theorem o219 : Holds Tryz.prog 219 c219 := fn_holds (code := Tryz.f219.body.getD .skip) (by kernel_rfl) gamOk k219 Tryz.func219 (by kernel_rfl) (by kernel_rfl) (by kernel_rfl) (by kernel_rfl) v219 (fun x _ h => (r219 x).trans ((n219 x.1).trans h))
/-! ### 235: loop.example/g00076/spec.l07Has -/
noncomputable def t235 : Tbl := []
noncomputable def a235 : Nat → Option LoopAnn := fun _ => none
noncomputable def g235 (x0 : Ta8) (x1 : Int) : Option ((Bool × Unit) × Unit) :=
  bif (decide (x1 ≥ x0.1)) then
    some (((decide (x1 < (wI (x0.1 + x0.2.1)))), ()), ())
  else
    some ((false, ()), ())
noncomputable def f235 (x0 : Ta8) (x1 : Int) : Bool :=
  bif (decide (x1 ≥ x0.1)) then
    (decide (x1 < (wI (x0.1 + x0.2.1))))
  else
    false
theorem n235 (x0 : Ta8) (x1 : Int) : g235 x0 x1 = some ((f235 x0 x1, ()), ()) := by
  simp only [g235, f235, pull1]
noncomputable def c235 : Ctr := { ins := [.v Ty119, .v (.int .i64)], out := [.bool], F := fun x => some ((f235 x.1 x.2.1, ()), ()) }
theorem v235 : LoopsOk Tryz.prog Γ t235 a235 (loopsIn (Tryz.f235.body.getD .skip) 0) := loopsOk_nil (by kernel_rfl)
theorem r235 (x : InsT c235.ins) : fnK Tryz.prog Γ t235 a235 Tryz.f235 c235 x = g235 x.1 x.2.1 := by kernel_rfl
theorem k235 : TblOk Tryz.prog t235 := tblOk_nil
theorem o235 : Holds Tryz.prog 235 c235 := fn_holds (code := Tryz.f235.body.getD .skip) (by kernel_rfl) gamOk k235 Tryz.func235 (by kernel_rfl) (by kernel_rfl) (by kernel_rfl) (by kernel_rfl) v235 (fun x _ h => (r235 x).trans ((n235 x.1 x.2.1).trans h))
/-! ### 204: loop.example/g00076/spec.l13PartOk -/
noncomputable def t204 : Tbl := [(233, [], c233), (234, [], c234), (77, [], c77), (219, [], c219), (235, [], c235)]
abbrev h204_L0 : Shape := { slots := [(1, .v (.int .i64)), (2, .bx 2 0), (5, .v .bool), (6, .v (.int .i64))], boxes := [(2, .typ Ty237)] }
abbrev e204_L0 : List (XT × Shape) := [(.ret, { slots := [(4, .v .bool)], boxes := [] }), (.exit 0, { slots := [(2, .bx 2 0), (5, .v .bool)], boxes := [(2, .typ Ty237)] })]
noncomputable def q204_L0 (t1 : Int) (t5 : Bool) (t6 : Int) (b2 : Ta172) : Option (Ta220 ⊕ (((Bool × Unit) × Unit) ⊕ (((Unit × (Bool × Unit)) × Ta185) ⊕ Empty))) :=
  bif (decide (t6 < (b2.2.2.2.1.len : Int))) then
    bif (decide (0 ≤ t6) && decide (t6 < (b2.2.2.2.1.len : Int))) then
      bif (!(f219 (L.get b2.2.2.2.1 t6.toNat))) then
        some (.inr (.inl ((false, ()), ())))
      else
        bif (decide ((wI ((L.get b2.2.2.2.1 t6.toNat).1 + (L.get b2.2.2.2.1 t6.toNat).2.1)) > t1)) then
          some (.inr (.inl ((false, ()), ())))
        else
          bif (f235 (L.get b2.2.2.2.1 t6.toNat) b2.2.1) then
            bif ((wI (Int.tdiv (L.get b2.2.2.2.1 t6.toNat).2.2.1 (4 : Int))) == (1 : Int)) then
              some (.inl ((t1, ((), (true, ((wI (t6 + (1 : Int))), ())))), (b2, ())))
            else
              some (.inl ((t1, ((), (t5, ((wI (t6 + (1 : Int))), ())))), (b2, ())))
          else
            some (.inl ((t1, ((), (t5, ((wI (t6 + (1 : Int))), ())))), (b2, ())))
    else
      none
  else
    some (.inr (.inr (.inl (((), (t5, ())), (b2, ())))))
noncomputable def s204_L0 (x : Ta220) : Option (Ta220 ⊕ (((Bool × Unit) × Unit) ⊕ (((Unit × (Bool × Unit)) × Ta185) ⊕ Empty))) := q204_L0 x.1.1 x.1.2.2.1 x.1.2.2.2.1 x.2.1
noncomputable def a204 : Nat → Option LoopAnn := fun c => bif Nat.beq c 0 then some (.fix h204_L0 e204_L0 s204_L0) else none
noncomputable def g204 (x0 : Ta172) (x1 : Int) : Option ((Bool × Unit) × Unit) :=
  (g233 x0.1).bind fun y1 =>
    bif (!y1.1.1) then
      some ((false, ()), ())
    else
      bif (!(f234 x0.2.2.1)) then
        some ((false, ()), ())
      else
        bif (!(f77 (x0.2.2.2.1.len : Int) (1 : Int) (4 : Int))) then
          some ((false, ()), ())
        else
          (fixO s204_L0 ((x1, ((), (false, ((0 : Int), ())))), (x0, ()))).bind fun d3 => match d3 with
          | .inl y2 =>
            some ((y2.1.1, ()), ())
          | .inr (.inl y2) =>
            bif y2.1.2.1 then
              some ((((Int.tmod y2.2.1.2.1 (4 : Int)) == (0 : Int)), ()), ())
            else
              some ((false, ()), ())
          | .inr (.inr e) => nomatch e
noncomputable def c204 : Ctr := { ins := [.v Ty237, .v (.int .i64)], out := [.bool], F := fun x => g204 x.1 x.2.1 }
noncomputable def l204 : List (Nat × Code) := loopsIn (Tryz.f204.body.getD .skip) 0
theorem w204_L0 (x : h204_L0.T) : runK Tryz.prog Γ t204 a204 (l204.getD 0 (0, .skip)).2 0 (pkSh h204_L0 x) (loopCls (sh := h204_L0) (es := e204_L0)) = (s204_L0 x : Option _) := by kernel_rfl
theorem v204 : LoopsOk Tryz.prog Γ t204 a204 (loopsIn (Tryz.f204.body.getD .skip) 0) := by
  have e : loopsIn (Tryz.f204.body.getD .skip) 0 = [(0, (l204.getD 0 (0, .skip)).2)] := by kernel_rfl
  rw [e]
  exact ⟨fun x d h => (w204_L0 x).trans h, trivial⟩
theorem r204 (x : InsT c204.ins) : fnK Tryz.prog Γ t204 a204 Tryz.f204 c204 x = g204 x.1 x.2.1 := by kernel_rfl
theorem k204 : TblOk Tryz.prog t204 := tblOk_cons o233 (tblOk_cons o234 (tblOk_cons o77 (tblOk_cons o219 (tblOk_cons o235 (tblOk_nil)))))
theorem o204 : Holds Tryz.prog 204 c204 := fn_holds (code := Tryz.f204.body.getD .skip) (by kernel_rfl) gamOk k204 Tryz.func204 (by kernel_rfl) (by kernel_rfl) (by kernel_rfl) (by kernel_rfl) v204 (fun x _ h => (r204 x).trans h)
/-! ### 205: loop.example/g00076/spec.l13Windows -/
noncomputable def t205 : Tbl := []
abbrev h205_L0 : Shape := { slots := [(0, .v Ty238), (3, .ext Ty119 50003), (4, .v (.int .i64))], boxes := [] }
abbrev e205_L0 : List (XT × Shape) := [(.exit 0, { slots := [(3, .ext Ty119 50003)], boxes := [] })]
noncomputable def q205_L0 (t0 : Ta178) (t3 : Ta24) (t4 : Int) : Option (Ta231 ⊕ (Ta78 ⊕ Empty)) :=
  bif (decide (t4 < (t0.len : Int))) then
    bif (decide (0 ≤ t4) && decide (t4 < (t0.len : Int))) then
      bif (decide (t3.len + (L.get t0 t4.toNat).2.2.2.1.len ≤ most)) then
        some (.inl ((t0, ((L.app t3 (L.get t0 t4.toNat).2.2.2.1), ((wI (t4 + (1 : Int))), ()))), ()))
      else
        none
    else
      none
  else
    some (.inr (.inl ((t3, ()), ())))
noncomputable def s205_L0 (x : Ta231) : Option (Ta231 ⊕ (Ta78 ⊕ Empty)) := q205_L0 x.1.1 x.1.2.1 x.1.2.2.1
noncomputable def a205 : Nat → Option LoopAnn := fun c => bif Nat.beq c 0 then some (.fix h205_L0 e205_L0 s205_L0) else none
noncomputable def g205 (x0 : Ta178) : Option Ta78 :=
  (fixO s205_L0 ((x0, ((L.of (Ty.zero Ty119) []), ((0 : Int), ()))), ())).bind fun d2 => match d2 with
  | .inl y1 =>
    some ((y1.1.1, ()), ())
  | .inr e => nomatch e
noncomputable def c205 : Ctr := { ins := [.v Ty238], out := [Ty136], F := fun x => g205 x.1 }
noncomputable def l205 : List (Nat × Code) := loopsIn (Tryz.f205.body.getD .skip) 0
theorem w205_L0 (x : h205_L0.T) : runK Tryz.prog Γ t205 a205 (l205.getD 0 (0, .skip)).2 0 (pkSh h205_L0 x) (loopCls (sh := h205_L0) (es := e205_L0)) = (s205_L0 x : Option _) := by kernel_rfl
theorem v205 : LoopsOk Tryz.prog Γ t205 a205 (loopsIn (Tryz.f205.body.getD .skip) 0) := by
  have e : loopsIn (Tryz.f205.body.getD .skip) 0 = [(0, (l205.getD 0 (0, .skip)).2)] := by kernel_rfl
  rw [e]
  exact ⟨fun x d h => (w205_L0 x).trans h, trivial⟩
theorem r205 (x : InsT c205.ins) : fnK Tryz.prog Γ t205 a205 Tryz.f205 c205 x = g205 x.1 := by kernel_rfl
theorem k205 : TblOk Tryz.prog t205 := tblOk_nil
theorem o205 : Holds Tryz.prog 205 c205 := fn_holds (code := Tryz.f205.body.getD .skip) (by kernel_rfl) gamOk k205 Tryz.func205 (by kernel_rfl) (by kernel_rfl) (by kernel_rfl) (by kernel_rfl) v205 (fun x _ h => (r205 x).trans h)
/-! ### 149: loop.example/g00076/spec.l13Parts -/
noncomputable def t149 : Tbl := [(77, [], c77), (204, [], c204), (205, [], c205)]
abbrev h149_L2 : Shape := { slots := [(1, .bx 1 0), (3, .v (.int .i64)), (4, .v (.int .i64))], boxes := [(1, .typ Ty286)] }
abbrev e149_L2 : List (XT × Shape) := [(.ret, { slots := [(2, .v .bool)], boxes := [] }), (.exit 2, { slots := [(1, .bx 1 0), (3, .v (.int .i64))], boxes := [(1, .typ Ty286)] })]
noncomputable def q149_L2 (t3 : Int) (t4 : Int) (b1 : Ta262) : Option (Ta267 ⊕ (((Bool × Unit) × Unit) ⊕ (Ta266 ⊕ Empty))) :=
  bif (decide (t4 < t3)) then
    bif (decide (0 ≤ t4) && decide (t4 < (b1.2.2.2.2.2.2.2.1.len : Int))) then
      bif (decide (0 ≤ t3) && decide (t3 < (b1.2.2.2.2.2.2.2.1.len : Int))) then
        bif (strEq (L.get b1.2.2.2.2.2.2.2.1 t4.toNat).1 (L.get b1.2.2.2.2.2.2.2.1 t3.toNat).1) then
          some (.inr (.inl ((false, ()), ())))
        else
          some (.inl (((), (t3, ((wI (t4 + (1 : Int))), ()))), (b1, ())))
      else
        none
    else
      none
  else
    some (.inr (.inr (.inl (((), (t3, ())), (b1, ())))))
noncomputable def s149_L2 (x : Ta267) : Option (Ta267 ⊕ (((Bool × Unit) × Unit) ⊕ (Ta266 ⊕ Empty))) := q149_L2 x.1.2.1 x.1.2.2.1 x.2.1
abbrev h149_L0 : Shape := { slots := [(1, .bx 1 0), (3, .v (.int .i64))], boxes := [(1, .typ Ty286)] }
abbrev e149_L0 : List (XT × Shape) := [(.ret, { slots := [(2, .v .bool)], boxes := [] }), (.exit 0, { slots := [(1, .bx 1 0)], boxes := [(1, .typ Ty286)] })]
noncomputable def q149_L0 (t3 : Int) (b1 : Ta262) : Option (Ta266 ⊕ (((Bool × Unit) × Unit) ⊕ (Ta265 ⊕ Empty))) :=
  bif (decide (t3 < (b1.2.2.2.2.2.2.2.1.len : Int))) then
    bif (decide (0 ≤ t3) && decide (t3 < (b1.2.2.2.2.2.2.2.1.len : Int))) then
      (g204 (L.get b1.2.2.2.2.2.2.2.1 t3.toNat) b1.1).bind fun y1 =>
        bif (!y1.1.1) then
          some (.inr (.inl ((false, ()), ())))
        else
          (fixO s149_L2 (((), (t3, ((0 : Int), ()))), (b1, ()))).bind fun d3 => match d3 with
          | .inl y2 =>
            some (.inr (.inl y2))
          | .inr (.inl y2) =>
            some (.inl (((), ((wI (y2.1.2.1 + (1 : Int))), ())), y2.2))
          | .inr (.inr e) => nomatch e
    else
      none
  else
    some (.inr (.inr (.inl (((), ()), (b1, ())))))
noncomputable def s149_L0 (x : Ta266) : Option (Ta266 ⊕ (((Bool × Unit) × Unit) ⊕ (Ta265 ⊕ Empty))) := q149_L0 x.1.2.1 x.2.1
abbrev h149_L6 : Shape := { slots := [(5, .v Ty136), (6, .v (.int .i64)), (7, .v (.int .i64))], boxes := [] }
abbrev e149_L6 : List (XT × Shape) := [(.ret, { slots := [(2, .v .bool)], boxes := [] }), (.exit 6, { slots := [(5, .v Ty136), (6, .v (.int .i64))], boxes := [] })]
noncomputable def q149_L6 (t5 : Ta24) (t6 : Int) (t7 : Int) : Option (Ta127 ⊕ (((Bool × Unit) × Unit) ⊕ (Ta103 ⊕ Empty))) :=
  bif (decide (t7 < t6)) then
    bif (decide (0 ≤ t7) && decide (t7 < (t5.len : Int))) then
      bif (decide (0 ≤ t6) && decide (t6 < (t5.len : Int))) then
        bif (decide (0 ≤ t6) && decide (t6 < (t5.len : Int))) then
          bif (decide ((L.get t5 t7.toNat).1 < (wI ((L.get t5 t6.toNat).1 + (L.get t5 t6.toNat).2.1)))) then
            bif (decide (0 ≤ t6) && decide (t6 < (t5.len : Int))) then
              bif (decide (0 ≤ t7) && decide (t7 < (t5.len : Int))) then
                bif (decide (0 ≤ t7) && decide (t7 < (t5.len : Int))) then
                  bif (decide ((L.get t5 t6.toNat).1 < (wI ((L.get t5 t7.toNat).1 + (L.get t5 t7.toNat).2.1)))) then
                    some (.inr (.inl ((false, ()), ())))
                  else
                    some (.inl ((t5, (t6, ((wI (t7 + (1 : Int))), ()))), ()))
                else
                  none
              else
                none
            else
              none
          else
            some (.inl ((t5, (t6, ((wI (t7 + (1 : Int))), ()))), ()))
        else
          none
      else
        none
    else
      none
  else
    some (.inr (.inr (.inl ((t5, (t6, ())), ()))))
noncomputable def s149_L6 (x : Ta127) : Option (Ta127 ⊕ (((Bool × Unit) × Unit) ⊕ (Ta103 ⊕ Empty))) := q149_L6 x.1.1 x.1.2.1 x.1.2.2.1
abbrev h149_L4 : Shape := { slots := [(5, .v Ty136), (6, .v (.int .i64))], boxes := [] }
abbrev e149_L4 : List (XT × Shape) := [(.ret, { slots := [(2, .v .bool)], boxes := [] }), (.exit 4, { slots := [], boxes := [] })]
noncomputable def q149_L4 (t5 : Ta24) (t6 : Int) : Option (Ta103 ⊕ (((Bool × Unit) × Unit) ⊕ ((Unit × Unit) ⊕ Empty))) :=
  bif (decide (t6 < (t5.len : Int))) then
    (fixO s149_L6 ((t5, (t6, ((0 : Int), ()))), ())).bind fun d7 => match d7 with
    | .inl y6 =>
      some (.inr (.inl y6))
    | .inr (.inl y6) =>
      some (.inl ((y6.1.1, ((wI (y6.1.2.1 + (1 : Int))), ())), ()))
    | .inr (.inr e) => nomatch e
  else
    some (.inr (.inr (.inl ((), ()))))
noncomputable def s149_L4 (x : Ta103) : Option (Ta103 ⊕ (((Bool × Unit) × Unit) ⊕ ((Unit × Unit) ⊕ Empty))) := q149_L4 x.1.1 x.1.2.1
noncomputable def a149 : Nat → Option LoopAnn := fun c => bif Nat.beq c 2 then some (.fix h149_L2 e149_L2 s149_L2) else bif Nat.beq c 0 then some (.fix h149_L0 e149_L0 s149_L0) else bif Nat.beq c 6 then some (.fix h149_L6 e149_L6 s149_L6) else bif Nat.beq c 4 then some (.fix h149_L4 e149_L4 s149_L4) else none
noncomputable def g149 (x0 : Ta262) : Option ((Bool × Unit) × Unit) :=
  bif (!(f77 (x0.2.2.2.2.2.2.2.1.len : Int) (1 : Int) (6 : Int))) then
    some ((false, ()), ())
  else
    (fixO s149_L0 (((), ((0 : Int), ())), (x0, ()))).bind fun d10 => match d10 with
    | .inl y4 =>
      some ((y4.1.1, ()), ())
    | .inr (.inl y4) =>
      (g205 y4.2.1.2.2.2.2.2.2.2.1).bind fun y5 =>
        (fixO s149_L4 ((y5.1.1, ((0 : Int), ())), ())).bind fun d9 => match d9 with
        | .inl y8 =>
          some ((y8.1.1, ()), ())
        | .inr (.inl y8) =>
          some ((true, ()), ())
        | .inr (.inr e) => nomatch e
    | .inr (.inr e) => nomatch e
noncomputable def c149 : Ctr := { ins := [.v Ty286], out := [.bool], F := fun x => g149 x.1 }
noncomputable def l149 : List (Nat × Code) := loopsIn (Tryz.f149.body.getD .skip) 0
theorem w149_L2 (x : h149_L2.T) : runK Tryz.prog Γ t149 a149 (l149.getD 1 (0, .skip)).2 2 (pkSh h149_L2 x) (loopCls (sh := h149_L2) (es := e149_L2)) = (s149_L2 x : Option _) := by kernel_rfl
theorem w149_L0 (x : h149_L0.T) : runK Tryz.prog Γ t149 a149 (l149.getD 0 (0, .skip)).2 0 (pkSh h149_L0 x) (loopCls (sh := h149_L0) (es := e149_L0)) = (s149_L0 x : Option _) := by kernel_rfl
theorem w149_L6 (x : h149_L6.T) : runK Tryz.prog Γ t149 a149 (l149.getD 3 (0, .skip)).2 6 (pkSh h149_L6 x) (loopCls (sh := h149_L6) (es := e149_L6)) = (s149_L6 x : Option _) := by kernel_rfl
theorem w149_L4 (x : h149_L4.T) : runK Tryz.prog Γ t149 a149 (l149.getD 2 (0, .skip)).2 4 (pkSh h149_L4 x) (loopCls (sh := h149_L4) (es := e149_L4)) = (s149_L4 x : Option _) := by kernel_rfl
theorem v149 : LoopsOk Tryz.prog Γ t149 a149 (loopsIn (Tryz.f149.body.getD .skip) 0) := by
  have e : loopsIn (Tryz.f149.body.getD .skip) 0 = [(0, (l149.getD 0 (0, .skip)).2), (2, (l149.getD 1 (0, .skip)).2), (4, (l149.getD 2 (0, .skip)).2), (6, (l149.getD 3 (0, .skip)).2)] := by kernel_rfl
  rw [e]
  exact ⟨fun x d h => (w149_L0 x).trans h, fun x d h => (w149_L2 x).trans h, fun x d h => (w149_L4 x).trans h, fun x d h => (w149_L6 x).trans h, trivial⟩
theorem r149 (x : InsT c149.ins) : fnK Tryz.prog Γ t149 a149 Tryz.f149 c149 x = g149 x.1 := by kernel_rfl
theorem k149 : TblOk Tryz.prog t149 := tblOk_cons o77 (tblOk_cons o204 (tblOk_cons o205 (tblOk_nil)))
theorem o149 : Holds Tryz.prog 149 c149 := fn_holds (code := Tryz.f149.body.getD .skip) (by kernel_rfl) gamOk k149 Tryz.func149 (by kernel_rfl) (by kernel_rfl) (by kernel_rfl) (by kernel_rfl) v149 (fun x _ h => (r149 x).trans h)
/-! ### 206: loop.example/g00076/spec.ChanOk -/
noncomputable def t206 : Tbl := [(77, [], c77)]
noncomputable def a206 : Nat → Option LoopAnn := fun _ => none
noncomputable def g206 (x0 : Ta33) : Option ((Bool × Unit) × Unit) :=
  bif (!(f77 x0.2.1 (0 : Int) (5 : Int))) then
    some ((false, ()), ())
  else
    bif (!(f77 x0.2.2.1 (0 : Int) (5 : Int))) then
      some ((false, ()), ())
    else
      bif (x0.2.1 == x0.2.2.1) then
        some ((false, ()), ())
      else
        bif (x0.1 == (0 : Int)) then
          bif (x0.2.2.2.1 == (0 : Int)) then
            some ((true, ()), ())
          else
            bif (x0.1 == (1 : Int)) then
              some (((f77 x0.2.2.2.1 (1 : Int) (8 : Int)), ()), ())
            else
              some ((false, ()), ())
        else
          bif (x0.1 == (1 : Int)) then
            some (((f77 x0.2.2.2.1 (1 : Int) (8 : Int)), ()), ())
          else
            some ((false, ()), ())
noncomputable def f206 (x0 : Ta33) : Bool :=
  bif (!(f77 x0.2.1 (0 : Int) (5 : Int))) then
    false
  else
    bif (!(f77 x0.2.2.1 (0 : Int) (5 : Int))) then
      false
    else
      bif (x0.2.1 == x0.2.2.1) then
        false
      else
        bif (x0.1 == (0 : Int)) then
          bif (x0.2.2.2.1 == (0 : Int)) then
            true
          else
            bif (x0.1 == (1 : Int)) then
              (f77 x0.2.2.2.1 (1 : Int) (8 : Int))
            else
              false
        else
          bif (x0.1 == (1 : Int)) then
            (f77 x0.2.2.2.1 (1 : Int) (8 : Int))
          else
            false
theorem n206 (x0 : Ta33) : g206 x0 = some ((f206 x0, ()), ()) := by
  simp only [g206, f206, pull1]
noncomputable def c206 : Ctr := { ins := [.v Ty167], out := [.bool], F := fun x => some ((f206 x.1, ()), ()) }
theorem v206 : LoopsOk Tryz.prog Γ t206 a206 (loopsIn (Tryz.f206.body.getD .skip) 0) := loopsOk_nil (by kernel_rfl)
theorem r206 (x : InsT c206.ins) : fnK Tryz.prog Γ t206 a206 Tryz.f206 c206 x = g206 x.1 := by kernel_rfl
theorem k206 : TblOk Tryz.prog t206 := tblOk_cons o77 (tblOk_nil)
theorem o206 : Holds Tryz.prog 206 c206 := fn_holds (code := Tryz.f206.body.getD .skip) (by kernel_rfl) gamOk k206 Tryz.func206 (by kernel_rfl) (by kernel_rfl) (by kernel_rfl) (by kernel_rfl) v206 (fun x _ h => (r206 x).trans ((n206 x.1).trans h))
/-! ### 207: loop.example/g00076/spec.WorstPad -/
noncomputable def t207 : Tbl := [(152, [], c152), (162, [], c162), (206, [], c206)]
abbrev h207_L0 : Shape := { slots := [(2, .v Ty175), (3, .bx 3 0), (7, .v (.int .i64)), (8, .v (.int .i64))], boxes := [(3, .typ Ty223)] }
abbrev e207_L0 : List (XT × Shape) := [(.ret, { slots := [(6, .v (.int .i64))], boxes := [] }), (.exit 0, { slots := [(7, .v (.int .i64))], boxes := [] })]
noncomputable def q207_L0 (t2 : Ta50) (t7 : Int) (t8 : Int) (b3 : Ta110) : Option (Ta226 ⊕ (((Int × Unit) × Unit) ⊕ (((Int × Unit) × Unit) ⊕ Empty))) :=
  bif (decide (t8 < (t2.len : Int))) then
    bif (decide (0 ≤ t8) && decide (t8 < (t2.len : Int))) then
      bif (!(f206 (L.get t2 t8.toNat))) then
        some (.inr (.inl (((-1 : Int), ()), ())))
      else
        bif (decide (0 ≤ t8) && decide (t8 < (t2.len : Int))) then
          bif ((L.get t2 t8.toNat).1 == (0 : Int)) then
            some (.inl ((t2, ((), ((wI (t7 + b3.1)), ((wI (t8 + (1 : Int))), ())))), (b3, ())))
          else
            bif (decide (0 ≤ t8) && decide (t8 < (t2.len : Int))) then
              some (.inl ((t2, ((), ((wI (t7 + (wI (b3.1 * (L.get t2 t8.toNat).2.2.2.1)))), ((wI (t8 + (1 : Int))), ())))), (b3, ())))
            else
              none
        else
          none
    else
      none
  else
    some (.inr (.inr (.inl ((t7, ()), ()))))
noncomputable def s207_L0 (x : Ta226) : Option (Ta226 ⊕ (((Int × Unit) × Unit) ⊕ (((Int × Unit) × Unit) ⊕ Empty))) := q207_L0 x.1.1 x.1.2.2.1 x.1.2.2.2.1 x.2.1
noncomputable def a207 : Nat → Option LoopAnn := fun c => bif Nat.beq c 0 then some (.fix h207_L0 e207_L0 s207_L0) else none
noncomputable def g207 (x0 : Ta110) (x1 : Ta8) (x2 : Ta50) : Option ((Int × Unit) × Unit) :=
  bif (!(f152 x0)) then
    some (((-1 : Int), ()), ())
  else
    bif (!(f162 x1)) then
      some (((-1 : Int), ()), ())
    else
      bif (decide ((x2.len : Int) > (8 : Int))) then
        some (((-1 : Int), ()), ())
      else
        (fixO s207_L0 ((x2, ((), ((wI ((wI ((16 : Int) * x0.1)) + (wI ((wI (x1.1 * x1.2.1)) * x0.2.2.2.2.2.2.1)))), ((0 : Int), ())))), (x0, ()))).bind fun d2 => match d2 with
        | .inl y1 =>
          some ((y1.1.1, ()), ())
        | .inr (.inl y1) =>
          some ((y1.1.1, ()), ())
        | .inr (.inr e) => nomatch e
noncomputable def c207 : Ctr := { ins := [.v Ty223, .v Ty119, .v Ty175], out := [(.int .i64)], F := fun x => g207 x.1 x.2.1 x.2.2.1 }
noncomputable def l207 : List (Nat × Code) := loopsIn (Tryz.f207.body.getD .skip) 0
theorem w207_L0 (x : h207_L0.T) : runK Tryz.prog Γ t207 a207 (l207.getD 0 (0, .skip)).2 0 (pkSh h207_L0 x) (loopCls (sh := h207_L0) (es := e207_L0)) = (s207_L0 x : Option _) := by kernel_rfl
theorem v207 : LoopsOk Tryz.prog Γ t207 a207 (loopsIn (Tryz.f207.body.getD .skip) 0) := by
  have e : loopsIn (Tryz.f207.body.getD .skip) 0 = [(0, (l207.getD 0 (0, .skip)).2)] := by kernel_rfl
  rw [e]
  exact ⟨fun x d h => (w207_L0 x).trans h, trivial⟩
theorem r207 (x : InsT c207.ins) : fnK Tryz.prog Γ t207 a207 Tryz.f207 c207 x = g207 x.1 x.2.1 x.2.2.1 := by kernel_rfl
theorem k207 : TblOk Tryz.prog t207 := tblOk_cons o152 (tblOk_cons o162 (tblOk_cons o206 (tblOk_nil)))
theorem o207 : Holds Tryz.prog 207 c207 := fn_holds (code := Tryz.f207.body.getD .skip) (by kernel_rfl) gamOk k207 Tryz.func207 (by kernel_rfl) (by kernel_rfl) (by kernel_rfl) (by kernel_rfl) v207 (fun x _ h => (r207 x).trans h)
/-! ### 150: loop.example/g00076/spec.l13Chans -/
noncomputable def t150 : Tbl := [(77, [], c77), (206, [], c206), (207, [], c207)]
abbrev h150_L0 : Shape := { slots := [(1, .bx 1 0), (3, .v (.int .i64))], boxes := [(1, .typ Ty286)] }
abbrev e150_L0 : List (XT × Shape) := [(.ret, { slots := [(2, .v .bool)], boxes := [] }), (.exit 0, { slots := [(1, .bx 1 0)], boxes := [(1, .typ Ty286)] })]
noncomputable def q150_L0 (t3 : Int) (b1 : Ta262) : Option (Ta266 ⊕ (((Bool × Unit) × Unit) ⊕ (Ta265 ⊕ Empty))) :=
  bif (decide (t3 < (b1.2.2.2.2.2.2.2.2.1.len : Int))) then
    bif (decide (0 ≤ t3) && decide (t3 < (b1.2.2.2.2.2.2.2.2.1.len : Int))) then
      bif (!(f77 (L.get b1.2.2.2.2.2.2.2.2.1 t3.toNat) (0 : Int) (wI ((b1.2.2.2.2.2.2.2.1.len : Int) - (1 : Int))))) then
        some (.inr (.inl ((false, ()), ())))
      else
        some (.inl (((), ((wI (t3 + (1 : Int))), ())), (b1, ())))
    else
      none
  else
    some (.inr (.inr (.inl (((), ()), (b1, ())))))
noncomputable def s150_L0 (x : Ta266) : Option (Ta266 ⊕ (((Bool × Unit) × Unit) ⊕ (Ta265 ⊕ Empty))) := q150_L0 x.1.2.1 x.2.1
abbrev h150_L2 : Shape := { slots := [(1, .bx 1 0), (4, .v (.int .i64))], boxes := [(1, .typ Ty286)] }
abbrev e150_L2 : List (XT × Shape) := [(.ret, { slots := [(2, .v .bool)], boxes := [] }), (.exit 2, { slots := [(1, .bx 1 0)], boxes := [(1, .typ Ty286)] })]
noncomputable def q150_L2 (t4 : Int) (b1 : Ta262) : Option (Ta266 ⊕ (((Bool × Unit) × Unit) ⊕ (Ta265 ⊕ Empty))) :=
  bif (decide (t4 < (b1.2.2.2.2.2.2.2.2.2.1.len : Int))) then
    bif (decide (0 ≤ t4) && decide (t4 < (b1.2.2.2.2.2.2.2.2.2.1.len : Int))) then
      bif (!(f206 (L.get b1.2.2.2.2.2.2.2.2.2.1 t4.toNat))) then
        some (.inr (.inl ((false, ()), ())))
      else
        bif (decide (0 ≤ t4) && decide (t4 < (b1.2.2.2.2.2.2.2.2.2.1.len : Int))) then
          bif (decide ((L.get b1.2.2.2.2.2.2.2.2.2.1 t4.toNat).2.1 ≥ (b1.2.2.2.2.2.2.2.1.len : Int))) then
            some (.inr (.inl ((false, ()), ())))
          else
            bif (decide (0 ≤ t4) && decide (t4 < (b1.2.2.2.2.2.2.2.2.2.1.len : Int))) then
              bif (decide ((L.get b1.2.2.2.2.2.2.2.2.2.1 t4.toNat).2.2.1 ≥ (b1.2.2.2.2.2.2.2.1.len : Int))) then
                some (.inr (.inl ((false, ()), ())))
              else
                some (.inl (((), ((wI (t4 + (1 : Int))), ())), (b1, ())))
            else
              none
        else
          none
    else
      none
  else
    some (.inr (.inr (.inl (((), ()), (b1, ())))))
noncomputable def s150_L2 (x : Ta266) : Option (Ta266 ⊕ (((Bool × Unit) × Unit) ⊕ (Ta265 ⊕ Empty))) := q150_L2 x.1.2.1 x.2.1
noncomputable def a150 : Nat → Option LoopAnn := fun c => bif Nat.beq c 0 then some (.fix h150_L0 e150_L0 s150_L0) else bif Nat.beq c 2 then some (.fix h150_L2 e150_L2 s150_L2) else none
noncomputable def g150 (x0 : Ta262) : Option ((Bool × Unit) × Unit) :=
  bif (decide ((x0.2.2.2.2.2.2.2.2.1.len : Int) > (8 : Int))) then
    some ((false, ()), ())
  else
    bif (decide ((x0.2.2.2.2.2.2.2.2.2.1.len : Int) > (8 : Int))) then
      some ((false, ()), ())
    else
      (fixO s150_L0 (((), ((0 : Int), ())), (x0, ()))).bind fun d5 => match d5 with
      | .inl y1 =>
        some ((y1.1.1, ()), ())
      | .inr (.inl y1) =>
        (fixO s150_L2 (((), ((0 : Int), ())), y1.2)).bind fun d4 => match d4 with
        | .inl y2 =>
          some ((y2.1.1, ()), ())
        | .inr (.inl y2) =>
          (g207 y2.2.1.2.2.2.1 y2.2.1.2.1 y2.2.1.2.2.2.2.2.2.2.2.2.1).bind fun y3 =>
            some (((decide (y2.2.1.2.2.2.2.1 ≥ y3.1.1)), ()), ())
        | .inr (.inr e) => nomatch e
      | .inr (.inr e) => nomatch e
noncomputable def c150 : Ctr := { ins := [.v Ty286], out := [.bool], F := fun x => g150 x.1 }
noncomputable def l150 : List (Nat × Code) := loopsIn (Tryz.f150.body.getD .skip) 0
theorem w150_L0 (x : h150_L0.T) : runK Tryz.prog Γ t150 a150 (l150.getD 0 (0, .skip)).2 0 (pkSh h150_L0 x) (loopCls (sh := h150_L0) (es := e150_L0)) = (s150_L0 x : Option _) := by kernel_rfl
theorem w150_L2 (x : h150_L2.T) : runK Tryz.prog Γ t150 a150 (l150.getD 1 (0, .skip)).2 2 (pkSh h150_L2 x) (loopCls (sh := h150_L2) (es := e150_L2)) = (s150_L2 x : Option _) := by kernel_rfl
theorem v150 : LoopsOk Tryz.prog Γ t150 a150 (loopsIn (Tryz.f150.body.getD .skip) 0) := by
  have e : loopsIn (Tryz.f150.body.getD .skip) 0 = [(0, (l150.getD 0 (0, .skip)).2), (2, (l150.getD 1 (0, .skip)).2)] := by kernel_rfl
  rw [e]
  exact ⟨fun x d h => (w150_L0 x).trans h, fun x d h => (w150_L2 x).trans h, trivial⟩
theorem r150 (x : InsT c150.ins) : fnK Tryz.prog Γ t150 a150 Tryz.f150 c150 x = g150 x.1 := by kernel_rfl
theorem k150 : TblOk Tryz.prog t150 := tblOk_cons o77 (tblOk_cons o206 (tblOk_cons o207 (tblOk_nil)))
theorem o150 : Holds Tryz.prog 150 c150 := fn_holds (code := Tryz.f150.body.getD .skip) (by kernel_rfl) gamOk k150 Tryz.func150 (by kernel_rfl) (by kernel_rfl) (by kernel_rfl) (by kernel_rfl) v150 (fun x _ h => (r150 x).trans h)
/-! ### 151: loop.example/g00076/spec.l13Slots -/
noncomputable def t151 : Tbl := [(77, [], c77)]
abbrev h151_L0 : Shape := { slots := [(1, .bx 1 0), (3, .v (.int .i64)), (4, .v (.int .i64))], boxes := [(1, .typ Ty286)] }
abbrev e151_L0 : List (XT × Shape) := [(.ret, { slots := [(2, .v .bool)], boxes := [] }), (.exit 0, { slots := [], boxes := [] })]
noncomputable def q151_L0 (t3 : Int) (t4 : Int) (b1 : Ta262) : Option (Ta267 ⊕ (((Bool × Unit) × Unit) ⊕ ((Unit × Unit) ⊕ Empty))) :=
  bif (decide (t4 < (b1.2.2.2.2.2.2.2.2.2.2.1.len : Int))) then
    bif (decide (0 ≤ t4) && decide (t4 < (b1.2.2.2.2.2.2.2.2.2.2.1.len : Int))) then
      bif (!(f77 (L.get b1.2.2.2.2.2.2.2.2.2.2.1 t4.toNat).1 (0 : Int) (wI ((b1.2.2.2.2.2.2.2.1.len : Int) - (1 : Int))))) then
        some (.inr (.inl ((false, ()), ())))
      else
        bif (!(f77 (L.get b1.2.2.2.2.2.2.2.2.2.2.1 t4.toNat).2.1 t3 (5000 : Int))) then
          some (.inr (.inl ((false, ()), ())))
        else
          bif (!(f77 (L.get b1.2.2.2.2.2.2.2.2.2.2.1 t4.toNat).2.2.1 (wI ((wI (b1.2.2.2.2.1 + b1.2.2.2.2.2.1)) + (1 : Int))) (5000 : Int))) then
            some (.inr (.inl ((false, ()), ())))
          else
            bif (decide ((wI ((L.get b1.2.2.2.2.2.2.2.2.2.2.1 t4.toNat).2.1 + (L.get b1.2.2.2.2.2.2.2.2.2.2.1 t4.toNat).2.2.1)) > b1.2.2.2.2.2.2.1)) then
              some (.inr (.inl ((false, ()), ())))
            else
              some (.inl (((), ((wI ((L.get b1.2.2.2.2.2.2.2.2.2.2.1 t4.toNat).2.1 + (L.get b1.2.2.2.2.2.2.2.2.2.2.1 t4.toNat).2.2.1)), ((wI (t4 + (1 : Int))), ()))), (b1, ())))
    else
      none
  else
    some (.inr (.inr (.inl ((), ()))))
noncomputable def s151_L0 (x : Ta267) : Option (Ta267 ⊕ (((Bool × Unit) × Unit) ⊕ ((Unit × Unit) ⊕ Empty))) := q151_L0 x.1.2.1 x.1.2.2.1 x.2.1
noncomputable def a151 : Nat → Option LoopAnn := fun c => bif Nat.beq c 0 then some (.fix h151_L0 e151_L0 s151_L0) else none
noncomputable def g151 (x0 : Ta262) : Option ((Bool × Unit) × Unit) :=
  bif (!(f77 (x0.2.2.2.2.2.2.2.2.2.2.1.len : Int) (1 : Int) (16 : Int))) then
    some ((false, ()), ())
  else
    (fixO s151_L0 (((), ((0 : Int), ((0 : Int), ()))), (x0, ()))).bind fun d2 => match d2 with
    | .inl y1 =>
      some ((y1.1.1, ()), ())
    | .inr (.inl y1) =>
      some ((true, ()), ())
    | .inr (.inr e) => nomatch e
noncomputable def c151 : Ctr := { ins := [.v Ty286], out := [.bool], F := fun x => g151 x.1 }
noncomputable def l151 : List (Nat × Code) := loopsIn (Tryz.f151.body.getD .skip) 0
theorem w151_L0 (x : h151_L0.T) : runK Tryz.prog Γ t151 a151 (l151.getD 0 (0, .skip)).2 0 (pkSh h151_L0 x) (loopCls (sh := h151_L0) (es := e151_L0)) = (s151_L0 x : Option _) := by kernel_rfl
theorem v151 : LoopsOk Tryz.prog Γ t151 a151 (loopsIn (Tryz.f151.body.getD .skip) 0) := by
  have e : loopsIn (Tryz.f151.body.getD .skip) 0 = [(0, (l151.getD 0 (0, .skip)).2)] := by kernel_rfl
  rw [e]
  exact ⟨fun x d h => (w151_L0 x).trans h, trivial⟩
theorem r151 (x : InsT c151.ins) : fnK Tryz.prog Γ t151 a151 Tryz.f151 c151 x = g151 x.1 := by kernel_rfl
theorem k151 : TblOk Tryz.prog t151 := tblOk_cons o77 (tblOk_nil)
theorem o151 : Holds Tryz.prog 151 c151 := fn_holds (code := Tryz.f151.body.getD .skip) (by kernel_rfl) gamOk k151 Tryz.func151 (by kernel_rfl) (by kernel_rfl) (by kernel_rfl) (by kernel_rfl) v151 (fun x _ h => (r151 x).trans h)
/-! ### 79: loop.example/g00076/spec.Sound -/
noncomputable def t79 : Tbl := [(148, [], c148), (149, [], c149), (150, [], c150), (151, [], c151)]
noncomputable def a79 : Nat → Option LoopAnn := fun _ => none
noncomputable def g79 (x0 : Ta262) : Option ((Bool × Unit) × Unit) :=
  (g148 x0).bind fun y1 =>
    bif y1.1.1 then
      (g149 x0).bind fun y2 =>
        bif y2.1.1 then
          (g150 x0).bind fun y3 =>
            bif y3.1.1 then
              (g151 x0).bind fun y4 =>
                some ((y4.1.1, ()), ())
            else
              some ((false, ()), ())
        else
          some ((false, ()), ())
    else
      some ((false, ()), ())
noncomputable def c79 : Ctr := { ins := [.v Ty286], out := [.bool], F := fun x => g79 x.1 }
theorem v79 : LoopsOk Tryz.prog Γ t79 a79 (loopsIn (Tryz.f79.body.getD .skip) 0) := loopsOk_nil (by kernel_rfl)
theorem r79 (x : InsT c79.ins) : fnK Tryz.prog Γ t79 a79 Tryz.f79 c79 x = g79 x.1 := by kernel_rfl
theorem k79 : TblOk Tryz.prog t79 := tblOk_cons o148 (tblOk_cons o149 (tblOk_cons o150 (tblOk_cons o151 (tblOk_nil))))
theorem o79 : Holds Tryz.prog 79 c79 := fn_holds (code := Tryz.f79.body.getD .skip) (by kernel_rfl) gamOk k79 Tryz.func79 (by kernel_rfl) (by kernel_rfl) (by kernel_rfl) (by kernel_rfl) v79 (fun x _ h => (r79 x).trans h)
/-! ### 80: loop.example/g00076/spec.l17Fits -/
noncomputable def t80 : Tbl := [(77, [], c77)]
abbrev h80_L0 : Shape := { slots := [(1, .v (.int .i64)), (2, .v (.sl (.sl (.int .u8)))), (3, .bx 3 0), (7, .v (.int .i64))], boxes := [(3, .typ Ty286)] }
abbrev e80_L0 : List (XT × Shape) := [(.ret, { slots := [(6, .v .bool)], boxes := [] }), (.exit 0, { slots := [], boxes := [] })]
noncomputable def q80_L0 (t1 : Int) (t2 : (L (L Int))) (t7 : Int) (b3 : Ta262) : Option (Ta268 ⊕ (((Bool × Unit) × Unit) ⊕ ((Unit × Unit) ⊕ Empty))) :=
  bif (decide (t7 < (t2.len : Int))) then
    bif (decide (0 ≤ t7) && decide (t7 < (t2.len : Int))) then
      bif (decide (0 ≤ t1) && decide (t1 < (b3.2.2.2.2.2.2.2.1.len : Int))) then
        bif (decide (0 ≤ t7) && decide (t7 < ((L.get b3.2.2.2.2.2.2.2.1 t1.toNat).2.2.2.1.len : Int))) then
          bif (((L.get t2 t7.toNat).len : Int) != (L.get (L.get b3.2.2.2.2.2.2.2.1 t1.toNat).2.2.2.1 t7.toNat).2.1) then
            some (.inr (.inl ((false, ()), ())))
          else
            some (.inl ((t1, (t2, ((), ((wI (t7 + (1 : Int))), ())))), (b3, ())))
        else
          none
      else
        none
    else
      none
  else
    some (.inr (.inr (.inl ((), ()))))
noncomputable def s80_L0 (x : Ta268) : Option (Ta268 ⊕ (((Bool × Unit) × Unit) ⊕ ((Unit × Unit) ⊕ Empty))) := q80_L0 x.1.1 x.1.2.1 x.1.2.2.2.1 x.2.1
noncomputable def a80 : Nat → Option LoopAnn := fun c => bif Nat.beq c 0 then some (.fix h80_L0 e80_L0 s80_L0) else none
noncomputable def g80 (x0 : Ta262) (x1 : Int) (x2 : (L (L Int))) : Option ((Bool × Unit) × Unit) :=
  bif (!(f77 x1 (0 : Int) (wI ((x0.2.2.2.2.2.2.2.1.len : Int) - (1 : Int))))) then
    some ((false, ()), ())
  else
    bif (decide (0 ≤ x1) && decide (x1 < (x0.2.2.2.2.2.2.2.1.len : Int))) then
      bif ((x2.len : Int) != ((L.get x0.2.2.2.2.2.2.2.1 x1.toNat).2.2.2.1.len : Int)) then
        some ((false, ()), ())
      else
        (fixO s80_L0 ((x1, (x2, ((), ((0 : Int), ())))), (x0, ()))).bind fun d2 => match d2 with
        | .inl y1 =>
          some ((y1.1.1, ()), ())
        | .inr (.inl y1) =>
          some ((true, ()), ())
        | .inr (.inr e) => nomatch e
    else
      none
noncomputable def c80 : Ctr := { ins := [.v Ty286, .v (.int .i64), .v (.sl (.sl (.int .u8)))], out := [.bool], F := fun x => g80 x.1 x.2.1 x.2.2.1 }
noncomputable def l80 : List (Nat × Code) := loopsIn (Tryz.f80.body.getD .skip) 0
theorem w80_L0 (x : h80_L0.T) : runK Tryz.prog Γ t80 a80 (l80.getD 0 (0, .skip)).2 0 (pkSh h80_L0 x) (loopCls (sh := h80_L0) (es := e80_L0)) = (s80_L0 x : Option _) := by kernel_rfl
theorem v80 : LoopsOk Tryz.prog Γ t80 a80 (loopsIn (Tryz.f80.body.getD .skip) 0) := by
  have e : loopsIn (Tryz.f80.body.getD .skip) 0 = [(0, (l80.getD 0 (0, .skip)).2)] := by kernel_rfl
  rw [e]
  exact ⟨fun x d h => (w80_L0 x).trans h, trivial⟩
theorem r80 (x : InsT c80.ins) : fnK Tryz.prog Γ t80 a80 Tryz.f80 c80 x = g80 x.1 x.2.1 x.2.2.1 := by kernel_rfl
theorem k80 : TblOk Tryz.prog t80 := tblOk_cons o77 (tblOk_nil)
theorem o80 : Holds Tryz.prog 80 c80 := fn_holds (code := Tryz.f80.body.getD .skip) (by kernel_rfl) gamOk k80 Tryz.func80 (by kernel_rfl) (by kernel_rfl) (by kernel_rfl) (by kernel_rfl) v80 (fun x _ h => (r80 x).trans h)
/-! ### 27: loop.example/g00076/spec.ImageOk -/
noncomputable def t27 : Tbl := [(79, [], c79), (80, [], c80)]
noncomputable def a27 : Nat → Option LoopAnn := fun _ => none
noncomputable def g27 (x0 : Ta262) (x1 : Int) (x2 : (L (L Int))) : Option ((Bool × Unit) × Unit) :=
  (g79 x0).bind fun y1 =>
    bif y1.1.1 then
      (g80 x0 x1 x2).bind fun y2 =>
        some ((y2.1.1, ()), ())
    else
      some ((false, ()), ())
noncomputable def c27 : Ctr := { ins := [.v Ty286, .v (.int .i64), .v (.sl (.sl (.int .u8)))], out := [.bool], F := fun x => g27 x.1 x.2.1 x.2.2.1 }
theorem v27 : LoopsOk Tryz.prog Γ t27 a27 (loopsIn (Tryz.f27.body.getD .skip) 0) := loopsOk_nil (by kernel_rfl)
theorem r27 (x : InsT c27.ins) : fnK Tryz.prog Γ t27 a27 Tryz.f27 c27 x = g27 x.1 x.2.1 x.2.2.1 := by kernel_rfl
theorem k27 : TblOk Tryz.prog t27 := tblOk_cons o79 (tblOk_cons o80 (tblOk_nil))
theorem o27 : Holds Tryz.prog 27 c27 := fn_holds (code := Tryz.f27.body.getD .skip) (by kernel_rfl) gamOk k27 Tryz.func27 (by kernel_rfl) (by kernel_rfl) (by kernel_rfl) (by kernel_rfl) v27 (fun x _ h => (r27 x).trans h)
/-! ### 220: loop.example/g00076/spec.Apart -/
noncomputable def t220 : Tbl := [(219, [], c219), (235, [], c235)]
abbrev h220_L0 : Shape := { slots := [(2, .bx 2 0), (3, .bx 3 0), (5, .v (.int .i64))], boxes := [(2, .typ Ty119), (3, .typ Ty119)] }
abbrev e220_L0 : List (XT × Shape) := [(.ret, { slots := [(4, .v .bool)], boxes := [] }), (.exit 0, { slots := [], boxes := [] })]
noncomputable def q220_L0 (t5 : Int) (b2 : Ta8) (b3 : Ta8) : Option (Ta198 ⊕ (((Bool × Unit) × Unit) ⊕ ((Unit × Unit) ⊕ Empty))) :=
  bif (decide (t5 < (2048 : Int))) then
    bif (f235 b2 t5) then
      bif (f235 b3 t5) then
        some (.inr (.inl ((false, ()), ())))
      else
        some (.inl (((), ((), ((wI (t5 + (4 : Int))), ()))), (b2, (b3, ()))))
    else
      some (.inl (((), ((), ((wI (t5 + (4 : Int))), ()))), (b2, (b3, ()))))
  else
    some (.inr (.inr (.inl ((), ()))))
noncomputable def s220_L0 (x : Ta198) : Option (Ta198 ⊕ (((Bool × Unit) × Unit) ⊕ ((Unit × Unit) ⊕ Empty))) := q220_L0 x.1.2.2.1 x.2.1 x.2.2.1
noncomputable def a220 : Nat → Option LoopAnn := fun c => bif Nat.beq c 0 then some (.fix h220_L0 e220_L0 s220_L0) else none
noncomputable def g220 (x0 : Ta8) (x1 : Ta8) : Option ((Bool × Unit) × Unit) :=
  bif (!(f219 x0)) then
    some ((false, ()), ())
  else
    bif (!(f219 x1)) then
      some ((false, ()), ())
    else
      (fixO s220_L0 (((), ((), ((0 : Int), ()))), (x0, (x1, ())))).bind fun d2 => match d2 with
      | .inl y1 =>
        some ((y1.1.1, ()), ())
      | .inr (.inl y1) =>
        some ((true, ()), ())
      | .inr (.inr e) => nomatch e
noncomputable def c220 : Ctr := { ins := [.v Ty119, .v Ty119], out := [.bool], F := fun x => g220 x.1 x.2.1 }
noncomputable def l220 : List (Nat × Code) := loopsIn (Tryz.f220.body.getD .skip) 0
theorem w220_L0 (x : h220_L0.T) : runK Tryz.prog Γ t220 a220 (l220.getD 0 (0, .skip)).2 0 (pkSh h220_L0 x) (loopCls (sh := h220_L0) (es := e220_L0)) = (s220_L0 x : Option _) := by kernel_rfl
theorem v220 : LoopsOk Tryz.prog Γ t220 a220 (loopsIn (Tryz.f220.body.getD .skip) 0) := by
  have e : loopsIn (Tryz.f220.body.getD .skip) 0 = [(0, (l220.getD 0 (0, .skip)).2)] := by kernel_rfl
  rw [e]
  exact ⟨fun x d h => (w220_L0 x).trans h, trivial⟩
theorem r220 (x : InsT c220.ins) : fnK Tryz.prog Γ t220 a220 Tryz.f220 c220 x = g220 x.1 x.2.1 := by kernel_rfl
theorem k220 : TblOk Tryz.prog t220 := tblOk_cons o219 (tblOk_cons o235 (tblOk_nil))
theorem o220 : Holds Tryz.prog 220 c220 := fn_holds (code := Tryz.f220.body.getD .skip) (by kernel_rfl) gamOk k220 Tryz.func220 (by kernel_rfl) (by kernel_rfl) (by kernel_rfl) (by kernel_rfl) v220 (fun x _ h => (r220 x).trans h)
/-! ### 173: loop.example/g00076/spec.WindowsOk -/
noncomputable def t173 : Tbl := [(219, [], c219), (220, [], c220)]
abbrev h173_L2 : Shape := { slots := [(0, .v Ty136), (3, .v (.int .i64)), (4, .v (.int .i64))], boxes := [] }
abbrev e173_L2 : List (XT × Shape) := [(.ret, { slots := [(2, .v .bool)], boxes := [] }), (.exit 2, { slots := [(0, .v Ty136), (3, .v (.int .i64))], boxes := [] })]
noncomputable def q173_L2 (t0 : Ta24) (t3 : Int) (t4 : Int) : Option (Ta127 ⊕ (((Bool × Unit) × Unit) ⊕ (Ta103 ⊕ Empty))) :=
  bif (decide (t4 < t3)) then
    bif (decide (0 ≤ t4) && decide (t4 < (t0.len : Int))) then
      bif (decide (0 ≤ t3) && decide (t3 < (t0.len : Int))) then
        (g220 (L.get t0 t4.toNat) (L.get t0 t3.toNat)).bind fun y1 =>
          bif (!y1.1.1) then
            some (.inr (.inl ((false, ()), ())))
          else
            some (.inl ((t0, (t3, ((wI (t4 + (1 : Int))), ()))), ()))
      else
        none
    else
      none
  else
    some (.inr (.inr (.inl ((t0, (t3, ())), ()))))
noncomputable def s173_L2 (x : Ta127) : Option (Ta127 ⊕ (((Bool × Unit) × Unit) ⊕ (Ta103 ⊕ Empty))) := q173_L2 x.1.1 x.1.2.1 x.1.2.2.1
abbrev h173_L0 : Shape := { slots := [(0, .v Ty136), (3, .v (.int .i64))], boxes := [] }
abbrev e173_L0 : List (XT × Shape) := [(.ret, { slots := [(2, .v .bool)], boxes := [] }), (.exit 0, { slots := [], boxes := [] })]
noncomputable def q173_L0 (t0 : Ta24) (t3 : Int) : Option (Ta103 ⊕ (((Bool × Unit) × Unit) ⊕ ((Unit × Unit) ⊕ Empty))) :=
  bif (decide (t3 < (t0.len : Int))) then
    bif (decide (0 ≤ t3) && decide (t3 < (t0.len : Int))) then
      bif (!(f219 (L.get t0 t3.toNat))) then
        some (.inr (.inl ((false, ()), ())))
      else
        (fixO s173_L2 ((t0, (t3, ((0 : Int), ()))), ())).bind fun d3 => match d3 with
        | .inl y2 =>
          some (.inr (.inl y2))
        | .inr (.inl y2) =>
          some (.inl ((y2.1.1, ((wI (y2.1.2.1 + (1 : Int))), ())), ()))
        | .inr (.inr e) => nomatch e
    else
      none
  else
    some (.inr (.inr (.inl ((), ()))))
noncomputable def s173_L0 (x : Ta103) : Option (Ta103 ⊕ (((Bool × Unit) × Unit) ⊕ ((Unit × Unit) ⊕ Empty))) := q173_L0 x.1.1 x.1.2.1
noncomputable def a173 : Nat → Option LoopAnn := fun c => bif Nat.beq c 2 then some (.fix h173_L2 e173_L2 s173_L2) else bif Nat.beq c 0 then some (.fix h173_L0 e173_L0 s173_L0) else none
noncomputable def g173 (x0 : Ta24) : Option ((Bool × Unit) × Unit) :=
  bif (decide ((x0.len : Int) > (4 : Int))) then
    some ((false, ()), ())
  else
    (fixO s173_L0 ((x0, ((0 : Int), ())), ())).bind fun d5 => match d5 with
    | .inl y4 =>
      some ((y4.1.1, ()), ())
    | .inr (.inl y4) =>
      some ((true, ()), ())
    | .inr (.inr e) => nomatch e
noncomputable def c173 : Ctr := { ins := [.v Ty136], out := [.bool], F := fun x => g173 x.1 }
noncomputable def l173 : List (Nat × Code) := loopsIn (Tryz.f173.body.getD .skip) 0
theorem w173_L2 (x : h173_L2.T) : runK Tryz.prog Γ t173 a173 (l173.getD 1 (0, .skip)).2 2 (pkSh h173_L2 x) (loopCls (sh := h173_L2) (es := e173_L2)) = (s173_L2 x : Option _) := by kernel_rfl
theorem w173_L0 (x : h173_L0.T) : runK Tryz.prog Γ t173 a173 (l173.getD 0 (0, .skip)).2 0 (pkSh h173_L0 x) (loopCls (sh := h173_L0) (es := e173_L0)) = (s173_L0 x : Option _) := by kernel_rfl
theorem v173 : LoopsOk Tryz.prog Γ t173 a173 (loopsIn (Tryz.f173.body.getD .skip) 0) := by
  have e : loopsIn (Tryz.f173.body.getD .skip) 0 = [(0, (l173.getD 0 (0, .skip)).2), (2, (l173.getD 1 (0, .skip)).2)] := by kernel_rfl
  rw [e]
  exact ⟨fun x d h => (w173_L0 x).trans h, fun x d h => (w173_L2 x).trans h, trivial⟩
theorem r173 (x : InsT c173.ins) : fnK Tryz.prog Γ t173 a173 Tryz.f173 c173 x = g173 x.1 := by kernel_rfl
theorem k173 : TblOk Tryz.prog t173 := tblOk_cons o219 (tblOk_cons o220 (tblOk_nil))
theorem o173 : Holds Tryz.prog 173 c173 := fn_holds (code := Tryz.f173.body.getD .skip) (by kernel_rfl) gamOk k173 Tryz.func173 (by kernel_rfl) (by kernel_rfl) (by kernel_rfl) (by kernel_rfl) v173 (fun x _ h => (r173 x).trans h)
/-! ### 108: loop.example/g00076/spec.GuestOk -/
noncomputable def t108 : Tbl := [(173, [], c173)]
abbrev h108_L0 : Shape := { slots := [(0, .v Ty136), (3, .bx 3 0), (5, .v (.int .i64))], boxes := [(3, .typ Ty160)] }
abbrev e108_L0 : List (XT × Shape) := [(.ret, { slots := [(4, .v .bool)], boxes := [] }), (.exit 0, { slots := [], boxes := [] })]
noncomputable def q108_L0 (t0 : Ta24) (t5 : Int) (b3 : Ta51) : Option (Ta203 ⊕ (((Bool × Unit) × Unit) ⊕ ((Unit × Unit) ⊕ Empty))) :=
  bif (decide (t5 < (t0.len : Int))) then
    bif (decide (0 ≤ t5) && decide (t5 < (b3.2.2.1.len : Int))) then
      bif (decide (0 ≤ t5) && decide (t5 < (t0.len : Int))) then
        bif (((L.get b3.2.2.1 t5.toNat).len : Int) != (L.get t0 t5.toNat).2.1) then
          some (.inr (.inl ((false, ()), ())))
        else
          some (.inl ((t0, ((), ((wI (t5 + (1 : Int))), ()))), (b3, ())))
      else
        none
    else
      none
  else
    some (.inr (.inr (.inl ((), ()))))
noncomputable def s108_L0 (x : Ta203) : Option (Ta203 ⊕ (((Bool × Unit) × Unit) ⊕ ((Unit × Unit) ⊕ Empty))) := q108_L0 x.1.1 x.1.2.2.1 x.2.1
noncomputable def a108 : Nat → Option LoopAnn := fun c => bif Nat.beq c 0 then some (.fix h108_L0 e108_L0 s108_L0) else none
noncomputable def g108 (x0 : Ta24) (x1 : Ta51) : Option ((Bool × Unit) × Unit) :=
  (g173 x0).bind fun y1 =>
    bif (!y1.1.1) then
      some ((false, ()), ())
    else
      bif ((x1.1.len : Int) != (16 : Int)) then
        some ((false, ()), ())
      else
        bif (decide ((0 : Int) < (x1.1.len : Int))) then
          bif ((L.get x1.1 (0 : Int).toNat) != (0 : Int)) then
            some ((false, ()), ())
          else
            bif ((x1.2.2.1.len : Int) != (x0.len : Int)) then
              some ((false, ()), ())
            else
              (fixO s108_L0 ((x0, ((), ((0 : Int), ()))), (x1, ()))).bind fun d3 => match d3 with
              | .inl y2 =>
                some ((y2.1.1, ()), ())
              | .inr (.inl y2) =>
                some ((true, ()), ())
              | .inr (.inr e) => nomatch e
        else
          none
noncomputable def c108 : Ctr := { ins := [.v Ty136, .v Ty160], out := [.bool], F := fun x => g108 x.1 x.2.1 }
noncomputable def l108 : List (Nat × Code) := loopsIn (Tryz.f108.body.getD .skip) 0
theorem w108_L0 (x : h108_L0.T) : runK Tryz.prog Γ t108 a108 (l108.getD 0 (0, .skip)).2 0 (pkSh h108_L0 x) (loopCls (sh := h108_L0) (es := e108_L0)) = (s108_L0 x : Option _) := by kernel_rfl
theorem v108 : LoopsOk Tryz.prog Γ t108 a108 (loopsIn (Tryz.f108.body.getD .skip) 0) := by
  have e : loopsIn (Tryz.f108.body.getD .skip) 0 = [(0, (l108.getD 0 (0, .skip)).2)] := by kernel_rfl
  rw [e]
  exact ⟨fun x d h => (w108_L0 x).trans h, trivial⟩
theorem r108 (x : InsT c108.ins) : fnK Tryz.prog Γ t108 a108 Tryz.f108 c108 x = g108 x.1 x.2.1 := by kernel_rfl
theorem k108 : TblOk Tryz.prog t108 := tblOk_cons o173 (tblOk_nil)
theorem o108 : Holds Tryz.prog 108 c108 := fn_holds (code := Tryz.f108.body.getD .skip) (by kernel_rfl) gamOk k108 Tryz.func108 (by kernel_rfl) (by kernel_rfl) (by kernel_rfl) (by kernel_rfl) v108 (fun x _ h => (r108 x).trans h)
/-! ### 109: loop.example/g00076/spec.HealthOk -/
noncomputable def t109 : Tbl := [(77, [], c77)]
noncomputable def a109 : Nat → Option LoopAnn := fun _ => none
noncomputable def g109 (x0 : Ta38) : Option ((Bool × Unit) × Unit) :=
  bif (f77 x0.1 (0 : Int) (1000000000 : Int)) then
    bif (f77 x0.2.1 (0 : Int) (1000000000 : Int)) then
      some (((f77 x0.2.2.1 (0 : Int) (9 : Int)), ()), ())
    else
      some ((false, ()), ())
  else
    some ((false, ()), ())
noncomputable def f109 (x0 : Ta38) : Bool :=
  bif (f77 x0.1 (0 : Int) (1000000000 : Int)) then
    bif (f77 x0.2.1 (0 : Int) (1000000000 : Int)) then
      (f77 x0.2.2.1 (0 : Int) (9 : Int))
    else
      false
  else
    false
theorem n109 (x0 : Ta38) : g109 x0 = some ((f109 x0, ()), ()) := by
  simp only [g109, f109, pull1]
noncomputable def c109 : Ctr := { ins := [.v Ty154], out := [.bool], F := fun x => some ((f109 x.1, ()), ()) }
theorem v109 : LoopsOk Tryz.prog Γ t109 a109 (loopsIn (Tryz.f109.body.getD .skip) 0) := loopsOk_nil (by kernel_rfl)
theorem r109 (x : InsT c109.ins) : fnK Tryz.prog Γ t109 a109 Tryz.f109 c109 x = g109 x.1 := by kernel_rfl
theorem k109 : TblOk Tryz.prog t109 := tblOk_cons o77 (tblOk_nil)
theorem o109 : Holds Tryz.prog 109 c109 := fn_holds (code := Tryz.f109.body.getD .skip) (by kernel_rfl) gamOk k109 Tryz.func109 (by kernel_rfl) (by kernel_rfl) (by kernel_rfl) (by kernel_rfl) v109 (fun x _ h => (r109 x).trans ((n109 x.1).trans h))
/-! ### 95: loop.example/g00076/spec.CacheOk -/
noncomputable def t95 : Tbl := [(162, [], c162), (77, [], c77)]
abbrev h95_L4 : Shape := { slots := [(1, .bx 1 0), (3, .v (.int .i64)), (4, .v Ty62), (5, .v (.int .i64)), (6, .v (.int .i64))], boxes := [(1, .typ Ty218)] }
abbrev e95_L4 : List (XT × Shape) := [(.ret, { slots := [(2, .v .bool)], boxes := [] }), (.exit 4, { slots := [(1, .bx 1 0), (3, .v (.int .i64)), (4, .v Ty62), (5, .v (.int .i64))], boxes := [(1, .typ Ty218)] })]
noncomputable def q95_L4 (t3 : Int) (t4 : Ta3) (t5 : Int) (t6 : Int) (b1 : Ta137) : Option (Ta229 ⊕ (((Bool × Unit) × Unit) ⊕ (Ta222 ⊕ Empty))) :=
  bif (decide (t6 < t5)) then
    bif (decide (0 ≤ t6) && decide (t6 < (t4.len : Int))) then
      bif (decide (0 ≤ t5) && decide (t5 < (t4.len : Int))) then
        bif ((L.get t4 t6.toNat).1 == (L.get t4 t5.toNat).1) then
          some (.inr (.inl ((false, ()), ())))
        else
          some (.inl (((), (t3, (t4, (t5, ((wI (t6 + (1 : Int))), ()))))), (b1, ())))
      else
        none
    else
      none
  else
    some (.inr (.inr (.inl (((), (t3, (t4, (t5, ())))), (b1, ())))))
noncomputable def s95_L4 (x : Ta229) : Option (Ta229 ⊕ (((Bool × Unit) × Unit) ⊕ (Ta222 ⊕ Empty))) := q95_L4 x.1.2.1 x.1.2.2.1 x.1.2.2.2.1 x.1.2.2.2.2.1 x.2.1
abbrev h95_L2 : Shape := { slots := [(1, .bx 1 0), (3, .v (.int .i64)), (4, .v Ty62), (5, .v (.int .i64))], boxes := [(1, .typ Ty218)] }
abbrev e95_L2 : List (XT × Shape) := [(.ret, { slots := [(2, .v .bool)], boxes := [] }), (.exit 2, { slots := [(1, .bx 1 0), (3, .v (.int .i64))], boxes := [(1, .typ Ty218)] })]
noncomputable def q95_L2 (t3 : Int) (t4 : Ta3) (t5 : Int) (b1 : Ta137) : Option (Ta222 ⊕ (((Bool × Unit) × Unit) ⊕ (Ta199 ⊕ Empty))) :=
  bif (decide (t5 < (t4.len : Int))) then
    bif (decide (0 ≤ t5) && decide (t5 < (t4.len : Int))) then
      bif (!(f77 (L.get t4 t5.toNat).1 (0 : Int) (65535 : Int))) then
        some (.inr (.inl ((false, ()), ())))
      else
        (fixO s95_L4 (((), (t3, (t4, (t5, ((0 : Int), ()))))), (b1, ()))).bind fun d2 => match d2 with
        | .inl y1 =>
          some (.inr (.inl y1))
        | .inr (.inl y1) =>
          some (.inl (((), (y1.1.2.1, (y1.1.2.2.1, ((wI (y1.1.2.2.2.1 + (1 : Int))), ())))), y1.2))
        | .inr (.inr e) => nomatch e
    else
      none
  else
    some (.inr (.inr (.inl (((), (t3, ())), (b1, ())))))
noncomputable def s95_L2 (x : Ta222) : Option (Ta222 ⊕ (((Bool × Unit) × Unit) ⊕ (Ta199 ⊕ Empty))) := q95_L2 x.1.2.1 x.1.2.2.1 x.1.2.2.2.1 x.2.1
abbrev h95_L0 : Shape := { slots := [(1, .bx 1 0), (3, .v (.int .i64))], boxes := [(1, .typ Ty218)] }
abbrev e95_L0 : List (XT × Shape) := [(.ret, { slots := [(2, .v .bool)], boxes := [] }), (.exit 0, { slots := [], boxes := [] })]
noncomputable def q95_L0 (t3 : Int) (b1 : Ta137) : Option (Ta199 ⊕ (((Bool × Unit) × Unit) ⊕ ((Unit × Unit) ⊕ Empty))) :=
  bif (decide (t3 < (b1.2.1.len : Int))) then
    bif (decide (0 ≤ t3) && decide (t3 < (b1.2.1.len : Int))) then
      bif (decide (((L.get b1.2.1 t3.toNat).len : Int) > b1.1.2.1)) then
        some (.inr (.inl ((false, ()), ())))
      else
        (fixO s95_L2 (((), (t3, ((L.get b1.2.1 t3.toNat), ((0 : Int), ())))), (b1, ()))).bind fun d4 => match d4 with
        | .inl y3 =>
          some (.inr (.inl y3))
        | .inr (.inl y3) =>
          some (.inl (((), ((wI (y3.1.2.1 + (1 : Int))), ())), y3.2))
        | .inr (.inr e) => nomatch e
    else
      none
  else
    some (.inr (.inr (.inl ((), ()))))
noncomputable def s95_L0 (x : Ta199) : Option (Ta199 ⊕ (((Bool × Unit) × Unit) ⊕ ((Unit × Unit) ⊕ Empty))) := q95_L0 x.1.2.1 x.2.1
noncomputable def a95 : Nat → Option LoopAnn := fun c => bif Nat.beq c 4 then some (.fix h95_L4 e95_L4 s95_L4) else bif Nat.beq c 2 then some (.fix h95_L2 e95_L2 s95_L2) else bif Nat.beq c 0 then some (.fix h95_L0 e95_L0 s95_L0) else none
noncomputable def g95 (x0 : Ta137) : Option ((Bool × Unit) × Unit) :=
  bif (!(f162 x0.1)) then
    some ((false, ()), ())
  else
    bif ((x0.2.1.len : Int) != x0.1.1) then
      some ((false, ()), ())
    else
      (fixO s95_L0 (((), ((0 : Int), ())), (x0, ()))).bind fun d6 => match d6 with
      | .inl y5 =>
        some ((y5.1.1, ()), ())
      | .inr (.inl y5) =>
        some ((true, ()), ())
      | .inr (.inr e) => nomatch e
noncomputable def c95 : Ctr := { ins := [.v Ty218], out := [.bool], F := fun x => g95 x.1 }
noncomputable def l95 : List (Nat × Code) := loopsIn (Tryz.f95.body.getD .skip) 0
theorem w95_L4 (x : h95_L4.T) : runK Tryz.prog Γ t95 a95 (l95.getD 2 (0, .skip)).2 4 (pkSh h95_L4 x) (loopCls (sh := h95_L4) (es := e95_L4)) = (s95_L4 x : Option _) := by kernel_rfl
theorem w95_L2 (x : h95_L2.T) : runK Tryz.prog Γ t95 a95 (l95.getD 1 (0, .skip)).2 2 (pkSh h95_L2 x) (loopCls (sh := h95_L2) (es := e95_L2)) = (s95_L2 x : Option _) := by kernel_rfl
theorem w95_L0 (x : h95_L0.T) : runK Tryz.prog Γ t95 a95 (l95.getD 0 (0, .skip)).2 0 (pkSh h95_L0 x) (loopCls (sh := h95_L0) (es := e95_L0)) = (s95_L0 x : Option _) := by kernel_rfl
theorem v95 : LoopsOk Tryz.prog Γ t95 a95 (loopsIn (Tryz.f95.body.getD .skip) 0) := by
  have e : loopsIn (Tryz.f95.body.getD .skip) 0 = [(0, (l95.getD 0 (0, .skip)).2), (2, (l95.getD 1 (0, .skip)).2), (4, (l95.getD 2 (0, .skip)).2)] := by kernel_rfl
  rw [e]
  exact ⟨fun x d h => (w95_L0 x).trans h, fun x d h => (w95_L2 x).trans h, fun x d h => (w95_L4 x).trans h, trivial⟩
theorem r95 (x : InsT c95.ins) : fnK Tryz.prog Γ t95 a95 Tryz.f95 c95 x = g95 x.1 := by kernel_rfl
theorem k95 : TblOk Tryz.prog t95 := tblOk_cons o162 (tblOk_cons o77 (tblOk_nil))
theorem o95 : Holds Tryz.prog 95 c95 := fn_holds (code := Tryz.f95.body.getD .skip) (by kernel_rfl) gamOk k95 Tryz.func95 (by kernel_rfl) (by kernel_rfl) (by kernel_rfl) (by kernel_rfl) v95 (fun x _ h => (r95 x).trans h)
/-! ### 110: loop.example/g00076/spec.TlbOk -/
noncomputable def t110 : Tbl := [(77, [], c77)]
abbrev h110_L2 : Shape := { slots := [(1, .bx 1 0), (3, .v (.int .i64)), (4, .v (.int .i64))], boxes := [(1, .typ Ty83)] }
abbrev e110_L2 : List (XT × Shape) := [(.ret, { slots := [(2, .v .bool)], boxes := [] }), (.exit 2, { slots := [(1, .bx 1 0), (3, .v (.int .i64))], boxes := [(1, .typ Ty83)] })]
noncomputable def q110_L2 (t3 : Int) (t4 : Int) (b1 : Ta0) : Option (Ta132 ⊕ (((Bool × Unit) × Unit) ⊕ (Ta109 ⊕ Empty))) :=
  bif (decide (t4 < t3)) then
    bif (decide (0 ≤ t4) && decide (t4 < (b1.2.1.len : Int))) then
      bif (decide (0 ≤ t3) && decide (t3 < (b1.2.1.len : Int))) then
        bif ((L.get b1.2.1 t4.toNat) == (L.get b1.2.1 t3.toNat)) then
          some (.inr (.inl ((false, ()), ())))
        else
          some (.inl (((), (t3, ((wI (t4 + (1 : Int))), ()))), (b1, ())))
      else
        none
    else
      none
  else
    some (.inr (.inr (.inl (((), (t3, ())), (b1, ())))))
noncomputable def s110_L2 (x : Ta132) : Option (Ta132 ⊕ (((Bool × Unit) × Unit) ⊕ (Ta109 ⊕ Empty))) := q110_L2 x.1.2.1 x.1.2.2.1 x.2.1
abbrev h110_L0 : Shape := { slots := [(1, .bx 1 0), (3, .v (.int .i64))], boxes := [(1, .typ Ty83)] }
abbrev e110_L0 : List (XT × Shape) := [(.ret, { slots := [(2, .v .bool)], boxes := [] }), (.exit 0, { slots := [], boxes := [] })]
noncomputable def q110_L0 (t3 : Int) (b1 : Ta0) : Option (Ta109 ⊕ (((Bool × Unit) × Unit) ⊕ ((Unit × Unit) ⊕ Empty))) :=
  bif (decide (t3 < (b1.2.1.len : Int))) then
    bif (decide (0 ≤ t3) && decide (t3 < (b1.2.1.len : Int))) then
      bif (!(f77 (L.get b1.2.1 t3.toNat) (0 : Int) (1023 : Int))) then
        some (.inr (.inl ((false, ()), ())))
      else
        (fixO s110_L2 (((), (t3, ((0 : Int), ()))), (b1, ()))).bind fun d2 => match d2 with
        | .inl y1 =>
          some (.inr (.inl y1))
        | .inr (.inl y1) =>
          some (.inl (((), ((wI (y1.1.2.1 + (1 : Int))), ())), y1.2))
        | .inr (.inr e) => nomatch e
    else
      none
  else
    some (.inr (.inr (.inl ((), ()))))
noncomputable def s110_L0 (x : Ta109) : Option (Ta109 ⊕ (((Bool × Unit) × Unit) ⊕ ((Unit × Unit) ⊕ Empty))) := q110_L0 x.1.2.1 x.2.1
noncomputable def a110 : Nat → Option LoopAnn := fun c => bif Nat.beq c 2 then some (.fix h110_L2 e110_L2 s110_L2) else bif Nat.beq c 0 then some (.fix h110_L0 e110_L0 s110_L0) else none
noncomputable def g110 (x0 : Ta0) : Option ((Bool × Unit) × Unit) :=
  bif (!(f77 x0.1 (1 : Int) (8 : Int))) then
    some ((false, ()), ())
  else
    bif (decide ((x0.2.1.len : Int) > x0.1)) then
      some ((false, ()), ())
    else
      (fixO s110_L0 (((), ((0 : Int), ())), (x0, ()))).bind fun d4 => match d4 with
      | .inl y3 =>
        some ((y3.1.1, ()), ())
      | .inr (.inl y3) =>
        some ((true, ()), ())
      | .inr (.inr e) => nomatch e
noncomputable def c110 : Ctr := { ins := [.v Ty83], out := [.bool], F := fun x => g110 x.1 }
noncomputable def l110 : List (Nat × Code) := loopsIn (Tryz.f110.body.getD .skip) 0
theorem w110_L2 (x : h110_L2.T) : runK Tryz.prog Γ t110 a110 (l110.getD 1 (0, .skip)).2 2 (pkSh h110_L2 x) (loopCls (sh := h110_L2) (es := e110_L2)) = (s110_L2 x : Option _) := by kernel_rfl
theorem w110_L0 (x : h110_L0.T) : runK Tryz.prog Γ t110 a110 (l110.getD 0 (0, .skip)).2 0 (pkSh h110_L0 x) (loopCls (sh := h110_L0) (es := e110_L0)) = (s110_L0 x : Option _) := by kernel_rfl
theorem v110 : LoopsOk Tryz.prog Γ t110 a110 (loopsIn (Tryz.f110.body.getD .skip) 0) := by
  have e : loopsIn (Tryz.f110.body.getD .skip) 0 = [(0, (l110.getD 0 (0, .skip)).2), (2, (l110.getD 1 (0, .skip)).2)] := by kernel_rfl
  rw [e]
  exact ⟨fun x d h => (w110_L0 x).trans h, fun x d h => (w110_L2 x).trans h, trivial⟩
theorem r110 (x : InsT c110.ins) : fnK Tryz.prog Γ t110 a110 Tryz.f110 c110 x = g110 x.1 := by kernel_rfl
theorem k110 : TblOk Tryz.prog t110 := tblOk_cons o77 (tblOk_nil)
theorem o110 : Holds Tryz.prog 110 c110 := fn_holds (code := Tryz.f110.body.getD .skip) (by kernel_rfl) gamOk k110 Tryz.func110 (by kernel_rfl) (by kernel_rfl) (by kernel_rfl) (by kernel_rfl) v110 (fun x _ h => (r110 x).trans h)
/-! ### 174: loop.example/g00076/spec.OutOk -/
noncomputable def t174 : Tbl := [(206, [], c206), (77, [], c77)]
noncomputable def a174 : Nat → Option LoopAnn := fun _ => none
noncomputable def g174 (x0 : Ta33) (x1 : Ta0) : Option ((Bool × Unit) × Unit) :=
  bif (!(f206 x0)) then
    some ((false, ()), ())
  else
    bif (x0.1 == (0 : Int)) then
      bif (x1.1 == (0 : Int)) then
        some (((decide ((x1.2.1.len : Int) ≤ (1 : Int))), ()), ())
      else
        some ((false, ()), ())
    else
      bif (f77 x1.1 (0 : Int) x0.2.2.2.1) then
        some (((decide ((wI (x1.1 + (x1.2.1.len : Int))) ≤ x0.2.2.2.1)), ()), ())
      else
        some ((false, ()), ())
noncomputable def f174 (x0 : Ta33) (x1 : Ta0) : Bool :=
  bif (!(f206 x0)) then
    false
  else
    bif (x0.1 == (0 : Int)) then
      bif (x1.1 == (0 : Int)) then
        (decide ((x1.2.1.len : Int) ≤ (1 : Int)))
      else
        false
    else
      bif (f77 x1.1 (0 : Int) x0.2.2.2.1) then
        (decide ((wI (x1.1 + (x1.2.1.len : Int))) ≤ x0.2.2.2.1))
      else
        false
theorem n174 (x0 : Ta33) (x1 : Ta0) : g174 x0 x1 = some ((f174 x0 x1, ()), ()) := by
  simp only [g174, f174, pull1]
noncomputable def c174 : Ctr := { ins := [.v Ty167, .v Ty81], out := [.bool], F := fun x => some ((f174 x.1 x.2.1, ()), ()) }
theorem v174 : LoopsOk Tryz.prog Γ t174 a174 (loopsIn (Tryz.f174.body.getD .skip) 0) := loopsOk_nil (by kernel_rfl)
theorem r174 (x : InsT c174.ins) : fnK Tryz.prog Γ t174 a174 Tryz.f174 c174 x = g174 x.1 x.2.1 := by kernel_rfl
theorem k174 : TblOk Tryz.prog t174 := tblOk_cons o206 (tblOk_cons o77 (tblOk_nil))
theorem o174 : Holds Tryz.prog 174 c174 := fn_holds (code := Tryz.f174.body.getD .skip) (by kernel_rfl) gamOk k174 Tryz.func174 (by kernel_rfl) (by kernel_rfl) (by kernel_rfl) (by kernel_rfl) v174 (fun x _ h => (r174 x).trans ((n174 x.1 x.2.1).trans h))
/-! ### 175: loop.example/g00076/spec.InOk -/
noncomputable def t175 : Tbl := [(206, [], c206)]
noncomputable def a175 : Nat → Option LoopAnn := fun _ => none
noncomputable def g175 (x0 : Ta33) (x1 : ((L Int) × Unit)) : Option ((Bool × Unit) × Unit) :=
  bif (!(f206 x0)) then
    some ((false, ()), ())
  else
    bif (x0.1 == (0 : Int)) then
      some (((decide ((x1.1.len : Int) ≤ (1 : Int))), ()), ())
    else
      some (((decide ((x1.1.len : Int) ≤ x0.2.2.2.1)), ()), ())
noncomputable def f175 (x0 : Ta33) (x1 : ((L Int) × Unit)) : Bool :=
  bif (!(f206 x0)) then
    false
  else
    bif (x0.1 == (0 : Int)) then
      (decide ((x1.1.len : Int) ≤ (1 : Int)))
    else
      (decide ((x1.1.len : Int) ≤ x0.2.2.2.1))
theorem n175 (x0 : Ta33) (x1 : ((L Int) × Unit)) : g175 x0 x1 = some ((f175 x0 x1, ()), ()) := by
  simp only [g175, f175, pull1]
noncomputable def c175 : Ctr := { ins := [.v Ty167, .v Ty21], out := [.bool], F := fun x => some ((f175 x.1 x.2.1, ()), ()) }
theorem v175 : LoopsOk Tryz.prog Γ t175 a175 (loopsIn (Tryz.f175.body.getD .skip) 0) := loopsOk_nil (by kernel_rfl)
theorem r175 (x : InsT c175.ins) : fnK Tryz.prog Γ t175 a175 Tryz.f175 c175 x = g175 x.1 x.2.1 := by kernel_rfl
theorem k175 : TblOk Tryz.prog t175 := tblOk_cons o206 (tblOk_nil)
theorem o175 : Holds Tryz.prog 175 c175 := fn_holds (code := Tryz.f175.body.getD .skip) (by kernel_rfl) gamOk k175 Tryz.func175 (by kernel_rfl) (by kernel_rfl) (by kernel_rfl) (by kernel_rfl) v175 (fun x _ h => (r175 x).trans ((n175 x.1 x.2.1).trans h))
/-! ### 176: loop.example/g00076/spec.DevOk -/
noncomputable def t176 : Tbl := []
noncomputable def a176 : Nat → Option LoopAnn := fun _ => none
noncomputable def g176 (x0 : Ta11) : Option ((Bool × Unit) × Unit) :=
  bif (decide ((x0.1.len : Int) ≤ (8 : Int))) then
    some (((decide ((x0.2.1.len : Int) ≤ (8 : Int))), ()), ())
  else
    some ((false, ()), ())
noncomputable def f176 (x0 : Ta11) : Bool :=
  bif (decide ((x0.1.len : Int) ≤ (8 : Int))) then
    (decide ((x0.2.1.len : Int) ≤ (8 : Int)))
  else
    false
theorem n176 (x0 : Ta11) : g176 x0 = some ((f176 x0, ()), ()) := by
  simp only [g176, f176, pull1]
noncomputable def c176 : Ctr := { ins := [.v Ty96], out := [.bool], F := fun x => some ((f176 x.1, ()), ()) }
theorem v176 : LoopsOk Tryz.prog Γ t176 a176 (loopsIn (Tryz.f176.body.getD .skip) 0) := loopsOk_nil (by kernel_rfl)
theorem r176 (x : InsT c176.ins) : fnK Tryz.prog Γ t176 a176 Tryz.f176 c176 x = g176 x.1 := by kernel_rfl
theorem k176 : TblOk Tryz.prog t176 := tblOk_nil
theorem o176 : Holds Tryz.prog 176 c176 := fn_holds (code := Tryz.f176.body.getD .skip) (by kernel_rfl) gamOk k176 Tryz.func176 (by kernel_rfl) (by kernel_rfl) (by kernel_rfl) (by kernel_rfl) v176 (fun x _ h => (r176 x).trans ((n176 x.1).trans h))
/-! ### 111: loop.example/g00076/spec.l17Ends -/
noncomputable def t111 : Tbl := [(174, [], c174), (175, [], c175), (176, [], c176)]
abbrev h111_L0 : Shape := { slots := [(1, .v (.int .i64)), (3, .bx 3 0), (5, .bx 5 0), (7, .v (.int .i64))], boxes := [(3, .typ Ty286), (5, .typ Ty290)] }
abbrev e111_L0 : List (XT × Shape) := [(.ret, { slots := [(6, .v .bool)], boxes := [] }), (.exit 0, { slots := [(1, .v (.int .i64)), (3, .bx 3 0), (5, .bx 5 0)], boxes := [(3, .typ Ty286), (5, .typ Ty290)] })]
noncomputable def q111_L0 (t1 : Int) (t7 : Int) (b3 : Ta262) (b5 : Ta270) : Option (Ta289 ⊕ (((Bool × Unit) × Unit) ⊕ (Ta288 ⊕ Empty))) :=
  bif (decide (t7 < (b3.2.2.2.2.2.2.2.2.2.1.len : Int))) then
    bif (decide (0 ≤ t7) && decide (t7 < (b3.2.2.2.2.2.2.2.2.2.1.len : Int))) then
      bif ((L.get b3.2.2.2.2.2.2.2.2.2.1 t7.toNat).2.1 == t1) then
        bif (decide (0 ≤ t7) && decide (t7 < (b5.2.2.2.2.2.2.2.2.1.len : Int))) then
          bif (!(f174 (L.get b3.2.2.2.2.2.2.2.2.2.1 t7.toNat) (L.get b5.2.2.2.2.2.2.2.2.1 t7.toNat))) then
            some (.inr (.inl ((false, ()), ())))
          else
            bif ((L.get b3.2.2.2.2.2.2.2.2.2.1 t7.toNat).2.2.1 == t1) then
              bif (decide (0 ≤ t7) && decide (t7 < (b5.2.2.2.2.2.2.2.2.2.1.len : Int))) then
                bif (!(f175 (L.get b3.2.2.2.2.2.2.2.2.2.1 t7.toNat) (L.get b5.2.2.2.2.2.2.2.2.2.1 t7.toNat))) then
                  some (.inr (.inl ((false, ()), ())))
                else
                  some (.inl ((t1, ((), ((), ((wI (t7 + (1 : Int))), ())))), (b3, (b5, ()))))
              else
                none
            else
              bif (decide (0 ≤ t7) && decide (t7 < (b5.2.2.2.2.2.2.2.2.2.1.len : Int))) then
                bif (((L.get b5.2.2.2.2.2.2.2.2.2.1 t7.toNat).1.len : Int) != (0 : Int)) then
                  some (.inr (.inl ((false, ()), ())))
                else
                  some (.inl ((t1, ((), ((), ((wI (t7 + (1 : Int))), ())))), (b3, (b5, ()))))
              else
                none
        else
          none
      else
        bif (decide (0 ≤ t7) && decide (t7 < (b5.2.2.2.2.2.2.2.2.1.len : Int))) then
          bif ((L.get b5.2.2.2.2.2.2.2.2.1 t7.toNat).1 != (0 : Int)) then
            some (.inr (.inl ((false, ()), ())))
          else
            bif (decide (0 ≤ t7) && decide (t7 < (b5.2.2.2.2.2.2.2.2.1.len : Int))) then
              bif (((L.get b5.2.2.2.2.2.2.2.2.1 t7.toNat).2.1.len : Int) != (0 : Int)) then
                some (.inr (.inl ((false, ()), ())))
              else
                bif ((L.get b3.2.2.2.2.2.2.2.2.2.1 t7.toNat).2.2.1 == t1) then
                  bif (decide (0 ≤ t7) && decide (t7 < (b5.2.2.2.2.2.2.2.2.2.1.len : Int))) then
                    bif (!(f175 (L.get b3.2.2.2.2.2.2.2.2.2.1 t7.toNat) (L.get b5.2.2.2.2.2.2.2.2.2.1 t7.toNat))) then
                      some (.inr (.inl ((false, ()), ())))
                    else
                      some (.inl ((t1, ((), ((), ((wI (t7 + (1 : Int))), ())))), (b3, (b5, ()))))
                  else
                    none
                else
                  bif (decide (0 ≤ t7) && decide (t7 < (b5.2.2.2.2.2.2.2.2.2.1.len : Int))) then
                    bif (((L.get b5.2.2.2.2.2.2.2.2.2.1 t7.toNat).1.len : Int) != (0 : Int)) then
                      some (.inr (.inl ((false, ()), ())))
                    else
                      some (.inl ((t1, ((), ((), ((wI (t7 + (1 : Int))), ())))), (b3, (b5, ()))))
                  else
                    none
            else
              none
        else
          none
    else
      none
  else
    some (.inr (.inr (.inl ((t1, ((), ((), ()))), (b3, (b5, ()))))))
noncomputable def s111_L0 (x : Ta289) : Option (Ta289 ⊕ (((Bool × Unit) × Unit) ⊕ (Ta288 ⊕ Empty))) := q111_L0 x.1.1 x.1.2.2.2.1 x.2.1 x.2.2.1
abbrev h111_L2 : Shape := { slots := [(1, .v (.int .i64)), (3, .bx 3 0), (5, .bx 5 0), (9, .v (.int .i64))], boxes := [(3, .typ Ty286), (5, .typ Ty290)] }
abbrev e111_L2 : List (XT × Shape) := [(.ret, { slots := [(6, .v .bool)], boxes := [] }), (.exit 2, { slots := [], boxes := [] })]
noncomputable def q111_L2 (t1 : Int) (t9 : Int) (b3 : Ta262) (b5 : Ta270) : Option (Ta289 ⊕ (((Bool × Unit) × Unit) ⊕ ((Unit × Unit) ⊕ Empty))) :=
  bif (decide (t9 < (b3.2.2.2.2.2.2.2.2.1.len : Int))) then
    bif (decide (0 ≤ t9) && decide (t9 < (b3.2.2.2.2.2.2.2.2.1.len : Int))) then
      bif ((L.get b3.2.2.2.2.2.2.2.2.1 t9.toNat) == t1) then
        bif (decide (0 ≤ t9) && decide (t9 < (b5.2.2.2.2.2.2.2.2.2.2.1.len : Int))) then
          bif (!(f176 (L.get b5.2.2.2.2.2.2.2.2.2.2.1 t9.toNat))) then
            some (.inr (.inl ((false, ()), ())))
          else
            some (.inl ((t1, ((), ((), ((wI (t9 + (1 : Int))), ())))), (b3, (b5, ()))))
        else
          none
      else
        bif (decide (0 ≤ t9) && decide (t9 < (b5.2.2.2.2.2.2.2.2.2.2.1.len : Int))) then
          bif (((L.get b5.2.2.2.2.2.2.2.2.2.2.1 t9.toNat).1.len : Int) != (0 : Int)) then
            some (.inr (.inl ((false, ()), ())))
          else
            bif (decide (0 ≤ t9) && decide (t9 < (b5.2.2.2.2.2.2.2.2.2.2.1.len : Int))) then
              bif (((L.get b5.2.2.2.2.2.2.2.2.2.2.1 t9.toNat).2.1.len : Int) != (0 : Int)) then
                some (.inr (.inl ((false, ()), ())))
              else
                some (.inl ((t1, ((), ((), ((wI (t9 + (1 : Int))), ())))), (b3, (b5, ()))))
            else
              none
        else
          none
    else
      none
  else
    some (.inr (.inr (.inl ((), ()))))
noncomputable def s111_L2 (x : Ta289) : Option (Ta289 ⊕ (((Bool × Unit) × Unit) ⊕ ((Unit × Unit) ⊕ Empty))) := q111_L2 x.1.1 x.1.2.2.2.1 x.2.1 x.2.2.1
noncomputable def a111 : Nat → Option LoopAnn := fun c => bif Nat.beq c 0 then some (.fix h111_L0 e111_L0 s111_L0) else bif Nat.beq c 2 then some (.fix h111_L2 e111_L2 s111_L2) else none
noncomputable def g111 (x0 : Ta262) (x1 : Int) (x2 : Ta270) : Option ((Bool × Unit) × Unit) :=
  bif ((x2.2.2.2.2.2.2.2.2.1.len : Int) != (x0.2.2.2.2.2.2.2.2.2.1.len : Int)) then
    some ((false, ()), ())
  else
    bif ((x2.2.2.2.2.2.2.2.2.2.1.len : Int) != (x0.2.2.2.2.2.2.2.2.2.1.len : Int)) then
      some ((false, ()), ())
    else
      bif ((x2.2.2.2.2.2.2.2.2.2.2.1.len : Int) != (x0.2.2.2.2.2.2.2.2.1.len : Int)) then
        some ((false, ()), ())
      else
        (fixO s111_L0 ((x1, ((), ((), ((0 : Int), ())))), (x0, (x2, ())))).bind fun d4 => match d4 with
        | .inl y1 =>
          some ((y1.1.1, ()), ())
        | .inr (.inl y1) =>
          (fixO s111_L2 ((y1.1.1, ((), ((), ((0 : Int), ())))), y1.2)).bind fun d3 => match d3 with
          | .inl y2 =>
            some ((y2.1.1, ()), ())
          | .inr (.inl y2) =>
            some ((true, ()), ())
          | .inr (.inr e) => nomatch e
        | .inr (.inr e) => nomatch e
noncomputable def c111 : Ctr := { ins := [.v Ty286, .v (.int .i64), .v Ty290], out := [.bool], F := fun x => g111 x.1 x.2.1 x.2.2.1 }
noncomputable def l111 : List (Nat × Code) := loopsIn (Tryz.f111.body.getD .skip) 0
theorem w111_L0 (x : h111_L0.T) : runK Tryz.prog Γ t111 a111 (l111.getD 0 (0, .skip)).2 0 (pkSh h111_L0 x) (loopCls (sh := h111_L0) (es := e111_L0)) = (s111_L0 x : Option _) := by kernel_rfl
theorem w111_L2 (x : h111_L2.T) : runK Tryz.prog Γ t111 a111 (l111.getD 1 (0, .skip)).2 2 (pkSh h111_L2 x) (loopCls (sh := h111_L2) (es := e111_L2)) = (s111_L2 x : Option _) := by kernel_rfl
theorem v111 : LoopsOk Tryz.prog Γ t111 a111 (loopsIn (Tryz.f111.body.getD .skip) 0) := by
  have e : loopsIn (Tryz.f111.body.getD .skip) 0 = [(0, (l111.getD 0 (0, .skip)).2), (2, (l111.getD 1 (0, .skip)).2)] := by kernel_rfl
  rw [e]
  exact ⟨fun x d h => (w111_L0 x).trans h, fun x d h => (w111_L2 x).trans h, trivial⟩
theorem r111 (x : InsT c111.ins) : fnK Tryz.prog Γ t111 a111 Tryz.f111 c111 x = g111 x.1 x.2.1 x.2.2.1 := by kernel_rfl
theorem k111 : TblOk Tryz.prog t111 := tblOk_cons o174 (tblOk_cons o175 (tblOk_cons o176 (tblOk_nil)))
theorem o111 : Holds Tryz.prog 111 c111 := fn_holds (code := Tryz.f111.body.getD .skip) (by kernel_rfl) gamOk k111 Tryz.func111 (by kernel_rfl) (by kernel_rfl) (by kernel_rfl) (by kernel_rfl) v111 (fun x _ h => (r111 x).trans h)
/-! ### 48: loop.example/g00076/spec.PartOk -/
noncomputable def t48 : Tbl := [(27, [], c27), (108, [], c108), (109, [], c109), (95, [], c95), (110, [], c110), (77, [], c77), (111, [], c111)]
noncomputable def a48 : Nat → Option LoopAnn := fun _ => none
noncomputable def g48 (x0 : Ta262) (x1 : Int) (x2 : Ta270) : Option ((Bool × Unit) × Unit) :=
  (g27 x0 x1 x2.2.2.2.2.2.2.2.1).bind fun y1 =>
    bif (!y1.1.1) then
      some ((false, ()), ())
    else
      bif (decide (0 ≤ x1) && decide (x1 < (x0.2.2.2.2.2.2.2.1.len : Int))) then
        (g108 (L.get x0.2.2.2.2.2.2.2.1 x1.toNat).2.2.2.1 x2.1).bind fun y2 =>
          bif (!y2.1.1) then
            some ((false, ()), ())
          else
            bif (!(f109 x2.2.2.1)) then
              some ((false, ()), ())
            else
              (g95 x2.2.2.2.1).bind fun y3 =>
                bif (!y3.1.1) then
                  some ((false, ()), ())
                else
                  bif (!((x2.2.2.2.1.1.1 == x0.2.1.1) && ((x2.2.2.2.1.1.2.1 == x0.2.1.2.1) && ((x2.2.2.2.1.1.2.2.1 == x0.2.1.2.2.1) && true)))) then
                    some ((false, ()), ())
                  else
                    (g110 x2.2.2.2.2.1).bind fun y4 =>
                      bif (!y4.1.1) then
                        some ((false, ()), ())
                      else
                        bif (x2.2.2.2.2.1.1 != x0.2.2.1) then
                          some ((false, ()), ())
                        else
                          bif (f77 x2.2.2.2.2.2.1 (0 : Int) (100000 : Int)) then
                            (g111 x0 x1 x2).bind fun y5 =>
                              some ((y5.1.1, ()), ())
                          else
                            some ((false, ()), ())
      else
        none
noncomputable def c48 : Ctr := { ins := [.v Ty286, .v (.int .i64), .v Ty290], out := [.bool], F := fun x => g48 x.1 x.2.1 x.2.2.1 }
theorem v48 : LoopsOk Tryz.prog Γ t48 a48 (loopsIn (Tryz.f48.body.getD .skip) 0) := loopsOk_nil (by kernel_rfl)
theorem r48 (x : InsT c48.ins) : fnK Tryz.prog Γ t48 a48 Tryz.f48 c48 x = g48 x.1 x.2.1 x.2.2.1 := by kernel_rfl
theorem k48 : TblOk Tryz.prog t48 := tblOk_cons o27 (tblOk_cons o108 (tblOk_cons o109 (tblOk_cons o95 (tblOk_cons o110 (tblOk_cons o77 (tblOk_cons o111 (tblOk_nil)))))))
theorem o48 : Holds Tryz.prog 48 c48 := fn_holds (code := Tryz.f48.body.getD .skip) (by kernel_rfl) gamOk k48 Tryz.func48 (by kernel_rfl) (by kernel_rfl) (by kernel_rfl) (by kernel_rfl) v48 (fun x _ h => (r48 x).trans h)
/-! ### 86: loop.example/g00076/impl.within -/
noncomputable def t86 : Tbl := []
noncomputable def a86 : Nat → Option LoopAnn := fun _ => none
noncomputable def g86 (x0 : Int) (x1 : Int) (x2 : Int) : Option ((Bool × Unit) × Unit) :=
  bif (decide (x0 ≥ x1)) then
    some (((decide (x0 ≤ x2)), ()), ())
  else
    some ((false, ()), ())
noncomputable def f86 (x0 : Int) (x1 : Int) (x2 : Int) : Bool :=
  bif (decide (x0 ≥ x1)) then
    (decide (x0 ≤ x2))
  else
    false
theorem n86 (x0 : Int) (x1 : Int) (x2 : Int) : g86 x0 x1 x2 = some ((f86 x0 x1 x2, ()), ()) := by
  simp only [g86, f86, pull1]
noncomputable def c86 : Ctr := { ins := [.v (.int .i64), .v (.int .i64), .v (.int .i64)], out := [.bool], F := fun x => some ((f86 x.1 x.2.1 x.2.2.1, ()), ()) }
theorem v86 : LoopsOk Tryz.prog Γ t86 a86 (loopsIn (Tryz.f86.body.getD .skip) 0) := loopsOk_nil (by kernel_rfl)
theorem r86 (x : InsT c86.ins) : fnK Tryz.prog Γ t86 a86 Tryz.f86 c86 x = g86 x.1 x.2.1 x.2.2.1 := by kernel_rfl
theorem k86 : TblOk Tryz.prog t86 := tblOk_nil
theorem o86 : Holds Tryz.prog 86 c86 := fn_holds (code := Tryz.f86.body.getD .skip) (by kernel_rfl) gamOk k86 Tryz.func86 (by kernel_rfl) (by kernel_rfl) (by kernel_rfl) (by kernel_rfl) v86 (fun x _ h => (r86 x).trans ((n86 x.1 x.2.1 x.2.2.1).trans h))
/-! ### 131: loop.example/g00076/impl.isMem -/
noncomputable def t131 : Tbl := [(86, [], c86)]
noncomputable def a131 : Nat → Option LoopAnn := fun _ => none
noncomputable def g131 (x0 : Int) : Option ((Bool × Unit) × Unit) :=
  bif (f86 x0 (64 : Int) (2048 : Int)) then
    some ((((Int.tmod x0 (4 : Int)) == (0 : Int)), ()), ())
  else
    some ((false, ()), ())
noncomputable def f131 (x0 : Int) : Bool :=
  bif (f86 x0 (64 : Int) (2048 : Int)) then
    ((Int.tmod x0 (4 : Int)) == (0 : Int))
  else
    false
theorem n131 (x0 : Int) : g131 x0 = some ((f131 x0, ()), ()) := by
  simp only [g131, f131, pull1]
noncomputable def c131 : Ctr := { ins := [.v (.int .i64)], out := [.bool], F := fun x => some ((f131 x.1, ()), ()) }
theorem v131 : LoopsOk Tryz.prog Γ t131 a131 (loopsIn (Tryz.f131.body.getD .skip) 0) := loopsOk_nil (by kernel_rfl)
theorem r131 (x : InsT c131.ins) : fnK Tryz.prog Γ t131 a131 Tryz.f131 c131 x = g131 x.1 := by kernel_rfl
theorem k131 : TblOk Tryz.prog t131 := tblOk_cons o86 (tblOk_nil)
theorem o131 : Holds Tryz.prog 131 c131 := fn_holds (code := Tryz.f131.body.getD .skip) (by kernel_rfl) gamOk k131 Tryz.func131 (by kernel_rfl) (by kernel_rfl) (by kernel_rfl) (by kernel_rfl) v131 (fun x _ h => (r131 x).trans ((n131 x.1).trans h))
/-! ### 190: loop.example/g00076/impl.isPower -/
noncomputable def t190 : Tbl := []
noncomputable def a190 : Nat → Option LoopAnn := fun _ => none
noncomputable def g190 (x0 : Int) : Option ((Bool × Unit) × Unit) :=
  bif (decide (x0 > (0 : Int))) then
    some ((((andOf .i64 x0 (wI (x0 - (1 : Int)))) == (0 : Int)), ()), ())
  else
    some ((false, ()), ())
noncomputable def f190 (x0 : Int) : Bool :=
  bif (decide (x0 > (0 : Int))) then
    ((andOf .i64 x0 (wI (x0 - (1 : Int)))) == (0 : Int))
  else
    false
theorem n190 (x0 : Int) : g190 x0 = some ((f190 x0, ()), ()) := by
  simp only [g190, f190, pull1]
noncomputable def c190 : Ctr := { ins := [.v (.int .i64)], out := [.bool], F := fun x => some ((f190 x.1, ()), ()) }
theorem v190 : LoopsOk Tryz.prog Γ t190 a190 (loopsIn (Tryz.f190.body.getD .skip) 0) := loopsOk_nil (by kernel_rfl)
theorem r190 (x : InsT c190.ins) : fnK Tryz.prog Γ t190 a190 Tryz.f190 c190 x = g190 x.1 := by kernel_rfl
theorem k190 : TblOk Tryz.prog t190 := tblOk_nil
theorem o190 : Holds Tryz.prog 190 c190 := fn_holds (code := Tryz.f190.body.getD .skip) (by kernel_rfl) gamOk k190 Tryz.func190 (by kernel_rfl) (by kernel_rfl) (by kernel_rfl) (by kernel_rfl) v190 (fun x _ h => (r190 x).trans ((n190 x.1).trans h))
/-! ### 132: loop.example/g00076/impl.isShape -/
noncomputable def t132 : Tbl := [(86, [], c86), (190, [], c190)]
noncomputable def a132 : Nat → Option LoopAnn := fun _ => none
noncomputable def g132 (x0 : Ta8) : Option ((Bool × Unit) × Unit) :=
  bif (f86 x0.1 (1 : Int) (16 : Int)) then
    bif (f190 x0.1) then
      bif (f86 x0.2.1 (1 : Int) (4 : Int)) then
        bif (f86 x0.2.2.1 (4 : Int) (32 : Int)) then
          some (((f190 x0.2.2.1), ()), ())
        else
          some ((false, ()), ())
      else
        some ((false, ()), ())
    else
      some ((false, ()), ())
  else
    some ((false, ()), ())
noncomputable def f132 (x0 : Ta8) : Bool :=
  bif (f86 x0.1 (1 : Int) (16 : Int)) then
    bif (f190 x0.1) then
      bif (f86 x0.2.1 (1 : Int) (4 : Int)) then
        bif (f86 x0.2.2.1 (4 : Int) (32 : Int)) then
          (f190 x0.2.2.1)
        else
          false
      else
        false
    else
      false
  else
    false
theorem n132 (x0 : Ta8) : g132 x0 = some ((f132 x0, ()), ()) := by
  simp only [g132, f132, pull1]
noncomputable def c132 : Ctr := { ins := [.v Ty119], out := [.bool], F := fun x => some ((f132 x.1, ()), ()) }
theorem v132 : LoopsOk Tryz.prog Γ t132 a132 (loopsIn (Tryz.f132.body.getD .skip) 0) := loopsOk_nil (by kernel_rfl)
theorem r132 (x : InsT c132.ins) : fnK Tryz.prog Γ t132 a132 Tryz.f132 c132 x = g132 x.1 := by kernel_rfl
theorem k132 : TblOk Tryz.prog t132 := tblOk_cons o86 (tblOk_cons o190 (tblOk_nil))
theorem o132 : Holds Tryz.prog 132 c132 := fn_holds (code := Tryz.f132.body.getD .skip) (by kernel_rfl) gamOk k132 Tryz.func132 (by kernel_rfl) (by kernel_rfl) (by kernel_rfl) (by kernel_rfl) v132 (fun x _ h => (r132 x).trans ((n132 x.1).trans h))
/-! ### 133: loop.example/g00076/impl.areCosts -/
noncomputable def t133 : Tbl := [(86, [], c86)]
noncomputable def a133 : Nat → Option LoopAnn := fun c => bif Nat.beq c 0 then some (.unroll 7 [1, 17, 18] [1]) else none
noncomputable def g133 (x0 : Ta110) : Option ((Bool × Unit) × Unit) :=
  bif (!(f86 x0.2.1 (0 : Int) (50 : Int))) then
    some ((false, ()), ())
  else
    bif (!(f86 x0.2.2.1 (0 : Int) (50 : Int))) then
      some ((false, ()), ())
    else
      bif (!(f86 x0.2.2.2.1 (0 : Int) (50 : Int))) then
        some ((false, ()), ())
      else
        bif (!(f86 x0.2.2.2.2.1 (0 : Int) (50 : Int))) then
          some ((false, ()), ())
        else
          bif (!(f86 x0.2.2.2.2.2.1 (0 : Int) (50 : Int))) then
            some ((false, ()), ())
          else
            bif (!(f86 x0.2.2.2.2.2.2.1 (0 : Int) (50 : Int))) then
              some ((false, ()), ())
            else
              some (((f86 x0.1 (1 : Int) (20 : Int)), ()), ())
noncomputable def f133 (x0 : Ta110) : Bool :=
  bif (!(f86 x0.2.1 (0 : Int) (50 : Int))) then
    false
  else
    bif (!(f86 x0.2.2.1 (0 : Int) (50 : Int))) then
      false
    else
      bif (!(f86 x0.2.2.2.1 (0 : Int) (50 : Int))) then
        false
      else
        bif (!(f86 x0.2.2.2.2.1 (0 : Int) (50 : Int))) then
          false
        else
          bif (!(f86 x0.2.2.2.2.2.1 (0 : Int) (50 : Int))) then
            false
          else
            bif (!(f86 x0.2.2.2.2.2.2.1 (0 : Int) (50 : Int))) then
              false
            else
              (f86 x0.1 (1 : Int) (20 : Int))
theorem n133 (x0 : Ta110) : g133 x0 = some ((f133 x0, ()), ()) := by
  simp only [g133, f133, pull1]
noncomputable def c133 : Ctr := { ins := [.v Ty223], out := [.bool], F := fun x => some ((f133 x.1, ()), ()) }
noncomputable def l133 : List (Nat × Code) := loopsIn (Tryz.f133.body.getD .skip) 0
theorem v133 : LoopsOk Tryz.prog Γ t133 a133 (loopsIn (Tryz.f133.body.getD .skip) 0) := by
  have e : loopsIn (Tryz.f133.body.getD .skip) 0 = [(0, (l133.getD 0 (0, .skip)).2)] := by kernel_rfl
  rw [e]
  exact ⟨trivial, trivial⟩
theorem r133 (x : InsT c133.ins) : fnK Tryz.prog Γ t133 a133 Tryz.f133 c133 x = g133 x.1 := by kernel_rfl
theorem k133 : TblOk Tryz.prog t133 := tblOk_cons o86 (tblOk_nil)
theorem o133 : Holds Tryz.prog 133 c133 := fn_holds (code := Tryz.f133.body.getD .skip) (by kernel_rfl) gamOk k133 Tryz.func133 (by kernel_rfl) (by kernel_rfl) (by kernel_rfl) (by kernel_rfl) v133 (fun x _ h => (r133 x).trans ((n133 x.1).trans h))
/-! ### 134: loop.example/g00076/impl.isSpan -/
noncomputable def t134 : Tbl := [(86, [], c86)]
noncomputable def a134 : Nat → Option LoopAnn := fun _ => none
noncomputable def g134 (x0 : Int) : Option ((Bool × Unit) × Unit) :=
  some (((f86 x0 (1 : Int) (5000 : Int)), ()), ())
noncomputable def f134 (x0 : Int) : Bool :=
  (f86 x0 (1 : Int) (5000 : Int))
theorem n134 (x0 : Int) : g134 x0 = some ((f134 x0, ()), ()) := by
  simp only [g134, f134, pull1]
noncomputable def c134 : Ctr := { ins := [.v (.int .i64)], out := [.bool], F := fun x => some ((f134 x.1, ()), ()) }
theorem v134 : LoopsOk Tryz.prog Γ t134 a134 (loopsIn (Tryz.f134.body.getD .skip) 0) := loopsOk_nil (by kernel_rfl)
theorem r134 (x : InsT c134.ins) : fnK Tryz.prog Γ t134 a134 Tryz.f134 c134 x = g134 x.1 := by kernel_rfl
theorem k134 : TblOk Tryz.prog t134 := tblOk_cons o86 (tblOk_nil)
theorem o134 : Holds Tryz.prog 134 c134 := fn_holds (code := Tryz.f134.body.getD .skip) (by kernel_rfl) gamOk k134 Tryz.func134 (by kernel_rfl) (by kernel_rfl) (by kernel_rfl) (by kernel_rfl) v134 (fun x _ h => (r134 x).trans ((n134 x.1).trans h))
/-! ### 210: loop.example/g00076/impl.opCost -/
noncomputable def t210 : Tbl := [(86, [], c86)]
noncomputable def a210 : Nat → Option LoopAnn := fun _ => none
noncomputable def g210 (x0 : Ta110) (x1 : Int) : Option ((Int × Unit) × Unit) :=
  bif (x1 == (9 : Int)) then
    some (((wI (x0.1 + x0.2.1)), ()), ())
  else
    bif (x1 == (10 : Int)) then
      some (((wI (x0.1 + x0.2.1)), ()), ())
    else
      bif (f86 x1 (15 : Int) (18 : Int)) then
        some (((wI (x0.1 + x0.2.2.1)), ()), ())
      else
        bif (decide (x1 ≥ (25 : Int))) then
          some (((wI (x0.1 + x0.2.2.2.2.2.1)), ()), ())
        else
          some ((x0.1, ()), ())
noncomputable def f210 (x0 : Ta110) (x1 : Int) : Int :=
  bif (x1 == (9 : Int)) then
    (wI (x0.1 + x0.2.1))
  else
    bif (x1 == (10 : Int)) then
      (wI (x0.1 + x0.2.1))
    else
      bif (f86 x1 (15 : Int) (18 : Int)) then
        (wI (x0.1 + x0.2.2.1))
      else
        bif (decide (x1 ≥ (25 : Int))) then
          (wI (x0.1 + x0.2.2.2.2.2.1))
        else
          x0.1
theorem n210 (x0 : Ta110) (x1 : Int) : g210 x0 x1 = some ((f210 x0 x1, ()), ()) := by
  simp only [g210, f210, pull1]
noncomputable def c210 : Ctr := { ins := [.v Ty223, .v (.int .i64)], out := [(.int .i64)], F := fun x => some ((f210 x.1 x.2.1, ()), ()) }
theorem v210 : LoopsOk Tryz.prog Γ t210 a210 (loopsIn (Tryz.f210.body.getD .skip) 0) := loopsOk_nil (by kernel_rfl)
theorem r210 (x : InsT c210.ins) : fnK Tryz.prog Γ t210 a210 Tryz.f210 c210 x = g210 x.1 x.2.1 := by kernel_rfl
theorem k210 : TblOk Tryz.prog t210 := tblOk_cons o86 (tblOk_nil)
theorem o210 : Holds Tryz.prog 210 c210 := fn_holds (code := Tryz.f210.body.getD .skip) (by kernel_rfl) gamOk k210 Tryz.func210 (by kernel_rfl) (by kernel_rfl) (by kernel_rfl) (by kernel_rfl) v210 (fun x _ h => (r210 x).trans ((n210 x.1 x.2.1).trans h))
/-! ### 211: loop.example/g00076/impl.accessCost -/
noncomputable def t211 : Tbl := []
noncomputable def a211 : Nat → Option LoopAnn := fun _ => none
noncomputable def g211 (x0 : Ta110) (x1 : Ta23) : Option ((Int × Unit) × Unit) :=
  bif (!x1.1) then
    bif (!x1.2.1) then
      bif x1.2.2.1 then
        some (((wI ((wI ((wI ((0 : Int) + x0.2.2.2.1)) + x0.2.2.2.2.1)) + x0.2.2.2.2.2.2.1)), ()), ())
      else
        some (((wI ((wI ((0 : Int) + x0.2.2.2.1)) + x0.2.2.2.2.1)), ()), ())
    else
      bif x1.2.2.1 then
        some (((wI ((wI ((0 : Int) + x0.2.2.2.1)) + x0.2.2.2.2.2.2.1)), ()), ())
      else
        some (((wI ((0 : Int) + x0.2.2.2.1)), ()), ())
  else
    bif (!x1.2.1) then
      bif x1.2.2.1 then
        some (((wI ((wI ((0 : Int) + x0.2.2.2.2.1)) + x0.2.2.2.2.2.2.1)), ()), ())
      else
        some (((wI ((0 : Int) + x0.2.2.2.2.1)), ()), ())
    else
      bif x1.2.2.1 then
        some (((wI ((0 : Int) + x0.2.2.2.2.2.2.1)), ()), ())
      else
        some (((0 : Int), ()), ())
noncomputable def f211 (x0 : Ta110) (x1 : Ta23) : Int :=
  bif (!x1.1) then
    bif (!x1.2.1) then
      bif x1.2.2.1 then
        (wI ((wI ((wI ((0 : Int) + x0.2.2.2.1)) + x0.2.2.2.2.1)) + x0.2.2.2.2.2.2.1))
      else
        (wI ((wI ((0 : Int) + x0.2.2.2.1)) + x0.2.2.2.2.1))
    else
      bif x1.2.2.1 then
        (wI ((wI ((0 : Int) + x0.2.2.2.1)) + x0.2.2.2.2.2.2.1))
      else
        (wI ((0 : Int) + x0.2.2.2.1))
  else
    bif (!x1.2.1) then
      bif x1.2.2.1 then
        (wI ((wI ((0 : Int) + x0.2.2.2.2.1)) + x0.2.2.2.2.2.2.1))
      else
        (wI ((0 : Int) + x0.2.2.2.2.1))
    else
      bif x1.2.2.1 then
        (wI ((0 : Int) + x0.2.2.2.2.2.2.1))
      else
        (0 : Int)
theorem n211 (x0 : Ta110) (x1 : Ta23) : g211 x0 x1 = some ((f211 x0 x1, ()), ()) := by
  simp only [g211, f211, pull1]
noncomputable def c211 : Ctr := { ins := [.v Ty223, .v (.pair .bool (.pair .bool (.pair .bool .unit)))], out := [(.int .i64)], F := fun x => some ((f211 x.1 x.2.1, ()), ()) }
theorem v211 : LoopsOk Tryz.prog Γ t211 a211 (loopsIn (Tryz.f211.body.getD .skip) 0) := loopsOk_nil (by kernel_rfl)
theorem r211 (x : InsT c211.ins) : fnK Tryz.prog Γ t211 a211 Tryz.f211 c211 x = g211 x.1 x.2.1 := by kernel_rfl
theorem k211 : TblOk Tryz.prog t211 := tblOk_nil
theorem o211 : Holds Tryz.prog 211 c211 := fn_holds (code := Tryz.f211.body.getD .skip) (by kernel_rfl) gamOk k211 Tryz.func211 (by kernel_rfl) (by kernel_rfl) (by kernel_rfl) (by kernel_rfl) v211 (fun x _ h => (r211 x).trans ((n211 x.1 x.2.1).trans h))
/-! ### 155: loop.example/g00076/impl.WorstStep -/
noncomputable def t155 : Tbl := [(133, [], c133), (210, [], c210), (211, [], c211)]
abbrev h155_L0 : Shape := { slots := [(1, .bx 1 0), (3, .v (.int .i64)), (8, .v (.int .i64))], boxes := [(1, .typ Ty223)] }
abbrev e155_L0 : List (XT × Shape) := [(.exit 0, { slots := [(1, .bx 1 0), (3, .v (.int .i64))], boxes := [(1, .typ Ty223)] })]
noncomputable def q155_L0 (t3 : Int) (t8 : Int) (b1 : Ta110) : Option (Ta193 ⊕ (Ta181 ⊕ Empty)) :=
  bif (decide (t8 < (33 : Int))) then
    some (.inl (((), ((if (f210 b1 t8) > t3 then (f210 b1 t8) else t3), ((wI (t8 + (1 : Int))), ()))), (b1, ())))
  else
    some (.inr (.inl (((), (t3, ())), (b1, ()))))
noncomputable def s155_L0 (x : Ta193) : Option (Ta193 ⊕ (Ta181 ⊕ Empty)) := q155_L0 x.1.2.1 x.1.2.2.1 x.2.1
noncomputable def a155 : Nat → Option LoopAnn := fun c => bif Nat.beq c 0 then some (.fix h155_L0 e155_L0 s155_L0) else none
noncomputable def g155 (x0 : Ta110) : Option ((Int × Unit) × Unit) :=
  bif (!(f133 x0)) then
    some (((-1 : Int), ()), ())
  else
    (fixO s155_L0 (((), ((0 : Int), ((0 : Int), ()))), (x0, ()))).bind fun d2 => match d2 with
    | .inl y1 =>
      some (((wI ((wI (y1.1.2.1 + (wI ((2 : Int) * (f211 y1.2.1 (false, (false, (true, ())))))))) + y1.2.1.2.2.2.2.2.1)), ()), ())
    | .inr e => nomatch e
noncomputable def c155 : Ctr := { ins := [.v Ty223], out := [(.int .i64)], F := fun x => g155 x.1 }
noncomputable def l155 : List (Nat × Code) := loopsIn (Tryz.f155.body.getD .skip) 0
theorem w155_L0 (x : h155_L0.T) : runK Tryz.prog Γ t155 a155 (l155.getD 0 (0, .skip)).2 0 (pkSh h155_L0 x) (loopCls (sh := h155_L0) (es := e155_L0)) = (s155_L0 x : Option _) := by kernel_rfl
theorem v155 : LoopsOk Tryz.prog Γ t155 a155 (loopsIn (Tryz.f155.body.getD .skip) 0) := by
  have e : loopsIn (Tryz.f155.body.getD .skip) 0 = [(0, (l155.getD 0 (0, .skip)).2)] := by kernel_rfl
  rw [e]
  exact ⟨fun x d h => (w155_L0 x).trans h, trivial⟩
theorem r155 (x : InsT c155.ins) : fnK Tryz.prog Γ t155 a155 Tryz.f155 c155 x = g155 x.1 := by kernel_rfl
theorem k155 : TblOk Tryz.prog t155 := tblOk_cons o133 (tblOk_cons o210 (tblOk_cons o211 (tblOk_nil)))
theorem o155 : Holds Tryz.prog 155 c155 := fn_holds (code := Tryz.f155.body.getD .skip) (by kernel_rfl) gamOk k155 Tryz.func155 (by kernel_rfl) (by kernel_rfl) (by kernel_rfl) (by kernel_rfl) v155 (fun x _ h => (r155 x).trans h)
/-! ### 87: loop.example/g00076/impl.worstStep -/
noncomputable def t87 : Tbl := [(155, [], c155)]
noncomputable def a87 : Nat → Option LoopAnn := fun _ => none
noncomputable def g87 (x0 : Ta110) : Option ((Int × Unit) × Unit) :=
  (g155 x0).bind fun y1 =>
    some ((y1.1.1, ()), ())
noncomputable def c87 : Ctr := { ins := [.v Ty223], out := [(.int .i64)], F := fun x => g87 x.1 }
theorem v87 : LoopsOk Tryz.prog Γ t87 a87 (loopsIn (Tryz.f87.body.getD .skip) 0) := loopsOk_nil (by kernel_rfl)
theorem r87 (x : InsT c87.ins) : fnK Tryz.prog Γ t87 a87 Tryz.f87 c87 x = g87 x.1 := by kernel_rfl
theorem k87 : TblOk Tryz.prog t87 := tblOk_cons o155 (tblOk_nil)
theorem o87 : Holds Tryz.prog 87 c87 := fn_holds (code := Tryz.f87.body.getD .skip) (by kernel_rfl) gamOk k87 Tryz.func87 (by kernel_rfl) (by kernel_rfl) (by kernel_rfl) (by kernel_rfl) v87 (fun x _ h => (r87 x).trans h)
/-! ### 227: loop.example/g00076/impl.isLabel -/
noncomputable def t227 : Tbl := [(86, [], c86)]
abbrev h227_L0 : Shape := { slots := [(0, .v .str), (5, .v (.int .i64)), (6, .v (.int .i64))], boxes := [] }
abbrev e227_L0 : List (XT × Shape) := [(.ret, { slots := [(2, .v .bool)], boxes := [] }), (.exit 0, { slots := [(0, .v .str)], boxes := [] })]
noncomputable def q227_L0 (t0 : ByteArray) (t5 : Int) (t6 : Int) : Option (Ta57 ⊕ (((Bool × Unit) × Unit) ⊕ (Ta7 ⊕ Empty))) :=
  bif (decide (t6 < t5)) then
    bif (decide (0 ≤ t6) && decide (t6 < t0.size)) then
      bif (decide ((bt t0 t6) < (97 : Int))) then
        some (.inr (.inl ((false, ()), ())))
      else
        bif (decide (0 ≤ t6) && decide (t6 < t0.size)) then
          bif (decide ((bt t0 t6) > (122 : Int))) then
            some (.inr (.inl ((false, ()), ())))
          else
            some (.inl ((t0, (t5, ((wI (t6 + (1 : Int))), ()))), ()))
        else
          none
    else
      none
  else
    some (.inr (.inr (.inl ((t0, ()), ()))))
noncomputable def s227_L0 (x : Ta57) : Option (Ta57 ⊕ (((Bool × Unit) × Unit) ⊕ (Ta7 ⊕ Empty))) := q227_L0 x.1.1 x.1.2.1 x.1.2.2.1
noncomputable def a227 : Nat → Option LoopAnn := fun c => bif Nat.beq c 0 then some (.fix h227_L0 e227_L0 s227_L0) else none
noncomputable def g227 (x0 : ByteArray) : Option ((Bool × Unit) × Unit) :=
  (fixO s227_L0 ((x0, ((x0.size : Int), ((0 : Int), ()))), ())).bind fun d2 => match d2 with
  | .inl y1 =>
    some ((y1.1.1, ()), ())
  | .inr (.inl y1) =>
    some (((f86 (y1.1.1.size : Int) (1 : Int) (12 : Int)), ()), ())
  | .inr (.inr e) => nomatch e
noncomputable def c227 : Ctr := { ins := [.v .str], out := [.bool], F := fun x => g227 x.1 }
noncomputable def l227 : List (Nat × Code) := loopsIn (Tryz.f227.body.getD .skip) 0
theorem w227_L0 (x : h227_L0.T) : runK Tryz.prog Γ t227 a227 (l227.getD 0 (0, .skip)).2 0 (pkSh h227_L0 x) (loopCls (sh := h227_L0) (es := e227_L0)) = (s227_L0 x : Option _) := by kernel_rfl
theorem v227 : LoopsOk Tryz.prog Γ t227 a227 (loopsIn (Tryz.f227.body.getD .skip) 0) := by
  have e : loopsIn (Tryz.f227.body.getD .skip) 0 = [(0, (l227.getD 0 (0, .skip)).2)] := by kernel_rfl
  rw [e]
  exact ⟨fun x d h => (w227_L0 x).trans h, trivial⟩
theorem r227 (x : InsT c227.ins) : fnK Tryz.prog Γ t227 a227 Tryz.f227 c227 x = g227 x.1 := by kernel_rfl
theorem k227 : TblOk Tryz.prog t227 := tblOk_cons o86 (tblOk_nil)
theorem o227 : Holds Tryz.prog 227 c227 := fn_holds (code := Tryz.f227.body.getD .skip) (by kernel_rfl) gamOk k227 Tryz.func227 (by kernel_rfl) (by kernel_rfl) (by kernel_rfl) (by kernel_rfl) v227 (fun x _ h => (r227 x).trans h)
/-! ### 191: loop.example/g00076/impl.isName -/
noncomputable def t191 : Tbl := [(227, [], c227)]
noncomputable def a191 : Nat → Option LoopAnn := fun _ => none
noncomputable def g191 (x0 : ByteArray) : Option ((Bool × Unit) × Unit) :=
  (g227 x0).bind fun y1 =>
    bif y1.1.1 then
      some (((decide ((x0.size : Int) ≤ (8 : Int))), ()), ())
    else
      some ((false, ()), ())
noncomputable def c191 : Ctr := { ins := [.v .str], out := [.bool], F := fun x => g191 x.1 }
theorem v191 : LoopsOk Tryz.prog Γ t191 a191 (loopsIn (Tryz.f191.body.getD .skip) 0) := loopsOk_nil (by kernel_rfl)
theorem r191 (x : InsT c191.ins) : fnK Tryz.prog Γ t191 a191 Tryz.f191 c191 x = g191 x.1 := by kernel_rfl
theorem k191 : TblOk Tryz.prog t191 := tblOk_cons o227 (tblOk_nil)
theorem o191 : Holds Tryz.prog 191 c191 := fn_holds (code := Tryz.f191.body.getD .skip) (by kernel_rfl) gamOk k191 Tryz.func191 (by kernel_rfl) (by kernel_rfl) (by kernel_rfl) (by kernel_rfl) v191 (fun x _ h => (r191 x).trans h)
/-! ### 229: loop.example/g00076/impl.partNamed$1 -/
noncomputable def t229 : Tbl := []
noncomputable def a229 : Nat → Option LoopAnn := fun _ => none
noncomputable def g229 (x0 : Ta172) (x1 : ByteArray) : Option ((Bool × Unit) × Unit) :=
  some (((strEq x0.1 x1), ()), ())
noncomputable def f229 (x0 : Ta172) (x1 : ByteArray) : Bool :=
  (strEq x0.1 x1)
theorem n229 (x0 : Ta172) (x1 : ByteArray) : g229 x0 x1 = some ((f229 x0 x1, ()), ()) := by
  simp only [g229, f229, pull1]
noncomputable def c229 : Ctr := { ins := [.v Ty237, .rf .str], out := [.bool], F := fun x => some ((f229 x.1 x.2.1, ()), ()) }
theorem v229 : LoopsOk Tryz.prog Γ t229 a229 (loopsIn (Tryz.f229.body.getD .skip) 0) := loopsOk_nil (by kernel_rfl)
theorem r229 (x : InsT c229.ins) : fnK Tryz.prog Γ t229 a229 Tryz.f229 c229 x = g229 x.1 x.2.1 := by kernel_rfl
theorem k229 : TblOk Tryz.prog t229 := tblOk_nil
theorem o229 : Holds Tryz.prog 229 c229 := fn_holds (code := Tryz.f229.body.getD .skip) (by kernel_rfl) gamOk k229 Tryz.func229 (by kernel_rfl) (by kernel_rfl) (by kernel_rfl) (by kernel_rfl) v229 (fun x _ h => (r229 x).trans ((n229 x.1 x.2.1).trans h))
/-! ### 228: slices.IndexFunc[[]loop.example/g00076/impl.PartRow,loop.example/g00076/impl.PartRow] -/
noncomputable def t228_229 : Tbl := [(229, [], c229)]
abbrev h228_229_L0 : Shape := { slots := [(0, .v Ty238), (1, .clo 229 [.str]), (7, .v (.int .i64)), (8, .v (.int .i64))], boxes := [] }
abbrev e228_229_L0 : List (XT × Shape) := [(.ret, { slots := [(4, .v (.int .i64))], boxes := [] }), (.exit 0, { slots := [], boxes := [] })]
noncomputable def q228_229_L0 (t0 : Ta178) (t1 : (ByteArray × Unit)) (t7 : Int) (t8 : Int) : Option (Ta228 ⊕ (((Int × Unit) × Unit) ⊕ ((Unit × Unit) ⊕ Empty))) :=
  bif (decide (t8 < t7)) then
    bif (decide (0 ≤ t8) && decide (t8 < (t0.len : Int))) then
      bif (f229 (L.get t0 t8.toNat) t1.1) then
        some (.inr (.inl ((t8, ()), ())))
      else
        some (.inl ((t0, (t1, (t7, ((wI (t8 + (1 : Int))), ())))), ()))
    else
      none
  else
    some (.inr (.inr (.inl ((), ()))))
noncomputable def s228_229_L0 (x : Ta228) : Option (Ta228 ⊕ (((Int × Unit) × Unit) ⊕ ((Unit × Unit) ⊕ Empty))) := q228_229_L0 x.1.1 x.1.2.1 x.1.2.2.1 x.1.2.2.2.1
noncomputable def a228_229 : Nat → Option LoopAnn := fun c => bif Nat.beq c 0 then some (.fix h228_229_L0 e228_229_L0 s228_229_L0) else none
noncomputable def g228_229 (x0 : Ta178) (x1 : (ByteArray × Unit)) : Option ((Int × Unit) × Unit) :=
  (fixO s228_229_L0 ((x0, (x1, ((x0.len : Int), ((0 : Int), ())))), ())).bind fun d2 => match d2 with
  | .inl y1 =>
    some ((y1.1.1, ()), ())
  | .inr (.inl y1) =>
    some (((-1 : Int), ()), ())
  | .inr (.inr e) => nomatch e
noncomputable def c228_229 : Ctr := { ins := [.v Ty238, .clo 229 [.str]], out := [(.int .i64)], F := fun x => g228_229 x.1 x.2.1 }
noncomputable def l228_229 : List (Nat × Code) := loopsIn (Tryz.f228.body.getD .skip) 0
theorem w228_229_L0 (x : h228_229_L0.T) : runK Tryz.prog Γ t228_229 a228_229 (l228_229.getD 0 (0, .skip)).2 0 (pkSh h228_229_L0 x) (loopCls (sh := h228_229_L0) (es := e228_229_L0)) = (s228_229_L0 x : Option _) := by kernel_rfl
theorem v228_229 : LoopsOk Tryz.prog Γ t228_229 a228_229 (loopsIn (Tryz.f228.body.getD .skip) 0) := by
  have e : loopsIn (Tryz.f228.body.getD .skip) 0 = [(0, (l228_229.getD 0 (0, .skip)).2)] := by kernel_rfl
  rw [e]
  exact ⟨fun x d h => (w228_229_L0 x).trans h, trivial⟩
theorem r228_229 (x : InsT c228_229.ins) : fnK Tryz.prog Γ t228_229 a228_229 Tryz.f228 c228_229 x = g228_229 x.1 x.2.1 := by kernel_rfl
theorem k228_229 : TblOk Tryz.prog t228_229 := tblOk_cons o229 (tblOk_nil)
theorem o228_229 : Holds Tryz.prog 228 c228_229 := fn_holds (code := Tryz.f228.body.getD .skip) (by kernel_rfl) gamOk k228_229 Tryz.func228 (by kernel_rfl) (by kernel_rfl) (by kernel_rfl) (by kernel_rfl) v228_229 (fun x _ h => (r228_229 x).trans h)
/-! ### 192: loop.example/g00076/impl.partNamed -/
noncomputable def t192 : Tbl := [(228, [229], c228_229)]
noncomputable def a192 : Nat → Option LoopAnn := fun _ => none
noncomputable def g192 (x0 : Ta262) (x1 : ByteArray) : Option ((Int × Unit) × Unit) :=
  (g228_229 x0.2.2.2.2.2.2.2.1 (x1, ())).bind fun y1 =>
    some ((y1.1.1, ()), ())
noncomputable def c192 : Ctr := { ins := [.v Ty286, .v .str], out := [(.int .i64)], F := fun x => g192 x.1 x.2.1 }
theorem v192 : LoopsOk Tryz.prog Γ t192 a192 (loopsIn (Tryz.f192.body.getD .skip) 0) := loopsOk_nil (by kernel_rfl)
theorem r192 (x : InsT c192.ins) : fnK Tryz.prog Γ t192 a192 Tryz.f192 c192 x = g192 x.1 x.2.1 := by kernel_rfl
theorem k192 : TblOk Tryz.prog t192 := tblOk_cons o228_229 (tblOk_nil)
theorem o192 : Holds Tryz.prog 192 c192 := fn_holds (code := Tryz.f192.body.getD .skip) (by kernel_rfl) gamOk k192 Tryz.func192 (by kernel_rfl) (by kernel_rfl) (by kernel_rfl) (by kernel_rfl) v192 (fun x _ h => (r192 x).trans h)
/-! ### 193: loop.example/g00076/impl.isPolicy -/
noncomputable def t193 : Tbl := [(86, [], c86)]
noncomputable def a193 : Nat → Option LoopAnn := fun _ => none
noncomputable def g193 (x0 : (Int × (Int × Unit))) : Option ((Bool × Unit) × Unit) :=
  bif (x0.1 == (1 : Int)) then
    some (((f86 x0.2.1 (0 : Int) (100 : Int)), ()), ())
  else
    bif (x0.1 == (0 : Int)) then
      some (((x0.2.1 == (0 : Int)), ()), ())
    else
      bif (x0.1 == (2 : Int)) then
        some (((x0.2.1 == (0 : Int)), ()), ())
      else
        some ((false, ()), ())
noncomputable def f193 (x0 : (Int × (Int × Unit))) : Bool :=
  bif (x0.1 == (1 : Int)) then
    (f86 x0.2.1 (0 : Int) (100 : Int))
  else
    bif (x0.1 == (0 : Int)) then
      (x0.2.1 == (0 : Int))
    else
      bif (x0.1 == (2 : Int)) then
        (x0.2.1 == (0 : Int))
      else
        false
theorem n193 (x0 : (Int × (Int × Unit))) : g193 x0 = some ((f193 x0, ()), ()) := by
  simp only [g193, f193, pull1]
noncomputable def c193 : Ctr := { ins := [.v Ty61], out := [.bool], F := fun x => some ((f193 x.1, ()), ()) }
theorem v193 : LoopsOk Tryz.prog Γ t193 a193 (loopsIn (Tryz.f193.body.getD .skip) 0) := loopsOk_nil (by kernel_rfl)
theorem r193 (x : InsT c193.ins) : fnK Tryz.prog Γ t193 a193 Tryz.f193 c193 x = g193 x.1 := by kernel_rfl
theorem k193 : TblOk Tryz.prog t193 := tblOk_cons o86 (tblOk_nil)
theorem o193 : Holds Tryz.prog 193 c193 := fn_holds (code := Tryz.f193.body.getD .skip) (by kernel_rfl) gamOk k193 Tryz.func193 (by kernel_rfl) (by kernel_rfl) (by kernel_rfl) (by kernel_rfl) v193 (fun x _ h => (r193 x).trans ((n193 x.1).trans h))
/-! ### 194: loop.example/g00076/impl.isWindow -/
noncomputable def t194 : Tbl := [(86, [], c86)]
noncomputable def a194 : Nat → Option LoopAnn := fun _ => none
noncomputable def g194 (x0 : Ta8) : Option ((Bool × Unit) × Unit) :=
  bif (f86 x0.2.1 (4 : Int) (2048 : Int)) then
    bif ((Int.tmod x0.2.1 (4 : Int)) == (0 : Int)) then
      bif (f86 x0.1 (0 : Int) (wI ((2048 : Int) - x0.2.1))) then
        bif ((Int.tmod x0.1 (4 : Int)) == (0 : Int)) then
          some (((f86 x0.2.2.1 (1 : Int) (7 : Int)), ()), ())
        else
          some ((false, ()), ())
      else
        some ((false, ()), ())
    else
      some ((false, ()), ())
  else
    some ((false, ()), ())
noncomputable def f194 (x0 : Ta8) : Bool :=
  bif (f86 x0.2.1 (4 : Int) (2048 : Int)) then
    bif ((Int.tmod x0.2.1 (4 : Int)) == (0 : Int)) then
      bif (f86 x0.1 (0 : Int) (wI ((2048 : Int) - x0.2.1))) then
        bif ((Int.tmod x0.1 (4 : Int)) == (0 : Int)) then
          (f86 x0.2.2.1 (1 : Int) (7 : Int))
        else
          false
      else
        false
    else
      false
  else
    false
theorem n194 (x0 : Ta8) : g194 x0 = some ((f194 x0, ()), ()) := by
  simp only [g194, f194, pull1]
noncomputable def c194 : Ctr := { ins := [.v Ty119], out := [.bool], F := fun x => some ((f194 x.1, ()), ()) }
theorem v194 : LoopsOk Tryz.prog Γ t194 a194 (loopsIn (Tryz.f194.body.getD .skip) 0) := loopsOk_nil (by kernel_rfl)
theorem r194 (x : InsT c194.ins) : fnK Tryz.prog Γ t194 a194 Tryz.f194 c194 x = g194 x.1 := by kernel_rfl
theorem k194 : TblOk Tryz.prog t194 := tblOk_cons o86 (tblOk_nil)
theorem o194 : Holds Tryz.prog 194 c194 := fn_holds (code := Tryz.f194.body.getD .skip) (by kernel_rfl) gamOk k194 Tryz.func194 (by kernel_rfl) (by kernel_rfl) (by kernel_rfl) (by kernel_rfl) v194 (fun x _ h => (r194 x).trans ((n194 x.1).trans h))
/-! ### 197: loop.example/g00076/impl.areApart -/
noncomputable def t197 : Tbl := []
noncomputable def a197 : Nat → Option LoopAnn := fun _ => none
noncomputable def g197 (x0 : Ta8) (x1 : Ta8) : Option ((Bool × Unit) × Unit) :=
  bif (decide ((wI (x0.1 + x0.2.1)) ≤ x1.1)) then
    some ((true, ()), ())
  else
    some (((decide ((wI (x1.1 + x1.2.1)) ≤ x0.1)), ()), ())
noncomputable def f197 (x0 : Ta8) (x1 : Ta8) : Bool :=
  bif (decide ((wI (x0.1 + x0.2.1)) ≤ x1.1)) then
    true
  else
    (decide ((wI (x1.1 + x1.2.1)) ≤ x0.1))
theorem n197 (x0 : Ta8) (x1 : Ta8) : g197 x0 x1 = some ((f197 x0 x1, ()), ()) := by
  simp only [g197, f197, pull1]
noncomputable def c197 : Ctr := { ins := [.v Ty119, .v Ty119], out := [.bool], F := fun x => some ((f197 x.1 x.2.1, ()), ()) }
theorem v197 : LoopsOk Tryz.prog Γ t197 a197 (loopsIn (Tryz.f197.body.getD .skip) 0) := loopsOk_nil (by kernel_rfl)
theorem r197 (x : InsT c197.ins) : fnK Tryz.prog Γ t197 a197 Tryz.f197 c197 x = g197 x.1 x.2.1 := by kernel_rfl
theorem k197 : TblOk Tryz.prog t197 := tblOk_nil
theorem o197 : Holds Tryz.prog 197 c197 := fn_holds (code := Tryz.f197.body.getD .skip) (by kernel_rfl) gamOk k197 Tryz.func197 (by kernel_rfl) (by kernel_rfl) (by kernel_rfl) (by kernel_rfl) v197 (fun x _ h => (r197 x).trans ((n197 x.1 x.2.1).trans h))
/-! ### 196: loop.example/g00076/impl.areParts$1 -/
noncomputable def t196 : Tbl := [(197, [], c197)]
noncomputable def a196 : Nat → Option LoopAnn := fun _ => none
noncomputable def g196 (x0 : Ta8) (x1 : Ta8) : Option ((Bool × Unit) × Unit) :=
  some (((!(f197 x0 x1)), ()), ())
noncomputable def f196 (x0 : Ta8) (x1 : Ta8) : Bool :=
  (!(f197 x0 x1))
theorem n196 (x0 : Ta8) (x1 : Ta8) : g196 x0 x1 = some ((f196 x0 x1, ()), ()) := by
  simp only [g196, f196, pull1]
noncomputable def c196 : Ctr := { ins := [.v Ty119, .rf Ty119], out := [.bool], F := fun x => some ((f196 x.1 x.2.1, ()), ()) }
theorem v196 : LoopsOk Tryz.prog Γ t196 a196 (loopsIn (Tryz.f196.body.getD .skip) 0) := loopsOk_nil (by kernel_rfl)
theorem r196 (x : InsT c196.ins) : fnK Tryz.prog Γ t196 a196 Tryz.f196 c196 x = g196 x.1 x.2.1 := by kernel_rfl
theorem k196 : TblOk Tryz.prog t196 := tblOk_cons o197 (tblOk_nil)
theorem o196 : Holds Tryz.prog 196 c196 := fn_holds (code := Tryz.f196.body.getD .skip) (by kernel_rfl) gamOk k196 Tryz.func196 (by kernel_rfl) (by kernel_rfl) (by kernel_rfl) (by kernel_rfl) v196 (fun x _ h => (r196 x).trans ((n196 x.1 x.2.1).trans h))
/-! ### 230: slices.IndexFunc[[]loop.example/g00076/impl.Window,loop.example/g00076/impl.Window] -/
noncomputable def t230_196 : Tbl := [(196, [], c196)]
abbrev h230_196_L0 : Shape := { slots := [(0, .v Ty136), (1, .clo 196 [Ty119]), (7, .v (.int .i64)), (8, .v (.int .i64))], boxes := [] }
abbrev e230_196_L0 : List (XT × Shape) := [(.ret, { slots := [(4, .v (.int .i64))], boxes := [] }), (.exit 0, { slots := [], boxes := [] })]
noncomputable def q230_196_L0 (t0 : Ta24) (t1 : Ta39) (t7 : Int) (t8 : Int) : Option (Ta200 ⊕ (((Int × Unit) × Unit) ⊕ ((Unit × Unit) ⊕ Empty))) :=
  bif (decide (t8 < t7)) then
    bif (decide (0 ≤ t8) && decide (t8 < (t0.len : Int))) then
      bif (f196 (L.get t0 t8.toNat) t1.1) then
        some (.inr (.inl ((t8, ()), ())))
      else
        some (.inl ((t0, (t1, (t7, ((wI (t8 + (1 : Int))), ())))), ()))
    else
      none
  else
    some (.inr (.inr (.inl ((), ()))))
noncomputable def s230_196_L0 (x : Ta200) : Option (Ta200 ⊕ (((Int × Unit) × Unit) ⊕ ((Unit × Unit) ⊕ Empty))) := q230_196_L0 x.1.1 x.1.2.1 x.1.2.2.1 x.1.2.2.2.1
noncomputable def a230_196 : Nat → Option LoopAnn := fun c => bif Nat.beq c 0 then some (.fix h230_196_L0 e230_196_L0 s230_196_L0) else none
noncomputable def g230_196 (x0 : Ta24) (x1 : Ta39) : Option ((Int × Unit) × Unit) :=
  (fixO s230_196_L0 ((x0, (x1, ((x0.len : Int), ((0 : Int), ())))), ())).bind fun d2 => match d2 with
  | .inl y1 =>
    some ((y1.1.1, ()), ())
  | .inr (.inl y1) =>
    some (((-1 : Int), ()), ())
  | .inr (.inr e) => nomatch e
noncomputable def c230_196 : Ctr := { ins := [.v Ty136, .clo 196 [Ty119]], out := [(.int .i64)], F := fun x => g230_196 x.1 x.2.1 }
noncomputable def l230_196 : List (Nat × Code) := loopsIn (Tryz.f230.body.getD .skip) 0
theorem w230_196_L0 (x : h230_196_L0.T) : runK Tryz.prog Γ t230_196 a230_196 (l230_196.getD 0 (0, .skip)).2 0 (pkSh h230_196_L0 x) (loopCls (sh := h230_196_L0) (es := e230_196_L0)) = (s230_196_L0 x : Option _) := by kernel_rfl
theorem v230_196 : LoopsOk Tryz.prog Γ t230_196 a230_196 (loopsIn (Tryz.f230.body.getD .skip) 0) := by
  have e : loopsIn (Tryz.f230.body.getD .skip) 0 = [(0, (l230_196.getD 0 (0, .skip)).2)] := by kernel_rfl
  rw [e]
  exact ⟨fun x d h => (w230_196_L0 x).trans h, trivial⟩
theorem r230_196 (x : InsT c230_196.ins) : fnK Tryz.prog Γ t230_196 a230_196 Tryz.f230 c230_196 x = g230_196 x.1 x.2.1 := by kernel_rfl
theorem k230_196 : TblOk Tryz.prog t230_196 := tblOk_cons o196 (tblOk_nil)
theorem o230_196 : Holds Tryz.prog 230 c230_196 := fn_holds (code := Tryz.f230.body.getD .skip) (by kernel_rfl) gamOk k230_196 Tryz.func230 (by kernel_rfl) (by kernel_rfl) (by kernel_rfl) (by kernel_rfl) v230_196 (fun x _ h => (r230_196 x).trans h)
/-! ### 195: slices.ContainsFunc[[]loop.example/g00076/impl.Window,loop.example/g00076/impl.Window] -/
noncomputable def t195_196 : Tbl := [(230, [196], c230_196)]
noncomputable def a195_196 : Nat → Option LoopAnn := fun _ => none
noncomputable def g195_196 (x0 : Ta24) (x1 : Ta39) : Option ((Bool × Unit) × Unit) :=
  (g230_196 x0 x1).bind fun y1 =>
    some (((decide (y1.1.1 ≥ (0 : Int))), ()), ())
noncomputable def c195_196 : Ctr := { ins := [.v Ty136, .clo 196 [Ty119]], out := [.bool], F := fun x => g195_196 x.1 x.2.1 }
theorem v195_196 : LoopsOk Tryz.prog Γ t195_196 a195_196 (loopsIn (Tryz.f195.body.getD .skip) 0) := loopsOk_nil (by kernel_rfl)
theorem r195_196 (x : InsT c195_196.ins) : fnK Tryz.prog Γ t195_196 a195_196 Tryz.f195 c195_196 x = g195_196 x.1 x.2.1 := by kernel_rfl
theorem k195_196 : TblOk Tryz.prog t195_196 := tblOk_cons o230_196 (tblOk_nil)
theorem o195_196 : Holds Tryz.prog 195 c195_196 := fn_holds (code := Tryz.f195.body.getD .skip) (by kernel_rfl) gamOk k195_196 Tryz.func195 (by kernel_rfl) (by kernel_rfl) (by kernel_rfl) (by kernel_rfl) v195_196 (fun x _ h => (r195_196 x).trans h)
/-! ### 239: loop.example/g00076/impl.windowAt$1 -/
noncomputable def t239 : Tbl := []
noncomputable def a239 : Nat → Option LoopAnn := fun _ => none
noncomputable def g239 (x0 : Ta8) (x1 : Int) : Option ((Bool × Unit) × Unit) :=
  bif (decide (x0.1 ≤ x1)) then
    some (((decide (x1 < (wI (x0.1 + x0.2.1)))), ()), ())
  else
    some ((false, ()), ())
noncomputable def f239 (x0 : Ta8) (x1 : Int) : Bool :=
  bif (decide (x0.1 ≤ x1)) then
    (decide (x1 < (wI (x0.1 + x0.2.1))))
  else
    false
theorem n239 (x0 : Ta8) (x1 : Int) : g239 x0 x1 = some ((f239 x0 x1, ()), ()) := by
  simp only [g239, f239, pull1]
noncomputable def c239 : Ctr := { ins := [.v Ty119, .rf (.int .i64)], out := [.bool], F := fun x => some ((f239 x.1 x.2.1, ()), ()) }
theorem v239 : LoopsOk Tryz.prog Γ t239 a239 (loopsIn (Tryz.f239.body.getD .skip) 0) := loopsOk_nil (by kernel_rfl)
theorem r239 (x : InsT c239.ins) : fnK Tryz.prog Γ t239 a239 Tryz.f239 c239 x = g239 x.1 x.2.1 := by kernel_rfl
theorem k239 : TblOk Tryz.prog t239 := tblOk_nil
theorem o239 : Holds Tryz.prog 239 c239 := fn_holds (code := Tryz.f239.body.getD .skip) (by kernel_rfl) gamOk k239 Tryz.func239 (by kernel_rfl) (by kernel_rfl) (by kernel_rfl) (by kernel_rfl) v239 (fun x _ h => (r239 x).trans ((n239 x.1 x.2.1).trans h))
/-! ### 230: slices.IndexFunc[[]loop.example/g00076/impl.Window,loop.example/g00076/impl.Window] -/
noncomputable def t230_239 : Tbl := [(239, [], c239)]
abbrev h230_239_L0 : Shape := { slots := [(0, .v Ty136), (1, .clo 239 [(.int .i64)]), (7, .v (.int .i64)), (8, .v (.int .i64))], boxes := [] }
abbrev e230_239_L0 : List (XT × Shape) := [(.ret, { slots := [(4, .v (.int .i64))], boxes := [] }), (.exit 0, { slots := [], boxes := [] })]
noncomputable def q230_239_L0 (t0 : Ta24) (t1 : (Int × Unit)) (t7 : Int) (t8 : Int) : Option (Ta164 ⊕ (((Int × Unit) × Unit) ⊕ ((Unit × Unit) ⊕ Empty))) :=
  bif (decide (t8 < t7)) then
    bif (decide (0 ≤ t8) && decide (t8 < (t0.len : Int))) then
      bif (f239 (L.get t0 t8.toNat) t1.1) then
        some (.inr (.inl ((t8, ()), ())))
      else
        some (.inl ((t0, (t1, (t7, ((wI (t8 + (1 : Int))), ())))), ()))
    else
      none
  else
    some (.inr (.inr (.inl ((), ()))))
noncomputable def s230_239_L0 (x : Ta164) : Option (Ta164 ⊕ (((Int × Unit) × Unit) ⊕ ((Unit × Unit) ⊕ Empty))) := q230_239_L0 x.1.1 x.1.2.1 x.1.2.2.1 x.1.2.2.2.1
noncomputable def a230_239 : Nat → Option LoopAnn := fun c => bif Nat.beq c 0 then some (.fix h230_239_L0 e230_239_L0 s230_239_L0) else none
noncomputable def g230_239 (x0 : Ta24) (x1 : (Int × Unit)) : Option ((Int × Unit) × Unit) :=
  (fixO s230_239_L0 ((x0, (x1, ((x0.len : Int), ((0 : Int), ())))), ())).bind fun d2 => match d2 with
  | .inl y1 =>
    some ((y1.1.1, ()), ())
  | .inr (.inl y1) =>
    some (((-1 : Int), ()), ())
  | .inr (.inr e) => nomatch e
noncomputable def c230_239 : Ctr := { ins := [.v Ty136, .clo 239 [(.int .i64)]], out := [(.int .i64)], F := fun x => g230_239 x.1 x.2.1 }
noncomputable def l230_239 : List (Nat × Code) := loopsIn (Tryz.f230.body.getD .skip) 0
theorem w230_239_L0 (x : h230_239_L0.T) : runK Tryz.prog Γ t230_239 a230_239 (l230_239.getD 0 (0, .skip)).2 0 (pkSh h230_239_L0 x) (loopCls (sh := h230_239_L0) (es := e230_239_L0)) = (s230_239_L0 x : Option _) := by kernel_rfl
theorem v230_239 : LoopsOk Tryz.prog Γ t230_239 a230_239 (loopsIn (Tryz.f230.body.getD .skip) 0) := by
  have e : loopsIn (Tryz.f230.body.getD .skip) 0 = [(0, (l230_239.getD 0 (0, .skip)).2)] := by kernel_rfl
  rw [e]
  exact ⟨fun x d h => (w230_239_L0 x).trans h, trivial⟩
theorem r230_239 (x : InsT c230_239.ins) : fnK Tryz.prog Γ t230_239 a230_239 Tryz.f230 c230_239 x = g230_239 x.1 x.2.1 := by kernel_rfl
theorem k230_239 : TblOk Tryz.prog t230_239 := tblOk_cons o239 (tblOk_nil)
theorem o230_239 : Holds Tryz.prog 230 c230_239 := fn_holds (code := Tryz.f230.body.getD .skip) (by kernel_rfl) gamOk k230_239 Tryz.func230 (by kernel_rfl) (by kernel_rfl) (by kernel_rfl) (by kernel_rfl) v230_239 (fun x _ h => (r230_239 x).trans h)
/-! ### 231: loop.example/g00076/impl.windowAt -/
noncomputable def t231 : Tbl := [(230, [239], c230_239)]
noncomputable def a231 : Nat → Option LoopAnn := fun _ => none
noncomputable def g231 (x0 : Ta24) (x1 : Int) : Option ((Int × Unit) × Unit) :=
  (g230_239 x0 (x1, ())).bind fun y1 =>
    some ((y1.1.1, ()), ())
noncomputable def c231 : Ctr := { ins := [.v Ty136, .v (.int .i64)], out := [(.int .i64)], F := fun x => g231 x.1 x.2.1 }
theorem v231 : LoopsOk Tryz.prog Γ t231 a231 (loopsIn (Tryz.f231.body.getD .skip) 0) := loopsOk_nil (by kernel_rfl)
theorem r231 (x : InsT c231.ins) : fnK Tryz.prog Γ t231 a231 Tryz.f231 c231 x = g231 x.1 x.2.1 := by kernel_rfl
theorem k231 : TblOk Tryz.prog t231 := tblOk_cons o230_239 (tblOk_nil)
theorem o231 : Holds Tryz.prog 231 c231 := fn_holds (code := Tryz.f231.body.getD .skip) (by kernel_rfl) gamOk k231 Tryz.func231 (by kernel_rfl) (by kernel_rfl) (by kernel_rfl) (by kernel_rfl) v231 (fun x _ h => (r231 x).trans h)
/-! ### 198: loop.example/g00076/impl.runsAt -/
noncomputable def t198 : Tbl := [(231, [], c231)]
noncomputable def a198 : Nat → Option LoopAnn := fun _ => none
noncomputable def g198 (x0 : Ta172) (x1 : Int) : Option ((Bool × Unit) × Unit) :=
  (g231 x0.2.2.2.1 x1).bind fun y1 =>
    bif (decide (y1.1.1 ≥ (0 : Int))) then
      bif (decide (0 ≤ y1.1.1) && decide (y1.1.1 < (x0.2.2.2.1.len : Int))) then
        some ((((andOf .i64 (L.get x0.2.2.2.1 y1.1.1.toNat).2.2.1 (4 : Int)) != (0 : Int)), ()), ())
      else
        none
    else
      some ((false, ()), ())
noncomputable def c198 : Ctr := { ins := [.v Ty237, .v (.int .i64)], out := [.bool], F := fun x => g198 x.1 x.2.1 }
theorem v198 : LoopsOk Tryz.prog Γ t198 a198 (loopsIn (Tryz.f198.body.getD .skip) 0) := loopsOk_nil (by kernel_rfl)
theorem r198 (x : InsT c198.ins) : fnK Tryz.prog Γ t198 a198 Tryz.f198 c198 x = g198 x.1 x.2.1 := by kernel_rfl
theorem k198 : TblOk Tryz.prog t198 := tblOk_cons o231 (tblOk_nil)
theorem o198 : Holds Tryz.prog 198 c198 := fn_holds (code := Tryz.f198.body.getD .skip) (by kernel_rfl) gamOk k198 Tryz.func198 (by kernel_rfl) (by kernel_rfl) (by kernel_rfl) (by kernel_rfl) v198 (fun x _ h => (r198 x).trans h)
/-! ### 135: loop.example/g00076/impl.areParts -/
noncomputable def t135 : Tbl := [(191, [], c191), (192, [], c192), (193, [], c193), (86, [], c86), (194, [], c194), (195, [196], c195_196), (198, [], c198)]
abbrev h135_L2 : Shape := { slots := [(1, .bx 1 0), (3, .ext Ty119 50003), (5, .bx 5 0), (9, .v Ty238), (10, .v (.int .i64)), (11, .v (.int .i64)), (42, .v Ty136), (43, .v (.int .i64)), (44, .v (.int .i64))], boxes := [(1, .typ Ty286), (5, .typ Ty237)] }
abbrev e135_L2 : List (XT × Shape) := [(.ret, { slots := [(2, .v .bool)], boxes := [] }), (.exit 2, { slots := [(1, .bx 1 0), (3, .ext Ty119 50003), (5, .bx 5 0), (9, .v Ty238), (10, .v (.int .i64)), (11, .v (.int .i64))], boxes := [(1, .typ Ty286), (5, .typ Ty237)] })]
noncomputable def q135_L2 (t3 : Ta24) (t9 : Ta178) (t10 : Int) (t11 : Int) (t42 : Ta24) (t43 : Int) (t44 : Int) (b1 : Ta262) (b5 : Ta172) : Option (Ta283 ⊕ (((Bool × Unit) × Unit) ⊕ (((Unit × (Ta24 × (Unit × Ta206))) × Ta275) ⊕ Empty))) :=
  bif (decide (t44 < t43)) then
    bif (decide (0 ≤ t44) && decide (t44 < (t42.len : Int))) then
      bif (!(f194 (L.get t42 t44.toNat))) then
        some (.inr (.inl ((false, ()), ())))
      else
        bif (decide ((wI ((L.get t42 t44.toNat).1 + (L.get t42 t44.toNat).2.1)) > b1.1)) then
          some (.inr (.inl ((false, ()), ())))
        else
          (g195_196 t3 ((L.get t42 t44.toNat), ())).bind fun y3 =>
            bif y3.1.1 then
              some (.inr (.inl ((false, ()), ())))
            else
              bif (decide (t3.len + (L.of (Ty.zero Ty119) [(L.get t42 t44.toNat)]).len ≤ most)) then
                some (.inl (((), ((L.app t3 (L.of (Ty.zero Ty119) [(L.get t42 t44.toNat)])), ((), (t9, (t10, (t11, (t42, (t43, ((wI (t44 + (1 : Int))), ()))))))))), (b1, (b5, ()))))
              else
                none
    else
      none
  else
    some (.inr (.inr (.inl (((), (t3, ((), (t9, (t10, (t11, ())))))), (b1, (b5, ()))))))
noncomputable def s135_L2 (x : Ta283) : Option (Ta283 ⊕ (((Bool × Unit) × Unit) ⊕ (((Unit × (Ta24 × (Unit × Ta206))) × Ta275) ⊕ Empty))) := q135_L2 x.1.2.1 x.1.2.2.2.1 x.1.2.2.2.2.1 x.1.2.2.2.2.2.1 x.1.2.2.2.2.2.2.1 x.1.2.2.2.2.2.2.2.1 x.1.2.2.2.2.2.2.2.2.1 x.2.1 x.2.2.1
abbrev h135_L0 : Shape := { slots := [(1, .bx 1 0), (3, .ext Ty119 50003), (9, .v Ty238), (10, .v (.int .i64)), (11, .v (.int .i64))], boxes := [(1, .typ Ty286)] }
abbrev e135_L0 : List (XT × Shape) := [(.ret, { slots := [(2, .v .bool)], boxes := [] }), (.exit 0, { slots := [], boxes := [] })]
noncomputable def q135_L0 (t3 : Ta24) (t9 : Ta178) (t10 : Int) (t11 : Int) (b1 : Ta262) : Option (Ta279 ⊕ (((Bool × Unit) × Unit) ⊕ ((Unit × Unit) ⊕ Empty))) :=
  bif (decide (t11 < t10)) then
    bif (decide (0 ≤ t11) && decide (t11 < (t9.len : Int))) then
      (g191 (L.get t9 t11.toNat).1).bind fun y1 =>
        bif (!y1.1.1) then
          some (.inr (.inl ((false, ()), ())))
        else
          (g192 b1 (L.get t9 t11.toNat).1).bind fun y2 =>
            bif (decide (y2.1.1 < t11)) then
              some (.inr (.inl ((false, ()), ())))
            else
              bif (!(f193 (L.get t9 t11.toNat).2.2.1)) then
                some (.inr (.inl ((false, ()), ())))
              else
                bif (!(f86 ((L.get t9 t11.toNat).2.2.2.1.len : Int) (1 : Int) (4 : Int))) then
                  some (.inr (.inl ((false, ()), ())))
                else
                  (fixO s135_L2 (((), (t3, ((), (t9, (t10, (t11, ((L.get t9 t11.toNat).2.2.2.1, (((L.get t9 t11.toNat).2.2.2.1.len : Int), ((0 : Int), ()))))))))), (b1, ((L.get t9 t11.toNat), ())))).bind fun d6 => match d6 with
                  | .inl y4 =>
                    some (.inr (.inl y4))
                  | .inr (.inl y4) =>
                    bif ((Int.tmod y4.2.2.1.2.1 (4 : Int)) != (0 : Int)) then
                      some (.inr (.inl ((false, ()), ())))
                    else
                      (g198 y4.2.2.1 y4.2.2.1.2.1).bind fun y5 =>
                        bif (!y5.1.1) then
                          some (.inr (.inl ((false, ()), ())))
                        else
                          some (.inl (((), (y4.1.2.1, (y4.1.2.2.2.1, (y4.1.2.2.2.2.1, ((wI (y4.1.2.2.2.2.2.1 + (1 : Int))), ()))))), (y4.2.1, ())))
                  | .inr (.inr e) => nomatch e
    else
      none
  else
    some (.inr (.inr (.inl ((), ()))))
noncomputable def s135_L0 (x : Ta279) : Option (Ta279 ⊕ (((Bool × Unit) × Unit) ⊕ ((Unit × Unit) ⊕ Empty))) := q135_L0 x.1.2.1 x.1.2.2.1 x.1.2.2.2.1 x.1.2.2.2.2.1 x.2.1
noncomputable def a135 : Nat → Option LoopAnn := fun c => bif Nat.beq c 2 then some (.fix h135_L2 e135_L2 s135_L2) else bif Nat.beq c 0 then some (.fix h135_L0 e135_L0 s135_L0) else none
noncomputable def g135 (x0 : Ta262) : Option ((Bool × Unit) × Unit) :=
  (fixO s135_L0 (((), ((nilL Ty119), (x0.2.2.2.2.2.2.2.1, ((x0.2.2.2.2.2.2.2.1.len : Int), ((0 : Int), ()))))), (x0, ()))).bind fun d8 => match d8 with
  | .inl y7 =>
    some ((y7.1.1, ()), ())
  | .inr (.inl y7) =>
    some ((true, ()), ())
  | .inr (.inr e) => nomatch e
noncomputable def c135 : Ctr := { ins := [.v Ty286], out := [.bool], F := fun x => g135 x.1 }
noncomputable def l135 : List (Nat × Code) := loopsIn (Tryz.f135.body.getD .skip) 0
theorem w135_L2 (x : h135_L2.T) : runK Tryz.prog Γ t135 a135 (l135.getD 1 (0, .skip)).2 2 (pkSh h135_L2 x) (loopCls (sh := h135_L2) (es := e135_L2)) = (s135_L2 x : Option _) := by kernel_rfl
theorem w135_L0 (x : h135_L0.T) : runK Tryz.prog Γ t135 a135 (l135.getD 0 (0, .skip)).2 0 (pkSh h135_L0 x) (loopCls (sh := h135_L0) (es := e135_L0)) = (s135_L0 x : Option _) := by kernel_rfl
theorem v135 : LoopsOk Tryz.prog Γ t135 a135 (loopsIn (Tryz.f135.body.getD .skip) 0) := by
  have e : loopsIn (Tryz.f135.body.getD .skip) 0 = [(0, (l135.getD 0 (0, .skip)).2), (2, (l135.getD 1 (0, .skip)).2)] := by kernel_rfl
  rw [e]
  exact ⟨fun x d h => (w135_L0 x).trans h, fun x d h => (w135_L2 x).trans h, trivial⟩
theorem r135 (x : InsT c135.ins) : fnK Tryz.prog Γ t135 a135 Tryz.f135 c135 x = g135 x.1 := by kernel_rfl
theorem k135 : TblOk Tryz.prog t135 := tblOk_cons o191 (tblOk_cons o192 (tblOk_cons o193 (tblOk_cons o86 (tblOk_cons o194 (tblOk_cons o195_196 (tblOk_cons o198 (tblOk_nil)))))))
theorem o135 : Holds Tryz.prog 135 c135 := fn_holds (code := Tryz.f135.body.getD .skip) (by kernel_rfl) gamOk k135 Tryz.func135 (by kernel_rfl) (by kernel_rfl) (by kernel_rfl) (by kernel_rfl) v135 (fun x _ h => (r135 x).trans h)
/-! ### 137: loop.example/g00076/impl.isSound$1 -/
noncomputable def t137 : Tbl := [(86, [], c86)]
noncomputable def a137 : Nat → Option LoopAnn := fun _ => none
noncomputable def g137 (x0 : Int) (x1 : Int) : Option ((Bool × Unit) × Unit) :=
  some (((!(f86 x0 (0 : Int) (wI (x1 - (1 : Int))))), ()), ())
noncomputable def f137 (x0 : Int) (x1 : Int) : Bool :=
  (!(f86 x0 (0 : Int) (wI (x1 - (1 : Int)))))
theorem n137 (x0 : Int) (x1 : Int) : g137 x0 x1 = some ((f137 x0 x1, ()), ()) := by
  simp only [g137, f137, pull1]
noncomputable def c137 : Ctr := { ins := [.v (.int .i64), .rf (.int .i64)], out := [.bool], F := fun x => some ((f137 x.1 x.2.1, ()), ()) }
theorem v137 : LoopsOk Tryz.prog Γ t137 a137 (loopsIn (Tryz.f137.body.getD .skip) 0) := loopsOk_nil (by kernel_rfl)
theorem r137 (x : InsT c137.ins) : fnK Tryz.prog Γ t137 a137 Tryz.f137 c137 x = g137 x.1 x.2.1 := by kernel_rfl
theorem k137 : TblOk Tryz.prog t137 := tblOk_cons o86 (tblOk_nil)
theorem o137 : Holds Tryz.prog 137 c137 := fn_holds (code := Tryz.f137.body.getD .skip) (by kernel_rfl) gamOk k137 Tryz.func137 (by kernel_rfl) (by kernel_rfl) (by kernel_rfl) (by kernel_rfl) v137 (fun x _ h => (r137 x).trans ((n137 x.1 x.2.1).trans h))
/-! ### 199: slices.IndexFunc[[]int,int] -/
noncomputable def t199_137 : Tbl := [(137, [], c137)]
abbrev h199_137_L0 : Shape := { slots := [(0, .v (.sl (.int .i64))), (1, .clo 137 [(.int .i64)]), (7, .v (.int .i64)), (8, .v (.int .i64))], boxes := [] }
abbrev e199_137_L0 : List (XT × Shape) := [(.ret, { slots := [(4, .v (.int .i64))], boxes := [] }), (.exit 0, { slots := [], boxes := [] })]
noncomputable def q199_137_L0 (t0 : (L Int)) (t1 : (Int × Unit)) (t7 : Int) (t8 : Int) : Option (Ta105 ⊕ (((Int × Unit) × Unit) ⊕ ((Unit × Unit) ⊕ Empty))) :=
  bif (decide (t8 < t7)) then
    bif (decide (0 ≤ t8) && decide (t8 < (t0.len : Int))) then
      bif (f137 (L.get t0 t8.toNat) t1.1) then
        some (.inr (.inl ((t8, ()), ())))
      else
        some (.inl ((t0, (t1, (t7, ((wI (t8 + (1 : Int))), ())))), ()))
    else
      none
  else
    some (.inr (.inr (.inl ((), ()))))
noncomputable def s199_137_L0 (x : Ta105) : Option (Ta105 ⊕ (((Int × Unit) × Unit) ⊕ ((Unit × Unit) ⊕ Empty))) := q199_137_L0 x.1.1 x.1.2.1 x.1.2.2.1 x.1.2.2.2.1
noncomputable def a199_137 : Nat → Option LoopAnn := fun c => bif Nat.beq c 0 then some (.fix h199_137_L0 e199_137_L0 s199_137_L0) else none
noncomputable def g199_137 (x0 : (L Int)) (x1 : (Int × Unit)) : Option ((Int × Unit) × Unit) :=
  (fixO s199_137_L0 ((x0, (x1, ((x0.len : Int), ((0 : Int), ())))), ())).bind fun d2 => match d2 with
  | .inl y1 =>
    some ((y1.1.1, ()), ())
  | .inr (.inl y1) =>
    some (((-1 : Int), ()), ())
  | .inr (.inr e) => nomatch e
noncomputable def c199_137 : Ctr := { ins := [.v (.sl (.int .i64)), .clo 137 [(.int .i64)]], out := [(.int .i64)], F := fun x => g199_137 x.1 x.2.1 }
noncomputable def l199_137 : List (Nat × Code) := loopsIn (Tryz.f199.body.getD .skip) 0
theorem w199_137_L0 (x : h199_137_L0.T) : runK Tryz.prog Γ t199_137 a199_137 (l199_137.getD 0 (0, .skip)).2 0 (pkSh h199_137_L0 x) (loopCls (sh := h199_137_L0) (es := e199_137_L0)) = (s199_137_L0 x : Option _) := by kernel_rfl
theorem v199_137 : LoopsOk Tryz.prog Γ t199_137 a199_137 (loopsIn (Tryz.f199.body.getD .skip) 0) := by
  have e : loopsIn (Tryz.f199.body.getD .skip) 0 = [(0, (l199_137.getD 0 (0, .skip)).2)] := by kernel_rfl
  rw [e]
  exact ⟨fun x d h => (w199_137_L0 x).trans h, trivial⟩
theorem r199_137 (x : InsT c199_137.ins) : fnK Tryz.prog Γ t199_137 a199_137 Tryz.f199 c199_137 x = g199_137 x.1 x.2.1 := by kernel_rfl
theorem k199_137 : TblOk Tryz.prog t199_137 := tblOk_cons o137 (tblOk_nil)
theorem o199_137 : Holds Tryz.prog 199 c199_137 := fn_holds (code := Tryz.f199.body.getD .skip) (by kernel_rfl) gamOk k199_137 Tryz.func199 (by kernel_rfl) (by kernel_rfl) (by kernel_rfl) (by kernel_rfl) v199_137 (fun x _ h => (r199_137 x).trans h)
/-! ### 136: slices.ContainsFunc[[]int,int] -/
noncomputable def t136_137 : Tbl := [(199, [137], c199_137)]
noncomputable def a136_137 : Nat → Option LoopAnn := fun _ => none
noncomputable def g136_137 (x0 : (L Int)) (x1 : (Int × Unit)) : Option ((Bool × Unit) × Unit) :=
  (g199_137 x0 x1).bind fun y1 =>
    some (((decide (y1.1.1 ≥ (0 : Int))), ()), ())
noncomputable def c136_137 : Ctr := { ins := [.v (.sl (.int .i64)), .clo 137 [(.int .i64)]], out := [.bool], F := fun x => g136_137 x.1 x.2.1 }
theorem v136_137 : LoopsOk Tryz.prog Γ t136_137 a136_137 (loopsIn (Tryz.f136.body.getD .skip) 0) := loopsOk_nil (by kernel_rfl)
theorem r136_137 (x : InsT c136_137.ins) : fnK Tryz.prog Γ t136_137 a136_137 Tryz.f136 c136_137 x = g136_137 x.1 x.2.1 := by kernel_rfl
theorem k136_137 : TblOk Tryz.prog t136_137 := tblOk_cons o199_137 (tblOk_nil)
theorem o136_137 : Holds Tryz.prog 136 c136_137 := fn_holds (code := Tryz.f136.body.getD .skip) (by kernel_rfl) gamOk k136_137 Tryz.func136 (by kernel_rfl) (by kernel_rfl) (by kernel_rfl) (by kernel_rfl) v136_137 (fun x _ h => (r136_137 x).trans h)
/-! ### 140: loop.example/g00076/impl.isChan -/
noncomputable def t140 : Tbl := [(86, [], c86)]
noncomputable def a140 : Nat → Option LoopAnn := fun _ => none
noncomputable def g140 (x0 : Ta33) : Option ((Bool × Unit) × Unit) :=
  bif (!(f86 x0.2.1 (0 : Int) (5 : Int))) then
    some ((false, ()), ())
  else
    bif (!(f86 x0.2.2.1 (0 : Int) (5 : Int))) then
      some ((false, ()), ())
    else
      bif (x0.2.1 == x0.2.2.1) then
        some ((false, ()), ())
      else
        bif (x0.1 == (0 : Int)) then
          bif (x0.2.2.2.1 == (0 : Int)) then
            some ((true, ()), ())
          else
            bif (x0.1 == (1 : Int)) then
              some (((f86 x0.2.2.2.1 (1 : Int) (8 : Int)), ()), ())
            else
              some ((false, ()), ())
        else
          bif (x0.1 == (1 : Int)) then
            some (((f86 x0.2.2.2.1 (1 : Int) (8 : Int)), ()), ())
          else
            some ((false, ()), ())
noncomputable def f140 (x0 : Ta33) : Bool :=
  bif (!(f86 x0.2.1 (0 : Int) (5 : Int))) then
    false
  else
    bif (!(f86 x0.2.2.1 (0 : Int) (5 : Int))) then
      false
    else
      bif (x0.2.1 == x0.2.2.1) then
        false
      else
        bif (x0.1 == (0 : Int)) then
          bif (x0.2.2.2.1 == (0 : Int)) then
            true
          else
            bif (x0.1 == (1 : Int)) then
              (f86 x0.2.2.2.1 (1 : Int) (8 : Int))
            else
              false
        else
          bif (x0.1 == (1 : Int)) then
            (f86 x0.2.2.2.1 (1 : Int) (8 : Int))
          else
            false
theorem n140 (x0 : Ta33) : g140 x0 = some ((f140 x0, ()), ()) := by
  simp only [g140, f140, pull1]
noncomputable def c140 : Ctr := { ins := [.v Ty167], out := [.bool], F := fun x => some ((f140 x.1, ()), ()) }
theorem v140 : LoopsOk Tryz.prog Γ t140 a140 (loopsIn (Tryz.f140.body.getD .skip) 0) := loopsOk_nil (by kernel_rfl)
theorem r140 (x : InsT c140.ins) : fnK Tryz.prog Γ t140 a140 Tryz.f140 c140 x = g140 x.1 := by kernel_rfl
theorem k140 : TblOk Tryz.prog t140 := tblOk_cons o86 (tblOk_nil)
theorem o140 : Holds Tryz.prog 140 c140 := fn_holds (code := Tryz.f140.body.getD .skip) (by kernel_rfl) gamOk k140 Tryz.func140 (by kernel_rfl) (by kernel_rfl) (by kernel_rfl) (by kernel_rfl) v140 (fun x _ h => (r140 x).trans ((n140 x.1).trans h))
/-! ### 139: loop.example/g00076/impl.isSound$2 -/
noncomputable def t139 : Tbl := [(140, [], c140)]
noncomputable def a139 : Nat → Option LoopAnn := fun _ => none
noncomputable def g139 (x0 : Ta33) (x1 : Int) : Option ((Bool × Unit) × Unit) :=
  bif (!(f140 x0)) then
    some ((true, ()), ())
  else
    bif (decide (x0.2.1 ≥ x1)) then
      some ((true, ()), ())
    else
      some (((decide (x0.2.2.1 ≥ x1)), ()), ())
noncomputable def f139 (x0 : Ta33) (x1 : Int) : Bool :=
  bif (!(f140 x0)) then
    true
  else
    bif (decide (x0.2.1 ≥ x1)) then
      true
    else
      (decide (x0.2.2.1 ≥ x1))
theorem n139 (x0 : Ta33) (x1 : Int) : g139 x0 x1 = some ((f139 x0 x1, ()), ()) := by
  simp only [g139, f139, pull1]
noncomputable def c139 : Ctr := { ins := [.v Ty167, .rf (.int .i64)], out := [.bool], F := fun x => some ((f139 x.1 x.2.1, ()), ()) }
theorem v139 : LoopsOk Tryz.prog Γ t139 a139 (loopsIn (Tryz.f139.body.getD .skip) 0) := loopsOk_nil (by kernel_rfl)
theorem r139 (x : InsT c139.ins) : fnK Tryz.prog Γ t139 a139 Tryz.f139 c139 x = g139 x.1 x.2.1 := by kernel_rfl
theorem k139 : TblOk Tryz.prog t139 := tblOk_cons o140 (tblOk_nil)
theorem o139 : Holds Tryz.prog 139 c139 := fn_holds (code := Tryz.f139.body.getD .skip) (by kernel_rfl) gamOk k139 Tryz.func139 (by kernel_rfl) (by kernel_rfl) (by kernel_rfl) (by kernel_rfl) v139 (fun x _ h => (r139 x).trans ((n139 x.1 x.2.1).trans h))
end Go.VE.VFnExactPartOk
