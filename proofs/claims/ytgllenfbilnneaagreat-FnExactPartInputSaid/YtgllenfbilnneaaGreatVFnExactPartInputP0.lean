import Derived.Test.YtgllenfbilnneaaGreatVk9
import Derived.Test.YtgllenfbilnneaaGreatProg
/- What the functions do that laws.FnExactPartInput reaches, as plain functions, and that they do it. -/
set_option linter.unusedVariables false
set_option linter.unusedSimpArgs false
namespace Go.VE.VFnExactPartInput
open Go.Proofs Go.VE
abbrev Ta0 : Type := (Int×((L (L Int))×Unit))
abbrev Ta1 : Type := (L (Int×((L Int)×Unit)))
abbrev Ta2 : Type := ((L Int)×((L Int)×Unit))
abbrev Ta3 : Type := (Bool×(Bool×(Int×Unit)))
abbrev Ta4 : Type := (Unit×(Unit×(Int×Unit)))
abbrev Ty5 : Ty := (.pair (.int .i64) .unit)
abbrev Ta6 : Type := (L (L (Int×(Bool×Unit))))
abbrev Ty7 : Ty := (.pair (.int .u32) .unit)
abbrev Ta8 : Type := (((L (L Int))×Unit)×Unit)
abbrev Ta9 : Type := ((L ((L Int)×Unit))×Unit)
abbrev Ta10 : Type := (Bool×(Bool×(Bool×Unit)))
abbrev Ta11 : Type := (Unit×(Unit×(Unit×Unit)))
abbrev Ta12 : Type := (L (Int×(Int×(Int×Unit))))
abbrev Ta13 : Type := ((L Int)×(Int×(Int×Unit)))
abbrev Ta14 : Type := ((L Int)×(Unit×(Int×Unit)))
abbrev Ta15 : Type := ((Int×((L Int)×Unit))×Unit)
abbrev Ta16 : Type := ((Int×Unit)×((L Int)×Unit))
abbrev Ta17 : Type := (Int×(Int×(Int×(Int×Unit))))
abbrev Ta18 : Type := (L Ta2)
abbrev Ta19 : Type := ((Unit×Unit)×((L Int)×Unit))
abbrev Ta20 : Type := ((L (Int×(Bool×Unit)))×Unit)
abbrev Ta21 : Type := ((L Int)×((L (L Int))×Unit))
abbrev Ta22 : Type := (Int×(Int×(Int×(Bool×Unit))))
abbrev Ta23 : Type := ((Int×(Int×(Int×Unit)))×Unit)
abbrev Ta24 : Type := ((Int×Unit)×(Int×(Int×Unit)))
abbrev Ta25 : Type := ((L (L Int))×(Int×(Int×Unit)))
abbrev Ta26 : Type := (Int×Ta3)
abbrev Ta27 : Type := (Int×Ta4)
abbrev Ta28 : Type := (Unit×(Unit×(Int×(Int×Unit))))
abbrev Ta29 : Type := ((L Int)×((L Int)×(Int×Unit)))
abbrev Ty30 : Ty := (.pair (.sl (.int .u32)) .unit)
abbrev Ty31 : Ty := (.pair (.sl (.int .i64)) .unit)
abbrev Ta32 : Type := ((L (L Int))×(Unit×(Int×Unit)))
abbrev Ta33 : Type := (Ta1×Unit)
abbrev Ta34 : Type := (Ta2×Unit)
abbrev Ta35 : Type := (Unit×Ta4)
abbrev Ta36 : Type := (L Ta17)
abbrev Ta37 : Type := (Ta6×Unit)
abbrev Ta38 : Type := ((Unit×Unit)×((L (L Int))×Unit))
abbrev Ta39 : Type := (Unit×Ta11)
abbrev Ta40 : Type := (Ta12×Unit)
abbrev Ta41 : Type := (Ta13×Unit)
abbrev Ta42 : Type := (Int×Ta17)
abbrev Ta43 : Type := ((L Int)×Ta0)
abbrev Ta44 : Type := (Ta15×Unit)
abbrev Ta45 : Type := ((L (Int×(Bool×Unit)))×(Int×Unit))
abbrev Ta46 : Type := (Ta18×Unit)
abbrev Ty47 : Ty := (.pair (.sl (.sl (.int .u8))) .unit)
abbrev Ta48 : Type := (Int×Ta26)
abbrev Ta49 : Type := (Ta23×Unit)
abbrev Ta50 : Type := (Ta25×Unit)
abbrev Ty51 : Ty := (.sl Ty30)
abbrev Ta52 : Type := ((L ((L Int)×Unit))×(Int×(Int×Unit)))
abbrev Ta53 : Type := (Unit×Ta28)
abbrev Ta54 : Type := (Ta29×Unit)
abbrev Ta55 : Type := (Ta34×Unit)
abbrev Ta56 : Type := (Int×Ta37)
abbrev Ty57 : Ty := (.pair (.int .i64) (.pair .bool .unit))
abbrev Ty58 : Ty := (.pair .bool Ty7)
abbrev Ta59 : Type := (Ta36×Unit)
abbrev Ta60 : Type := (Ta12×(Int×Unit))
abbrev Ta61 : Type := (Bool×Ta39)
abbrev Ta62 : Type := (Int×Ta42)
abbrev Ta63 : Type := (Ta40×Unit)
abbrev Ta64 : Type := ((L (Int×(Bool×Unit)))×(Int×(Int×Unit)))
abbrev Ta65 : Type := (Int×Ta45)
abbrev Ta66 : Type := ((Unit×(Int×(Int×Unit)))×((L Int)×Unit))
abbrev Ta67 : Type := (Ta43×Unit)
abbrev Ta68 : Type := (Int×Ta48)
abbrev Ta69 : Type := (Unit×Ta46)
abbrev Ta70 : Type := (Ta1×(Int×(Int×Unit)))
abbrev Ta71 : Type := (Ta6×(Int×(Int×Unit)))
abbrev Ta72 : Type := (Ta52×Unit)
abbrev Ta73 : Type := (Ta14×((L Int)×Unit))
abbrev Ta74 : Type := (Int×Ta56)
abbrev Ta75 : Type := (Unit×Ta53)
abbrev Ty76 : Ty := (.sl Ty57)
abbrev Ty77 : Ty := (.pair (.int .i64) Ty5)
abbrev Ta78 : Type := (Ta12×(Int×(Int×Unit)))
abbrev Ta79 : Type := (Int×Ta61)
abbrev Ta80 : Type := ((L (L Int))×Ta33)
abbrev Ta81 : Type := (Int×Ta62)
abbrev Ta82 : Type := (Ta12×(Unit×(Int×Unit)))
abbrev Ta83 : Type := (Ta60×Unit)
abbrev Ta84 : Type := (Int×Ta64)
abbrev Ta85 : Type := ((Int×Unit)×Ta40)
abbrev Ta86 : Type := (Ta18×(Int×(Int×Unit)))
abbrev Ta87 : Type := ((Unit×Unit)×Ta40)
abbrev Ta88 : Type := (Unit×Ta65)
abbrev Ta89 : Type := ((Unit×(Int×Unit))×Ta15)
abbrev Ta90 : Type := (Int×Ta68)
abbrev Ta91 : Type := (Ta67×Unit)
abbrev Ta92 : Type := (Ta23×(Int×(Int×Unit)))
abbrev Ta93 : Type := (Unit×Ta69)
abbrev Ta94 : Type := (Ta70×Unit)
abbrev Ta95 : Type := (Int×Ta74)
abbrev Ty96 : Ty := (.pair (.int .i64) Ty30)
abbrev Ty97 : Ty := (.sl Ty76)
abbrev Ta98 : Type := (Ta71×Unit)
abbrev Ty99 : Ty := (.pair (.int .i64) Ty31)
abbrev Ta100 : Type := (Int×Ta78)
abbrev Ta101 : Type := (Ta36×(Int×(Int×Unit)))
abbrev Ta102 : Type := (Unit×Ta71)
abbrev Ta103 : Type := (Unit×Ta75)
abbrev Ta104 : Type := ((Int×(Int×Unit))×Ta40)
abbrev Ta105 : Type := (Ta32×((L (L Int))×Unit))
abbrev Ta106 : Type := (Unit×Ta79)
abbrev Ta107 : Type := (Ta1×Ta9)
abbrev Ty108 : Ty := (.pair .bool Ty58)
abbrev Ta109 : Type := (Ta81×Unit)
abbrev Ta110 : Type := ((Unit×(Int×Unit))×Ta40)
abbrev Ta111 : Type := (Ta86×Unit)
abbrev Ta112 : Type := (Bool×Ta90)
abbrev Ta113 : Type := ((L Int)×Ta80)
abbrev Ty114 : Ty := (.pair (.int .u32) Ty47)
abbrev Ta115 : Type := ((L ((L Int)×Unit))×Ta46)
abbrev Ta116 : Type := (Unit×Ta93)
abbrev Ty117 : Ty := (.pair (.sl (.int .u32)) Ty30)
abbrev Ta118 : Type := ((Int×(Int×(Int×Unit)))×Ta37)
abbrev Ty119 : Ty := (.sl Ty96)
abbrev Ta120 : Type := (Int×Ta104)
abbrev Ta121 : Type := (Int×Ta106)
abbrev Ta122 : Type := (Unit×Ta103)
abbrev Ty123 : Ty := (.pair (.int .i64) Ty57)
abbrev Ta124 : Type := ((Unit×(Int×(Int×Unit)))×Ta40)
abbrev Ty125 : Ty := (.sl Ty117)
abbrev Ta126 : Type := (Unit×Ta115)
abbrev Ta127 : Type := (Bool×Ta116)
abbrev Ta128 : Type := (Ta118×Unit)
abbrev Ty129 : Ty := (.pair (.int .i64) Ty77)
abbrev Ty130 : Ty := (.pair Ty97 .unit)
abbrev Ta131 : Type := (Unit×Ta121)
abbrev Ta132 : Type := ((L (L Int))×Ta107)
abbrev Ta133 : Type := (Ta36×Ta40)
abbrev Ta134 : Type := (Ta12×Ta60)
abbrev Ta135 : Type := (Int×Ta127)
abbrev Ta136 : Type := (ByteArray×Ta120)
abbrev Ta137 : Type := (Unit×Ta126)
abbrev Ty138 : Ty := (.sl Ty129)
abbrev Ta139 : Type := (Int×Ta131)
abbrev Ty140 : Ty := (.pair (.int .u32) Ty108)
abbrev Ta141 : Type := (L Ta136)
abbrev Ta142 : Type := (Ta134×Unit)
abbrev Ta143 : Type := (Unit×Ta135)
abbrev Ta144 : Type := ((L Int)×Ta132)
abbrev Ty145 : Ty := (.pair Ty125 .unit)
abbrev Ta146 : Type := (Ta136×Unit)
abbrev Ta147 : Type := (Int×Ta139)
abbrev Ta148 : Type := (Bool×Ta137)
abbrev Ta149 : Type := (Ta12×Ta92)
abbrev Ta150 : Type := ((L Int)×Ta133)
abbrev Ty151 : Ty := (.pair (.int .i64) Ty123)
abbrev Ta152 : Type := ((Unit×(Int×(Int×Unit)))×Ta109)
abbrev Ta153 : Type := (Ta141×Unit)
abbrev Ty154 : Ty := (.pair (.sl (.int .u32)) Ty114)
abbrev Ta155 : Type := (Ta82×Ta40)
abbrev Ta156 : Type := (Int×Ta143)
abbrev Ta157 : Type := (Ta1×Ta115)
abbrev Ta158 : Type := (Int×Ta147)
abbrev Ta159 : Type := (Int×Ta148)
abbrev Ta160 : Type := (Ta6×Ta113)
abbrev Ta161 : Type := ((Unit×(Int×Unit))×Ta128)
abbrev Ta162 : Type := (Ta149×Unit)
abbrev Ty163 : Ty := (.pair Ty138 .unit)
abbrev Ty164 : Ty := (.pair (.int .i64) Ty129)
abbrev Ta165 : Type := (Unit×Ta156)
abbrev Ta166 : Type := (Bool×Ta158)
abbrev Ta167 : Type := (Unit×Ta159)
abbrev Ta168 : Type := (Unit×Ta157)
abbrev Ty169 : Ty := (.sl Ty164)
abbrev Ta170 : Type := (Ta141×(Int×(Int×Unit)))
abbrev Ty171 : Ty := (.pair (.int .u32) Ty140)
abbrev Ta172 : Type := (Ta141×(Unit×(Int×Unit)))
abbrev Ta173 : Type := (Int×Ta165)
abbrev Ta174 : Type := (Int×Ta166)
abbrev Ta175 : Type := (Int×Ta167)
abbrev Ta176 : Type := ((L (L Int))×Ta157)
abbrev Ta177 : Type := ((L (L Int))×Ta160)
abbrev Ta178 : Type := (Bool×Ta168)
abbrev Ta179 : Type := (Int×Ta173)
abbrev Ta180 : Type := (Int×Ta174)
abbrev Ta181 : Type := (Unit×Ta175)
abbrev Ta182 : Type := (Int×Ta178)
abbrev Ta183 : Type := (Bool×Ta176)
abbrev Ta184 : Type := (Ta6×Ta144)
abbrev Ty185 : Ty := (.pair (.int .i64) Ty164)
abbrev Ta186 : Type := (Ta12×Ta146)
abbrev Ta187 : Type := ((L Int)×Ta177)
abbrev Ta188 : Type := (Int×Ta179)
abbrev Ta189 : Type := ((L Int)×Ta176)
abbrev Ta190 : Type := (Int×Ta180)
abbrev Ta191 : Type := (Int×Ta181)
abbrev Ta192 : Type := (Int×Ta183)
abbrev Ta193 : Type := (Unit×Ta182)
abbrev Ty194 : Ty := (.pair (.int .u32) Ty171)
abbrev Ta195 : Type := (Ta88×Ta128)
abbrev Ta196 : Type := (Int×Ta190)
abbrev Ta197 : Type := (Bool×Ta188)
abbrev Ta198 : Type := (Int×Ta191)
abbrev Ta199 : Type := (Int×Ta193)
abbrev Ta200 : Type := ((L (L Int))×Ta184)
abbrev Ta201 : Type := (Ta102×Ta128)
abbrev Ta202 : Type := ((L Int)×Ta192)
abbrev Ta203 : Type := (Int×Ta197)
abbrev Ta204 : Type := (Bool×Ta196)
abbrev Ta205 : Type := (Int×Ta198)
abbrev Ty206 : Ty := (.pair Ty51 Ty145)
abbrev Ta207 : Type := (Unit×Ta199)
abbrev Ty208 : Ty := (.pair (.int .i64) Ty185)
abbrev Ta209 : Type := (Int×Ta202)
abbrev Ta210 : Type := (Int×Ta203)
abbrev Ta211 : Type := (Bool×Ta204)
abbrev Ta212 : Type := (Bool×Ta205)
abbrev Ta213 : Type := ((L Int)×Ta200)
abbrev Ta214 : Type := (Int×Ta207)
abbrev Ta215 : Type := (Int×Ta210)
abbrev Ta216 : Type := ((Int×((L Int)×Unit))×Ta192)
abbrev Ty217 : Ty := (.pair (.int .u32) Ty194)
abbrev Ta218 : Type := (Int×Ta211)
abbrev Ta219 : Type := (Int×Ta212)
abbrev Ta220 : Type := (Ta6×Ta189)
abbrev Ta221 : Type := (Int×Ta214)
abbrev Ta222 : Type := (Ta18×Ta187)
abbrev Ta223 : Type := (Int×Ta215)
abbrev Ty224 : Ty := (.pair Ty77 Ty163)
abbrev Ty225 : Ty := (.pair Ty129 Ty130)
abbrev Ta226 : Type := (Int×Ta218)
abbrev Ta227 : Type := (Int×Ta219)
abbrev Ta228 : Type := (Int×Ta221)
abbrev Ty229 : Ty := (.pair (.int .i64) Ty208)
abbrev Ta230 : Type := (Bool×Ta223)
abbrev Ta231 : Type := (Int×Ta226)
abbrev Ta232 : Type := (Int×Ta227)
abbrev Ty233 : Ty := (.pair .bool Ty217)
abbrev Ta234 : Type := (Bool×Ta228)
abbrev Ta235 : Type := ((L (L Int))×Ta220)
abbrev Ta236 : Type := (Int×Ta231)
abbrev Ta237 : Type := (Int×Ta232)
abbrev Ta238 : Type := (Bool×Ta230)
abbrev Ta239 : Type := (Ta6×Ta209)
abbrev Ta240 : Type := (Int×Ta234)
abbrev Ta241 : Type := (Ta141×Ta150)
abbrev Ta242 : Type := (Int×Ta238)
abbrev Ty243 : Ty := (.pair (.int .i64) Ty224)
abbrev Ta244 : Type := (Bool×Ta236)
abbrev Ta245 : Type := (Bool×Ta237)
abbrev Ta246 : Type := ((L ((L Int)×Unit))×Ta222)
abbrev Ta247 : Type := (Ta18×Ta213)
abbrev Ta248 : Type := ((L Int)×Ta235)
abbrev Ta249 : Type := (Int×Ta239)
abbrev Ta250 : Type := (Int×Ta240)
abbrev Ta251 : Type := (Int×Ta241)
abbrev Ta252 : Type := (Int×Ta242)
abbrev Ta253 : Type := (Int×Ta249)
abbrev Ta254 : Type := (Unit×Ta244)
abbrev Ta255 : Type := (Bool×Ta245)
abbrev Ta256 : Type := (Int×Ta250)
abbrev Ta257 : Type := (Int×Ta251)
abbrev Ta258 : Type := (Int×Ta252)
abbrev Ty259 : Ty := (.pair .str Ty243)
abbrev Ta260 : Type := (Int×Ta253)
abbrev Ta261 : Type := (Int×Ta254)
abbrev Ta262 : Type := (Int×Ta255)
abbrev Ta263 : Type := (Int×Ta256)
abbrev Ta264 : Type := (Int×Ta257)
abbrev Ta265 : Type := ((L (L Int))×Ta248)
abbrev Ta266 : Type := (Int×Ta258)
abbrev Ty267 : Ty := (.sl Ty259)
abbrev Ta268 : Type := (Int×Ta262)
abbrev Ta269 : Type := (Bool×Ta260)
abbrev Ta270 : Type := (Unit×Ta261)
abbrev Ta271 : Type := (Bool×Ta263)
abbrev Ta272 : Type := ((L ((L Int)×Unit))×Ta247)
abbrev Ta273 : Type := (Bool×Ta266)
abbrev Ta274 : Type := ((L Int)×Ta265)
abbrev Ta275 : Type := (Int×Ta268)
abbrev Ty276 : Ty := (.pair Ty169 Ty163)
abbrev Ta277 : Type := (Int×Ta269)
abbrev Ta278 : Type := (Ta1×Ta246)
abbrev Ta279 : Type := (Bool×Ta271)
abbrev Ty280 : Ty := (.pair Ty119 Ty206)
abbrev Ta281 : Type := (Int×Ta275)
abbrev Ta282 : Type := (Unit×Ta273)
abbrev Ta283 : Type := (Ta18×Ta248)
abbrev Ta284 : Type := (Int×Ta277)
abbrev Ta285 : Type := (Int×Ta279)
abbrev Ta286 : Type := (Ta118×Ta216)
abbrev Ta287 : Type := (Int×Ta282)
abbrev Ta288 : Type := (Int×Ta284)
abbrev Ta289 : Type := (Bool×Ta281)
abbrev Ta290 : Type := (Int×Ta285)
abbrev Ta291 : Type := ((L (L Int))×Ta278)
abbrev Ta292 : Type := (Int×Ta288)
abbrev Ta293 : Type := (Unit×Ta287)
abbrev Ta294 : Type := (Unit×Ta289)
abbrev Ta295 : Type := (Int×Ta290)
abbrev Ta296 : Type := (Ta1×Ta272)
abbrev Ta297 : Type := (Bool×Ta292)
abbrev Ta298 : Type := (Int×Ta294)
abbrev Ta299 : Type := ((L Int)×Ta291)
abbrev Ta300 : Type := (Int×Ta295)
abbrev Ty301 : Ty := (.pair (.sl (.int .i64)) Ty276)
abbrev Ta302 : Type := ((L ((L Int)×Unit))×Ta283)
abbrev Ta303 : Type := (Ta6×Ta274)
abbrev Ta304 : Type := (Bool×Ta297)
abbrev Ta305 : Type := (Unit×Ta298)
abbrev Ta306 : Type := (Bool×Ta300)
abbrev Ty307 : Ty := (.pair (.sl (.sl (.int .u8))) Ty280)
abbrev Ta308 : Type := ((L (L Int))×Ta296)
abbrev Ta309 : Type := (Ta81×Ta264)
abbrev Ta310 : Type := (Int×Ta304)
abbrev Ta311 : Type := (Unit×Ta306)
abbrev Ta312 : Type := (Ta22×Ta286)
abbrev Ta313 : Type := ((L (L Int))×Ta303)
abbrev Ta314 : Type := (Int×Ta309)
abbrev Ta315 : Type := (Int×Ta310)
abbrev Ta316 : Type := (Int×Ta311)
abbrev Ta317 : Type := ((L Int)×Ta308)
abbrev Ty318 : Ty := (.pair .bool Ty307)
abbrev Ta319 : Type := (Int×Ta315)
abbrev Ta320 : Type := ((L Int)×Ta313)
abbrev Ta321 : Type := (Unit×Ta316)
abbrev Ta322 : Type := (Ta6×Ta299)
abbrev Ta323 : Type := (Ta1×Ta302)
abbrev Ta324 : Type := (Int×Ta319)
abbrev Ta325 : Type := (Bool×Ta324)
abbrev Ta326 : Type := ((L (L Int))×Ta322)
abbrev Ta327 : Type := ((L (L Int))×Ta323)
abbrev Ta328 : Type := ((Int×(Int×(Int×Unit)))×Ta314)
abbrev Ty329 : Ty := (.pair (.int .i64) Ty318)
abbrev Ta330 : Type := (Int×Ta328)
abbrev Ta331 : Type := (Ta6×Ta317)
abbrev Ta332 : Type := ((L (L Int))×Ta325)
abbrev Ta333 : Type := ((L Int)×Ta326)
abbrev Ta334 : Type := ((L Int)×Ta327)
abbrev Ta335 : Type := (Ta330×Unit)
abbrev Ta336 : Type := (Int×Ta332)
abbrev Ta337 : Type := ((L (L Int))×Ta331)
abbrev Ta338 : Type := ((L Int)×Ta336)
abbrev Ta339 : Type := ((Unit×Unit)×Ta335)
abbrev Ta340 : Type := (Ta112×Ta312)
abbrev Ta341 : Type := ((L Int)×Ta337)
abbrev Ta342 : Type := ((Unit×(Int×Unit))×Ta335)
abbrev Ta343 : Type := (Ta6×Ta334)
abbrev Ta344 : Type := ((Unit×(Int×(Int×Unit)))×Ta335)
abbrev Ta345 : Type := ((L (L Int))×Ta343)
abbrev Ty346 : Ty := (.pair Ty99 Ty329)
abbrev Ta347 : Type := ((L Int)×Ta345)
abbrev Ta348 : Type := (Ta43×Ta340)
abbrev Ta349 : Type := (Ta348×Unit)
abbrev Ta350 : Type := (Ta349×Unit)
abbrev Ta351 : Type := (Ta330×Ta186)
abbrev Ty352 : Ty := (.pair Ty267 Ty301)
abbrev Ty353 : Ty := (.pair (.int .i64) Ty352)
abbrev Ty354 : Ty := (.pair (.int .i64) Ty353)
abbrev Ty355 : Ty := (.pair (.int .i64) Ty354)
abbrev Ty356 : Ty := (.pair Ty225 Ty346)
abbrev Ta357 : Type := (Ta305×Ta333)
abbrev Ta358 : Type := (Ta293×Ta341)
abbrev Ta359 : Type := (Ta270×Ta347)
abbrev Ty360 : Ty := (.pair Ty151 Ty356)
abbrev Ta361 : Type := (Ta330×Ta349)
abbrev Ty362 : Ty := (.pair Ty229 Ty355)
abbrev Ta363 : Type := (Ta27×Ta361)
abbrev Ty364 : Ty := (.pair (.int .i64) Ty362)
abbrev Ta365 : Type := (Ta270×Ta357)
abbrev Ta366 : Type := (Ta270×Ta358)
abbrev Ta367 : Type := (Ta270×Ta359)
abbrev Ty368 : Ty := (.pair Ty129 Ty364)
abbrev Ty369 : Ty := (.pair Ty233 Ty360)
abbrev Ty370 : Ty := (.pair (.int .i64) Ty368)
abbrev Ty371 : Ty := (.pair Ty154 Ty369)
abbrev Ta372 : Type := (Ta348×Ta365)
abbrev Ta373 : Type := (Ta348×Ta366)
def om {α β : Type} (f : α → β) (o : Option α) : Option β := match o with
  | some y => some (f y)
  | none => none
def ob {α β : Type} (o : Option α) (f : α → Option β) : Option β := match o with
  | some y => f y
  | none => none
def Γ : TypeId → Option Ty := fun e => bif Nat.beq e 3 then some (.int .i64) else bif Nat.beq e 5 then some (.int .u8) else bif Nat.beq e 36 then some (.int .u32) else bif Nat.beq e 90 then some (.sl (.int .u8)) else bif Nat.beq e 96 then some Ty117 else bif Nat.beq e 173 then some Ty76 else bif Nat.beq e 175 then some Ty96 else bif Nat.beq e 177 then some Ty30 else bif Nat.beq e 179 then some Ty57 else bif Nat.beq e 186 then some Ty259 else bif Nat.beq e 191 then some Ty259 else bif Nat.beq e 194 then some Ty164 else bif Nat.beq e 196 then some Ty164 else bif Nat.beq e 198 then some Ty129 else bif Nat.beq e 200 then some Ty129 else bif Nat.beq e 208 then some Ty129 else bif Nat.beq e 222 then some Ty96 else bif Nat.beq e 224 then some Ty30 else bif Nat.beq e 226 then some Ty117 else bif Nat.beq e 282 then some Ty76 else bif Nat.beq e 333 then some Ty129 else bif Nat.beq e 342 then some Ty57 else none
theorem gamOk : GamOk Tryz.prog Γ := gamOk_of [3, 5, 36, 90, 96, 173, 175, 177, 179, 186, 191, 194, 196, 198, 200, 208, 222, 224, 226, 282, 333, 342] (fun e ty h => by
  simp only [Γ] at h
  cases h3 : Nat.beq e 3 with
  | true => simp [Nat.eq_of_beq_eq_true h3]
  | false =>
  simp only [h3, cond_false] at h
  cases h5 : Nat.beq e 5 with
  | true => simp [Nat.eq_of_beq_eq_true h5]
  | false =>
  simp only [h5, cond_false] at h
  cases h36 : Nat.beq e 36 with
  | true => simp [Nat.eq_of_beq_eq_true h36]
  | false =>
  simp only [h36, cond_false] at h
  cases h90 : Nat.beq e 90 with
  | true => simp [Nat.eq_of_beq_eq_true h90]
  | false =>
  simp only [h90, cond_false] at h
  cases h96 : Nat.beq e 96 with
  | true => simp [Nat.eq_of_beq_eq_true h96]
  | false =>
  simp only [h96, cond_false] at h
  cases h173 : Nat.beq e 173 with
  | true => simp [Nat.eq_of_beq_eq_true h173]
  | false =>
  simp only [h173, cond_false] at h
  cases h175 : Nat.beq e 175 with
  | true => simp [Nat.eq_of_beq_eq_true h175]
  | false =>
  simp only [h175, cond_false] at h
  cases h177 : Nat.beq e 177 with
  | true => simp [Nat.eq_of_beq_eq_true h177]
  | false =>
  simp only [h177, cond_false] at h
  cases h179 : Nat.beq e 179 with
  | true => simp [Nat.eq_of_beq_eq_true h179]
  | false =>
  simp only [h179, cond_false] at h
  cases h186 : Nat.beq e 186 with
  | true => simp [Nat.eq_of_beq_eq_true h186]
  | false =>
  simp only [h186, cond_false] at h
  cases h191 : Nat.beq e 191 with
  | true => simp [Nat.eq_of_beq_eq_true h191]
  | false =>
  simp only [h191, cond_false] at h
  cases h194 : Nat.beq e 194 with
  | true => simp [Nat.eq_of_beq_eq_true h194]
  | false =>
  simp only [h194, cond_false] at h
  cases h196 : Nat.beq e 196 with
  | true => simp [Nat.eq_of_beq_eq_true h196]
  | false =>
  simp only [h196, cond_false] at h
  cases h198 : Nat.beq e 198 with
  | true => simp [Nat.eq_of_beq_eq_true h198]
  | false =>
  simp only [h198, cond_false] at h
  cases h200 : Nat.beq e 200 with
  | true => simp [Nat.eq_of_beq_eq_true h200]
  | false =>
  simp only [h200, cond_false] at h
  cases h208 : Nat.beq e 208 with
  | true => simp [Nat.eq_of_beq_eq_true h208]
  | false =>
  simp only [h208, cond_false] at h
  cases h222 : Nat.beq e 222 with
  | true => simp [Nat.eq_of_beq_eq_true h222]
  | false =>
  simp only [h222, cond_false] at h
  cases h224 : Nat.beq e 224 with
  | true => simp [Nat.eq_of_beq_eq_true h224]
  | false =>
  simp only [h224, cond_false] at h
  cases h226 : Nat.beq e 226 with
  | true => simp [Nat.eq_of_beq_eq_true h226]
  | false =>
  simp only [h226, cond_false] at h
  cases h282 : Nat.beq e 282 with
  | true => simp [Nat.eq_of_beq_eq_true h282]
  | false =>
  simp only [h282, cond_false] at h
  cases h333 : Nat.beq e 333 with
  | true => simp [Nat.eq_of_beq_eq_true h333]
  | false =>
  simp only [h333, cond_false] at h
  cases h342 : Nat.beq e 342 with
  | true => simp [Nat.eq_of_beq_eq_true h342]
  | false =>
  simp only [h342, cond_false] at h
  cases h) (by kernel_rfl)
theorem mo : Tryz.prog.follows .mixedOrders = true := by kernel_rfl
theorem tn : TblOk Tryz.prog [] := tblOk_nil
theorem tc {f : Nat} {gs : List Nat} {c : Ctr} {r : Tbl} (h : Holds Tryz.prog f c) (hr : TblOk Tryz.prog r) : TblOk Tryz.prog ((f, gs, c) :: r) := tblOk_cons h hr
noncomputable def a0 : Nat → Option LoopAnn := fun _ => none
noncomputable def lg (l : List (Nat × Code)) (j : Nat) : Code := (l.getD j (0, .skip)).2
abbrev LW (T : Tbl) (A : Nat → Option LoopAnn) (l : List (Nat × Code)) (j ctx : Nat) (h : Shape) (es : List (XT × Shape)) (s : h.T → Option (h.T ⊕ ExT es)) : Prop := ∀ x : h.T, runK Tryz.prog Γ T A (lg l j) ctx (pkSh h x) (loopCls (sh := h) (es := es)) = (s x : Option _)
section
variable {k : Nat} {fn : Func} {c : Ctr}
theorem fhT (T : Tbl) (A : Nat → Option LoopAnn) (G : InsT c.ins → Option (TysT c.out × PtT c.ins)) (hf : Tryz.prog.funcs[k]? = some fn) (l : List (Nat × Code)) (hl : LoopsOk Tryz.prog Γ T A l) (hT : TblOk Tryz.prog T) (hn : ∀ x, G x = c.F x) (hr : ∀ x, fnK Tryz.prog Γ T A fn c x = G x := by intro x; kernel_rfl) (he : loopsIn (fn.body.getD .skip) 0 = l := by kernel_rfl) (h1 : (fn.name == "runtime.NumGoroutine") = false := by kernel_rfl) (h2 : fn.body = some (fn.body.getD .skip) := by kernel_rfl)
    (h3 : Nat.ble c.ins.length fn.ntmps = true := by kernel_rfl) (h4 : dstsOk fn.ntmps (fn.body.getD .skip) = true := by kernel_rfl) : Holds Tryz.prog k c :=
  fn_holds (code := fn.body.getD .skip) mo gamOk hT hf h1 h2 h3 h4 (by rw [he]; exact hl) (fun x _ h => (hr x).trans ((hn x).trans h))
theorem fh (T : Tbl) (A : Nat → Option LoopAnn) (hf : Tryz.prog.funcs[k]? = some fn) (l : List (Nat × Code)) (hl : LoopsOk Tryz.prog Γ T A l) (hT : TblOk Tryz.prog T) (hr : ∀ x, fnK Tryz.prog Γ T A fn c x = c.F x := by intro x; kernel_rfl) (he : loopsIn (fn.body.getD .skip) 0 = l := by kernel_rfl) (h1 : (fn.name == "runtime.NumGoroutine") = false := by kernel_rfl) (h2 : fn.body = some (fn.body.getD .skip) := by kernel_rfl)
    (h3 : Nat.ble c.ins.length fn.ntmps = true := by kernel_rfl) (h4 : dstsOk fn.ntmps (fn.body.getD .skip) = true := by kernel_rfl) : Holds Tryz.prog k c := fhT T A c.F hf l hl hT (fun _ => rfl) hr he h1 h2 h3 h4
theorem f0T (T : Tbl) (G : InsT c.ins → Option (TysT c.out × PtT c.ins)) (hf : Tryz.prog.funcs[k]? = some fn) (hT : TblOk Tryz.prog T) (hn : ∀ x, G x = c.F x) (hr : ∀ x, fnK Tryz.prog Γ T a0 fn c x = G x := by intro x; kernel_rfl) (he : loopsIn (fn.body.getD .skip) 0 = [] := by kernel_rfl) (h1 : (fn.name == "runtime.NumGoroutine") = false := by kernel_rfl) (h2 : fn.body = some (fn.body.getD .skip) := by kernel_rfl)
    (h3 : Nat.ble c.ins.length fn.ntmps = true := by kernel_rfl) (h4 : dstsOk fn.ntmps (fn.body.getD .skip) = true := by kernel_rfl) : Holds Tryz.prog k c := fhT T a0 G hf [] trivial hT hn hr he h1 h2 h3 h4
theorem f0 (T : Tbl) (hf : Tryz.prog.funcs[k]? = some fn) (hT : TblOk Tryz.prog T) (hr : ∀ x, fnK Tryz.prog Γ T a0 fn c x = c.F x := by intro x; kernel_rfl) (he : loopsIn (fn.body.getD .skip) 0 = [] := by kernel_rfl) (h1 : (fn.name == "runtime.NumGoroutine") = false := by kernel_rfl) (h2 : fn.body = some (fn.body.getD .skip) := by kernel_rfl)
    (h3 : Nat.ble c.ins.length fn.ntmps = true := by kernel_rfl) (h4 : dstsOk fn.ntmps (fn.body.getD .skip) = true := by kernel_rfl) : Holds Tryz.prog k c := fhT T a0 c.F hf [] trivial hT (fun _ => rfl) hr he h1 h2 h3 h4
end
noncomputable def t219:Tbl:=[]
noncomputable def g219 (x0:Ta12) (x1:Int):Option ((Int×Unit)×Unit) :=
bif (decide ((wI (x1 - (x0.len:Int))) < (0:Int))) then some (((-1:Int),()),()) else some (((wI (x1 - (x0.len:Int))),()),())
noncomputable def f219 (x0:Ta12) (x1:Int):Int :=
bif (decide ((wI (x1 - (x0.len:Int))) < (0:Int))) then (-1:Int) else (wI (x1 - (x0.len:Int)))
theorem n219 (x0:Ta12) (x1:Int):g219 x0 x1 = some ((f219 x0 x1,()),()):=by simp only [g219,f219,pull1]
noncomputable def c219:Ctr:={ ins:=[.v Ty138,.v (.int .i64)],out:=[(.int .i64)],F:=fun x=>some ((f219 x.1 x.2.1,()),()) }
theorem o219:Holds Tryz.prog 219 c219:=f0T t219 (fun x=>g219 x.1 x.2.1) Tryz.func219 tn (fun x=>n219 x.1 x.2.1)
noncomputable def t126:Tbl:=[(219,[],c219)]
noncomputable def g126 (x0:Ta136) (x1:Int):Option ((Int×Unit)×Unit) :=
bif (decide ((wI (x1 - (x0.1.size:Int))) < (0:Int))) then some (((-1:Int),()),()) else bif (decide ((f219 x0.2.2.2.1 (wI (x1 - (x0.1.size:Int)))) < (0:Int))) then some (((-1:Int),()),()) else some (((f219 x0.2.2.2.1 (wI (x1 - (x0.1.size:Int)))),()),())
noncomputable def f126 (x0:Ta136) (x1:Int):Int :=
bif (decide ((wI (x1 - (x0.1.size:Int))) < (0:Int))) then (-1:Int) else bif (decide ((f219 x0.2.2.2.1 (wI (x1 - (x0.1.size:Int)))) < (0:Int))) then (-1:Int) else (f219 x0.2.2.2.1 (wI (x1 - (x0.1.size:Int))))
theorem n126 (x0:Ta136) (x1:Int):g126 x0 x1 = some ((f126 x0 x1,()),()):=by simp only [g126,f126,pull1]
noncomputable def c126:Ctr:={ ins:=[.v Ty259,.v (.int .i64)],out:=[(.int .i64)],F:=fun x=>some ((f126 x.1 x.2.1,()),()) }
theorem o126:Holds Tryz.prog 126 c126:=f0T t126 (fun x=>g126 x.1 x.2.1) Tryz.func126 (tc o219 tn) (fun x=>n126 x.1 x.2.1)
noncomputable def t40:Tbl:=[(126,[],c126)]
abbrev h40_L0:Shape:={ slots:=[(0,.v Ty267),(1,.v (.int .i64)),(5,.v (.int .i64))],boxes:=[] }
abbrev e40_L0:List (XT×Shape):=[(.ret,{ slots:=[(4,.v (.int .i64))],boxes:=[] }),(.exit 0,{ slots:=[(1,.v (.int .i64))],boxes:=[] })]
noncomputable def q40_L0 (t0:Ta141) (t1:Int) (t5:Int):Option ((Ta170×Unit)⊕(((Int×Unit)×Unit)⊕(((Int×Unit)×Unit)⊕Empty))) :=
bif (decide (t5 < (t0.len:Int))) then bif (decide (0≤t5)&&decide (t5 < (t0.len:Int))) then bif (decide ((f126 (L.get t0 t5.toNat) t1) < (0:Int))) then some (.inr (.inl (((-1:Int),()),()))) else some (.inl ((t0,((f126 (L.get t0 t5.toNat) t1),((wI (t5 + (1:Int))),()))),())) else none else some (.inr (.inr (.inl ((t1,()),()))))
noncomputable def s40_L0 (x:(Ta170×Unit)):=q40_L0 x.1.1 x.1.2.1 x.1.2.2.1
noncomputable def a40:Nat→Option LoopAnn:=fun c=>bif Nat.beq c 0 then some (.fix h40_L0 e40_L0 s40_L0) else none
noncomputable def g40 (x0:Ta141) (x1:Int):Option ((Int×Unit)×Unit) :=
bif (decide ((wI (x1 - (x0.len:Int))) < (0:Int))) then some (((-1:Int),()),()) else (fixO s40_L0 ((x0,((wI (x1 - (x0.len:Int))),((0:Int),()))),())).bind fun d2=>match d2 with | .inl y1=>some ((y1.1.1,()),()) | .inr (.inl y1)=>some ((y1.1.1,()),()) | .inr (.inr e)=>nomatch e
noncomputable def c40:Ctr:={ ins:=[.v Ty267,.v (.int .i64)],out:=[(.int .i64)],F:=fun x=>g40 x.1 x.2.1 }
noncomputable def l40:List (Nat×Code):=loopsIn (Tryz.f40.body.getD .skip) 0
theorem w40_L0:LW t40 a40 l40 0 0 h40_L0 e40_L0 s40_L0:=fun x=>by kernel_rfl
theorem o40:Holds Tryz.prog 40 c40:=fh t40 a40 Tryz.func40 [(0,lg l40 0)] ⟨fun x d h=>(w40_L0 x).trans h,trivial⟩ (tc o126 tn)
noncomputable def t41:Tbl:=[]
noncomputable def g41 (x0:(L Int)) (x1:Int):Option ((Int×Unit)×Unit) :=
bif (decide ((wI (x1 - (x0.len:Int))) < (0:Int))) then some (((-1:Int),()),()) else some (((wI (x1 - (x0.len:Int))),()),())
noncomputable def f41 (x0:(L Int)) (x1:Int):Int :=
bif (decide ((wI (x1 - (x0.len:Int))) < (0:Int))) then (-1:Int) else (wI (x1 - (x0.len:Int)))
theorem n41 (x0:(L Int)) (x1:Int):g41 x0 x1 = some ((f41 x0 x1,()),()):=by simp only [g41,f41,pull1]
noncomputable def c41:Ctr:={ ins:=[.v (.sl (.int .i64)),.v (.int .i64)],out:=[(.int .i64)],F:=fun x=>some ((f41 x.1 x.2.1,()),()) }
theorem o41:Holds Tryz.prog 41 c41:=f0T t41 (fun x=>g41 x.1 x.2.1) Tryz.func41 tn (fun x=>n41 x.1 x.2.1)
noncomputable def t42:Tbl:=[]
noncomputable def g42 (x0:Ta36) (x1:Int):Option ((Int×Unit)×Unit) :=
bif (decide ((wI (x1 - (x0.len:Int))) < (0:Int))) then some (((-1:Int),()),()) else some (((wI (x1 - (x0.len:Int))),()),())
noncomputable def f42 (x0:Ta36) (x1:Int):Int :=
bif (decide ((wI (x1 - (x0.len:Int))) < (0:Int))) then (-1:Int) else (wI (x1 - (x0.len:Int)))
theorem n42 (x0:Ta36) (x1:Int):g42 x0 x1 = some ((f42 x0 x1,()),()):=by simp only [g42,f42,pull1]
noncomputable def c42:Ctr:={ ins:=[.v Ty169,.v (.int .i64)],out:=[(.int .i64)],F:=fun x=>some ((f42 x.1 x.2.1,()),()) }
theorem o42:Holds Tryz.prog 42 c42:=f0T t42 (fun x=>g42 x.1 x.2.1) Tryz.func42 tn (fun x=>n42 x.1 x.2.1)
noncomputable def t43:Tbl:=[]
noncomputable def g43 (x0:Ta12) (x1:Int):Option ((Int×Unit)×Unit) :=
bif (decide ((wI (x1 - (x0.len:Int))) < (0:Int))) then some (((-1:Int),()),()) else some (((wI (x1 - (x0.len:Int))),()),())
noncomputable def f43 (x0:Ta12) (x1:Int):Int :=
bif (decide ((wI (x1 - (x0.len:Int))) < (0:Int))) then (-1:Int) else (wI (x1 - (x0.len:Int)))
theorem n43 (x0:Ta12) (x1:Int):g43 x0 x1 = some ((f43 x0 x1,()),()):=by simp only [g43,f43,pull1]
noncomputable def c43:Ctr:={ ins:=[.v Ty138,.v (.int .i64)],out:=[(.int .i64)],F:=fun x=>some ((f43 x.1 x.2.1,()),()) }
theorem o43:Holds Tryz.prog 43 c43:=f0T t43 (fun x=>g43 x.1 x.2.1) Tryz.func43 tn (fun x=>n43 x.1 x.2.1)
noncomputable def t9:Tbl:=[(40,[],c40),(41,[],c41),(42,[],c42),(43,[],c43)]
noncomputable def g9 (x0:Ta330) (x1:Int):Option ((Int×Unit)×Unit) :=
(g40 x0.2.2.2.2.2.2.2.1 x1).bind fun y1=>bif (decide (y1.1.1 < (0:Int))) then some (((-1:Int),()),()) else bif (decide ((f41 x0.2.2.2.2.2.2.2.2.1 y1.1.1) < (0:Int))) then some (((-1:Int),()),()) else bif (decide ((f42 x0.2.2.2.2.2.2.2.2.2.1 (f41 x0.2.2.2.2.2.2.2.2.1 y1.1.1)) < (0:Int))) then some (((-1:Int),()),()) else bif (decide ((f43 x0.2.2.2.2.2.2.2.2.2.2.1 (f42 x0.2.2.2.2.2.2.2.2.2.1 (f41 x0.2.2.2.2.2.2.2.2.1 y1.1.1))) < (0:Int))) then some (((-1:Int),()),()) else some (((f43 x0.2.2.2.2.2.2.2.2.2.2.1 (f42 x0.2.2.2.2.2.2.2.2.2.1 (f41 x0.2.2.2.2.2.2.2.2.1 y1.1.1))),()),())
noncomputable def c9:Ctr:={ ins:=[.v Ty370,.v (.int .i64)],out:=[(.int .i64)],F:=fun x=>g9 x.1 x.2.1 }
theorem o9:Holds Tryz.prog 9 c9:=f0 t9 Tryz.func9 (tc o40 (tc o41 (tc o42 (tc o43 tn))))
noncomputable def t167:Tbl:=[]
noncomputable def g167 (x0:(L Int)) (x1:Int):Option ((Int×Unit)×Unit) :=
bif (decide ((wI (x1 - (x0.len:Int))) < (0:Int))) then some (((-1:Int),()),()) else some (((wI (x1 - (x0.len:Int))),()),())
noncomputable def f167 (x0:(L Int)) (x1:Int):Int :=
bif (decide ((wI (x1 - (x0.len:Int))) < (0:Int))) then (-1:Int) else (wI (x1 - (x0.len:Int)))
theorem n167 (x0:(L Int)) (x1:Int):g167 x0 x1 = some ((f167 x0 x1,()),()):=by simp only [g167,f167,pull1]
noncomputable def c167:Ctr:={ ins:=[.v (.sl (.int .u32)),.v (.int .i64)],out:=[(.int .i64)],F:=fun x=>some ((f167 x.1 x.2.1,()),()) }
theorem o167:Holds Tryz.prog 167 c167:=f0T t167 (fun x=>g167 x.1 x.2.1) Tryz.func167 tn (fun x=>n167 x.1 x.2.1)
noncomputable def t44:Tbl:=[]
noncomputable def g44 (x0:(L Int)) (x1:Int):Option ((Int×Unit)×Unit) :=
bif (decide ((wI (x1 - (x0.len:Int))) < (0:Int))) then some (((-1:Int),()),()) else some (((wI (x1 - (x0.len:Int))),()),())
noncomputable def f44 (x0:(L Int)) (x1:Int):Int :=
bif (decide ((wI (x1 - (x0.len:Int))) < (0:Int))) then (-1:Int) else (wI (x1 - (x0.len:Int)))
theorem n44 (x0:(L Int)) (x1:Int):g44 x0 x1 = some ((f44 x0 x1,()),()):=by simp only [g44,f44,pull1]
noncomputable def c44:Ctr:={ ins:=[.v (.sl (.int .u8)),.v (.int .i64)],out:=[(.int .i64)],F:=fun x=>some ((f44 x.1 x.2.1,()),()) }
theorem o44:Holds Tryz.prog 44 c44:=f0T t44 (fun x=>g44 x.1 x.2.1) Tryz.func44 tn (fun x=>n44 x.1 x.2.1)
noncomputable def t10:Tbl:=[(44,[],c44)]
abbrev h10_L0:Shape:={ slots:=[(0,.v (.sl (.sl (.int .u8)))),(1,.v (.int .i64)),(5,.v (.int .i64))],boxes:=[] }
abbrev e10_L0:List (XT×Shape):=[(.ret,{ slots:=[(4,.v (.int .i64))],boxes:=[] }),(.exit 0,{ slots:=[(1,.v (.int .i64))],boxes:=[] })]
noncomputable def q10_L0 (t0:(L (L Int))) (t1:Int) (t5:Int):Option (Ta50⊕(((Int×Unit)×Unit)⊕(((Int×Unit)×Unit)⊕Empty))) :=
bif (decide (t5 < (t0.len:Int))) then bif (decide (0≤t5)&&decide (t5 < (t0.len:Int))) then bif (decide ((f44 (L.get t0 t5.toNat) t1) < (0:Int))) then some (.inr (.inl (((-1:Int),()),()))) else some (.inl ((t0,((f44 (L.get t0 t5.toNat) t1),((wI (t5 + (1:Int))),()))),())) else none else some (.inr (.inr (.inl ((t1,()),()))))
noncomputable def s10_L0 (x:Ta50):=q10_L0 x.1.1 x.1.2.1 x.1.2.2.1
noncomputable def a10:Nat→Option LoopAnn:=fun c=>bif Nat.beq c 0 then some (.fix h10_L0 e10_L0 s10_L0) else none
noncomputable def g10 (x0:(L (L Int))) (x1:Int):Option ((Int×Unit)×Unit) :=
bif (decide ((wI (x1 - (x0.len:Int))) < (0:Int))) then some (((-1:Int),()),()) else (fixO s10_L0 ((x0,((wI (x1 - (x0.len:Int))),((0:Int),()))),())).bind fun d2=>match d2 with | .inl y1=>some ((y1.1.1,()),()) | .inr (.inl y1)=>some ((y1.1.1,()),()) | .inr (.inr e)=>nomatch e
noncomputable def c10:Ctr:={ ins:=[.v (.sl (.sl (.int .u8))),.v (.int .i64)],out:=[(.int .i64)],F:=fun x=>g10 x.1 x.2.1 }
noncomputable def l10:List (Nat×Code):=loopsIn (Tryz.f10.body.getD .skip) 0
theorem w10_L0:LW t10 a10 l10 0 0 h10_L0 e10_L0 s10_L0:=fun x=>by kernel_rfl
theorem o10:Holds Tryz.prog 10 c10:=fh t10 a10 Tryz.func10 [(0,lg l10 0)] ⟨fun x d h=>(w10_L0 x).trans h,trivial⟩ (tc o44 tn)
noncomputable def t90:Tbl:=[(167,[],c167),(10,[],c10)]
noncomputable def g90 (x0:Ta43) (x1:Int):Option ((Int×Unit)×Unit) :=
bif (decide ((f167 x0.1 x1) < (0:Int))) then some (((-1:Int),()),()) else (g10 x0.2.2.1 (f167 x0.1 x1)).bind fun y1=>bif (decide (y1.1.1 < (0:Int))) then some (((-1:Int),()),()) else some ((y1.1.1,()),())
noncomputable def c90:Ctr:={ ins:=[.v Ty154,.v (.int .i64)],out:=[(.int .i64)],F:=fun x=>g90 x.1 x.2.1 }
theorem o90:Holds Tryz.prog 90 c90:=f0 t90 Tryz.func90 (tc o167 (tc o10 tn))
noncomputable def t247:Tbl:=[]
noncomputable def g247 (x0:(L (Int×(Bool×Unit)))) (x1:Int):Option ((Int×Unit)×Unit) :=
bif (decide ((wI (x1 - (x0.len:Int))) < (0:Int))) then some (((-1:Int),()),()) else some (((wI (x1 - (x0.len:Int))),()),())
noncomputable def f247 (x0:(L (Int×(Bool×Unit)))) (x1:Int):Int :=
bif (decide ((wI (x1 - (x0.len:Int))) < (0:Int))) then (-1:Int) else (wI (x1 - (x0.len:Int)))
theorem n247 (x0:(L (Int×(Bool×Unit)))) (x1:Int):g247 x0 x1 = some ((f247 x0 x1,()),()):=by simp only [g247,f247,pull1]
noncomputable def c247:Ctr:={ ins:=[.v Ty76,.v (.int .i64)],out:=[(.int .i64)],F:=fun x=>some ((f247 x.1 x.2.1,()),()) }
theorem o247:Holds Tryz.prog 247 c247:=f0T t247 (fun x=>g247 x.1 x.2.1) Tryz.func247 tn (fun x=>n247 x.1 x.2.1)
noncomputable def t168:Tbl:=[(247,[],c247)]
abbrev h168_L0:Shape:={ slots:=[(0,.v Ty97),(1,.v (.int .i64)),(5,.v (.int .i64))],boxes:=[] }
abbrev e168_L0:List (XT×Shape):=[(.ret,{ slots:=[(4,.v (.int .i64))],boxes:=[] }),(.exit 0,{ slots:=[(1,.v (.int .i64))],boxes:=[] })]
noncomputable def q168_L0 (t0:Ta6) (t1:Int) (t5:Int):Option (Ta98⊕(((Int×Unit)×Unit)⊕(((Int×Unit)×Unit)⊕Empty))) :=
bif (decide (t5 < (t0.len:Int))) then bif (decide (0≤t5)&&decide (t5 < (t0.len:Int))) then bif (decide ((f247 (L.get t0 t5.toNat) t1) < (0:Int))) then some (.inr (.inl (((-1:Int),()),()))) else some (.inl ((t0,((f247 (L.get t0 t5.toNat) t1),((wI (t5 + (1:Int))),()))),())) else none else some (.inr (.inr (.inl ((t1,()),()))))
noncomputable def s168_L0 (x:Ta98):=q168_L0 x.1.1 x.1.2.1 x.1.2.2.1
noncomputable def a168:Nat→Option LoopAnn:=fun c=>bif Nat.beq c 0 then some (.fix h168_L0 e168_L0 s168_L0) else none
noncomputable def g168 (x0:Ta6) (x1:Int):Option ((Int×Unit)×Unit) :=
bif (decide ((wI (x1 - (x0.len:Int))) < (0:Int))) then some (((-1:Int),()),()) else (fixO s168_L0 ((x0,((wI (x1 - (x0.len:Int))),((0:Int),()))),())).bind fun d2=>match d2 with | .inl y1=>some ((y1.1.1,()),()) | .inr (.inl y1)=>some ((y1.1.1,()),()) | .inr (.inr e)=>nomatch e
noncomputable def c168:Ctr:={ ins:=[.v Ty97,.v (.int .i64)],out:=[(.int .i64)],F:=fun x=>g168 x.1 x.2.1 }
noncomputable def l168:List (Nat×Code):=loopsIn (Tryz.f168.body.getD .skip) 0
theorem w168_L0:LW t168 a168 l168 0 0 h168_L0 e168_L0 s168_L0:=fun x=>by kernel_rfl
theorem o168:Holds Tryz.prog 168 c168:=fh t168 a168 Tryz.func168 [(0,lg l168 0)] ⟨fun x d h=>(w168_L0 x).trans h,trivial⟩ (tc o247 tn)
noncomputable def t91:Tbl:=[(168,[],c168)]
noncomputable def g91 (x0:Ta118) (x1:Int):Option ((Int×Unit)×Unit) :=
(g168 x0.2.1 x1).bind fun y1=>bif (decide (y1.1.1 < (0:Int))) then some (((-1:Int),()),()) else some ((y1.1.1,()),())
noncomputable def c91:Ctr:={ ins:=[.v Ty225,.v (.int .i64)],out:=[(.int .i64)],F:=fun x=>g91 x.1 x.2.1 }
theorem o91:Holds Tryz.prog 91 c91:=f0 t91 Tryz.func91 (tc o168 tn)
noncomputable def t92:Tbl:=[(41,[],c41)]
noncomputable def g92 (x0:(Int×((L Int)×Unit))) (x1:Int):Option ((Int×Unit)×Unit) :=
bif (decide ((f41 x0.2.1 x1) < (0:Int))) then some (((-1:Int),()),()) else some (((f41 x0.2.1 x1),()),())
noncomputable def f92 (x0:(Int×((L Int)×Unit))) (x1:Int):Int :=
bif (decide ((f41 x0.2.1 x1) < (0:Int))) then (-1:Int) else (f41 x0.2.1 x1)
theorem n92 (x0:(Int×((L Int)×Unit))) (x1:Int):g92 x0 x1 = some ((f92 x0 x1,()),()):=by simp only [g92,f92,pull1]
noncomputable def c92:Ctr:={ ins:=[.v Ty99,.v (.int .i64)],out:=[(.int .i64)],F:=fun x=>some ((f92 x.1 x.2.1,()),()) }
theorem o92:Holds Tryz.prog 92 c92:=f0T t92 (fun x=>g92 x.1 x.2.1) Tryz.func92 (tc o41 tn) (fun x=>n92 x.1 x.2.1)
noncomputable def t169:Tbl:=[(167,[],c167)]
noncomputable def g169 (x0:(Int×((L Int)×Unit))) (x1:Int):Option ((Int×Unit)×Unit) :=
bif (decide ((f167 x0.2.1 x1) < (0:Int))) then some (((-1:Int),()),()) else some (((f167 x0.2.1 x1),()),())
noncomputable def f169 (x0:(Int×((L Int)×Unit))) (x1:Int):Int :=
bif (decide ((f167 x0.2.1 x1) < (0:Int))) then (-1:Int) else (f167 x0.2.1 x1)
theorem n169 (x0:(Int×((L Int)×Unit))) (x1:Int):g169 x0 x1 = some ((f169 x0 x1,()),()):=by simp only [g169,f169,pull1]
noncomputable def c169:Ctr:={ ins:=[.v Ty96,.v (.int .i64)],out:=[(.int .i64)],F:=fun x=>some ((f169 x.1 x.2.1,()),()) }
theorem o169:Holds Tryz.prog 169 c169:=f0T t169 (fun x=>g169 x.1 x.2.1) Tryz.func169 (tc o167 tn) (fun x=>n169 x.1 x.2.1)
noncomputable def t93:Tbl:=[(169,[],c169)]
abbrev h93_L0:Shape:={ slots:=[(0,.v Ty119),(1,.v (.int .i64)),(5,.v (.int .i64))],boxes:=[] }
abbrev e93_L0:List (XT×Shape):=[(.ret,{ slots:=[(4,.v (.int .i64))],boxes:=[] }),(.exit 0,{ slots:=[(1,.v (.int .i64))],boxes:=[] })]
noncomputable def q93_L0 (t0:Ta1) (t1:Int) (t5:Int):Option (Ta94⊕(((Int×Unit)×Unit)⊕(((Int×Unit)×Unit)⊕Empty))) :=
bif (decide (t5 < (t0.len:Int))) then bif (decide (0≤t5)&&decide (t5 < (t0.len:Int))) then bif (decide ((f169 (L.get t0 t5.toNat) t1) < (0:Int))) then some (.inr (.inl (((-1:Int),()),()))) else some (.inl ((t0,((f169 (L.get t0 t5.toNat) t1),((wI (t5 + (1:Int))),()))),())) else none else some (.inr (.inr (.inl ((t1,()),()))))
noncomputable def s93_L0 (x:Ta94):=q93_L0 x.1.1 x.1.2.1 x.1.2.2.1
noncomputable def a93:Nat→Option LoopAnn:=fun c=>bif Nat.beq c 0 then some (.fix h93_L0 e93_L0 s93_L0) else none
noncomputable def g93 (x0:Ta1) (x1:Int):Option ((Int×Unit)×Unit) :=
bif (decide ((wI (x1 - (x0.len:Int))) < (0:Int))) then some (((-1:Int),()),()) else (fixO s93_L0 ((x0,((wI (x1 - (x0.len:Int))),((0:Int),()))),())).bind fun d2=>match d2 with | .inl y1=>some ((y1.1.1,()),()) | .inr (.inl y1)=>some ((y1.1.1,()),()) | .inr (.inr e)=>nomatch e
noncomputable def c93:Ctr:={ ins:=[.v Ty119,.v (.int .i64)],out:=[(.int .i64)],F:=fun x=>g93 x.1 x.2.1 }
noncomputable def l93:List (Nat×Code):=loopsIn (Tryz.f93.body.getD .skip) 0
theorem w93_L0:LW t93 a93 l93 0 0 h93_L0 e93_L0 s93_L0:=fun x=>by kernel_rfl
theorem o93:Holds Tryz.prog 93 c93:=fh t93 a93 Tryz.func93 [(0,lg l93 0)] ⟨fun x d h=>(w93_L0 x).trans h,trivial⟩ (tc o169 tn)
noncomputable def t170:Tbl:=[(167,[],c167)]
noncomputable def g170 (x0:((L Int)×Unit)) (x1:Int):Option ((Int×Unit)×Unit) :=
bif (decide ((f167 x0.1 x1) < (0:Int))) then some (((-1:Int),()),()) else some (((f167 x0.1 x1),()),())
noncomputable def f170 (x0:((L Int)×Unit)) (x1:Int):Int :=
bif (decide ((f167 x0.1 x1) < (0:Int))) then (-1:Int) else (f167 x0.1 x1)
theorem n170 (x0:((L Int)×Unit)) (x1:Int):g170 x0 x1 = some ((f170 x0 x1,()),()):=by simp only [g170,f170,pull1]
noncomputable def c170:Ctr:={ ins:=[.v Ty30,.v (.int .i64)],out:=[(.int .i64)],F:=fun x=>some ((f170 x.1 x.2.1,()),()) }
theorem o170:Holds Tryz.prog 170 c170:=f0T t170 (fun x=>g170 x.1 x.2.1) Tryz.func170 (tc o167 tn) (fun x=>n170 x.1 x.2.1)
noncomputable def t94:Tbl:=[(170,[],c170)]
abbrev h94_L0:Shape:={ slots:=[(0,.v Ty51),(1,.v (.int .i64)),(5,.v (.int .i64))],boxes:=[] }
abbrev e94_L0:List (XT×Shape):=[(.ret,{ slots:=[(4,.v (.int .i64))],boxes:=[] }),(.exit 0,{ slots:=[(1,.v (.int .i64))],boxes:=[] })]
noncomputable def q94_L0 (t0:(L ((L Int)×Unit))) (t1:Int) (t5:Int):Option (Ta72⊕(((Int×Unit)×Unit)⊕(((Int×Unit)×Unit)⊕Empty))) :=
bif (decide (t5 < (t0.len:Int))) then bif (decide (0≤t5)&&decide (t5 < (t0.len:Int))) then bif (decide ((f170 (L.get t0 t5.toNat) t1) < (0:Int))) then some (.inr (.inl (((-1:Int),()),()))) else some (.inl ((t0,((f170 (L.get t0 t5.toNat) t1),((wI (t5 + (1:Int))),()))),())) else none else some (.inr (.inr (.inl ((t1,()),()))))
noncomputable def s94_L0 (x:Ta72):=q94_L0 x.1.1 x.1.2.1 x.1.2.2.1
noncomputable def a94:Nat→Option LoopAnn:=fun c=>bif Nat.beq c 0 then some (.fix h94_L0 e94_L0 s94_L0) else none
noncomputable def g94 (x0:(L ((L Int)×Unit))) (x1:Int):Option ((Int×Unit)×Unit) :=
bif (decide ((wI (x1 - (x0.len:Int))) < (0:Int))) then some (((-1:Int),()),()) else (fixO s94_L0 ((x0,((wI (x1 - (x0.len:Int))),((0:Int),()))),())).bind fun d2=>match d2 with | .inl y1=>some ((y1.1.1,()),()) | .inr (.inl y1)=>some ((y1.1.1,()),()) | .inr (.inr e)=>nomatch e
noncomputable def c94:Ctr:={ ins:=[.v Ty51,.v (.int .i64)],out:=[(.int .i64)],F:=fun x=>g94 x.1 x.2.1 }
noncomputable def l94:List (Nat×Code):=loopsIn (Tryz.f94.body.getD .skip) 0
theorem w94_L0:LW t94 a94 l94 0 0 h94_L0 e94_L0 s94_L0:=fun x=>by kernel_rfl
theorem o94:Holds Tryz.prog 94 c94:=fh t94 a94 Tryz.func94 [(0,lg l94 0)] ⟨fun x d h=>(w94_L0 x).trans h,trivial⟩ (tc o170 tn)
noncomputable def t171:Tbl:=[(167,[],c167)]
noncomputable def g171 (x0:Ta2) (x1:Int):Option ((Int×Unit)×Unit) :=
bif (decide ((f167 x0.1 x1) < (0:Int))) then some (((-1:Int),()),()) else bif (decide ((f167 x0.2.1 (f167 x0.1 x1)) < (0:Int))) then some (((-1:Int),()),()) else some (((f167 x0.2.1 (f167 x0.1 x1)),()),())
noncomputable def f171 (x0:Ta2) (x1:Int):Int :=
bif (decide ((f167 x0.1 x1) < (0:Int))) then (-1:Int) else bif (decide ((f167 x0.2.1 (f167 x0.1 x1)) < (0:Int))) then (-1:Int) else (f167 x0.2.1 (f167 x0.1 x1))
theorem n171 (x0:Ta2) (x1:Int):g171 x0 x1 = some ((f171 x0 x1,()),()):=by simp only [g171,f171,pull1]
noncomputable def c171:Ctr:={ ins:=[.v Ty117,.v (.int .i64)],out:=[(.int .i64)],F:=fun x=>some ((f171 x.1 x.2.1,()),()) }
theorem o171:Holds Tryz.prog 171 c171:=f0T t171 (fun x=>g171 x.1 x.2.1) Tryz.func171 (tc o167 tn) (fun x=>n171 x.1 x.2.1)
noncomputable def t95:Tbl:=[(171,[],c171)]
abbrev h95_L0:Shape:={ slots:=[(0,.v Ty125),(1,.v (.int .i64)),(5,.v (.int .i64))],boxes:=[] }
abbrev e95_L0:List (XT×Shape):=[(.ret,{ slots:=[(4,.v (.int .i64))],boxes:=[] }),(.exit 0,{ slots:=[(1,.v (.int .i64))],boxes:=[] })]
noncomputable def q95_L0 (t0:Ta18) (t1:Int) (t5:Int):Option (Ta111⊕(((Int×Unit)×Unit)⊕(((Int×Unit)×Unit)⊕Empty))) :=
bif (decide (t5 < (t0.len:Int))) then bif (decide (0≤t5)&&decide (t5 < (t0.len:Int))) then bif (decide ((f171 (L.get t0 t5.toNat) t1) < (0:Int))) then some (.inr (.inl (((-1:Int),()),()))) else some (.inl ((t0,((f171 (L.get t0 t5.toNat) t1),((wI (t5 + (1:Int))),()))),())) else none else some (.inr (.inr (.inl ((t1,()),()))))
noncomputable def s95_L0 (x:Ta111):=q95_L0 x.1.1 x.1.2.1 x.1.2.2.1
noncomputable def a95:Nat→Option LoopAnn:=fun c=>bif Nat.beq c 0 then some (.fix h95_L0 e95_L0 s95_L0) else none
noncomputable def g95 (x0:Ta18) (x1:Int):Option ((Int×Unit)×Unit) :=
bif (decide ((wI (x1 - (x0.len:Int))) < (0:Int))) then some (((-1:Int),()),()) else (fixO s95_L0 ((x0,((wI (x1 - (x0.len:Int))),((0:Int),()))),())).bind fun d2=>match d2 with | .inl y1=>some ((y1.1.1,()),()) | .inr (.inl y1)=>some ((y1.1.1,()),()) | .inr (.inr e)=>nomatch e
noncomputable def c95:Ctr:={ ins:=[.v Ty125,.v (.int .i64)],out:=[(.int .i64)],F:=fun x=>g95 x.1 x.2.1 }
noncomputable def l95:List (Nat×Code):=loopsIn (Tryz.f95.body.getD .skip) 0
theorem w95_L0:LW t95 a95 l95 0 0 h95_L0 e95_L0 s95_L0:=fun x=>by kernel_rfl
theorem o95:Holds Tryz.prog 95 c95:=fh t95 a95 Tryz.func95 [(0,lg l95 0)] ⟨fun x d h=>(w95_L0 x).trans h,trivial⟩ (tc o171 tn)
noncomputable def t22:Tbl:=[(90,[],c90),(91,[],c91),(92,[],c92),(10,[],c10),(93,[],c93),(94,[],c94),(95,[],c95)]
noncomputable def g22 (x0:Ta348) (x1:Int):Option ((Int×Unit)×Unit) :=
(g90 x0.1 x1).bind fun y1=>bif (decide (y1.1.1 < (0:Int))) then some (((-1:Int),()),()) else (g91 x0.2.2.2.1 y1.1.1).bind fun y2=>bif (decide (y2.1.1 < (0:Int))) then some (((-1:Int),()),()) else bif (decide ((f92 x0.2.2.2.2.1 y2.1.1) < (0:Int))) then some (((-1:Int),()),()) else (g10 x0.2.2.2.2.2.2.2.1 (f92 x0.2.2.2.2.1 y2.1.1)).bind fun y3=>bif (decide (y3.1.1 < (0:Int))) then some (((-1:Int),()),()) else (g93 x0.2.2.2.2.2.2.2.2.1 y3.1.1).bind fun y4=>bif (decide (y4.1.1 < (0:Int))) then some (((-1:Int),()),()) else (g94 x0.2.2.2.2.2.2.2.2.2.1 y4.1.1).bind fun y5=>bif (decide (y5.1.1 < (0:Int))) then some (((-1:Int),()),()) else (g95 x0.2.2.2.2.2.2.2.2.2.2.1 y5.1.1).bind fun y6=>bif (decide (y6.1.1 < (0:Int))) then some (((-1:Int),()),()) else some ((y6.1.1,()),())
noncomputable def c22:Ctr:={ ins:=[.v Ty371,.v (.int .i64)],out:=[(.int .i64)],F:=fun x=>g22 x.1 x.2.1 }
theorem o22:Holds Tryz.prog 22 c22:=f0 t22 Tryz.func22 (tc o90 (tc o91 (tc o92 (tc o10 (tc o93 (tc o94 (tc o95 tn)))))))
noncomputable def t47:Tbl:=[]
noncomputable def g47 (x0:(Int×(Int×(Int×Unit)))):Option Ta49 :=
some ((x0,()),())
noncomputable def f47 (x0:(Int×(Int×(Int×Unit)))):(Int×(Int×(Int×Unit))) :=
x0
theorem n47 (x0:(Int×(Int×(Int×Unit)))):g47 x0 = some ((f47 x0,()),()):=by simp only [g47,f47,pull1]
noncomputable def c47:Ctr:={ ins:=[.v Ty129],out:=[Ty129],F:=fun x=>some ((f47 x.1,()),()) }
theorem o47:Holds Tryz.prog 47 c47:=f0T t47 (fun x=>g47 x.1) Tryz.func47 tn (fun x=>n47 x.1)
noncomputable def t48:Tbl:=[]
noncomputable def g48 (x0:Ta81):Option (Ta109×Unit) :=
some ((x0,()),())
noncomputable def f48 (x0:Ta81):Ta81 :=
x0
theorem n48 (x0:Ta81):g48 x0 = some ((f48 x0,()),()):=by simp only [g48,f48,pull1]
noncomputable def c48:Ctr:={ ins:=[.v Ty229],out:=[Ty229],F:=fun x=>some ((f48 x.1,()),()) }
theorem o48:Holds Tryz.prog 48 c48:=f0T t48 (fun x=>g48 x.1) Tryz.func48 tn (fun x=>n48 x.1)
noncomputable def t224:Tbl:=[]
noncomputable def g224 (x0:(Int×(Int×Unit))):Option (((Int×(Int×Unit))×Unit)×Unit) :=
some ((x0,()),())
noncomputable def f224 (x0:(Int×(Int×Unit))):(Int×(Int×Unit)) :=
x0
theorem n224 (x0:(Int×(Int×Unit))):g224 x0 = some ((f224 x0,()),()):=by simp only [g224,f224,pull1]
noncomputable def c224:Ctr:={ ins:=[.v Ty77],out:=[Ty77],F:=fun x=>some ((f224 x.1,()),()) }
theorem o224:Holds Tryz.prog 224 c224:=f0T t224 (fun x=>g224 x.1) Tryz.func224 tn (fun x=>n224 x.1)
noncomputable def t298:Tbl:=[]
noncomputable def g298 (x0:(Int×(Int×(Int×Unit)))):Option Ta49 :=
some ((x0,()),())
noncomputable def f298 (x0:(Int×(Int×(Int×Unit)))):(Int×(Int×(Int×Unit))) :=
x0
theorem n298 (x0:(Int×(Int×(Int×Unit)))):g298 x0 = some ((f298 x0,()),()):=by simp only [g298,f298,pull1]
noncomputable def c298:Ctr:={ ins:=[.v Ty129],out:=[Ty129],F:=fun x=>some ((f298 x.1,()),()) }
theorem o298:Holds Tryz.prog 298 c298:=f0T t298 (fun x=>g298 x.1) Tryz.func298 tn (fun x=>n298 x.1)
noncomputable def t225r:Tbl:=[(298,[],c298)]
abbrev h225r_L0:Shape:={ slots:=[(0,.v Ty138),(3,.ms 7),(4,.v (.int .i64))],boxes:=[(7,.row Ty129)] }
abbrev e225r_L0:List (XT×Shape):=[(.exit 0,{ slots:=[(3,.ms 7)],boxes:=[(7,.row Ty129)] })]
noncomputable def q225r_L0 (t0:Ta12) (t4:Int) (r7:Ta12):Option (Ta155⊕(Ta87⊕Empty)) :=
bif (decide (t4 < (t0.len:Int))) then bif (decide (0≤t4)&&decide (t4 < (t0.len:Int))) then bif (decide (0≤t4)&&decide (t4 < (r7.len:Int))) then some (.inl ((t0,((),((wI (t4 + (1:Int))),()))),((L.set r7 t4.toNat (f298 (L.get t0 t4.toNat))),()))) else none else none else some (.inr (.inl (((),()),(r7,()))))
noncomputable def s225r_L0 (x:Ta155):=q225r_L0 x.1.1 x.1.2.2.1 x.2.1
noncomputable def a225r:Nat→Option LoopAnn:=fun c=>bif Nat.beq c 0 then some (.fix h225r_L0 e225r_L0 s225r_L0) else none
noncomputable def g225r (x0:Ta12):Option Ta63 :=
bif (decide ((x0.len:Int) = (x0.len:Int))&&(decide (0≤(x0.len:Int))&&(decide ((x0.len:Int)≤2 ^ 40)&&decide (24 * (x0.len:Int)≤2 ^ 48)))) then ((fixO s225r_L0 ((x0,((),((0:Int),()))),((L.rep (x0.len:Int).toNat (Ty.zero Ty129)),()))).bind fun d2=>match d2 with | .inl y1=>some ((y1.2.1,()),()) | .inr e=>nomatch e) else none
noncomputable def c225r:Ctr:={ ins:=[.v Ty138],out:=[Ty138],F:=fun x=>g225r x.1,fr:=1 }
noncomputable def l225r:List (Nat×Code):=loopsIn (Tryz.f225.body.getD .skip) 0
theorem w225r_L0:LW t225r a225r l225r 0 0 h225r_L0 e225r_L0 s225r_L0:=fun x=>by kernel_rfl
theorem o225r:Holds Tryz.prog 225 c225r:=fh t225r a225r Tryz.func225 [(0,lg l225r 0)] ⟨fun x d h=>(w225r_L0 x).trans h,trivial⟩ (tc o298 tn)
noncomputable def t131r:Tbl:=[(224,[],c224),(225,[],c225r)]
noncomputable def g131r (x0:Ta136):Option (Ta146×Unit) :=
(g225r x0.2.2.2.1).bind fun y1=>some (((x0.1,(x0.2.1,((f224 x0.2.2.1),y1.1))),()),())
noncomputable def c131r:Ctr:={ ins:=[.v Ty259],out:=[Ty259],F:=fun x=>g131r x.1,fr:=1 }
theorem o131r:Holds Tryz.prog 131 c131r:=f0 t131r Tryz.func131 (tc o224 (tc o225r tn))
noncomputable def t49r:Tbl:=[(131,[],c131r)]
abbrev h49r_L0:Shape:={ slots:=[(0,.v Ty267),(3,.ms 7),(4,.v (.int .i64))],boxes:=[(7,.row Ty259)] }
abbrev e49r_L0:List (XT×Shape):=[(.exit 0,{ slots:=[(3,.ms 7)],boxes:=[(7,.row Ty259)] })]
noncomputable def q49r_L0 (t0:Ta141) (t4:Int) (r7:Ta141):Option ((Ta172×Ta153)⊕(((Unit×Unit)×Ta153)⊕Empty)) :=
bif (decide (t4 < (t0.len:Int))) then bif (decide (0≤t4)&&decide (t4 < (t0.len:Int))) then (g131r (L.get t0 t4.toNat)).bind fun y1=>bif (decide (0≤t4)&&decide (t4 < (r7.len:Int))) then some (.inl ((t0,((),((wI (t4 + (1:Int))),()))),((L.set r7 t4.toNat (y1.1.1.1,(y1.1.1.2.1,(y1.1.1.2.2.1,y1.1.1.2.2.2)))),()))) else none else none else some (.inr (.inl (((),()),(r7,()))))
noncomputable def s49r_L0 (x:(Ta172×Ta153)):=q49r_L0 x.1.1 x.1.2.2.1 x.2.1
noncomputable def a49r:Nat→Option LoopAnn:=fun c=>bif Nat.beq c 0 then some (.fix h49r_L0 e49r_L0 s49r_L0) else none
noncomputable def g49r (x0:Ta141):Option (Ta153×Unit) :=
bif (decide ((x0.len:Int) = (x0.len:Int))&&(decide (0≤(x0.len:Int))&&(decide ((x0.len:Int)≤2 ^ 40)&&decide (64 * (x0.len:Int)≤2 ^ 48)))) then ((fixO s49r_L0 ((x0,((),((0:Int),()))),((L.rep (x0.len:Int).toNat (Ty.zero Ty259)),()))).bind fun d3=>match d3 with | .inl y2=>some ((y2.2.1,()),()) | .inr e=>nomatch e) else none
noncomputable def c49r:Ctr:={ ins:=[.v Ty267],out:=[Ty267],F:=fun x=>g49r x.1,fr:=1 }
noncomputable def l49r:List (Nat×Code):=loopsIn (Tryz.f49.body.getD .skip) 0
theorem w49r_L0:LW t49r a49r l49r 0 0 h49r_L0 e49r_L0 s49r_L0:=fun x=>by kernel_rfl
theorem o49r:Holds Tryz.prog 49 c49r:=fh t49r a49r Tryz.func49 [(0,lg l49r 0)] ⟨fun x d h=>(w49r_L0 x).trans h,trivial⟩ (tc o131r tn)
noncomputable def t50r:Tbl:=[]
abbrev h50r_L0:Shape:={ slots:=[(0,.v (.sl (.int .i64))),(3,.ms 7),(4,.v (.int .i64))],boxes:=[(7,.row (.int .i64))] }
abbrev e50r_L0:List (XT×Shape):=[(.exit 0,{ slots:=[(3,.ms 7)],boxes:=[(7,.row (.int .i64))] })]
noncomputable def q50r_L0 (t0:(L Int)) (t4:Int) (r7:(L Int)):Option (Ta73⊕(Ta19⊕Empty)) :=
bif (decide (t4 < (t0.len:Int))) then bif (decide (0≤t4)&&decide (t4 < (t0.len:Int))) then bif (decide (0≤t4)&&decide (t4 < (r7.len:Int))) then some (.inl ((t0,((),((wI (t4 + (1:Int))),()))),((L.set r7 t4.toNat (L.get t0 t4.toNat)),()))) else none else none else some (.inr (.inl (((),()),(r7,()))))
noncomputable def s50r_L0 (x:Ta73):=q50r_L0 x.1.1 x.1.2.2.1 x.2.1
noncomputable def a50r:Nat→Option LoopAnn:=fun c=>bif Nat.beq c 0 then some (.fix h50r_L0 e50r_L0 s50r_L0) else none
noncomputable def g50r (x0:(L Int)):Option (((L Int)×Unit)×Unit) :=
bif (decide ((x0.len:Int) = (x0.len:Int))&&(decide (0≤(x0.len:Int))&&(decide ((x0.len:Int)≤2 ^ 40)&&decide (8 * (x0.len:Int)≤2 ^ 48)))) then ((fixO s50r_L0 ((x0,((),((0:Int),()))),((L.rep (x0.len:Int).toNat (Ty.zero (.int .i64))),()))).bind fun d2=>match d2 with | .inl y1=>some ((y1.2.1,()),()) | .inr e=>nomatch e) else none
noncomputable def c50r:Ctr:={ ins:=[.v (.sl (.int .i64))],out:=[(.sl (.int .i64))],F:=fun x=>g50r x.1,fr:=1 }
noncomputable def l50r:List (Nat×Code):=loopsIn (Tryz.f50.body.getD .skip) 0
theorem w50r_L0:LW t50r a50r l50r 0 0 h50r_L0 e50r_L0 s50r_L0:=fun x=>by kernel_rfl
theorem o50r:Holds Tryz.prog 50 c50r:=fh t50r a50r Tryz.func50 [(0,lg l50r 0)] ⟨fun x d h=>(w50r_L0 x).trans h,trivial⟩ tn
noncomputable def t132:Tbl:=[]
noncomputable def g132 (x0:Ta17):Option ((Ta17×Unit)×Unit) :=
some ((x0,()),())
noncomputable def f132 (x0:Ta17):Ta17 :=
x0
theorem n132 (x0:Ta17):g132 x0 = some ((f132 x0,()),()):=by simp only [g132,f132,pull1]
noncomputable def c132:Ctr:={ ins:=[.v Ty164],out:=[Ty164],F:=fun x=>some ((f132 x.1,()),()) }
theorem o132:Holds Tryz.prog 132 c132:=f0T t132 (fun x=>g132 x.1) Tryz.func132 tn (fun x=>n132 x.1)
noncomputable def t51r:Tbl:=[(132,[],c132)]
abbrev h51r_L0:Shape:={ slots:=[(0,.v Ty169),(3,.ms 7),(4,.v (.int .i64))],boxes:=[(7,.row Ty164)] }
abbrev e51r_L0:List (XT×Shape):=[(.exit 0,{ slots:=[(3,.ms 7)],boxes:=[(7,.row Ty164)] })]
noncomputable def q51r_L0 (t0:Ta36) (t4:Int) (r7:Ta36):Option (((Ta36×(Unit×(Int×Unit)))×Ta59)⊕(((Unit×Unit)×Ta59)⊕Empty)) :=
bif (decide (t4 < (t0.len:Int))) then bif (decide (0≤t4)&&decide (t4 < (t0.len:Int))) then bif (decide (0≤t4)&&decide (t4 < (r7.len:Int))) then some (.inl ((t0,((),((wI (t4 + (1:Int))),()))),((L.set r7 t4.toNat (f132 (L.get t0 t4.toNat))),()))) else none else none else some (.inr (.inl (((),()),(r7,()))))
noncomputable def s51r_L0 (x:((Ta36×(Unit×(Int×Unit)))×Ta59)):=q51r_L0 x.1.1 x.1.2.2.1 x.2.1
noncomputable def a51r:Nat→Option LoopAnn:=fun c=>bif Nat.beq c 0 then some (.fix h51r_L0 e51r_L0 s51r_L0) else none
noncomputable def g51r (x0:Ta36):Option (Ta59×Unit) :=
bif (decide ((x0.len:Int) = (x0.len:Int))&&(decide (0≤(x0.len:Int))&&(decide ((x0.len:Int)≤2 ^ 40)&&decide (32 * (x0.len:Int)≤2 ^ 48)))) then ((fixO s51r_L0 ((x0,((),((0:Int),()))),((L.rep (x0.len:Int).toNat (Ty.zero Ty164)),()))).bind fun d2=>match d2 with | .inl y1=>some ((y1.2.1,()),()) | .inr e=>nomatch e) else none
noncomputable def c51r:Ctr:={ ins:=[.v Ty169],out:=[Ty169],F:=fun x=>g51r x.1,fr:=1 }
noncomputable def l51r:List (Nat×Code):=loopsIn (Tryz.f51.body.getD .skip) 0
theorem w51r_L0:LW t51r a51r l51r 0 0 h51r_L0 e51r_L0 s51r_L0:=fun x=>by kernel_rfl
theorem o51r:Holds Tryz.prog 51 c51r:=fh t51r a51r Tryz.func51 [(0,lg l51r 0)] ⟨fun x d h=>(w51r_L0 x).trans h,trivial⟩ (tc o132 tn)
noncomputable def t133:Tbl:=[]
noncomputable def g133 (x0:(Int×(Int×(Int×Unit)))):Option Ta49 :=
some ((x0,()),())
noncomputable def f133 (x0:(Int×(Int×(Int×Unit)))):(Int×(Int×(Int×Unit))) :=
x0
theorem n133 (x0:(Int×(Int×(Int×Unit)))):g133 x0 = some ((f133 x0,()),()):=by simp only [g133,f133,pull1]
noncomputable def c133:Ctr:={ ins:=[.v Ty129],out:=[Ty129],F:=fun x=>some ((f133 x.1,()),()) }
theorem o133:Holds Tryz.prog 133 c133:=f0T t133 (fun x=>g133 x.1) Tryz.func133 tn (fun x=>n133 x.1)
noncomputable def t52r:Tbl:=[(133,[],c133)]
abbrev h52r_L0:Shape:={ slots:=[(0,.v Ty138),(3,.ms 7),(4,.v (.int .i64))],boxes:=[(7,.row Ty129)] }
abbrev e52r_L0:List (XT×Shape):=[(.exit 0,{ slots:=[(3,.ms 7)],boxes:=[(7,.row Ty129)] })]
noncomputable def q52r_L0 (t0:Ta12) (t4:Int) (r7:Ta12):Option (Ta155⊕(Ta87⊕Empty)) :=
bif (decide (t4 < (t0.len:Int))) then bif (decide (0≤t4)&&decide (t4 < (t0.len:Int))) then bif (decide (0≤t4)&&decide (t4 < (r7.len:Int))) then some (.inl ((t0,((),((wI (t4 + (1:Int))),()))),((L.set r7 t4.toNat (f133 (L.get t0 t4.toNat))),()))) else none else none else some (.inr (.inl (((),()),(r7,()))))
noncomputable def s52r_L0 (x:Ta155):=q52r_L0 x.1.1 x.1.2.2.1 x.2.1
noncomputable def a52r:Nat→Option LoopAnn:=fun c=>bif Nat.beq c 0 then some (.fix h52r_L0 e52r_L0 s52r_L0) else none
noncomputable def g52r (x0:Ta12):Option Ta63 :=
bif (decide ((x0.len:Int) = (x0.len:Int))&&(decide (0≤(x0.len:Int))&&(decide ((x0.len:Int)≤2 ^ 40)&&decide (24 * (x0.len:Int)≤2 ^ 48)))) then ((fixO s52r_L0 ((x0,((),((0:Int),()))),((L.rep (x0.len:Int).toNat (Ty.zero Ty129)),()))).bind fun d2=>match d2 with | .inl y1=>some ((y1.2.1,()),()) | .inr e=>nomatch e) else none
noncomputable def c52r:Ctr:={ ins:=[.v Ty138],out:=[Ty138],F:=fun x=>g52r x.1,fr:=1 }
noncomputable def l52r:List (Nat×Code):=loopsIn (Tryz.f52.body.getD .skip) 0
theorem w52r_L0:LW t52r a52r l52r 0 0 h52r_L0 e52r_L0 s52r_L0:=fun x=>by kernel_rfl
theorem o52r:Holds Tryz.prog 52 c52r:=fh t52r a52r Tryz.func52 [(0,lg l52r 0)] ⟨fun x d h=>(w52r_L0 x).trans h,trivial⟩ (tc o133 tn)
noncomputable def t12r:Tbl:=[(47,[],c47),(48,[],c48),(49,[],c49r),(50,[],c50r),(51,[],c51r),(52,[],c52r)]
noncomputable def g12r (x0:Ta330):Option (Ta335×Unit) :=
(g49r x0.2.2.2.2.2.2.2.1).bind fun y1=>(g50r x0.2.2.2.2.2.2.2.2.1).bind fun y2=>(g51r x0.2.2.2.2.2.2.2.2.2.1).bind fun y3=>(g52r x0.2.2.2.2.2.2.2.2.2.2.1).bind fun y4=>some (((x0.1,((f47 x0.2.1),(x0.2.2.1,((f48 x0.2.2.2.1),(x0.2.2.2.2.1,(x0.2.2.2.2.2.1,(x0.2.2.2.2.2.2.1,(y1.1.1,(y2.1.1,(y3.1.1,y4.1)))))))))),()),())
noncomputable def c12r:Ctr:={ ins:=[.v Ty370],out:=[Ty370],F:=fun x=>g12r x.1,fr:=1 }
theorem o12r:Holds Tryz.prog 12 c12r:=f0 t12r Tryz.func12 (tc o47 (tc o48 (tc o49r (tc o50r (tc o51r (tc o52r tn))))))
noncomputable def t181r:Tbl:=[]
abbrev h181r_L0:Shape:={ slots:=[(0,.v (.sl (.int .u32))),(3,.ms 7),(4,.v (.int .i64))],boxes:=[(7,.row (.int .u32))] }
abbrev e181r_L0:List (XT×Shape):=[(.exit 0,{ slots:=[(3,.ms 7)],boxes:=[(7,.row (.int .u32))] })]
noncomputable def q181r_L0 (t0:(L Int)) (t4:Int) (r7:(L Int)):Option (Ta73⊕(Ta19⊕Empty)) :=
bif (decide (t4 < (t0.len:Int))) then bif (decide (0≤t4)&&decide (t4 < (t0.len:Int))) then bif (decide (0≤t4)&&decide (t4 < (r7.len:Int))) then some (.inl ((t0,((),((wI (t4 + (1:Int))),()))),((L.set r7 t4.toNat (L.get t0 t4.toNat)),()))) else none else none else some (.inr (.inl (((),()),(r7,()))))
noncomputable def s181r_L0 (x:Ta73):=q181r_L0 x.1.1 x.1.2.2.1 x.2.1
noncomputable def a181r:Nat→Option LoopAnn:=fun c=>bif Nat.beq c 0 then some (.fix h181r_L0 e181r_L0 s181r_L0) else none
noncomputable def g181r (x0:(L Int)):Option (((L Int)×Unit)×Unit) :=
bif (decide ((x0.len:Int) = (x0.len:Int))&&(decide (0≤(x0.len:Int))&&(decide ((x0.len:Int)≤2 ^ 40)&&decide (4 * (x0.len:Int)≤2 ^ 48)))) then ((fixO s181r_L0 ((x0,((),((0:Int),()))),((L.rep (x0.len:Int).toNat (Ty.zero (.int .u32))),()))).bind fun d2=>match d2 with | .inl y1=>some ((y1.2.1,()),()) | .inr e=>nomatch e) else none
noncomputable def c181r:Ctr:={ ins:=[.v (.sl (.int .u32))],out:=[(.sl (.int .u32))],F:=fun x=>g181r x.1,fr:=1 }
noncomputable def l181r:List (Nat×Code):=loopsIn (Tryz.f181.body.getD .skip) 0
theorem w181r_L0:LW t181r a181r l181r 0 0 h181r_L0 e181r_L0 s181r_L0:=fun x=>by kernel_rfl
theorem o181r:Holds Tryz.prog 181 c181r:=fh t181r a181r Tryz.func181 [(0,lg l181r 0)] ⟨fun x d h=>(w181r_L0 x).trans h,trivial⟩ tn
noncomputable def t53r:Tbl:=[]
abbrev h53r_L0:Shape:={ slots:=[(0,.v (.sl (.int .u8))),(3,.ms 7),(4,.v (.int .i64))],boxes:=[(7,.row (.int .u8))] }
abbrev e53r_L0:List (XT×Shape):=[(.exit 0,{ slots:=[(3,.ms 7)],boxes:=[(7,.row (.int .u8))] })]
noncomputable def q53r_L0 (t0:(L Int)) (t4:Int) (r7:(L Int)):Option (Ta73⊕(Ta19⊕Empty)) :=
bif (decide (t4 < (t0.len:Int))) then bif (decide (0≤t4)&&decide (t4 < (t0.len:Int))) then bif (decide (0≤t4)&&decide (t4 < (r7.len:Int))) then some (.inl ((t0,((),((wI (t4 + (1:Int))),()))),((L.set r7 t4.toNat (L.get t0 t4.toNat)),()))) else none else none else some (.inr (.inl (((),()),(r7,()))))
noncomputable def s53r_L0 (x:Ta73):=q53r_L0 x.1.1 x.1.2.2.1 x.2.1
noncomputable def a53r:Nat→Option LoopAnn:=fun c=>bif Nat.beq c 0 then some (.fix h53r_L0 e53r_L0 s53r_L0) else none
noncomputable def g53r (x0:(L Int)):Option (((L Int)×Unit)×Unit) :=
bif (decide ((x0.len:Int) = (x0.len:Int))&&(decide (0≤(x0.len:Int))&&(decide ((x0.len:Int)≤2 ^ 40)&&decide (1 * (x0.len:Int)≤2 ^ 48)))) then ((fixO s53r_L0 ((x0,((),((0:Int),()))),((L.rep (x0.len:Int).toNat (Ty.zero (.int .u8))),()))).bind fun d2=>match d2 with | .inl y1=>some ((y1.2.1,()),()) | .inr e=>nomatch e) else none
noncomputable def c53r:Ctr:={ ins:=[.v (.sl (.int .u8))],out:=[(.sl (.int .u8))],F:=fun x=>g53r x.1,fr:=1 }
noncomputable def l53r:List (Nat×Code):=loopsIn (Tryz.f53.body.getD .skip) 0
theorem w53r_L0:LW t53r a53r l53r 0 0 h53r_L0 e53r_L0 s53r_L0:=fun x=>by kernel_rfl
theorem o53r:Holds Tryz.prog 53 c53r:=fh t53r a53r Tryz.func53 [(0,lg l53r 0)] ⟨fun x d h=>(w53r_L0 x).trans h,trivial⟩ tn
noncomputable def t13r:Tbl:=[(53,[],c53r)]
abbrev h13r_L0:Shape:={ slots:=[(0,.v (.sl (.sl (.int .u8)))),(3,.ms 7),(4,.v (.int .i64))],boxes:=[(7,.row (.sl (.int .u8)))] }
abbrev e13r_L0:List (XT×Shape):=[(.exit 0,{ slots:=[(3,.ms 7)],boxes:=[(7,.row (.sl (.int .u8)))] })]
noncomputable def q13r_L0 (t0:(L (L Int))) (t4:Int) (r7:(L (L Int))):Option (Ta105⊕(Ta38⊕Empty)) :=
bif (decide (t4 < (t0.len:Int))) then bif (decide (0≤t4)&&decide (t4 < (t0.len:Int))) then (g53r (L.get t0 t4.toNat)).bind fun y1=>bif (decide (0≤t4)&&decide (t4 < (r7.len:Int))) then some (.inl ((t0,((),((wI (t4 + (1:Int))),()))),((L.set r7 t4.toNat y1.1.1),()))) else none else none else some (.inr (.inl (((),()),(r7,()))))
noncomputable def s13r_L0 (x:Ta105):=q13r_L0 x.1.1 x.1.2.2.1 x.2.1
noncomputable def a13r:Nat→Option LoopAnn:=fun c=>bif Nat.beq c 0 then some (.fix h13r_L0 e13r_L0 s13r_L0) else none
noncomputable def g13r (x0:(L (L Int))):Option Ta8 :=
bif (decide ((x0.len:Int) = (x0.len:Int))&&(decide (0≤(x0.len:Int))&&(decide ((x0.len:Int)≤2 ^ 40)&&decide (24 * (x0.len:Int)≤2 ^ 48)))) then ((fixO s13r_L0 ((x0,((),((0:Int),()))),((L.rep (x0.len:Int).toNat (Ty.zero (.sl (.int .u8)))),()))).bind fun d3=>match d3 with | .inl y2=>some ((y2.2.1,()),()) | .inr e=>nomatch e) else none
noncomputable def c13r:Ctr:={ ins:=[.v (.sl (.sl (.int .u8)))],out:=[(.sl (.sl (.int .u8)))],F:=fun x=>g13r x.1,fr:=1 }
noncomputable def l13r:List (Nat×Code):=loopsIn (Tryz.f13.body.getD .skip) 0
theorem w13r_L0:LW t13r a13r l13r 0 0 h13r_L0 e13r_L0 s13r_L0:=fun x=>by kernel_rfl
theorem o13r:Holds Tryz.prog 13 c13r:=fh t13r a13r Tryz.func13 [(0,lg l13r 0)] ⟨fun x d h=>(w13r_L0 x).trans h,trivial⟩ (tc o53r tn)
noncomputable def t100r:Tbl:=[(181,[],c181r),(13,[],c13r)]
noncomputable def g100r (x0:Ta43):Option Ta91 :=
(g181r x0.1).bind fun y1=>(g13r x0.2.2.1).bind fun y2=>some (((y1.1.1,(x0.2.1,y2.1)),()),())
noncomputable def c100r:Ctr:={ ins:=[.v Ty154],out:=[Ty154],F:=fun x=>g100r x.1,fr:=1 }
theorem o100r:Holds Tryz.prog 100 c100r:=f0 t100r Tryz.func100 (tc o181r (tc o13r tn))
noncomputable def t101:Tbl:=[]
noncomputable def g101 (x0:Ta112):Option ((Ta112×Unit)×Unit) :=
some ((x0,()),())
noncomputable def f101 (x0:Ta112):Ta112 :=
x0
theorem n101 (x0:Ta112):g101 x0 = some ((f101 x0,()),()):=by simp only [g101,f101,pull1]
noncomputable def c101:Ctr:={ ins:=[.v Ty233],out:=[Ty233],F:=fun x=>some ((f101 x.1,()),()) }
theorem o101:Holds Tryz.prog 101 c101:=f0T t101 (fun x=>g101 x.1) Tryz.func101 tn (fun x=>n101 x.1)
noncomputable def t102:Tbl:=[]
noncomputable def g102 (x0:Ta22):Option ((Ta22×Unit)×Unit) :=
some ((x0,()),())
noncomputable def f102 (x0:Ta22):Ta22 :=
x0
theorem n102 (x0:Ta22):g102 x0 = some ((f102 x0,()),()):=by simp only [g102,f102,pull1]
noncomputable def c102:Ctr:={ ins:=[.v Ty151],out:=[Ty151],F:=fun x=>some ((f102 x.1,()),()) }
theorem o102:Holds Tryz.prog 102 c102:=f0T t102 (fun x=>g102 x.1) Tryz.func102 tn (fun x=>n102 x.1)
noncomputable def t310:Tbl:=[]
noncomputable def g310 (x0:(Int×(Bool×Unit))):Option (((Int×(Bool×Unit))×Unit)×Unit) :=
some ((x0,()),())
noncomputable def f310 (x0:(Int×(Bool×Unit))):(Int×(Bool×Unit)) :=
x0
theorem n310 (x0:(Int×(Bool×Unit))):g310 x0 = some ((f310 x0,()),()):=by simp only [g310,f310,pull1]
noncomputable def c310:Ctr:={ ins:=[.v Ty57],out:=[Ty57],F:=fun x=>some ((f310 x.1,()),()) }
theorem o310:Holds Tryz.prog 310 c310:=f0T t310 (fun x=>g310 x.1) Tryz.func310 tn (fun x=>n310 x.1)
noncomputable def t251r:Tbl:=[(310,[],c310)]
abbrev h251r_L0:Shape:={ slots:=[(0,.v Ty76),(3,.ms 7),(4,.v (.int .i64))],boxes:=[(7,.row Ty57)] }
abbrev e251r_L0:List (XT×Shape):=[(.exit 0,{ slots:=[(3,.ms 7)],boxes:=[(7,.row Ty57)] })]
noncomputable def q251r_L0 (t0:(L (Int×(Bool×Unit)))) (t4:Int) (r7:(L (Int×(Bool×Unit)))):Option ((((L (Int×(Bool×Unit)))×(Unit×(Int×Unit)))×Ta20)⊕(((Unit×Unit)×Ta20)⊕Empty)) :=
bif (decide (t4 < (t0.len:Int))) then bif (decide (0≤t4)&&decide (t4 < (t0.len:Int))) then bif (decide (0≤t4)&&decide (t4 < (r7.len:Int))) then some (.inl ((t0,((),((wI (t4 + (1:Int))),()))),((L.set r7 t4.toNat (f310 (L.get t0 t4.toNat))),()))) else none else none else some (.inr (.inl (((),()),(r7,()))))
noncomputable def s251r_L0 (x:(((L (Int×(Bool×Unit)))×(Unit×(Int×Unit)))×Ta20)):=q251r_L0 x.1.1 x.1.2.2.1 x.2.1
noncomputable def a251r:Nat→Option LoopAnn:=fun c=>bif Nat.beq c 0 then some (.fix h251r_L0 e251r_L0 s251r_L0) else none
noncomputable def g251r (x0:(L (Int×(Bool×Unit)))):Option (Ta20×Unit) :=
bif (decide ((x0.len:Int) = (x0.len:Int))&&(decide (0≤(x0.len:Int))&&(decide ((x0.len:Int)≤2 ^ 40)&&decide (16 * (x0.len:Int)≤2 ^ 48)))) then ((fixO s251r_L0 ((x0,((),((0:Int),()))),((L.rep (x0.len:Int).toNat (Ty.zero Ty57)),()))).bind fun d2=>match d2 with | .inl y1=>some ((y1.2.1,()),()) | .inr e=>nomatch e) else none
noncomputable def c251r:Ctr:={ ins:=[.v Ty76],out:=[Ty76],F:=fun x=>g251r x.1,fr:=1 }
noncomputable def l251r:List (Nat×Code):=loopsIn (Tryz.f251.body.getD .skip) 0
theorem w251r_L0:LW t251r a251r l251r 0 0 h251r_L0 e251r_L0 s251r_L0:=fun x=>by kernel_rfl
theorem o251r:Holds Tryz.prog 251 c251r:=fh t251r a251r Tryz.func251 [(0,lg l251r 0)] ⟨fun x d h=>(w251r_L0 x).trans h,trivial⟩ (tc o310 tn)
noncomputable def t182r:Tbl:=[(251,[],c251r)]
abbrev h182r_L0:Shape:={ slots:=[(0,.v Ty97),(3,.ms 7),(4,.v (.int .i64))],boxes:=[(7,.row Ty76)] }
abbrev e182r_L0:List (XT×Shape):=[(.exit 0,{ slots:=[(3,.ms 7)],boxes:=[(7,.row Ty76)] })]
noncomputable def q182r_L0 (t0:Ta6) (t4:Int) (r7:Ta6):Option (((Ta6×(Unit×(Int×Unit)))×Ta37)⊕(((Unit×Unit)×Ta37)⊕Empty)) :=
bif (decide (t4 < (t0.len:Int))) then bif (decide (0≤t4)&&decide (t4 < (t0.len:Int))) then (g251r (L.get t0 t4.toNat)).bind fun y1=>bif (decide (0≤t4)&&decide (t4 < (r7.len:Int))) then some (.inl ((t0,((),((wI (t4 + (1:Int))),()))),((L.set r7 t4.toNat y1.1.1),()))) else none else none else some (.inr (.inl (((),()),(r7,()))))
noncomputable def s182r_L0 (x:((Ta6×(Unit×(Int×Unit)))×Ta37)):=q182r_L0 x.1.1 x.1.2.2.1 x.2.1
noncomputable def a182r:Nat→Option LoopAnn:=fun c=>bif Nat.beq c 0 then some (.fix h182r_L0 e182r_L0 s182r_L0) else none
noncomputable def g182r (x0:Ta6):Option (Ta37×Unit) :=
bif (decide ((x0.len:Int) = (x0.len:Int))&&(decide (0≤(x0.len:Int))&&(decide ((x0.len:Int)≤2 ^ 40)&&decide (24 * (x0.len:Int)≤2 ^ 48)))) then ((fixO s182r_L0 ((x0,((),((0:Int),()))),((L.rep (x0.len:Int).toNat (Ty.zero Ty76)),()))).bind fun d3=>match d3 with | .inl y2=>some ((y2.2.1,()),()) | .inr e=>nomatch e) else none
noncomputable def c182r:Ctr:={ ins:=[.v Ty97],out:=[Ty97],F:=fun x=>g182r x.1,fr:=1 }
noncomputable def l182r:List (Nat×Code):=loopsIn (Tryz.f182.body.getD .skip) 0
theorem w182r_L0:LW t182r a182r l182r 0 0 h182r_L0 e182r_L0 s182r_L0:=fun x=>by kernel_rfl
theorem o182r:Holds Tryz.prog 182 c182r:=fh t182r a182r Tryz.func182 [(0,lg l182r 0)] ⟨fun x d h=>(w182r_L0 x).trans h,trivial⟩ (tc o251r tn)
noncomputable def t103r:Tbl:=[(47,[],c47),(182,[],c182r)]
noncomputable def g103r (x0:Ta118):Option (Ta128×Unit) :=
(g182r x0.2.1).bind fun y1=>some ((((f47 x0.1),y1.1),()),())
noncomputable def c103r:Ctr:={ ins:=[.v Ty225],out:=[Ty225],F:=fun x=>g103r x.1,fr:=1 }
theorem o103r:Holds Tryz.prog 103 c103r:=f0 t103r Tryz.func103 (tc o47 (tc o182r tn))
noncomputable def t104r:Tbl:=[(50,[],c50r)]
noncomputable def g104r (x0:(Int×((L Int)×Unit))):Option Ta44 :=
(g50r x0.2.1).bind fun y1=>some (((x0.1,y1.1),()),())
noncomputable def c104r:Ctr:={ ins:=[.v Ty99],out:=[Ty99],F:=fun x=>g104r x.1,fr:=1 }
theorem o104r:Holds Tryz.prog 104 c104r:=f0 t104r Tryz.func104 (tc o50r tn)
noncomputable def t183r:Tbl:=[(181,[],c181r)]
noncomputable def g183r (x0:(Int×((L Int)×Unit))):Option Ta44 :=
(g181r x0.2.1).bind fun y1=>some (((x0.1,y1.1),()),())
noncomputable def c183r:Ctr:={ ins:=[.v Ty96],out:=[Ty96],F:=fun x=>g183r x.1,fr:=1 }
theorem o183r:Holds Tryz.prog 183 c183r:=f0 t183r Tryz.func183 (tc o181r tn)
noncomputable def t105r:Tbl:=[(183,[],c183r)]
abbrev h105r_L0:Shape:={ slots:=[(0,.v Ty119),(3,.ms 7),(4,.v (.int .i64))],boxes:=[(7,.row Ty96)] }
abbrev e105r_L0:List (XT×Shape):=[(.exit 0,{ slots:=[(3,.ms 7)],boxes:=[(7,.row Ty96)] })]
noncomputable def q105r_L0 (t0:Ta1) (t4:Int) (r7:Ta1):Option (((Ta1×(Unit×(Int×Unit)))×Ta33)⊕(((Unit×Unit)×Ta33)⊕Empty)) :=
bif (decide (t4 < (t0.len:Int))) then bif (decide (0≤t4)&&decide (t4 < (t0.len:Int))) then (g183r (L.get t0 t4.toNat)).bind fun y1=>bif (decide (0≤t4)&&decide (t4 < (r7.len:Int))) then some (.inl ((t0,((),((wI (t4 + (1:Int))),()))),((L.set r7 t4.toNat y1.1.1),()))) else none else none else some (.inr (.inl (((),()),(r7,()))))
noncomputable def s105r_L0 (x:((Ta1×(Unit×(Int×Unit)))×Ta33)):=q105r_L0 x.1.1 x.1.2.2.1 x.2.1
noncomputable def a105r:Nat→Option LoopAnn:=fun c=>bif Nat.beq c 0 then some (.fix h105r_L0 e105r_L0 s105r_L0) else none
noncomputable def g105r (x0:Ta1):Option (Ta33×Unit) :=
bif (decide ((x0.len:Int) = (x0.len:Int))&&(decide (0≤(x0.len:Int))&&(decide ((x0.len:Int)≤2 ^ 40)&&decide (32 * (x0.len:Int)≤2 ^ 48)))) then ((fixO s105r_L0 ((x0,((),((0:Int),()))),((L.rep (x0.len:Int).toNat (Ty.zero Ty96)),()))).bind fun d3=>match d3 with | .inl y2=>some ((y2.2.1,()),()) | .inr e=>nomatch e) else none
noncomputable def c105r:Ctr:={ ins:=[.v Ty119],out:=[Ty119],F:=fun x=>g105r x.1,fr:=1 }
noncomputable def l105r:List (Nat×Code):=loopsIn (Tryz.f105.body.getD .skip) 0
theorem w105r_L0:LW t105r a105r l105r 0 0 h105r_L0 e105r_L0 s105r_L0:=fun x=>by kernel_rfl
theorem o105r:Holds Tryz.prog 105 c105r:=fh t105r a105r Tryz.func105 [(0,lg l105r 0)] ⟨fun x d h=>(w105r_L0 x).trans h,trivial⟩ (tc o183r tn)
noncomputable def t184r:Tbl:=[(181,[],c181r)]
noncomputable def g184r (x0:((L Int)×Unit)):Option ((((L Int)×Unit)×Unit)×Unit) :=
(g181r x0.1).bind fun y1=>some ((y1.1,()),())
noncomputable def c184r:Ctr:={ ins:=[.v Ty30],out:=[Ty30],F:=fun x=>g184r x.1,fr:=1 }
theorem o184r:Holds Tryz.prog 184 c184r:=f0 t184r Tryz.func184 (tc o181r tn)
noncomputable def t106r:Tbl:=[(184,[],c184r)]
abbrev h106r_L0:Shape:={ slots:=[(0,.v Ty51),(3,.ms 7),(4,.v (.int .i64))],boxes:=[(7,.row Ty30)] }
abbrev e106r_L0:List (XT×Shape):=[(.exit 0,{ slots:=[(3,.ms 7)],boxes:=[(7,.row Ty30)] })]
noncomputable def q106r_L0 (t0:(L ((L Int)×Unit))) (t4:Int) (r7:(L ((L Int)×Unit))):Option ((((L ((L Int)×Unit))×(Unit×(Int×Unit)))×Ta9)⊕(((Unit×Unit)×Ta9)⊕Empty)) :=
bif (decide (t4 < (t0.len:Int))) then bif (decide (0≤t4)&&decide (t4 < (t0.len:Int))) then (g184r (L.get t0 t4.toNat)).bind fun y1=>bif (decide (0≤t4)&&decide (t4 < (r7.len:Int))) then some (.inl ((t0,((),((wI (t4 + (1:Int))),()))),((L.set r7 t4.toNat y1.1.1),()))) else none else none else some (.inr (.inl (((),()),(r7,()))))
noncomputable def s106r_L0 (x:(((L ((L Int)×Unit))×(Unit×(Int×Unit)))×Ta9)):=q106r_L0 x.1.1 x.1.2.2.1 x.2.1
noncomputable def a106r:Nat→Option LoopAnn:=fun c=>bif Nat.beq c 0 then some (.fix h106r_L0 e106r_L0 s106r_L0) else none
noncomputable def g106r (x0:(L ((L Int)×Unit))):Option (Ta9×Unit) :=
bif (decide ((x0.len:Int) = (x0.len:Int))&&(decide (0≤(x0.len:Int))&&(decide ((x0.len:Int)≤2 ^ 40)&&decide (24 * (x0.len:Int)≤2 ^ 48)))) then ((fixO s106r_L0 ((x0,((),((0:Int),()))),((L.rep (x0.len:Int).toNat (Ty.zero Ty30)),()))).bind fun d3=>match d3 with | .inl y2=>some ((y2.2.1,()),()) | .inr e=>nomatch e) else none
noncomputable def c106r:Ctr:={ ins:=[.v Ty51],out:=[Ty51],F:=fun x=>g106r x.1,fr:=1 }
noncomputable def l106r:List (Nat×Code):=loopsIn (Tryz.f106.body.getD .skip) 0
theorem w106r_L0:LW t106r a106r l106r 0 0 h106r_L0 e106r_L0 s106r_L0:=fun x=>by kernel_rfl
theorem o106r:Holds Tryz.prog 106 c106r:=fh t106r a106r Tryz.func106 [(0,lg l106r 0)] ⟨fun x d h=>(w106r_L0 x).trans h,trivial⟩ (tc o184r tn)
noncomputable def t185r:Tbl:=[(181,[],c181r)]
noncomputable def g185r (x0:Ta2):Option Ta55 :=
(g181r x0.1).bind fun y1=>(g181r x0.2.1).bind fun y2=>some (((y1.1.1,y2.1),()),())
noncomputable def c185r:Ctr:={ ins:=[.v Ty117],out:=[Ty117],F:=fun x=>g185r x.1,fr:=1 }
theorem o185r:Holds Tryz.prog 185 c185r:=f0 t185r Tryz.func185 (tc o181r tn)
noncomputable def t107r:Tbl:=[(185,[],c185r)]
abbrev h107r_L0:Shape:={ slots:=[(0,.v Ty125),(3,.ms 7),(4,.v (.int .i64))],boxes:=[(7,.row Ty117)] }
abbrev e107r_L0:List (XT×Shape):=[(.exit 0,{ slots:=[(3,.ms 7)],boxes:=[(7,.row Ty117)] })]
noncomputable def q107r_L0 (t0:Ta18) (t4:Int) (r7:Ta18):Option (((Ta18×(Unit×(Int×Unit)))×Ta46)⊕(((Unit×Unit)×Ta46)⊕Empty)) :=
bif (decide (t4 < (t0.len:Int))) then bif (decide (0≤t4)&&decide (t4 < (t0.len:Int))) then (g185r (L.get t0 t4.toNat)).bind fun y1=>bif (decide (0≤t4)&&decide (t4 < (r7.len:Int))) then some (.inl ((t0,((),((wI (t4 + (1:Int))),()))),((L.set r7 t4.toNat y1.1.1),()))) else none else none else some (.inr (.inl (((),()),(r7,()))))
noncomputable def s107r_L0 (x:((Ta18×(Unit×(Int×Unit)))×Ta46)):=q107r_L0 x.1.1 x.1.2.2.1 x.2.1
noncomputable def a107r:Nat→Option LoopAnn:=fun c=>bif Nat.beq c 0 then some (.fix h107r_L0 e107r_L0 s107r_L0) else none
noncomputable def g107r (x0:Ta18):Option (Ta46×Unit) :=
bif (decide ((x0.len:Int) = (x0.len:Int))&&(decide (0≤(x0.len:Int))&&(decide ((x0.len:Int)≤2 ^ 40)&&decide (48 * (x0.len:Int)≤2 ^ 48)))) then ((fixO s107r_L0 ((x0,((),((0:Int),()))),((L.rep (x0.len:Int).toNat (Ty.zero Ty117)),()))).bind fun d3=>match d3 with | .inl y2=>some ((y2.2.1,()),()) | .inr e=>nomatch e) else none
noncomputable def c107r:Ctr:={ ins:=[.v Ty125],out:=[Ty125],F:=fun x=>g107r x.1,fr:=1 }
noncomputable def l107r:List (Nat×Code):=loopsIn (Tryz.f107.body.getD .skip) 0
theorem w107r_L0:LW t107r a107r l107r 0 0 h107r_L0 e107r_L0 s107r_L0:=fun x=>by kernel_rfl
theorem o107r:Holds Tryz.prog 107 c107r:=fh t107r a107r Tryz.func107 [(0,lg l107r 0)] ⟨fun x d h=>(w107r_L0 x).trans h,trivial⟩ (tc o185r tn)
noncomputable def t24r:Tbl:=[(100,[],c100r),(101,[],c101),(102,[],c102),(103,[],c103r),(104,[],c104r),(13,[],c13r),(105,[],c105r),(106,[],c106r),(107,[],c107r)]
noncomputable def g24r (x0:Ta348):Option Ta350 :=
(g100r x0.1).bind fun y1=>(g103r x0.2.2.2.1).bind fun y2=>(g104r x0.2.2.2.2.1).bind fun y3=>(g13r x0.2.2.2.2.2.2.2.1).bind fun y4=>(g105r x0.2.2.2.2.2.2.2.2.1).bind fun y5=>(g106r x0.2.2.2.2.2.2.2.2.2.1).bind fun y6=>(g107r x0.2.2.2.2.2.2.2.2.2.2.1).bind fun y7=>some ((((y1.1.1.1,(y1.1.1.2.1,y1.1.1.2.2)),((f101 x0.2.1),((f102 x0.2.2.1),(y2.1.1,(y3.1.1,(x0.2.2.2.2.2.1,(x0.2.2.2.2.2.2.1,(y4.1.1,(y5.1.1,(y6.1.1,y7.1)))))))))),()),())
noncomputable def c24r:Ctr:={ ins:=[.v Ty371],out:=[Ty371],F:=fun x=>g24r x.1,fr:=1 }
theorem o24r:Holds Tryz.prog 24 c24r:=f0 t24r Tryz.func24 (tc o100r (tc o101 (tc o102 (tc o103r (tc o104r (tc o13r (tc o105r (tc o106r (tc o107r tn)))))))))
noncomputable def t97:Tbl:=[]
noncomputable def g97 (x0:Int) (x1:Int) (x2:Int):Option ((Bool×Unit)×Unit) :=
bif (decide (x0 ≥ x1)) then some (((decide (x0≤x2)),()),()) else some ((false,()),())
noncomputable def f97 (x0:Int) (x1:Int) (x2:Int):Bool :=
bif (decide (x0 ≥ x1)) then (decide (x0≤x2)) else false
theorem n97 (x0:Int) (x1:Int) (x2:Int):g97 x0 x1 x2 = some ((f97 x0 x1 x2,()),()):=by simp only [g97,f97,pull1]
noncomputable def c97:Ctr:={ ins:=[.v (.int .i64),.v (.int .i64),.v (.int .i64)],out:=[.bool],F:=fun x=>some ((f97 x.1 x.2.1 x.2.2.1,()),()) }
theorem o97:Holds Tryz.prog 97 c97:=f0T t97 (fun x=>g97 x.1 x.2.1 x.2.2.1) Tryz.func97 tn (fun x=>n97 x.1 x.2.1 x.2.2.1)
noncomputable def t119:Tbl:=[(97,[],c97)]
noncomputable def g119 (x0:(Int×(Int×(Int×Unit)))):Option ((Bool×Unit)×Unit) :=
bif (x0.1 == (1:Int)) then bif (x0.2.2.1 == (4:Int)) then some (((f97 x0.2.1 (1:Int) (4:Int)),()),()) else bif (x0.2.2.1 == (8:Int)) then some (((f97 x0.2.1 (1:Int) (4:Int)),()),()) else bif (x0.2.2.1 == (16:Int)) then some (((f97 x0.2.1 (1:Int) (4:Int)),()),()) else bif (x0.2.2.1 == (32:Int)) then some (((f97 x0.2.1 (1:Int) (4:Int)),()),()) else some ((false,()),()) else bif (x0.1 == (2:Int)) then bif (x0.2.2.1 == (4:Int)) then some (((f97 x0.2.1 (1:Int) (4:Int)),()),()) else bif (x0.2.2.1 == (8:Int)) then some (((f97 x0.2.1 (1:Int) (4:Int)),()),()) else bif (x0.2.2.1 == (16:Int)) then some (((f97 x0.2.1 (1:Int) (4:Int)),()),()) else bif (x0.2.2.1 == (32:Int)) then some (((f97 x0.2.1 (1:Int) (4:Int)),()),()) else some ((false,()),()) else bif (x0.1 == (4:Int)) then bif (x0.2.2.1 == (4:Int)) then some (((f97 x0.2.1 (1:Int) (4:Int)),()),()) else bif (x0.2.2.1 == (8:Int)) then some (((f97 x0.2.1 (1:Int) (4:Int)),()),()) else bif (x0.2.2.1 == (16:Int)) then some (((f97 x0.2.1 (1:Int) (4:Int)),()),()) else bif (x0.2.2.1 == (32:Int)) then some (((f97 x0.2.1 (1:Int) (4:Int)),()),()) else some ((false,()),()) else bif (x0.1 == (8:Int)) then bif (x0.2.2.1 == (4:Int)) then some (((f97 x0.2.1 (1:Int) (4:Int)),()),()) else bif (x0.2.2.1 == (8:Int)) then some (((f97 x0.2.1 (1:Int) (4:Int)),()),()) else bif (x0.2.2.1 == (16:Int)) then some (((f97 x0.2.1 (1:Int) (4:Int)),()),()) else bif (x0.2.2.1 == (32:Int)) then some (((f97 x0.2.1 (1:Int) (4:Int)),()),()) else some ((false,()),()) else bif (x0.2.2.1 == (4:Int)) then bif (x0.1 == (16:Int)) then some (((f97 x0.2.1 (1:Int) (4:Int)),()),()) else some ((false,()),()) else bif (x0.2.2.1 == (8:Int)) then bif (x0.1 == (16:Int)) then some (((f97 x0.2.1 (1:Int) (4:Int)),()),()) else some ((false,()),()) else bif (x0.2.2.1 == (16:Int)) then bif (x0.1 == (16:Int)) then some (((f97 x0.2.1 (1:Int) (4:Int)),()),()) else some ((false,()),()) else bif (x0.1 == (16:Int)) then bif (x0.2.2.1 == (32:Int)) then some (((f97 x0.2.1 (1:Int) (4:Int)),()),()) else some ((false,()),()) else some ((false,()),())
noncomputable def f119 (x0:(Int×(Int×(Int×Unit)))):Bool :=
bif (x0.1 == (1:Int)) then bif (x0.2.2.1 == (4:Int)) then (f97 x0.2.1 (1:Int) (4:Int)) else bif (x0.2.2.1 == (8:Int)) then (f97 x0.2.1 (1:Int) (4:Int)) else bif (x0.2.2.1 == (16:Int)) then (f97 x0.2.1 (1:Int) (4:Int)) else bif (x0.2.2.1 == (32:Int)) then (f97 x0.2.1 (1:Int) (4:Int)) else false else bif (x0.1 == (2:Int)) then bif (x0.2.2.1 == (4:Int)) then (f97 x0.2.1 (1:Int) (4:Int)) else bif (x0.2.2.1 == (8:Int)) then (f97 x0.2.1 (1:Int) (4:Int)) else bif (x0.2.2.1 == (16:Int)) then (f97 x0.2.1 (1:Int) (4:Int)) else bif (x0.2.2.1 == (32:Int)) then (f97 x0.2.1 (1:Int) (4:Int)) else false else bif (x0.1 == (4:Int)) then bif (x0.2.2.1 == (4:Int)) then (f97 x0.2.1 (1:Int) (4:Int)) else bif (x0.2.2.1 == (8:Int)) then (f97 x0.2.1 (1:Int) (4:Int)) else bif (x0.2.2.1 == (16:Int)) then (f97 x0.2.1 (1:Int) (4:Int)) else bif (x0.2.2.1 == (32:Int)) then (f97 x0.2.1 (1:Int) (4:Int)) else false else bif (x0.1 == (8:Int)) then bif (x0.2.2.1 == (4:Int)) then (f97 x0.2.1 (1:Int) (4:Int)) else bif (x0.2.2.1 == (8:Int)) then (f97 x0.2.1 (1:Int) (4:Int)) else bif (x0.2.2.1 == (16:Int)) then (f97 x0.2.1 (1:Int) (4:Int)) else bif (x0.2.2.1 == (32:Int)) then (f97 x0.2.1 (1:Int) (4:Int)) else false else bif (x0.2.2.1 == (4:Int)) then bif (x0.1 == (16:Int)) then (f97 x0.2.1 (1:Int) (4:Int)) else false else bif (x0.2.2.1 == (8:Int)) then bif (x0.1 == (16:Int)) then (f97 x0.2.1 (1:Int) (4:Int)) else false else bif (x0.2.2.1 == (16:Int)) then bif (x0.1 == (16:Int)) then (f97 x0.2.1 (1:Int) (4:Int)) else false else bif (x0.1 == (16:Int)) then bif (x0.2.2.1 == (32:Int)) then (f97 x0.2.1 (1:Int) (4:Int)) else false else false
theorem n119 (x0:(Int×(Int×(Int×Unit)))):g119 x0 = some ((f119 x0,()),()):=by simp only [g119,f119,pull1]
noncomputable def c119:Ctr:={ ins:=[.v Ty129],out:=[.bool],F:=fun x=>some ((f119 x.1,()),()) }
theorem o119:Holds Tryz.prog 119 c119:=f0T t119 (fun x=>g119 x.1) Tryz.func119 (tc o97 tn) (fun x=>n119 x.1)
noncomputable def t294:Tbl:=[(97,[],c97)]
noncomputable def g294 (x0:Ta81):Option ((Bool×Unit)×Unit) :=
bif (f97 x0.1 (1:Int) (20:Int)) then bif (f97 x0.2.1 (0:Int) (50:Int)) then bif (f97 x0.2.2.1 (0:Int) (50:Int)) then bif (f97 x0.2.2.2.1 (0:Int) (50:Int)) then bif (f97 x0.2.2.2.2.1 (0:Int) (50:Int)) then bif (f97 x0.2.2.2.2.2.1 (0:Int) (50:Int)) then some (((f97 x0.2.2.2.2.2.2.1 (0:Int) (50:Int)),()),()) else some ((false,()),()) else some ((false,()),()) else some ((false,()),()) else some ((false,()),()) else some ((false,()),()) else some ((false,()),())
noncomputable def f294 (x0:Ta81):Bool :=
bif (f97 x0.1 (1:Int) (20:Int)) then bif (f97 x0.2.1 (0:Int) (50:Int)) then bif (f97 x0.2.2.1 (0:Int) (50:Int)) then bif (f97 x0.2.2.2.1 (0:Int) (50:Int)) then bif (f97 x0.2.2.2.2.1 (0:Int) (50:Int)) then bif (f97 x0.2.2.2.2.2.1 (0:Int) (50:Int)) then (f97 x0.2.2.2.2.2.2.1 (0:Int) (50:Int)) else false else false else false else false else false else false
theorem n294 (x0:Ta81):g294 x0 = some ((f294 x0,()),()):=by simp only [g294,f294,pull1]
noncomputable def c294:Ctr:={ ins:=[.v Ty229],out:=[.bool],F:=fun x=>some ((f294 x.1,()),()) }
theorem o294:Holds Tryz.prog 294 c294:=f0T t294 (fun x=>g294 x.1) Tryz.func294 (tc o97 tn) (fun x=>n294 x.1)
noncomputable def t350r:Tbl:=[]
noncomputable def g350r:Option (((L Int)×Unit)×Unit) :=
some (((L.of (Ty.zero (.int .i64)) [(0:Int),(7:Int),(7:Int),(7:Int),(7:Int),(7:Int),(7:Int),(7:Int),(7:Int),(7:Int),(7:Int),(7:Int),(7:Int),(11:Int),(9:Int),(11:Int),(11:Int),(11:Int),(11:Int),(11:Int),(11:Int),(11:Int),(9:Int),(10:Int),(1:Int),(11:Int),(11:Int),(11:Int),(9:Int),(9:Int),(0:Int),(0:Int),(8:Int)]),()),())
noncomputable def f350r:(L Int) :=
(L.of (Ty.zero (.int .i64)) [(0:Int),(7:Int),(7:Int),(7:Int),(7:Int),(7:Int),(7:Int),(7:Int),(7:Int),(7:Int),(7:Int),(7:Int),(7:Int),(11:Int),(9:Int),(11:Int),(11:Int),(11:Int),(11:Int),(11:Int),(11:Int),(11:Int),(9:Int),(10:Int),(1:Int),(11:Int),(11:Int),(11:Int),(9:Int),(9:Int),(0:Int),(0:Int),(8:Int)])
theorem n350r:g350r = some ((f350r,()),()):=by simp only [g350r,f350r,pull1]
noncomputable def c350r:Ctr:={ ins:=[],out:=[(.sl (.int .i64))],F:=fun x=>some ((f350r,()),()),fr:=1 }
theorem o350r:Holds Tryz.prog 350 c350r:=f0T t350r (fun x=>g350r) Tryz.func350 tn (fun x=>n350r)
noncomputable def t324:Tbl:=[(97,[],c97),(350,[],c350r)]
noncomputable def g324 (x0:Int):Option ((Int×Unit)×Unit) :=
bif (!(f97 x0 (0:Int) (32:Int))) then some (((-1:Int),()),()) else bif (decide (0≤x0)&&decide (x0 < ((f350r).len:Int))) then some (((L.get (f350r) x0.toNat),()),()) else none
noncomputable def c324:Ctr:={ ins:=[.v (.int .i64)],out:=[(.int .i64)],F:=fun x=>g324 x.1 }
theorem o324:Holds Tryz.prog 324 c324:=f0 t324 Tryz.func324 (tc o97 (tc o350r tn))
noncomputable def t275:Tbl:=[(294,[],c294),(324,[],c324),(97,[],c97)]
noncomputable def g275 (x0:Ta81) (x1:Int):Option ((Int×Unit)×Unit) :=
bif (!(f294 x0)) then some (((-1:Int),()),()) else (g324 x1).bind fun y1=>bif (decide (y1.1.1 < (0:Int))) then some (((-1:Int),()),()) else bif (x1 == (9:Int)) then some (((wI (x0.1 + x0.2.1)),()),()) else bif (x1 == (10:Int)) then some (((wI (x0.1 + x0.2.1)),()),()) else bif (f97 x1 (15:Int) (18:Int)) then some (((wI (x0.1 + x0.2.2.1)),()),()) else bif (decide (x1 ≥ (25:Int))) then some (((wI (x0.1 + x0.2.2.2.2.2.1)),()),()) else some ((x0.1,()),())
noncomputable def c275:Ctr:={ ins:=[.v Ty229,.v (.int .i64)],out:=[(.int .i64)],F:=fun x=>g275 x.1 x.2.1 }
theorem o275:Holds Tryz.prog 275 c275:=f0 t275 Tryz.func275 (tc o294 (tc o324 (tc o97 tn)))
noncomputable def t327:Tbl:=[(294,[],c294)]
noncomputable def g327 (x0:Ta81) (x1:Ta10):Option ((Int×Unit)×Unit) :=
bif (!(f294 x0)) then some (((-1:Int),()),()) else bif (!x1.1) then bif (!x1.2.1) then bif x1.2.2.1 then some (((wI ((wI ((wI ((0:Int) + x0.2.2.2.1)) + x0.2.2.2.2.1)) + x0.2.2.2.2.2.2.1)),()),()) else some (((wI ((wI ((0:Int) + x0.2.2.2.1)) + x0.2.2.2.2.1)),()),()) else bif x1.2.2.1 then some (((wI ((wI ((0:Int) + x0.2.2.2.1)) + x0.2.2.2.2.2.2.1)),()),()) else some (((wI ((0:Int) + x0.2.2.2.1)),()),()) else bif (!x1.2.1) then bif x1.2.2.1 then some (((wI ((wI ((0:Int) + x0.2.2.2.2.1)) + x0.2.2.2.2.2.2.1)),()),()) else some (((wI ((0:Int) + x0.2.2.2.2.1)),()),()) else bif x1.2.2.1 then some (((wI ((0:Int) + x0.2.2.2.2.2.2.1)),()),()) else some (((0:Int),()),())
noncomputable def f327 (x0:Ta81) (x1:Ta10):Int :=
bif (!(f294 x0)) then (-1:Int) else bif (!x1.1) then bif (!x1.2.1) then bif x1.2.2.1 then (wI ((wI ((wI ((0:Int) + x0.2.2.2.1)) + x0.2.2.2.2.1)) + x0.2.2.2.2.2.2.1)) else (wI ((wI ((0:Int) + x0.2.2.2.1)) + x0.2.2.2.2.1)) else bif x1.2.2.1 then (wI ((wI ((0:Int) + x0.2.2.2.1)) + x0.2.2.2.2.2.2.1)) else (wI ((0:Int) + x0.2.2.2.1)) else bif (!x1.2.1) then bif x1.2.2.1 then (wI ((wI ((0:Int) + x0.2.2.2.2.1)) + x0.2.2.2.2.2.2.1)) else (wI ((0:Int) + x0.2.2.2.2.1)) else bif x1.2.2.1 then (wI ((0:Int) + x0.2.2.2.2.2.2.1)) else (0:Int)
theorem n327 (x0:Ta81) (x1:Ta10):g327 x0 x1 = some ((f327 x0 x1,()),()):=by simp only [g327,f327,pull1]
noncomputable def c327:Ctr:={ ins:=[.v Ty229,.v (.pair .bool (.pair .bool (.pair .bool .unit)))],out:=[(.int .i64)],F:=fun x=>some ((f327 x.1 x.2.1,()),()) }
theorem o327:Holds Tryz.prog 327 c327:=f0T t327 (fun x=>g327 x.1 x.2.1) Tryz.func327 (tc o294 tn) (fun x=>n327 x.1 x.2.1)
noncomputable def t314:Tbl:=[(327,[],c327)]
abbrev h314_L0:Shape:={ slots:=[(1,.bx 1 0),(3,.v (.int .i64)),(4,.v (.int .i64))],boxes:=[(1,.typ Ty229)] }
abbrev e314_L0:List (XT×Shape):=[(.exit 0,{ slots:=[(3,.v (.int .i64))],boxes:=[] })]
noncomputable def q314_L0 (t3:Int) (t4:Int) (b1:Ta81):Option (Ta152⊕(((Int×Unit)×Unit)⊕Empty)) :=
bif (decide (t4 < (8:Int))) then bif (decide ((f327 b1 (((Int.tmod t4 (2:Int)) == (1:Int)),(((Int.tmod (wI (Int.tdiv t4 (2:Int))) (2:Int)) == (1:Int)),(((wI (Int.tdiv t4 (4:Int))) == (1:Int)),())))) > t3)) then some (.inl (((),((f327 b1 (((Int.tmod t4 (2:Int)) == (1:Int)),(((Int.tmod (wI (Int.tdiv t4 (2:Int))) (2:Int)) == (1:Int)),(((wI (Int.tdiv t4 (4:Int))) == (1:Int)),())))),((wI (t4 + (1:Int))),()))),(b1,()))) else some (.inl (((),(t3,((wI (t4 + (1:Int))),()))),(b1,()))) else some (.inr (.inl ((t3,()),())))
noncomputable def s314_L0 (x:Ta152):=q314_L0 x.1.2.1 x.1.2.2.1 x.2.1
noncomputable def a314:Nat→Option LoopAnn:=fun c=>bif Nat.beq c 0 then some (.fix h314_L0 e314_L0 s314_L0) else none
noncomputable def g314 (x0:Ta81):Option ((Int×Unit)×Unit) :=
(fixO s314_L0 (((),((-1:Int),((0:Int),()))),(x0,()))).bind fun d2=>match d2 with | .inl y1=>some ((y1.1.1,()),()) | .inr e=>nomatch e
noncomputable def c314:Ctr:={ ins:=[.v Ty229],out:=[(.int .i64)],F:=fun x=>g314 x.1 }
noncomputable def l314:List (Nat×Code):=loopsIn (Tryz.f314.body.getD .skip) 0
theorem w314_L0:LW t314 a314 l314 0 0 h314_L0 e314_L0 s314_L0:=fun x=>by kernel_rfl
theorem o314:Holds Tryz.prog 314 c314:=fh t314 a314 Tryz.func314 [(0,lg l314 0)] ⟨fun x d h=>(w314_L0 x).trans h,trivial⟩ (tc o327 tn)
noncomputable def t265:Tbl:=[(294,[],c294),(275,[],c275),(314,[],c314)]
abbrev h265_L0:Shape:={ slots:=[(1,.bx 1 0),(3,.v (.int .i64)),(4,.v (.int .i64))],boxes:=[(1,.typ Ty229)] }
abbrev e265_L0:List (XT×Shape):=[(.exit 0,{ slots:=[(1,.bx 1 0),(3,.v (.int .i64))],boxes:=[(1,.typ Ty229)] })]
noncomputable def q265_L0 (t3:Int) (t4:Int) (b1:Ta81):Option (Ta152⊕(((Unit×(Int×Unit))×Ta109)⊕Empty)) :=
bif (decide (t4 < (33:Int))) then (g275 b1 t4).bind fun y1=>bif (decide (y1.1.1 > t3)) then (g275 b1 t4).bind fun y2=>some (.inl (((),(y2.1.1,((wI (t4 + (1:Int))),()))),(b1,()))) else some (.inl (((),(t3,((wI (t4 + (1:Int))),()))),(b1,()))) else some (.inr (.inl (((),(t3,())),(b1,()))))
noncomputable def s265_L0 (x:Ta152):=q265_L0 x.1.2.1 x.1.2.2.1 x.2.1
noncomputable def a265:Nat→Option LoopAnn:=fun c=>bif Nat.beq c 0 then some (.fix h265_L0 e265_L0 s265_L0) else none
noncomputable def g265 (x0:Ta81):Option ((Int×Unit)×Unit) :=
bif (!(f294 x0)) then some (((-1:Int),()),()) else (fixO s265_L0 (((),((0:Int),((0:Int),()))),(x0,()))).bind fun d5=>match d5 with | .inl y3=>(g314 y3.2.1).bind fun y4=>some (((wI ((wI (y3.1.2.1 + (wI ((2:Int) * y4.1.1)))) + y3.2.1.2.2.2.2.2.1)),()),()) | .inr e=>nomatch e
noncomputable def c265:Ctr:={ ins:=[.v Ty229],out:=[(.int .i64)],F:=fun x=>g265 x.1 }
noncomputable def l265:List (Nat×Code):=loopsIn (Tryz.f265.body.getD .skip) 0
theorem w265_L0:LW t265 a265 l265 0 0 h265_L0 e265_L0 s265_L0:=fun x=>by kernel_rfl
theorem o265:Holds Tryz.prog 265 c265:=fh t265 a265 Tryz.func265 [(0,lg l265 0)] ⟨fun x d h=>(w265_L0 x).trans h,trivial⟩ (tc o294 (tc o275 (tc o314 tn)))
noncomputable def t220:Tbl:=[(97,[],c97),(119,[],c119),(294,[],c294),(265,[],c265)]
noncomputable def g220 (x0:Ta330):Option ((Bool×Unit)×Unit) :=
bif (!(f97 x0.1 (64:Int) (2048:Int))) then some ((false,()),()) else bif ((Int.tmod x0.1 (4:Int)) != (0:Int)) then some ((false,()),()) else bif (!(f119 x0.2.1)) then some ((false,()),()) else bif (!(f97 x0.2.2.1 (1:Int) (8:Int))) then some ((false,()),()) else bif (!(f294 x0.2.2.2.1)) then some ((false,()),()) else bif (f97 x0.2.2.2.2.1 (1:Int) (5000:Int)) then bif (f97 x0.2.2.2.2.2.1 (1:Int) (5000:Int)) then bif (f97 x0.2.2.2.2.2.2.1 (1:Int) (5000:Int)) then (g265 x0.2.2.2.1).bind fun y1=>some (((decide (x0.2.2.2.2.2.1 ≥ y1.1.1)),()),()) else some ((false,()),()) else some ((false,()),()) else some ((false,()),())
noncomputable def c220:Ctr:={ ins:=[.v Ty370],out:=[.bool],F:=fun x=>g220 x.1 }
theorem o220:Holds Tryz.prog 220 c220:=f0 t220 Tryz.func220 (tc o97 (tc o119 (tc o294 (tc o265 tn))))
noncomputable def t355:Tbl:=[(97,[],c97)]
abbrev h355_L0:Shape:={ slots:=[(0,.v .str),(3,.v (.int .i64))],boxes:=[] }
abbrev e355_L0:List (XT×Shape):=[(.ret,{ slots:=[(2,.v .bool)],boxes:=[] }),(.exit 0,{ slots:=[(0,.v .str)],boxes:=[] })]
noncomputable def q355_L0 (t0:ByteArray) (t3:Int):Option (((ByteArray×(Int×Unit))×Unit)⊕(((Bool×Unit)×Unit)⊕(((ByteArray×Unit)×Unit)⊕Empty))) :=
bif (decide (t3 < (t0.size:Int))) then bif (decide (t3 < (13:Int))) then bif (decide (0≤t3)&&decide (t3 < t0.size)) then bif (!(f97 (wI ((bt t0 t3))) (97:Int) (122:Int))) then some (.inr (.inl ((false,()),()))) else some (.inl ((t0,((wI (t3 + (1:Int))),())),())) else none else some (.inr (.inr (.inl ((t0,()),())))) else some (.inr (.inr (.inl ((t0,()),()))))
noncomputable def s355_L0 (x:((ByteArray×(Int×Unit))×Unit)):=q355_L0 x.1.1 x.1.2.1
noncomputable def a355:Nat→Option LoopAnn:=fun c=>bif Nat.beq c 0 then some (.fix h355_L0 e355_L0 s355_L0) else none
noncomputable def g355 (x0:ByteArray):Option ((Bool×Unit)×Unit) :=
(fixO s355_L0 ((x0,((0:Int),())),())).bind fun d2=>match d2 with | .inl y1=>some ((y1.1.1,()),()) | .inr (.inl y1)=>some (((f97 (y1.1.1.size:Int) (1:Int) (12:Int)),()),()) | .inr (.inr e)=>nomatch e
noncomputable def c355:Ctr:={ ins:=[.v .str],out:=[.bool],F:=fun x=>g355 x.1 }
noncomputable def l355:List (Nat×Code):=loopsIn (Tryz.f355.body.getD .skip) 0
theorem w355_L0:LW t355 a355 l355 0 0 h355_L0 e355_L0 s355_L0:=fun x=>by kernel_rfl
theorem o355:Holds Tryz.prog 355 c355:=fh t355 a355 Tryz.func355 [(0,lg l355 0)] ⟨fun x d h=>(w355_L0 x).trans h,trivial⟩ (tc o97 tn)
noncomputable def t342:Tbl:=[(355,[],c355)]
noncomputable def g342 (x0:ByteArray):Option ((Bool×Unit)×Unit) :=
bif (decide ((x0.size:Int)≤(8:Int))) then (g355 x0).bind fun y1=>some ((y1.1.1,()),()) else some ((false,()),())
noncomputable def c342:Ctr:={ ins:=[.v .str],out:=[.bool],F:=fun x=>g342 x.1 }
theorem o342:Holds Tryz.prog 342 c342:=f0 t342 Tryz.func342 (tc o355 tn)
noncomputable def t335:Tbl:=[(97,[],c97)]
noncomputable def g335 (x0:(Int×(Int×Unit))):Option ((Bool×Unit)×Unit) :=
bif (x0.1 == (1:Int)) then some (((f97 x0.2.1 (0:Int) (100:Int)),()),()) else bif (x0.1 == (0:Int)) then some (((x0.2.1 == (0:Int)),()),()) else bif (x0.1 == (2:Int)) then some (((x0.2.1 == (0:Int)),()),()) else some ((false,()),())
noncomputable def f335 (x0:(Int×(Int×Unit))):Bool :=
bif (x0.1 == (1:Int)) then (f97 x0.2.1 (0:Int) (100:Int)) else bif (x0.1 == (0:Int)) then (x0.2.1 == (0:Int)) else bif (x0.1 == (2:Int)) then (x0.2.1 == (0:Int)) else false
theorem n335 (x0:(Int×(Int×Unit))):g335 x0 = some ((f335 x0,()),()):=by simp only [g335,f335,pull1]
noncomputable def c335:Ctr:={ ins:=[.v Ty77],out:=[.bool],F:=fun x=>some ((f335 x.1,()),()) }
theorem o335:Holds Tryz.prog 335 c335:=f0T t335 (fun x=>g335 x.1) Tryz.func335 (tc o97 tn) (fun x=>n335 x.1)
noncomputable def t308:Tbl:=[(97,[],c97)]
noncomputable def g308 (x0:(Int×(Int×(Int×Unit)))):Option ((Bool×Unit)×Unit) :=
bif (f97 x0.1 (0:Int) (2048:Int)) then bif (f97 x0.2.1 (4:Int) (2048:Int)) then bif ((Int.tmod x0.1 (4:Int)) == (0:Int)) then bif ((Int.tmod x0.2.1 (4:Int)) == (0:Int)) then bif (decide ((wI (x0.1 + x0.2.1))≤(2048:Int))) then some (((f97 x0.2.2.1 (1:Int) (7:Int)),()),()) else some ((false,()),()) else some ((false,()),()) else some ((false,()),()) else some ((false,()),()) else some ((false,()),())
noncomputable def f308 (x0:(Int×(Int×(Int×Unit)))):Bool :=
bif (f97 x0.1 (0:Int) (2048:Int)) then bif (f97 x0.2.1 (4:Int) (2048:Int)) then bif ((Int.tmod x0.1 (4:Int)) == (0:Int)) then bif ((Int.tmod x0.2.1 (4:Int)) == (0:Int)) then bif (decide ((wI (x0.1 + x0.2.1))≤(2048:Int))) then (f97 x0.2.2.1 (1:Int) (7:Int)) else false else false else false else false else false
theorem n308 (x0:(Int×(Int×(Int×Unit)))):g308 x0 = some ((f308 x0,()),()):=by simp only [g308,f308,pull1]
noncomputable def c308:Ctr:={ ins:=[.v Ty129],out:=[.bool],F:=fun x=>some ((f308 x.1,()),()) }
theorem o308:Holds Tryz.prog 308 c308:=f0T t308 (fun x=>g308 x.1) Tryz.func308 (tc o97 tn) (fun x=>n308 x.1)
noncomputable def t343:Tbl:=[]
noncomputable def g343 (x0:(Int×(Int×(Int×Unit)))) (x1:Int):Option ((Bool×Unit)×Unit) :=
bif (decide (x1 ≥ x0.1)) then some (((decide (x1 < (wI (x0.1 + x0.2.1)))),()),()) else some ((false,()),())
noncomputable def f343 (x0:(Int×(Int×(Int×Unit)))) (x1:Int):Bool :=
bif (decide (x1 ≥ x0.1)) then (decide (x1 < (wI (x0.1 + x0.2.1)))) else false
theorem n343 (x0:(Int×(Int×(Int×Unit)))) (x1:Int):g343 x0 x1 = some ((f343 x0 x1,()),()):=by simp only [g343,f343,pull1]
noncomputable def c343:Ctr:={ ins:=[.v Ty129,.v (.int .i64)],out:=[.bool],F:=fun x=>some ((f343 x.1 x.2.1,()),()) }
theorem o343:Holds Tryz.prog 343 c343:=f0T t343 (fun x=>g343 x.1 x.2.1) Tryz.func343 tn (fun x=>n343 x.1 x.2.1)
noncomputable def t295:Tbl:=[(342,[],c342),(335,[],c335),(97,[],c97),(308,[],c308),(343,[],c343)]
abbrev h295_L0:Shape:={ slots:=[(1,.v (.int .i64)),(2,.bx 2 0),(5,.v .bool),(6,.v (.int .i64))],boxes:=[(2,.typ Ty259)] }
abbrev e295_L0:List (XT×Shape):=[(.ret,{ slots:=[(4,.v .bool)],boxes:=[] }),(.exit 0,{ slots:=[(2,.bx 2 0),(5,.v .bool)],boxes:=[(2,.typ Ty259)] })]
noncomputable def q295_L0 (t1:Int) (t5:Bool) (t6:Int) (b2:Ta136):Option (((Int×(Unit×(Bool×(Int×Unit))))×Ta146)⊕(((Bool×Unit)×Unit)⊕(((Unit×(Bool×Unit))×Ta146)⊕Empty))) :=
bif (decide (t6 < (b2.2.2.2.1.len:Int))) then bif (decide (0≤t6)&&decide (t6 < (b2.2.2.2.1.len:Int))) then bif (!(f308 (L.get b2.2.2.2.1 t6.toNat))) then some (.inr (.inl ((false,()),()))) else bif (decide ((wI ((L.get b2.2.2.2.1 t6.toNat).1 + (L.get b2.2.2.2.1 t6.toNat).2.1)) > t1)) then some (.inr (.inl ((false,()),()))) else bif (f343 (L.get b2.2.2.2.1 t6.toNat) b2.2.1) then bif ((wI (Int.tdiv (L.get b2.2.2.2.1 t6.toNat).2.2.1 (4:Int))) == (1:Int)) then some (.inl ((t1,((),(true,((wI (t6 + (1:Int))),())))),(b2,()))) else some (.inl ((t1,((),(t5,((wI (t6 + (1:Int))),())))),(b2,()))) else some (.inl ((t1,((),(t5,((wI (t6 + (1:Int))),())))),(b2,()))) else none else some (.inr (.inr (.inl (((),(t5,())),(b2,())))))
noncomputable def s295_L0 (x:((Int×(Unit×(Bool×(Int×Unit))))×Ta146)):=q295_L0 x.1.1 x.1.2.2.1 x.1.2.2.2.1 x.2.1
noncomputable def a295:Nat→Option LoopAnn:=fun c=>bif Nat.beq c 0 then some (.fix h295_L0 e295_L0 s295_L0) else none
noncomputable def g295 (x0:Ta136) (x1:Int):Option ((Bool×Unit)×Unit) :=
(g342 x0.1).bind fun y1=>bif (!y1.1.1) then some ((false,()),()) else bif (!(f335 x0.2.2.1)) then some ((false,()),()) else bif (!(f97 (x0.2.2.2.1.len:Int) (1:Int) (4:Int))) then some ((false,()),()) else (fixO s295_L0 ((x1,((),(false,((0:Int),())))),(x0,()))).bind fun d3=>match d3 with | .inl y2=>some ((y2.1.1,()),()) | .inr (.inl y2)=>bif y2.1.2.1 then some ((((Int.tmod y2.2.1.2.1 (4:Int)) == (0:Int)),()),()) else some ((false,()),()) | .inr (.inr e)=>nomatch e
noncomputable def c295:Ctr:={ ins:=[.v Ty259,.v (.int .i64)],out:=[.bool],F:=fun x=>g295 x.1 x.2.1 }
noncomputable def l295:List (Nat×Code):=loopsIn (Tryz.f295.body.getD .skip) 0
theorem w295_L0:LW t295 a295 l295 0 0 h295_L0 e295_L0 s295_L0:=fun x=>by kernel_rfl
theorem o295:Holds Tryz.prog 295 c295:=fh t295 a295 Tryz.func295 [(0,lg l295 0)] ⟨fun x d h=>(w295_L0 x).trans h,trivial⟩ (tc o342 (tc o335 (tc o97 (tc o308 (tc o343 tn)))))
noncomputable def t296r:Tbl:=[]
abbrev h296r_L0:Shape:={ slots:=[(0,.v Ty267),(3,.ms 5),(4,.v (.int .i64))],boxes:=[(5,.row Ty129)] }
abbrev e296r_L0:List (XT×Shape):=[(.exit 0,{ slots:=[(3,.ms 5)],boxes:=[(5,.row Ty129)] })]
noncomputable def q296r_L0 (t0:Ta141) (t4:Int) (r5:Ta12):Option ((Ta172×Ta40)⊕(Ta87⊕Empty)) :=
bif (decide (t4 < (t0.len:Int))) then bif (decide (0≤t4)&&decide (t4 < (t0.len:Int))) then bif (decide (r5.len + (L.get t0 t4.toNat).2.2.2.1.len≤most)) then some (.inl ((t0,((),((wI (t4 + (1:Int))),()))),((L.app r5 (L.get t0 t4.toNat).2.2.2.1),()))) else none else none else some (.inr (.inl (((),()),(r5,()))))
noncomputable def s296r_L0 (x:(Ta172×Ta40)):=q296r_L0 x.1.1 x.1.2.2.1 x.2.1
noncomputable def a296r:Nat→Option LoopAnn:=fun c=>bif Nat.beq c 0 then some (.fix h296r_L0 e296r_L0 s296r_L0) else none
noncomputable def g296r (x0:Ta141):Option Ta63 :=
(fixO s296r_L0 ((x0,((),((0:Int),()))),((L.of (Ty.zero Ty129) []),()))).bind fun d2=>match d2 with | .inl y1=>some ((y1.2.1,()),()) | .inr e=>nomatch e
noncomputable def c296r:Ctr:={ ins:=[.v Ty267],out:=[Ty138],F:=fun x=>g296r x.1,fr:=1 }
noncomputable def l296r:List (Nat×Code):=loopsIn (Tryz.f296.body.getD .skip) 0
theorem w296r_L0:LW t296r a296r l296r 0 0 h296r_L0 e296r_L0 s296r_L0:=fun x=>by kernel_rfl
theorem o296r:Holds Tryz.prog 296 c296r:=fh t296r a296r Tryz.func296 [(0,lg l296r 0)] ⟨fun x d h=>(w296r_L0 x).trans h,trivial⟩ tn
noncomputable def t221:Tbl:=[(97,[],c97),(295,[],c295),(296,[],c296r)]
abbrev h221_L2:Shape:={ slots:=[(1,.bx 1 0),(3,.v (.int .i64)),(4,.v (.int .i64))],boxes:=[(1,.typ Ty370)] }
abbrev e221_L2:List (XT×Shape):=[(.ret,{ slots:=[(2,.v .bool)],boxes:=[] }),(.exit 2,{ slots:=[(1,.bx 1 0),(3,.v (.int .i64))],boxes:=[(1,.typ Ty370)] })]
noncomputable def q221_L2 (t3:Int) (t4:Int) (b1:Ta330):Option (Ta344⊕(((Bool×Unit)×Unit)⊕(Ta342⊕Empty))) :=
bif (decide (t4 < t3)) then bif (decide (0≤t4)&&decide (t4 < (b1.2.2.2.2.2.2.2.1.len:Int))) then bif (decide (0≤t3)&&decide (t3 < (b1.2.2.2.2.2.2.2.1.len:Int))) then bif (strEq (L.get b1.2.2.2.2.2.2.2.1 t4.toNat).1 (L.get b1.2.2.2.2.2.2.2.1 t3.toNat).1) then some (.inr (.inl ((false,()),()))) else some (.inl (((),(t3,((wI (t4 + (1:Int))),()))),(b1,()))) else none else none else some (.inr (.inr (.inl (((),(t3,())),(b1,())))))
noncomputable def s221_L2 (x:Ta344):=q221_L2 x.1.2.1 x.1.2.2.1 x.2.1
abbrev h221_L0:Shape:={ slots:=[(1,.bx 1 0),(3,.v (.int .i64))],boxes:=[(1,.typ Ty370)] }
abbrev e221_L0:List (XT×Shape):=[(.ret,{ slots:=[(2,.v .bool)],boxes:=[] }),(.exit 0,{ slots:=[(1,.bx 1 0)],boxes:=[(1,.typ Ty370)] })]
noncomputable def q221_L0 (t3:Int) (b1:Ta330):Option (Ta342⊕(((Bool×Unit)×Unit)⊕(Ta339⊕Empty))) :=
bif (decide (t3 < (b1.2.2.2.2.2.2.2.1.len:Int))) then bif (decide (0≤t3)&&decide (t3 < (b1.2.2.2.2.2.2.2.1.len:Int))) then (g295 (L.get b1.2.2.2.2.2.2.2.1 t3.toNat) b1.1).bind fun y1=>bif (!y1.1.1) then some (.inr (.inl ((false,()),()))) else ((fixO s221_L2 (((),(t3,((0:Int),()))),(b1,()))).bind fun d3=>match d3 with | .inl y2=>some (.inr (.inl y2)) | .inr (.inl y2)=>some (.inl (((),((wI (y2.1.2.1 + (1:Int))),())),y2.2)) | .inr (.inr e)=>nomatch e) else none else some (.inr (.inr (.inl (((),()),(b1,())))))
noncomputable def s221_L0 (x:Ta342):=q221_L0 x.1.2.1 x.2.1
abbrev h221_L6:Shape:={ slots:=[(5,.ms 1003136),(6,.v (.int .i64)),(7,.v (.int .i64))],boxes:=[(1003136,.row Ty129)] }
abbrev e221_L6:List (XT×Shape):=[(.ret,{ slots:=[(2,.v .bool)],boxes:=[] }),(.exit 6,{ slots:=[(5,.ms 1003136),(6,.v (.int .i64))],boxes:=[(1003136,.row Ty129)] })]
noncomputable def q221_L6 (t6:Int) (t7:Int) (r1003136:Ta12):Option (Ta124⊕(((Bool×Unit)×Unit)⊕(Ta110⊕Empty))) :=
bif (decide (t7 < t6)) then bif (decide (0≤t7)&&decide (t7 < (r1003136.len:Int))) then bif (decide (0≤t6)&&decide (t6 < (r1003136.len:Int))) then bif (decide (0≤t6)&&decide (t6 < (r1003136.len:Int))) then bif (decide ((L.get r1003136 t7.toNat).1 < (wI ((L.get r1003136 t6.toNat).1 + (L.get r1003136 t6.toNat).2.1)))) then bif (decide (0≤t6)&&decide (t6 < (r1003136.len:Int))) then bif (decide (0≤t7)&&decide (t7 < (r1003136.len:Int))) then bif (decide (0≤t7)&&decide (t7 < (r1003136.len:Int))) then bif (decide ((L.get r1003136 t6.toNat).1 < (wI ((L.get r1003136 t7.toNat).1 + (L.get r1003136 t7.toNat).2.1)))) then some (.inr (.inl ((false,()),()))) else some (.inl (((),(t6,((wI (t7 + (1:Int))),()))),(r1003136,()))) else none else none else none else some (.inl (((),(t6,((wI (t7 + (1:Int))),()))),(r1003136,()))) else none else none else none else some (.inr (.inr (.inl (((),(t6,())),(r1003136,())))))
noncomputable def s221_L6 (x:Ta124):=q221_L6 x.1.2.1 x.1.2.2.1 x.2.1
abbrev h221_L4:Shape:={ slots:=[(5,.ms 1003136),(6,.v (.int .i64))],boxes:=[(1003136,.row Ty129)] }
abbrev e221_L4:List (XT×Shape):=[(.ret,{ slots:=[(2,.v .bool)],boxes:=[] }),(.exit 4,{ slots:=[],boxes:=[] })]
noncomputable def q221_L4 (t6:Int) (r1003136:Ta12):Option (Ta110⊕(((Bool×Unit)×Unit)⊕((Unit×Unit)⊕Empty))) :=
bif (decide (t6 < (r1003136.len:Int))) then ((fixO s221_L6 (((),(t6,((0:Int),()))),(r1003136,()))).bind fun d7=>match d7 with | .inl y6=>some (.inr (.inl y6)) | .inr (.inl y6)=>some (.inl (((),((wI (y6.1.2.1 + (1:Int))),())),y6.2)) | .inr (.inr e)=>nomatch e) else some (.inr (.inr (.inl ((),()))))
noncomputable def s221_L4 (x:Ta110):=q221_L4 x.1.2.1 x.2.1
noncomputable def a221:Nat→Option LoopAnn:=fun c=>bif Nat.beq c 2 then some (.fix h221_L2 e221_L2 s221_L2) else bif Nat.beq c 0 then some (.fix h221_L0 e221_L0 s221_L0) else bif Nat.beq c 6 then some (.fix h221_L6 e221_L6 s221_L6) else bif Nat.beq c 4 then some (.fix h221_L4 e221_L4 s221_L4) else none
noncomputable def g221 (x0:Ta330):Option ((Bool×Unit)×Unit) :=
bif (!(f97 (x0.2.2.2.2.2.2.2.1.len:Int) (1:Int) (6:Int))) then some ((false,()),()) else (fixO s221_L0 (((),((0:Int),())),(x0,()))).bind fun d10=>match d10 with | .inl y4=>some ((y4.1.1,()),()) | .inr (.inl y4)=>(g296r y4.2.1.2.2.2.2.2.2.2.1).bind fun y5=>((fixO s221_L4 (((),((0:Int),())),y5.1)).bind fun d9=>match d9 with | .inl y8=>some ((y8.1.1,()),()) | .inr (.inl y8)=>some ((true,()),()) | .inr (.inr e)=>nomatch e) | .inr (.inr e)=>nomatch e
noncomputable def c221:Ctr:={ ins:=[.v Ty370],out:=[.bool],F:=fun x=>g221 x.1 }
noncomputable def l221:List (Nat×Code):=loopsIn (Tryz.f221.body.getD .skip) 0
theorem w221_L2:LW t221 a221 l221 1 2 h221_L2 e221_L2 s221_L2:=fun x=>by kernel_rfl
theorem w221_L0:LW t221 a221 l221 0 0 h221_L0 e221_L0 s221_L0:=fun x=>by kernel_rfl
theorem w221_L6:LW t221 a221 l221 3 6 h221_L6 e221_L6 s221_L6:=fun x=>by kernel_rfl
theorem w221_L4:LW t221 a221 l221 2 4 h221_L4 e221_L4 s221_L4:=fun x=>by kernel_rfl
theorem o221:Holds Tryz.prog 221 c221:=fh t221 a221 Tryz.func221 [(0,lg l221 0),(2,lg l221 1),(4,lg l221 2),(6,lg l221 3)] ⟨fun x d h=>(w221_L0 x).trans h,fun x d h=>(w221_L2 x).trans h,fun x d h=>(w221_L4 x).trans h,fun x d h=>(w221_L6 x).trans h,trivial⟩ (tc o97 (tc o295 (tc o296r tn)))
noncomputable def t297:Tbl:=[(97,[],c97)]
noncomputable def g297 (x0:Ta17):Option ((Bool×Unit)×Unit) :=
bif (!(f97 x0.2.1 (0:Int) (5:Int))) then some ((false,()),()) else bif (!(f97 x0.2.2.1 (0:Int) (5:Int))) then some ((false,()),()) else bif (x0.2.1 == x0.2.2.1) then some ((false,()),()) else bif (x0.1 == (0:Int)) then bif (x0.2.2.2.1 == (0:Int)) then some ((true,()),()) else bif (x0.1 == (1:Int)) then some (((f97 x0.2.2.2.1 (1:Int) (8:Int)),()),()) else some ((false,()),()) else bif (x0.1 == (1:Int)) then some (((f97 x0.2.2.2.1 (1:Int) (8:Int)),()),()) else some ((false,()),())
noncomputable def f297 (x0:Ta17):Bool :=
bif (!(f97 x0.2.1 (0:Int) (5:Int))) then false else bif (!(f97 x0.2.2.1 (0:Int) (5:Int))) then false else bif (x0.2.1 == x0.2.2.1) then false else bif (x0.1 == (0:Int)) then bif (x0.2.2.2.1 == (0:Int)) then true else bif (x0.1 == (1:Int)) then (f97 x0.2.2.2.1 (1:Int) (8:Int)) else false else bif (x0.1 == (1:Int)) then (f97 x0.2.2.2.1 (1:Int) (8:Int)) else false
theorem n297 (x0:Ta17):g297 x0 = some ((f297 x0,()),()):=by simp only [g297,f297,pull1]
noncomputable def c297:Ctr:={ ins:=[.v Ty164],out:=[.bool],F:=fun x=>some ((f297 x.1,()),()) }
theorem o297:Holds Tryz.prog 297 c297:=f0T t297 (fun x=>g297 x.1) Tryz.func297 (tc o97 tn) (fun x=>n297 x.1)
noncomputable def t266:Tbl:=[(294,[],c294),(119,[],c119),(297,[],c297)]
abbrev h266_L0:Shape:={ slots:=[(2,.v Ty169),(3,.bx 3 0),(7,.v (.int .i64)),(8,.v (.int .i64))],boxes:=[(3,.typ Ty229)] }
abbrev e266_L0:List (XT×Shape):=[(.ret,{ slots:=[(6,.v (.int .i64))],boxes:=[] }),(.exit 0,{ slots:=[(7,.v (.int .i64))],boxes:=[] })]
noncomputable def q266_L0 (t2:Ta36) (t7:Int) (t8:Int) (b3:Ta81):Option (((Ta36×(Unit×(Int×(Int×Unit))))×Ta109)⊕(((Int×Unit)×Unit)⊕(((Int×Unit)×Unit)⊕Empty))) :=
bif (decide (t8 < (t2.len:Int))) then bif (decide (0≤t8)&&decide (t8 < (t2.len:Int))) then bif (!(f297 (L.get t2 t8.toNat))) then some (.inr (.inl (((-1:Int),()),()))) else bif (decide (0≤t8)&&decide (t8 < (t2.len:Int))) then bif ((L.get t2 t8.toNat).1 == (0:Int)) then some (.inl ((t2,((),((wI (t7 + b3.1)),((wI (t8 + (1:Int))),())))),(b3,()))) else bif (decide (0≤t8)&&decide (t8 < (t2.len:Int))) then some (.inl ((t2,((),((wI (t7 + (wI (b3.1 * (L.get t2 t8.toNat).2.2.2.1)))),((wI (t8 + (1:Int))),())))),(b3,()))) else none else none else none else some (.inr (.inr (.inl ((t7,()),()))))
noncomputable def s266_L0 (x:((Ta36×(Unit×(Int×(Int×Unit))))×Ta109)):=q266_L0 x.1.1 x.1.2.2.1 x.1.2.2.2.1 x.2.1
noncomputable def a266:Nat→Option LoopAnn:=fun c=>bif Nat.beq c 0 then some (.fix h266_L0 e266_L0 s266_L0) else none
noncomputable def g266 (x0:Ta81) (x1:(Int×(Int×(Int×Unit)))) (x2:Ta36):Option ((Int×Unit)×Unit) :=
bif (!(f294 x0)) then some (((-1:Int),()),()) else bif (!(f119 x1)) then some (((-1:Int),()),()) else bif (decide ((x2.len:Int) > (8:Int))) then some (((-1:Int),()),()) else (fixO s266_L0 ((x2,((),((wI ((wI ((16:Int) * x0.1)) + (wI ((wI (x1.1 * x1.2.1)) * x0.2.2.2.2.2.2.1)))),((0:Int),())))),(x0,()))).bind fun d2=>match d2 with | .inl y1=>some ((y1.1.1,()),()) | .inr (.inl y1)=>some ((y1.1.1,()),()) | .inr (.inr e)=>nomatch e
noncomputable def c266:Ctr:={ ins:=[.v Ty229,.v Ty129,.v Ty169],out:=[(.int .i64)],F:=fun x=>g266 x.1 x.2.1 x.2.2.1 }
noncomputable def l266:List (Nat×Code):=loopsIn (Tryz.f266.body.getD .skip) 0
theorem w266_L0:LW t266 a266 l266 0 0 h266_L0 e266_L0 s266_L0:=fun x=>by kernel_rfl
theorem o266:Holds Tryz.prog 266 c266:=fh t266 a266 Tryz.func266 [(0,lg l266 0)] ⟨fun x d h=>(w266_L0 x).trans h,trivial⟩ (tc o294 (tc o119 (tc o297 tn)))
noncomputable def t222:Tbl:=[(97,[],c97),(297,[],c297),(266,[],c266)]
abbrev h222_L0:Shape:={ slots:=[(1,.bx 1 0),(3,.v (.int .i64))],boxes:=[(1,.typ Ty370)] }
abbrev e222_L0:List (XT×Shape):=[(.ret,{ slots:=[(2,.v .bool)],boxes:=[] }),(.exit 0,{ slots:=[(1,.bx 1 0)],boxes:=[(1,.typ Ty370)] })]
noncomputable def q222_L0 (t3:Int) (b1:Ta330):Option (Ta342⊕(((Bool×Unit)×Unit)⊕(Ta339⊕Empty))) :=
bif (decide (t3 < (b1.2.2.2.2.2.2.2.2.1.len:Int))) then bif (decide (0≤t3)&&decide (t3 < (b1.2.2.2.2.2.2.2.2.1.len:Int))) then bif (!(f97 (L.get b1.2.2.2.2.2.2.2.2.1 t3.toNat) (0:Int) (wI ((b1.2.2.2.2.2.2.2.1.len:Int) - (1:Int))))) then some (.inr (.inl ((false,()),()))) else some (.inl (((),((wI (t3 + (1:Int))),())),(b1,()))) else none else some (.inr (.inr (.inl (((),()),(b1,())))))
noncomputable def s222_L0 (x:Ta342):=q222_L0 x.1.2.1 x.2.1
abbrev h222_L2:Shape:={ slots:=[(1,.bx 1 0),(4,.v (.int .i64))],boxes:=[(1,.typ Ty370)] }
abbrev e222_L2:List (XT×Shape):=[(.ret,{ slots:=[(2,.v .bool)],boxes:=[] }),(.exit 2,{ slots:=[(1,.bx 1 0)],boxes:=[(1,.typ Ty370)] })]
noncomputable def q222_L2 (t4:Int) (b1:Ta330):Option (Ta342⊕(((Bool×Unit)×Unit)⊕(Ta339⊕Empty))) :=
bif (decide (t4 < (b1.2.2.2.2.2.2.2.2.2.1.len:Int))) then bif (decide (0≤t4)&&decide (t4 < (b1.2.2.2.2.2.2.2.2.2.1.len:Int))) then bif (!(f297 (L.get b1.2.2.2.2.2.2.2.2.2.1 t4.toNat))) then some (.inr (.inl ((false,()),()))) else bif (decide (0≤t4)&&decide (t4 < (b1.2.2.2.2.2.2.2.2.2.1.len:Int))) then bif (decide ((L.get b1.2.2.2.2.2.2.2.2.2.1 t4.toNat).2.1 ≥ (b1.2.2.2.2.2.2.2.1.len:Int))) then some (.inr (.inl ((false,()),()))) else bif (decide (0≤t4)&&decide (t4 < (b1.2.2.2.2.2.2.2.2.2.1.len:Int))) then bif (decide ((L.get b1.2.2.2.2.2.2.2.2.2.1 t4.toNat).2.2.1 ≥ (b1.2.2.2.2.2.2.2.1.len:Int))) then some (.inr (.inl ((false,()),()))) else some (.inl (((),((wI (t4 + (1:Int))),())),(b1,()))) else none else none else none else some (.inr (.inr (.inl (((),()),(b1,())))))
noncomputable def s222_L2 (x:Ta342):=q222_L2 x.1.2.1 x.2.1
noncomputable def a222:Nat→Option LoopAnn:=fun c=>bif Nat.beq c 0 then some (.fix h222_L0 e222_L0 s222_L0) else bif Nat.beq c 2 then some (.fix h222_L2 e222_L2 s222_L2) else none
noncomputable def g222 (x0:Ta330):Option ((Bool×Unit)×Unit) :=
bif (decide ((x0.2.2.2.2.2.2.2.2.1.len:Int) > (8:Int))) then some ((false,()),()) else bif (decide ((x0.2.2.2.2.2.2.2.2.2.1.len:Int) > (8:Int))) then some ((false,()),()) else (fixO s222_L0 (((),((0:Int),())),(x0,()))).bind fun d5=>match d5 with | .inl y1=>some ((y1.1.1,()),()) | .inr (.inl y1)=>((fixO s222_L2 (((),((0:Int),())),y1.2)).bind fun d4=>match d4 with | .inl y2=>some ((y2.1.1,()),()) | .inr (.inl y2)=>(g266 y2.2.1.2.2.2.1 y2.2.1.2.1 y2.2.1.2.2.2.2.2.2.2.2.2.1).bind fun y3=>some (((decide (y2.2.1.2.2.2.2.1 ≥ y3.1.1)),()),()) | .inr (.inr e)=>nomatch e) | .inr (.inr e)=>nomatch e
noncomputable def c222:Ctr:={ ins:=[.v Ty370],out:=[.bool],F:=fun x=>g222 x.1 }
noncomputable def l222:List (Nat×Code):=loopsIn (Tryz.f222.body.getD .skip) 0
theorem w222_L0:LW t222 a222 l222 0 0 h222_L0 e222_L0 s222_L0:=fun x=>by kernel_rfl
theorem w222_L2:LW t222 a222 l222 1 2 h222_L2 e222_L2 s222_L2:=fun x=>by kernel_rfl
theorem o222:Holds Tryz.prog 222 c222:=fh t222 a222 Tryz.func222 [(0,lg l222 0),(2,lg l222 1)] ⟨fun x d h=>(w222_L0 x).trans h,fun x d h=>(w222_L2 x).trans h,trivial⟩ (tc o97 (tc o297 (tc o266 tn)))
noncomputable def t223:Tbl:=[(97,[],c97)]
abbrev h223_L0:Shape:={ slots:=[(1,.bx 1 0),(3,.v (.int .i64)),(4,.v (.int .i64))],boxes:=[(1,.typ Ty370)] }
abbrev e223_L0:List (XT×Shape):=[(.ret,{ slots:=[(2,.v .bool)],boxes:=[] }),(.exit 0,{ slots:=[],boxes:=[] })]
noncomputable def q223_L0 (t3:Int) (t4:Int) (b1:Ta330):Option (Ta344⊕(((Bool×Unit)×Unit)⊕((Unit×Unit)⊕Empty))) :=
bif (decide (t4 < (b1.2.2.2.2.2.2.2.2.2.2.1.len:Int))) then bif (decide (0≤t4)&&decide (t4 < (b1.2.2.2.2.2.2.2.2.2.2.1.len:Int))) then bif (!(f97 (L.get b1.2.2.2.2.2.2.2.2.2.2.1 t4.toNat).1 (0:Int) (wI ((b1.2.2.2.2.2.2.2.1.len:Int) - (1:Int))))) then some (.inr (.inl ((false,()),()))) else bif (!(f97 (L.get b1.2.2.2.2.2.2.2.2.2.2.1 t4.toNat).2.1 t3 (5000:Int))) then some (.inr (.inl ((false,()),()))) else bif (!(f97 (L.get b1.2.2.2.2.2.2.2.2.2.2.1 t4.toNat).2.2.1 (wI ((wI (b1.2.2.2.2.1 + b1.2.2.2.2.2.1)) + (1:Int))) (5000:Int))) then some (.inr (.inl ((false,()),()))) else bif (decide ((wI ((L.get b1.2.2.2.2.2.2.2.2.2.2.1 t4.toNat).2.1 + (L.get b1.2.2.2.2.2.2.2.2.2.2.1 t4.toNat).2.2.1)) > b1.2.2.2.2.2.2.1)) then some (.inr (.inl ((false,()),()))) else some (.inl (((),((wI ((L.get b1.2.2.2.2.2.2.2.2.2.2.1 t4.toNat).2.1 + (L.get b1.2.2.2.2.2.2.2.2.2.2.1 t4.toNat).2.2.1)),((wI (t4 + (1:Int))),()))),(b1,()))) else none else some (.inr (.inr (.inl ((),()))))
noncomputable def s223_L0 (x:Ta344):=q223_L0 x.1.2.1 x.1.2.2.1 x.2.1
noncomputable def a223:Nat→Option LoopAnn:=fun c=>bif Nat.beq c 0 then some (.fix h223_L0 e223_L0 s223_L0) else none
noncomputable def g223 (x0:Ta330):Option ((Bool×Unit)×Unit) :=
bif (!(f97 (x0.2.2.2.2.2.2.2.2.2.2.1.len:Int) (1:Int) (16:Int))) then some ((false,()),()) else (fixO s223_L0 (((),((0:Int),((0:Int),()))),(x0,()))).bind fun d2=>match d2 with | .inl y1=>some ((y1.1.1,()),()) | .inr (.inl y1)=>some ((true,()),()) | .inr (.inr e)=>nomatch e
noncomputable def c223:Ctr:={ ins:=[.v Ty370],out:=[.bool],F:=fun x=>g223 x.1 }
noncomputable def l223:List (Nat×Code):=loopsIn (Tryz.f223.body.getD .skip) 0
theorem w223_L0:LW t223 a223 l223 0 0 h223_L0 e223_L0 s223_L0:=fun x=>by kernel_rfl
theorem o223:Holds Tryz.prog 223 c223:=fh t223 a223 Tryz.func223 [(0,lg l223 0)] ⟨fun x d h=>(w223_L0 x).trans h,trivial⟩ (tc o97 tn)
noncomputable def t127:Tbl:=[(220,[],c220),(221,[],c221),(222,[],c222),(223,[],c223)]
noncomputable def g127 (x0:Ta330):Option ((Bool×Unit)×Unit) :=
(g220 x0).bind fun y1=>bif y1.1.1 then (g221 x0).bind fun y2=>bif y2.1.1 then (g222 x0).bind fun y3=>bif y3.1.1 then (g223 x0).bind fun y4=>some ((y4.1.1,()),()) else some ((false,()),()) else some ((false,()),()) else some ((false,()),())
noncomputable def c127:Ctr:={ ins:=[.v Ty370],out:=[.bool],F:=fun x=>g127 x.1 }
theorem o127:Holds Tryz.prog 127 c127:=f0 t127 Tryz.func127 (tc o220 (tc o221 (tc o222 (tc o223 tn))))
noncomputable def t128:Tbl:=[(97,[],c97)]
abbrev h128_L0:Shape:={ slots:=[(1,.v (.int .i64)),(2,.v (.sl (.sl (.int .u8)))),(3,.bx 3 0),(7,.v (.int .i64))],boxes:=[(3,.typ Ty370)] }
abbrev e128_L0:List (XT×Shape):=[(.ret,{ slots:=[(6,.v .bool)],boxes:=[] }),(.exit 0,{ slots:=[],boxes:=[] })]
noncomputable def q128_L0 (t1:Int) (t2:(L (L Int))) (t7:Int) (b3:Ta330):Option (((Int×Ta32)×Ta335)⊕(((Bool×Unit)×Unit)⊕((Unit×Unit)⊕Empty))) :=
bif (decide (t7 < (t2.len:Int))) then bif (decide (0≤t7)&&decide (t7 < (t2.len:Int))) then bif (decide (0≤t1)&&decide (t1 < (b3.2.2.2.2.2.2.2.1.len:Int))) then bif (decide (0≤t7)&&decide (t7 < ((L.get b3.2.2.2.2.2.2.2.1 t1.toNat).2.2.2.1.len:Int))) then bif (((L.get t2 t7.toNat).len:Int) != (L.get (L.get b3.2.2.2.2.2.2.2.1 t1.toNat).2.2.2.1 t7.toNat).2.1) then some (.inr (.inl ((false,()),()))) else some (.inl ((t1,(t2,((),((wI (t7 + (1:Int))),())))),(b3,()))) else none else none else none else some (.inr (.inr (.inl ((),()))))
noncomputable def s128_L0 (x:((Int×Ta32)×Ta335)):=q128_L0 x.1.1 x.1.2.1 x.1.2.2.2.1 x.2.1
noncomputable def a128:Nat→Option LoopAnn:=fun c=>bif Nat.beq c 0 then some (.fix h128_L0 e128_L0 s128_L0) else none
noncomputable def g128 (x0:Ta330) (x1:Int) (x2:(L (L Int))):Option ((Bool×Unit)×Unit) :=
bif (!(f97 x1 (0:Int) (wI ((x0.2.2.2.2.2.2.2.1.len:Int) - (1:Int))))) then some ((false,()),()) else bif (decide (0≤x1)&&decide (x1 < (x0.2.2.2.2.2.2.2.1.len:Int))) then bif ((x2.len:Int) != ((L.get x0.2.2.2.2.2.2.2.1 x1.toNat).2.2.2.1.len:Int)) then some ((false,()),()) else ((fixO s128_L0 ((x1,(x2,((),((0:Int),())))),(x0,()))).bind fun d2=>match d2 with | .inl y1=>some ((y1.1.1,()),()) | .inr (.inl y1)=>some ((true,()),()) | .inr (.inr e)=>nomatch e) else none
noncomputable def c128:Ctr:={ ins:=[.v Ty370,.v (.int .i64),.v (.sl (.sl (.int .u8)))],out:=[.bool],F:=fun x=>g128 x.1 x.2.1 x.2.2.1 }
noncomputable def l128:List (Nat×Code):=loopsIn (Tryz.f128.body.getD .skip) 0
theorem w128_L0:LW t128 a128 l128 0 0 h128_L0 e128_L0 s128_L0:=fun x=>by kernel_rfl
theorem o128:Holds Tryz.prog 128 c128:=fh t128 a128 Tryz.func128 [(0,lg l128 0)] ⟨fun x d h=>(w128_L0 x).trans h,trivial⟩ (tc o97 tn)
noncomputable def t45:Tbl:=[(127,[],c127),(128,[],c128)]
noncomputable def g45 (x0:Ta330) (x1:Int) (x2:(L (L Int))):Option ((Bool×Unit)×Unit) :=
(g127 x0).bind fun y1=>bif y1.1.1 then (g128 x0 x1 x2).bind fun y2=>some ((y2.1.1,()),()) else some ((false,()),())
noncomputable def c45:Ctr:={ ins:=[.v Ty370,.v (.int .i64),.v (.sl (.sl (.int .u8)))],out:=[.bool],F:=fun x=>g45 x.1 x.2.1 x.2.2.1 }
theorem o45:Holds Tryz.prog 45 c45:=f0 t45 Tryz.func45 (tc o127 (tc o128 tn))
noncomputable def t309:Tbl:=[(308,[],c308),(343,[],c343)]
abbrev h309_L0:Shape:={ slots:=[(2,.bx 2 0),(3,.bx 3 0),(5,.v (.int .i64))],boxes:=[(2,.typ Ty129),(3,.typ Ty129)] }
abbrev e309_L0:List (XT×Shape):=[(.ret,{ slots:=[(4,.v .bool)],boxes:=[] }),(.exit 0,{ slots:=[],boxes:=[] })]
noncomputable def q309_L0 (t5:Int) (b2:(Int×(Int×(Int×Unit)))) (b3:(Int×(Int×(Int×Unit)))):Option ((Ta4×((Int×(Int×(Int×Unit)))×Ta23))⊕(((Bool×Unit)×Unit)⊕((Unit×Unit)⊕Empty))) :=
bif (decide (t5 < (2048:Int))) then bif (f343 b2 t5) then bif (f343 b3 t5) then some (.inr (.inl ((false,()),()))) else some (.inl (((),((),((wI (t5 + (4:Int))),()))),(b2,(b3,())))) else some (.inl (((),((),((wI (t5 + (4:Int))),()))),(b2,(b3,())))) else some (.inr (.inr (.inl ((),()))))
noncomputable def s309_L0 (x:(Ta4×((Int×(Int×(Int×Unit)))×Ta23))):=q309_L0 x.1.2.2.1 x.2.1 x.2.2.1
noncomputable def a309:Nat→Option LoopAnn:=fun c=>bif Nat.beq c 0 then some (.fix h309_L0 e309_L0 s309_L0) else none
noncomputable def g309 (x0:(Int×(Int×(Int×Unit)))) (x1:(Int×(Int×(Int×Unit)))):Option ((Bool×Unit)×Unit) :=
bif (!(f308 x0)) then some ((false,()),()) else bif (!(f308 x1)) then some ((false,()),()) else (fixO s309_L0 (((),((),((0:Int),()))),(x0,(x1,())))).bind fun d2=>match d2 with | .inl y1=>some ((y1.1.1,()),()) | .inr (.inl y1)=>some ((true,()),()) | .inr (.inr e)=>nomatch e
noncomputable def c309:Ctr:={ ins:=[.v Ty129,.v Ty129],out:=[.bool],F:=fun x=>g309 x.1 x.2.1 }
noncomputable def l309:List (Nat×Code):=loopsIn (Tryz.f309.body.getD .skip) 0
theorem w309_L0:LW t309 a309 l309 0 0 h309_L0 e309_L0 s309_L0:=fun x=>by kernel_rfl
theorem o309:Holds Tryz.prog 309 c309:=fh t309 a309 Tryz.func309 [(0,lg l309 0)] ⟨fun x d h=>(w309_L0 x).trans h,trivial⟩ (tc o308 (tc o343 tn))
noncomputable def t248:Tbl:=[(308,[],c308),(309,[],c309)]
abbrev h248_L2:Shape:={ slots:=[(0,.v Ty138),(3,.v (.int .i64)),(4,.v (.int .i64))],boxes:=[] }
abbrev e248_L2:List (XT×Shape):=[(.ret,{ slots:=[(2,.v .bool)],boxes:=[] }),(.exit 2,{ slots:=[(0,.v Ty138),(3,.v (.int .i64))],boxes:=[] })]
noncomputable def q248_L2 (t0:Ta12) (t3:Int) (t4:Int):Option ((Ta78×Unit)⊕(((Bool×Unit)×Unit)⊕(Ta83⊕Empty))) :=
bif (decide (t4 < t3)) then bif (decide (0≤t4)&&decide (t4 < (t0.len:Int))) then bif (decide (0≤t3)&&decide (t3 < (t0.len:Int))) then (g309 (L.get t0 t4.toNat) (L.get t0 t3.toNat)).bind fun y1=>bif (!y1.1.1) then some (.inr (.inl ((false,()),()))) else some (.inl ((t0,(t3,((wI (t4 + (1:Int))),()))),())) else none else none else some (.inr (.inr (.inl ((t0,(t3,())),()))))
noncomputable def s248_L2 (x:(Ta78×Unit)):=q248_L2 x.1.1 x.1.2.1 x.1.2.2.1
abbrev h248_L0:Shape:={ slots:=[(0,.v Ty138),(3,.v (.int .i64))],boxes:=[] }
abbrev e248_L0:List (XT×Shape):=[(.ret,{ slots:=[(2,.v .bool)],boxes:=[] }),(.exit 0,{ slots:=[],boxes:=[] })]
noncomputable def q248_L0 (t0:Ta12) (t3:Int):Option (Ta83⊕(((Bool×Unit)×Unit)⊕((Unit×Unit)⊕Empty))) :=
bif (decide (t3 < (t0.len:Int))) then bif (decide (0≤t3)&&decide (t3 < (t0.len:Int))) then bif (!(f308 (L.get t0 t3.toNat))) then some (.inr (.inl ((false,()),()))) else ((fixO s248_L2 ((t0,(t3,((0:Int),()))),())).bind fun d3=>match d3 with | .inl y2=>some (.inr (.inl y2)) | .inr (.inl y2)=>some (.inl ((y2.1.1,((wI (y2.1.2.1 + (1:Int))),())),())) | .inr (.inr e)=>nomatch e) else none else some (.inr (.inr (.inl ((),()))))
noncomputable def s248_L0 (x:Ta83):=q248_L0 x.1.1 x.1.2.1
noncomputable def a248:Nat→Option LoopAnn:=fun c=>bif Nat.beq c 2 then some (.fix h248_L2 e248_L2 s248_L2) else bif Nat.beq c 0 then some (.fix h248_L0 e248_L0 s248_L0) else none
noncomputable def g248 (x0:Ta12):Option ((Bool×Unit)×Unit) :=
bif (decide ((x0.len:Int) > (4:Int))) then some ((false,()),()) else (fixO s248_L0 ((x0,((0:Int),())),())).bind fun d5=>match d5 with | .inl y4=>some ((y4.1.1,()),()) | .inr (.inl y4)=>some ((true,()),()) | .inr (.inr e)=>nomatch e
noncomputable def c248:Ctr:={ ins:=[.v Ty138],out:=[.bool],F:=fun x=>g248 x.1 }
noncomputable def l248:List (Nat×Code):=loopsIn (Tryz.f248.body.getD .skip) 0
theorem w248_L2:LW t248 a248 l248 1 2 h248_L2 e248_L2 s248_L2:=fun x=>by kernel_rfl
theorem w248_L0:LW t248 a248 l248 0 0 h248_L0 e248_L0 s248_L0:=fun x=>by kernel_rfl
theorem o248:Holds Tryz.prog 248 c248:=fh t248 a248 Tryz.func248 [(0,lg l248 0),(2,lg l248 1)] ⟨fun x d h=>(w248_L0 x).trans h,fun x d h=>(w248_L2 x).trans h,trivial⟩ (tc o308 (tc o309 tn))
noncomputable def t172:Tbl:=[(248,[],c248)]
abbrev h172_L0:Shape:={ slots:=[(0,.v Ty138),(3,.bx 3 0),(5,.v (.int .i64))],boxes:=[(3,.typ Ty154)] }
abbrev e172_L0:List (XT×Shape):=[(.ret,{ slots:=[(4,.v .bool)],boxes:=[] }),(.exit 0,{ slots:=[],boxes:=[] })]
noncomputable def q172_L0 (t0:Ta12) (t5:Int) (b3:Ta43):Option ((Ta82×Ta67)⊕(((Bool×Unit)×Unit)⊕((Unit×Unit)⊕Empty))) :=
bif (decide (t5 < (t0.len:Int))) then bif (decide (0≤t5)&&decide (t5 < (b3.2.2.1.len:Int))) then bif (decide (0≤t5)&&decide (t5 < (t0.len:Int))) then bif (((L.get b3.2.2.1 t5.toNat).len:Int) != (L.get t0 t5.toNat).2.1) then some (.inr (.inl ((false,()),()))) else some (.inl ((t0,((),((wI (t5 + (1:Int))),()))),(b3,()))) else none else none else some (.inr (.inr (.inl ((),()))))
noncomputable def s172_L0 (x:(Ta82×Ta67)):=q172_L0 x.1.1 x.1.2.2.1 x.2.1
noncomputable def a172:Nat→Option LoopAnn:=fun c=>bif Nat.beq c 0 then some (.fix h172_L0 e172_L0 s172_L0) else none
noncomputable def g172 (x0:Ta12) (x1:Ta43):Option ((Bool×Unit)×Unit) :=
(g248 x0).bind fun y1=>bif (!y1.1.1) then some ((false,()),()) else bif ((x1.1.len:Int) != (16:Int)) then some ((false,()),()) else bif (decide ((0:Int) < (x1.1.len:Int))) then bif ((L.get x1.1 (0:Int).toNat) != (0:Int)) then some ((false,()),()) else bif ((x1.2.2.1.len:Int) != (x0.len:Int)) then some ((false,()),()) else ((fixO s172_L0 ((x0,((),((0:Int),()))),(x1,()))).bind fun d3=>match d3 with | .inl y2=>some ((y2.1.1,()),()) | .inr (.inl y2)=>some ((true,()),()) | .inr (.inr e)=>nomatch e) else none
noncomputable def c172:Ctr:={ ins:=[.v Ty138,.v Ty154],out:=[.bool],F:=fun x=>g172 x.1 x.2.1 }
noncomputable def l172:List (Nat×Code):=loopsIn (Tryz.f172.body.getD .skip) 0
theorem w172_L0:LW t172 a172 l172 0 0 h172_L0 e172_L0 s172_L0:=fun x=>by kernel_rfl
theorem o172:Holds Tryz.prog 172 c172:=fh t172 a172 Tryz.func172 [(0,lg l172 0)] ⟨fun x d h=>(w172_L0 x).trans h,trivial⟩ (tc o248 tn)
noncomputable def t173:Tbl:=[(97,[],c97)]
noncomputable def g173 (x0:Ta22):Option ((Bool×Unit)×Unit) :=
bif (f97 x0.1 (0:Int) (1000000000:Int)) then bif (f97 x0.2.1 (0:Int) (1000000000:Int)) then some (((f97 x0.2.2.1 (0:Int) (9:Int)),()),()) else some ((false,()),()) else some ((false,()),())
noncomputable def f173 (x0:Ta22):Bool :=
bif (f97 x0.1 (0:Int) (1000000000:Int)) then bif (f97 x0.2.1 (0:Int) (1000000000:Int)) then (f97 x0.2.2.1 (0:Int) (9:Int)) else false else false
theorem n173 (x0:Ta22):g173 x0 = some ((f173 x0,()),()):=by simp only [g173,f173,pull1]
noncomputable def c173:Ctr:={ ins:=[.v Ty151],out:=[.bool],F:=fun x=>some ((f173 x.1,()),()) }
theorem o173:Holds Tryz.prog 173 c173:=f0T t173 (fun x=>g173 x.1) Tryz.func173 (tc o97 tn) (fun x=>n173 x.1)
noncomputable def t174:Tbl:=[(119,[],c119),(97,[],c97)]
abbrev h174_L4:Shape:={ slots:=[(1,.bx 1 0),(3,.v (.int .i64)),(4,.v Ty76),(5,.v (.int .i64)),(6,.v (.int .i64))],boxes:=[(1,.typ Ty225)] }
abbrev e174_L4:List (XT×Shape):=[(.ret,{ slots:=[(2,.v .bool)],boxes:=[] }),(.exit 4,{ slots:=[(1,.bx 1 0),(3,.v (.int .i64)),(4,.v Ty76),(5,.v (.int .i64))],boxes:=[(1,.typ Ty225)] })]
noncomputable def q174_L4 (t3:Int) (t4:(L (Int×(Bool×Unit)))) (t5:Int) (t6:Int) (b1:Ta118):Option (((Unit×Ta84)×Ta128)⊕(((Bool×Unit)×Unit)⊕(Ta195⊕Empty))) :=
bif (decide (t6 < t5)) then bif (decide (0≤t6)&&decide (t6 < (t4.len:Int))) then bif (decide (0≤t5)&&decide (t5 < (t4.len:Int))) then bif ((L.get t4 t6.toNat).1 == (L.get t4 t5.toNat).1) then some (.inr (.inl ((false,()),()))) else some (.inl (((),(t3,(t4,(t5,((wI (t6 + (1:Int))),()))))),(b1,()))) else none else none else some (.inr (.inr (.inl (((),(t3,(t4,(t5,())))),(b1,())))))
noncomputable def s174_L4 (x:((Unit×Ta84)×Ta128)):=q174_L4 x.1.2.1 x.1.2.2.1 x.1.2.2.2.1 x.1.2.2.2.2.1 x.2.1
abbrev h174_L2:Shape:={ slots:=[(1,.bx 1 0),(3,.v (.int .i64)),(4,.v Ty76),(5,.v (.int .i64))],boxes:=[(1,.typ Ty225)] }
abbrev e174_L2:List (XT×Shape):=[(.ret,{ slots:=[(2,.v .bool)],boxes:=[] }),(.exit 2,{ slots:=[(1,.bx 1 0),(3,.v (.int .i64))],boxes:=[(1,.typ Ty225)] })]
noncomputable def q174_L2 (t3:Int) (t4:(L (Int×(Bool×Unit)))) (t5:Int) (b1:Ta118):Option (Ta195⊕(((Bool×Unit)×Unit)⊕(Ta161⊕Empty))) :=
bif (decide (t5 < (t4.len:Int))) then bif (decide (0≤t5)&&decide (t5 < (t4.len:Int))) then bif (!(f97 (L.get t4 t5.toNat).1 (0:Int) (65535:Int))) then some (.inr (.inl ((false,()),()))) else ((fixO s174_L4 (((),(t3,(t4,(t5,((0:Int),()))))),(b1,()))).bind fun d2=>match d2 with | .inl y1=>some (.inr (.inl y1)) | .inr (.inl y1)=>some (.inl (((),(y1.1.2.1,(y1.1.2.2.1,((wI (y1.1.2.2.2.1 + (1:Int))),())))),y1.2)) | .inr (.inr e)=>nomatch e) else none else some (.inr (.inr (.inl (((),(t3,())),(b1,())))))
noncomputable def s174_L2 (x:Ta195):=q174_L2 x.1.2.1 x.1.2.2.1 x.1.2.2.2.1 x.2.1
abbrev h174_L0:Shape:={ slots:=[(1,.bx 1 0),(3,.v (.int .i64))],boxes:=[(1,.typ Ty225)] }
abbrev e174_L0:List (XT×Shape):=[(.ret,{ slots:=[(2,.v .bool)],boxes:=[] }),(.exit 0,{ slots:=[],boxes:=[] })]
noncomputable def q174_L0 (t3:Int) (b1:Ta118):Option (Ta161⊕(((Bool×Unit)×Unit)⊕((Unit×Unit)⊕Empty))) :=
bif (decide (t3 < (b1.2.1.len:Int))) then bif (decide (0≤t3)&&decide (t3 < (b1.2.1.len:Int))) then bif (decide (((L.get b1.2.1 t3.toNat).len:Int) > b1.1.2.1)) then some (.inr (.inl ((false,()),()))) else ((fixO s174_L2 (((),(t3,((L.get b1.2.1 t3.toNat),((0:Int),())))),(b1,()))).bind fun d4=>match d4 with | .inl y3=>some (.inr (.inl y3)) | .inr (.inl y3)=>some (.inl (((),((wI (y3.1.2.1 + (1:Int))),())),y3.2)) | .inr (.inr e)=>nomatch e) else none else some (.inr (.inr (.inl ((),()))))
noncomputable def s174_L0 (x:Ta161):=q174_L0 x.1.2.1 x.2.1
noncomputable def a174:Nat→Option LoopAnn:=fun c=>bif Nat.beq c 4 then some (.fix h174_L4 e174_L4 s174_L4) else bif Nat.beq c 2 then some (.fix h174_L2 e174_L2 s174_L2) else bif Nat.beq c 0 then some (.fix h174_L0 e174_L0 s174_L0) else none
noncomputable def g174 (x0:Ta118):Option ((Bool×Unit)×Unit) :=
bif (!(f119 x0.1)) then some ((false,()),()) else bif ((x0.2.1.len:Int) != x0.1.1) then some ((false,()),()) else (fixO s174_L0 (((),((0:Int),())),(x0,()))).bind fun d6=>match d6 with | .inl y5=>some ((y5.1.1,()),()) | .inr (.inl y5)=>some ((true,()),()) | .inr (.inr e)=>nomatch e
noncomputable def c174:Ctr:={ ins:=[.v Ty225],out:=[.bool],F:=fun x=>g174 x.1 }
noncomputable def l174:List (Nat×Code):=loopsIn (Tryz.f174.body.getD .skip) 0
theorem w174_L4:LW t174 a174 l174 2 4 h174_L4 e174_L4 s174_L4:=fun x=>by kernel_rfl
theorem w174_L2:LW t174 a174 l174 1 2 h174_L2 e174_L2 s174_L2:=fun x=>by kernel_rfl
theorem w174_L0:LW t174 a174 l174 0 0 h174_L0 e174_L0 s174_L0:=fun x=>by kernel_rfl
theorem o174:Holds Tryz.prog 174 c174:=fh t174 a174 Tryz.func174 [(0,lg l174 0),(2,lg l174 1),(4,lg l174 2)] ⟨fun x d h=>(w174_L0 x).trans h,fun x d h=>(w174_L2 x).trans h,fun x d h=>(w174_L4 x).trans h,trivial⟩ (tc o119 (tc o97 tn))
noncomputable def t175:Tbl:=[(97,[],c97)]
abbrev h175_L2:Shape:={ slots:=[(1,.bx 1 0),(3,.v (.int .i64)),(4,.v (.int .i64))],boxes:=[(1,.typ Ty99)] }
abbrev e175_L2:List (XT×Shape):=[(.ret,{ slots:=[(2,.v .bool)],boxes:=[] }),(.exit 2,{ slots:=[(1,.bx 1 0),(3,.v (.int .i64))],boxes:=[(1,.typ Ty99)] })]
noncomputable def q175_L2 (t3:Int) (t4:Int) (b1:(Int×((L Int)×Unit))):Option (((Unit×(Int×(Int×Unit)))×Ta15)⊕(((Bool×Unit)×Unit)⊕(Ta89⊕Empty))) :=
bif (decide (t4 < t3)) then bif (decide (0≤t4)&&decide (t4 < (b1.2.1.len:Int))) then bif (decide (0≤t3)&&decide (t3 < (b1.2.1.len:Int))) then bif ((L.get b1.2.1 t4.toNat) == (L.get b1.2.1 t3.toNat)) then some (.inr (.inl ((false,()),()))) else some (.inl (((),(t3,((wI (t4 + (1:Int))),()))),(b1,()))) else none else none else some (.inr (.inr (.inl (((),(t3,())),(b1,())))))
noncomputable def s175_L2 (x:((Unit×(Int×(Int×Unit)))×Ta15)):=q175_L2 x.1.2.1 x.1.2.2.1 x.2.1
abbrev h175_L0:Shape:={ slots:=[(1,.bx 1 0),(3,.v (.int .i64))],boxes:=[(1,.typ Ty99)] }
abbrev e175_L0:List (XT×Shape):=[(.ret,{ slots:=[(2,.v .bool)],boxes:=[] }),(.exit 0,{ slots:=[],boxes:=[] })]
noncomputable def q175_L0 (t3:Int) (b1:(Int×((L Int)×Unit))):Option (Ta89⊕(((Bool×Unit)×Unit)⊕((Unit×Unit)⊕Empty))) :=
bif (decide (t3 < (b1.2.1.len:Int))) then bif (decide (0≤t3)&&decide (t3 < (b1.2.1.len:Int))) then bif (!(f97 (L.get b1.2.1 t3.toNat) (0:Int) (1023:Int))) then some (.inr (.inl ((false,()),()))) else ((fixO s175_L2 (((),(t3,((0:Int),()))),(b1,()))).bind fun d2=>match d2 with | .inl y1=>some (.inr (.inl y1)) | .inr (.inl y1)=>some (.inl (((),((wI (y1.1.2.1 + (1:Int))),())),y1.2)) | .inr (.inr e)=>nomatch e) else none else some (.inr (.inr (.inl ((),()))))
noncomputable def s175_L0 (x:Ta89):=q175_L0 x.1.2.1 x.2.1
noncomputable def a175:Nat→Option LoopAnn:=fun c=>bif Nat.beq c 2 then some (.fix h175_L2 e175_L2 s175_L2) else bif Nat.beq c 0 then some (.fix h175_L0 e175_L0 s175_L0) else none
noncomputable def g175 (x0:(Int×((L Int)×Unit))):Option ((Bool×Unit)×Unit) :=
bif (!(f97 x0.1 (1:Int) (8:Int))) then some ((false,()),()) else bif (decide ((x0.2.1.len:Int) > x0.1)) then some ((false,()),()) else (fixO s175_L0 (((),((0:Int),())),(x0,()))).bind fun d4=>match d4 with | .inl y3=>some ((y3.1.1,()),()) | .inr (.inl y3)=>some ((true,()),()) | .inr (.inr e)=>nomatch e
noncomputable def c175:Ctr:={ ins:=[.v Ty99],out:=[.bool],F:=fun x=>g175 x.1 }
noncomputable def l175:List (Nat×Code):=loopsIn (Tryz.f175.body.getD .skip) 0
theorem w175_L2:LW t175 a175 l175 1 2 h175_L2 e175_L2 s175_L2:=fun x=>by kernel_rfl
theorem w175_L0:LW t175 a175 l175 0 0 h175_L0 e175_L0 s175_L0:=fun x=>by kernel_rfl
theorem o175:Holds Tryz.prog 175 c175:=fh t175 a175 Tryz.func175 [(0,lg l175 0),(2,lg l175 1)] ⟨fun x d h=>(w175_L0 x).trans h,fun x d h=>(w175_L2 x).trans h,trivial⟩ (tc o97 tn)
noncomputable def t249:Tbl:=[(297,[],c297),(97,[],c97)]
noncomputable def g249 (x0:Ta17) (x1:(Int×((L Int)×Unit))):Option ((Bool×Unit)×Unit) :=
bif (!(f297 x0)) then some ((false,()),()) else bif (x0.1 == (0:Int)) then bif (x1.1 == (0:Int)) then some (((decide ((x1.2.1.len:Int)≤(1:Int))),()),()) else some ((false,()),()) else bif (f97 x1.1 (0:Int) x0.2.2.2.1) then some (((decide ((wI (x1.1 + (x1.2.1.len:Int)))≤x0.2.2.2.1)),()),()) else some ((false,()),())
noncomputable def f249 (x0:Ta17) (x1:(Int×((L Int)×Unit))):Bool :=
bif (!(f297 x0)) then false else bif (x0.1 == (0:Int)) then bif (x1.1 == (0:Int)) then (decide ((x1.2.1.len:Int)≤(1:Int))) else false else bif (f97 x1.1 (0:Int) x0.2.2.2.1) then (decide ((wI (x1.1 + (x1.2.1.len:Int)))≤x0.2.2.2.1)) else false
theorem n249 (x0:Ta17) (x1:(Int×((L Int)×Unit))):g249 x0 x1 = some ((f249 x0 x1,()),()):=by simp only [g249,f249,pull1]
noncomputable def c249:Ctr:={ ins:=[.v Ty164,.v Ty96],out:=[.bool],F:=fun x=>some ((f249 x.1 x.2.1,()),()) }
theorem o249:Holds Tryz.prog 249 c249:=f0T t249 (fun x=>g249 x.1 x.2.1) Tryz.func249 (tc o297 (tc o97 tn)) (fun x=>n249 x.1 x.2.1)
noncomputable def t250:Tbl:=[(297,[],c297)]
noncomputable def g250 (x0:Ta17) (x1:((L Int)×Unit)):Option ((Bool×Unit)×Unit) :=
bif (!(f297 x0)) then some ((false,()),()) else bif (x0.1 == (0:Int)) then some (((decide ((x1.1.len:Int)≤(1:Int))),()),()) else some (((decide ((x1.1.len:Int)≤x0.2.2.2.1)),()),())
noncomputable def f250 (x0:Ta17) (x1:((L Int)×Unit)):Bool :=
bif (!(f297 x0)) then false else bif (x0.1 == (0:Int)) then (decide ((x1.1.len:Int)≤(1:Int))) else (decide ((x1.1.len:Int)≤x0.2.2.2.1))
theorem n250 (x0:Ta17) (x1:((L Int)×Unit)):g250 x0 x1 = some ((f250 x0 x1,()),()):=by simp only [g250,f250,pull1]
noncomputable def c250:Ctr:={ ins:=[.v Ty164,.v Ty30],out:=[.bool],F:=fun x=>some ((f250 x.1 x.2.1,()),()) }
theorem o250:Holds Tryz.prog 250 c250:=f0T t250 (fun x=>g250 x.1 x.2.1) Tryz.func250 (tc o297 tn) (fun x=>n250 x.1 x.2.1)
noncomputable def t180:Tbl:=[]
noncomputable def g180 (x0:Ta2):Option ((Bool×Unit)×Unit) :=
bif (decide ((x0.1.len:Int)≤(8:Int))) then some (((decide ((x0.2.1.len:Int)≤(8:Int))),()),()) else some ((false,()),())
noncomputable def f180 (x0:Ta2):Bool :=
bif (decide ((x0.1.len:Int)≤(8:Int))) then (decide ((x0.2.1.len:Int)≤(8:Int))) else false
theorem n180 (x0:Ta2):g180 x0 = some ((f180 x0,()),()):=by simp only [g180,f180,pull1]
noncomputable def c180:Ctr:={ ins:=[.v Ty117],out:=[.bool],F:=fun x=>some ((f180 x.1,()),()) }
theorem o180:Holds Tryz.prog 180 c180:=f0T t180 (fun x=>g180 x.1) Tryz.func180 tn (fun x=>n180 x.1)
noncomputable def t176:Tbl:=[(249,[],c249),(250,[],c250),(180,[],c180)]
abbrev h176_L0:Shape:={ slots:=[(1,.v (.int .i64)),(3,.bx 3 0),(5,.bx 5 0),(7,.v (.int .i64))],boxes:=[(3,.typ Ty370),(5,.typ Ty371)] }
abbrev e176_L0:List (XT×Shape):=[(.ret,{ slots:=[(6,.v .bool)],boxes:=[] }),(.exit 0,{ slots:=[(1,.v (.int .i64)),(3,.bx 3 0),(5,.bx 5 0)],boxes:=[(3,.typ Ty370),(5,.typ Ty371)] })]
noncomputable def q176_L0 (t1:Int) (t7:Int) (b3:Ta330) (b5:Ta348):Option (Ta363⊕(((Bool×Unit)×Unit)⊕(((Int×(Unit×(Unit×Unit)))×Ta361)⊕Empty))) :=
bif (decide (t7 < (b3.2.2.2.2.2.2.2.2.2.1.len:Int))) then bif (decide (0≤t7)&&decide (t7 < (b3.2.2.2.2.2.2.2.2.2.1.len:Int))) then bif ((L.get b3.2.2.2.2.2.2.2.2.2.1 t7.toNat).2.1 == t1) then bif (decide (0≤t7)&&decide (t7 < (b5.2.2.2.2.2.2.2.2.1.len:Int))) then bif (!(f249 (L.get b3.2.2.2.2.2.2.2.2.2.1 t7.toNat) (L.get b5.2.2.2.2.2.2.2.2.1 t7.toNat))) then some (.inr (.inl ((false,()),()))) else bif ((L.get b3.2.2.2.2.2.2.2.2.2.1 t7.toNat).2.2.1 == t1) then bif (decide (0≤t7)&&decide (t7 < (b5.2.2.2.2.2.2.2.2.2.1.len:Int))) then bif (!(f250 (L.get b3.2.2.2.2.2.2.2.2.2.1 t7.toNat) (L.get b5.2.2.2.2.2.2.2.2.2.1 t7.toNat))) then some (.inr (.inl ((false,()),()))) else some (.inl ((t1,((),((),((wI (t7 + (1:Int))),())))),(b3,(b5,())))) else none else bif (decide (0≤t7)&&decide (t7 < (b5.2.2.2.2.2.2.2.2.2.1.len:Int))) then bif (((L.get b5.2.2.2.2.2.2.2.2.2.1 t7.toNat).1.len:Int) != (0:Int)) then some (.inr (.inl ((false,()),()))) else some (.inl ((t1,((),((),((wI (t7 + (1:Int))),())))),(b3,(b5,())))) else none else none else bif (decide (0≤t7)&&decide (t7 < (b5.2.2.2.2.2.2.2.2.1.len:Int))) then bif ((L.get b5.2.2.2.2.2.2.2.2.1 t7.toNat).1 != (0:Int)) then some (.inr (.inl ((false,()),()))) else bif (decide (0≤t7)&&decide (t7 < (b5.2.2.2.2.2.2.2.2.1.len:Int))) then bif (((L.get b5.2.2.2.2.2.2.2.2.1 t7.toNat).2.1.len:Int) != (0:Int)) then some (.inr (.inl ((false,()),()))) else bif ((L.get b3.2.2.2.2.2.2.2.2.2.1 t7.toNat).2.2.1 == t1) then bif (decide (0≤t7)&&decide (t7 < (b5.2.2.2.2.2.2.2.2.2.1.len:Int))) then bif (!(f250 (L.get b3.2.2.2.2.2.2.2.2.2.1 t7.toNat) (L.get b5.2.2.2.2.2.2.2.2.2.1 t7.toNat))) then some (.inr (.inl ((false,()),()))) else some (.inl ((t1,((),((),((wI (t7 + (1:Int))),())))),(b3,(b5,())))) else none else bif (decide (0≤t7)&&decide (t7 < (b5.2.2.2.2.2.2.2.2.2.1.len:Int))) then bif (((L.get b5.2.2.2.2.2.2.2.2.2.1 t7.toNat).1.len:Int) != (0:Int)) then some (.inr (.inl ((false,()),()))) else some (.inl ((t1,((),((),((wI (t7 + (1:Int))),())))),(b3,(b5,())))) else none else none else none else none else some (.inr (.inr (.inl ((t1,((),((),()))),(b3,(b5,()))))))
noncomputable def s176_L0 (x:Ta363):=q176_L0 x.1.1 x.1.2.2.2.1 x.2.1 x.2.2.1
abbrev h176_L2:Shape:={ slots:=[(1,.v (.int .i64)),(3,.bx 3 0),(5,.bx 5 0),(9,.v (.int .i64))],boxes:=[(3,.typ Ty370),(5,.typ Ty371)] }
abbrev e176_L2:List (XT×Shape):=[(.ret,{ slots:=[(6,.v .bool)],boxes:=[] }),(.exit 2,{ slots:=[],boxes:=[] })]
noncomputable def q176_L2 (t1:Int) (t9:Int) (b3:Ta330) (b5:Ta348):Option (Ta363⊕(((Bool×Unit)×Unit)⊕((Unit×Unit)⊕Empty))) :=
bif (decide (t9 < (b3.2.2.2.2.2.2.2.2.1.len:Int))) then bif (decide (0≤t9)&&decide (t9 < (b3.2.2.2.2.2.2.2.2.1.len:Int))) then bif ((L.get b3.2.2.2.2.2.2.2.2.1 t9.toNat) == t1) then bif (decide (0≤t9)&&decide (t9 < (b5.2.2.2.2.2.2.2.2.2.2.1.len:Int))) then bif (!(f180 (L.get b5.2.2.2.2.2.2.2.2.2.2.1 t9.toNat))) then some (.inr (.inl ((false,()),()))) else some (.inl ((t1,((),((),((wI (t9 + (1:Int))),())))),(b3,(b5,())))) else none else bif (decide (0≤t9)&&decide (t9 < (b5.2.2.2.2.2.2.2.2.2.2.1.len:Int))) then bif (((L.get b5.2.2.2.2.2.2.2.2.2.2.1 t9.toNat).1.len:Int) != (0:Int)) then some (.inr (.inl ((false,()),()))) else bif (decide (0≤t9)&&decide (t9 < (b5.2.2.2.2.2.2.2.2.2.2.1.len:Int))) then bif (((L.get b5.2.2.2.2.2.2.2.2.2.2.1 t9.toNat).2.1.len:Int) != (0:Int)) then some (.inr (.inl ((false,()),()))) else some (.inl ((t1,((),((),((wI (t9 + (1:Int))),())))),(b3,(b5,())))) else none else none else none else some (.inr (.inr (.inl ((),()))))
noncomputable def s176_L2 (x:Ta363):=q176_L2 x.1.1 x.1.2.2.2.1 x.2.1 x.2.2.1
noncomputable def a176:Nat→Option LoopAnn:=fun c=>bif Nat.beq c 0 then some (.fix h176_L0 e176_L0 s176_L0) else bif Nat.beq c 2 then some (.fix h176_L2 e176_L2 s176_L2) else none
noncomputable def g176 (x0:Ta330) (x1:Int) (x2:Ta348):Option ((Bool×Unit)×Unit) :=
bif ((x2.2.2.2.2.2.2.2.2.1.len:Int) != (x0.2.2.2.2.2.2.2.2.2.1.len:Int)) then some ((false,()),()) else bif ((x2.2.2.2.2.2.2.2.2.2.1.len:Int) != (x0.2.2.2.2.2.2.2.2.2.1.len:Int)) then some ((false,()),()) else bif ((x2.2.2.2.2.2.2.2.2.2.2.1.len:Int) != (x0.2.2.2.2.2.2.2.2.1.len:Int)) then some ((false,()),()) else (fixO s176_L0 ((x1,((),((),((0:Int),())))),(x0,(x2,())))).bind fun d4=>match d4 with | .inl y1=>some ((y1.1.1,()),()) | .inr (.inl y1)=>((fixO s176_L2 ((y1.1.1,((),((),((0:Int),())))),y1.2)).bind fun d3=>match d3 with | .inl y2=>some ((y2.1.1,()),()) | .inr (.inl y2)=>some ((true,()),()) | .inr (.inr e)=>nomatch e) | .inr (.inr e)=>nomatch e
noncomputable def c176:Ctr:={ ins:=[.v Ty370,.v (.int .i64),.v Ty371],out:=[.bool],F:=fun x=>g176 x.1 x.2.1 x.2.2.1 }
noncomputable def l176:List (Nat×Code):=loopsIn (Tryz.f176.body.getD .skip) 0
theorem w176_L0:LW t176 a176 l176 0 0 h176_L0 e176_L0 s176_L0:=fun x=>by kernel_rfl
theorem w176_L2:LW t176 a176 l176 1 2 h176_L2 e176_L2 s176_L2:=fun x=>by kernel_rfl
theorem o176:Holds Tryz.prog 176 c176:=fh t176 a176 Tryz.func176 [(0,lg l176 0),(2,lg l176 1)] ⟨fun x d h=>(w176_L0 x).trans h,fun x d h=>(w176_L2 x).trans h,trivial⟩ (tc o249 (tc o250 (tc o180 tn)))
noncomputable def t96:Tbl:=[(45,[],c45),(172,[],c172),(173,[],c173),(174,[],c174),(175,[],c175),(97,[],c97),(176,[],c176)]
noncomputable def g96 (x0:Ta330) (x1:Int) (x2:Ta348):Option ((Bool×Unit)×Unit) :=
(g45 x0 x1 x2.2.2.2.2.2.2.2.1).bind fun y1=>bif (!y1.1.1) then some ((false,()),()) else bif (decide (0≤x1)&&decide (x1 < (x0.2.2.2.2.2.2.2.1.len:Int))) then (g172 (L.get x0.2.2.2.2.2.2.2.1 x1.toNat).2.2.2.1 x2.1).bind fun y2=>bif (!y2.1.1) then some ((false,()),()) else bif (!(f173 x2.2.2.1)) then some ((false,()),()) else (g174 x2.2.2.2.1).bind fun y3=>bif (!y3.1.1) then some ((false,()),()) else bif (!((x2.2.2.2.1.1.1 == x0.2.1.1)&&((x2.2.2.2.1.1.2.1 == x0.2.1.2.1)&&((x2.2.2.2.1.1.2.2.1 == x0.2.1.2.2.1)&&true)))) then some ((false,()),()) else (g175 x2.2.2.2.2.1).bind fun y4=>bif (!y4.1.1) then some ((false,()),()) else bif (x2.2.2.2.2.1.1 != x0.2.2.1) then some ((false,()),()) else bif (f97 x2.2.2.2.2.2.1 (0:Int) (100000:Int)) then (g176 x0 x1 x2).bind fun y5=>some ((y5.1.1,()),()) else some ((false,()),()) else none
noncomputable def c96:Ctr:={ ins:=[.v Ty370,.v (.int .i64),.v Ty371],out:=[.bool],F:=fun x=>g96 x.1 x.2.1 x.2.2.1 }
theorem o96:Holds Tryz.prog 96 c96:=f0 t96 Tryz.func96 (tc o45 (tc o172 (tc o173 (tc o174 (tc o175 (tc o97 (tc o176 tn)))))))
noncomputable def t130r:Tbl:=[]
abbrev h130r_L0:Shape:={ slots:=[(0,.v (.sl (.sl (.int .u8)))),(3,.ms 5),(4,.v (.int .i64))],boxes:=[(5,.row (.sl (.int .u8)))] }
abbrev e130r_L0:List (XT×Shape):=[(.exit 0,{ slots:=[(3,.ms 5)],boxes:=[(5,.row (.sl (.int .u8)))] })]
noncomputable def q130r_L0 (t0:(L (L Int))) (t4:Int) (r5:(L (L Int))):Option (Ta105⊕(Ta38⊕Empty)) :=
bif (decide (t4 < (t0.len:Int))) then bif (decide (0≤t4)&&decide (t4 < (t0.len:Int))) then bif (decide ((L.of (Ty.zero (.int .u8)) []).len + (L.get t0 t4.toNat).len≤most)) then bif (decide (r5.len + (L.of (Ty.zero (.sl (.int .u8))) [(L.app (L.of (Ty.zero (.int .u8)) []) (L.get t0 t4.toNat))]).len≤most)) then some (.inl ((t0,((),((wI (t4 + (1:Int))),()))),((L.app r5 (L.of (Ty.zero (.sl (.int .u8))) [(L.app (L.of (Ty.zero (.int .u8)) []) (L.get t0 t4.toNat))])),()))) else none else none else none else some (.inr (.inl (((),()),(r5,()))))
noncomputable def s130r_L0 (x:Ta105):=q130r_L0 x.1.1 x.1.2.2.1 x.2.1
noncomputable def a130r:Nat→Option LoopAnn:=fun c=>bif Nat.beq c 0 then some (.fix h130r_L0 e130r_L0 s130r_L0) else none
noncomputable def g130r (x0:(L (L Int))):Option Ta8 :=
(fixO s130r_L0 ((x0,((),((0:Int),()))),((L.of (Ty.zero (.sl (.int .u8))) []),()))).bind fun d2=>match d2 with | .inl y1=>some ((y1.2.1,()),()) | .inr e=>nomatch e
noncomputable def c130r:Ctr:={ ins:=[.v (.sl (.sl (.int .u8)))],out:=[(.sl (.sl (.int .u8)))],F:=fun x=>g130r x.1,fr:=1 }
noncomputable def l130r:List (Nat×Code):=loopsIn (Tryz.f130.body.getD .skip) 0
theorem w130r_L0:LW t130r a130r l130r 0 0 h130r_L0 e130r_L0 s130r_L0:=fun x=>by kernel_rfl
theorem o130r:Holds Tryz.prog 130 c130r:=fh t130r a130r Tryz.func130 [(0,lg l130r 0)] ⟨fun x d h=>(w130r_L0 x).trans h,trivial⟩ tn
noncomputable def t177r:Tbl:=[(130,[],c130r)]
noncomputable def g177r (x0:Ta43):Option Ta91 :=
bif (decide ((L.of (Ty.zero (.int .u32)) []).len + x0.1.len≤most)) then (g130r x0.2.2.1).bind fun y1=>some ((((L.app (L.of (Ty.zero (.int .u32)) []) x0.1),(x0.2.1,y1.1)),()),()) else none
noncomputable def c177r:Ctr:={ ins:=[.v Ty154],out:=[Ty154],F:=fun x=>g177r x.1,fr:=1 }
theorem o177r:Holds Tryz.prog 177 c177r:=f0 t177r Tryz.func177 (tc o130r tn)
noncomputable def t178r:Tbl:=[]
noncomputable def g178r (x0:(L Int)):Option (((L Int)×Unit)×Unit) :=
bif (decide ((L.of (Ty.zero (.int .u32)) []).len + x0.len≤most)) then some (((L.app (L.of (Ty.zero (.int .u32)) []) x0),()),()) else none
noncomputable def c178r:Ctr:={ ins:=[.v (.sl (.int .u32))],out:=[(.sl (.int .u32))],F:=fun x=>g178r x.1,fr:=1 }
theorem o178r:Holds Tryz.prog 178 c178r:=f0 t178r Tryz.func178 tn
noncomputable def t179r:Tbl:=[(178,[],c178r)]
noncomputable def g179r (x0:Ta2):Option Ta55 :=
(g178r x0.1).bind fun y1=>(g178r x0.2.1).bind fun y2=>some (((y1.1.1,y2.1),()),())
noncomputable def c179r:Ctr:={ ins:=[.v Ty117],out:=[Ty117],F:=fun x=>g179r x.1,fr:=1 }
theorem o179r:Holds Tryz.prog 179 c179r:=f0 t179r Tryz.func179 (tc o178r tn)
noncomputable def t98r:Tbl:=[(177,[],c177r),(130,[],c130r),(178,[],c178r),(179,[],c179r)]
abbrev h98r_L0:Shape:={ slots:=[(1,.bx 1 0),(2,.bx 2 0),(3,.bx 3 0),(4,.v (.int .i64))],boxes:=[(1,.typ Ty371),(2,.cells [.row (.int .u32) 60128,.v (.int .u32),.row (.sl (.int .u8)) 60130,.v .bool,.v (.int .u32),.v (.int .u32),.v (.int .u32),.v (.int .u32),.v .bool,.v .bool,.v (.int .u32),.v (.int .i64),.v (.int .i64),.v (.int .i64),.v .bool,.v (.int .i64),.v (.int .i64),.v (.int .i64),.row Ty76 60146,.v (.int .i64),.row (.int .i64) 60148,.v (.int .i64),.v .bool,.row (.sl (.int .u8)) 60151,.row Ty96 60152,.row Ty30 60153,.row Ty117 60154]),(3,.cells [.ms 1000704,.v (.int .u32),.ms 1000705,.v .bool,.v (.int .u32),.v (.int .u32),.v (.int .u32),.v (.int .u32),.v .bool,.v .bool,.v (.int .u32),.v (.int .i64),.v (.int .i64),.v (.int .i64),.v .bool,.v (.int .i64),.v (.int .i64),.v (.int .i64),.row Ty76 60210,.v (.int .i64),.v (.sl (.int .i64)),.v (.int .i64),.v .bool,.v (.sl (.sl (.int .u8))),.v Ty119,.v Ty51,.v Ty125]),(1000704,.row (.int .u32)),(1000705,.row (.sl (.int .u8)))] }
abbrev e98r_L0:List (XT×Shape):=[(.exit 0,{ slots:=[(1,.bx 1 0),(2,.bx 2 0),(3,.bx 3 0)],boxes:=[(1,.typ Ty371),(2,.cells [.ms 60128,.v (.int .u32),.ms 60130,.v .bool,.v (.int .u32),.v (.int .u32),.v (.int .u32),.v (.int .u32),.v .bool,.v .bool,.v (.int .u32),.v (.int .i64),.v (.int .i64),.v (.int .i64),.v .bool,.v (.int .i64),.v (.int .i64),.v (.int .i64),.ms 60146,.v (.int .i64),.ms 60148,.v (.int .i64),.v .bool,.ms 60151,.ms 60152,.ms 60153,.ms 60154]),(3,.cells [.ms 1000704,.v (.int .u32),.ms 1000705,.v .bool,.v (.int .u32),.v (.int .u32),.v (.int .u32),.v (.int .u32),.v .bool,.v .bool,.v (.int .u32),.v (.int .i64),.v (.int .i64),.v (.int .i64),.v .bool,.v (.int .i64),.v (.int .i64),.v (.int .i64),.ms 60210,.v (.int .i64),.v (.sl (.int .i64)),.v (.int .i64),.v .bool,.v (.sl (.sl (.int .u8))),.v Ty119,.v Ty51,.v Ty125]),(60128,.row (.int .u32)),(60130,.row (.sl (.int .u8))),(60146,.row Ty76),(60148,.row (.int .i64)),(60151,.row (.sl (.int .u8))),(60152,.row Ty96),(60153,.row Ty30),(60154,.row Ty117),(1000704,.row (.int .u32)),(1000705,.row (.sl (.int .u8))),(60210,.row Ty76)] })]
noncomputable def q98r_L0 (t4:Int) (b1:Ta348) (b2_0:(L Int)) (b2_1:Int) (b2_2:(L (L Int))) (b2_3:Bool) (b2_4:Int) (b2_5:Int) (b2_6:Int) (b2_7:Int) (b2_8:Bool) (b2_9:Bool) (b2_10:Int) (b2_11:Int) (b2_12:Int) (b2_13:Int) (b2_14:Bool) (b2_15:Int) (b2_16:Int) (b2_17:Int) (b2_18:Ta6) (b2_19:Int) (b2_20:(L Int)) (b2_21:Int) (b2_22:Bool) (b2_23:(L (L Int))) (b2_24:Ta1) (b2_25:(L ((L Int)×Unit))) (b2_26:Ta18) (b3_1:Int) (b3_3:Bool) (b3_4:Int) (b3_5:Int) (b3_6:Int) (b3_7:Int) (b3_8:Bool) (b3_9:Bool) (b3_10:Int) (b3_11:Int) (b3_12:Int) (b3_13:Int) (b3_14:Bool) (b3_15:Int) (b3_16:Int) (b3_17:Int) (b3_18:Ta6) (b3_19:Int) (b3_20:(L Int)) (b3_21:Int) (b3_22:Bool) (b3_23:(L (L Int))) (b3_24:Ta1) (b3_25:(L ((L Int)×Unit))) (b3_26:Ta18) (r1000704:(L Int)) (r1000705:(L (L Int))):Option ((Ta35×(Ta348×(Ta338×((Unit×(Int×(Unit×Ta325)))×Ta21))))⊕((Ta11×(Ta348×(Ta270×((Unit×(Int×(Unit×(Bool×(Int×(Int×(Int×(Int×(Bool×(Bool×(Int×(Int×(Int×(Int×(Bool×(Int×(Int×(Int×(Unit×Ta209)))))))))))))))))))×((L Int)×((L (L Int))×(Ta6×((L Int)×((L (L Int))×(Ta1×((L ((L Int)×Unit))×(Ta18×((L Int)×((L (L Int))×Ta37))))))))))))))⊕Empty)) :=
bif (decide (t4 < (b1.2.2.2.1.2.1.len:Int))) then bif (decide (0≤t4)&&decide (t4 < (b1.2.2.2.1.2.1.len:Int))) then bif (decide ((L.of (Ty.zero Ty57) []).len + (L.get b1.2.2.2.1.2.1 t4.toNat).len≤most)) then bif (decide (b3_18.len + (L.of (Ty.zero Ty76) [(L.app (L.of (Ty.zero Ty57) []) (L.get b1.2.2.2.1.2.1 t4.toNat))]).len≤most)) then some (.inl (((),((),((),((wI (t4 + (1:Int))),())))),(b1,((b2_0,(b2_1,(b2_2,(b2_3,(b2_4,(b2_5,(b2_6,(b2_7,(b2_8,(b2_9,(b2_10,(b2_11,(b2_12,(b2_13,(b2_14,(b2_15,(b2_16,(b2_17,(b2_18,(b2_19,(b2_20,(b2_21,(b2_22,(b2_23,(b2_24,(b2_25,(b2_26,()))))))))))))))))))))))))))),(((),(b3_1,((),(b3_3,(b3_4,(b3_5,(b3_6,(b3_7,(b3_8,(b3_9,(b3_10,(b3_11,(b3_12,(b3_13,(b3_14,(b3_15,(b3_16,(b3_17,((L.app b3_18 (L.of (Ty.zero Ty76) [(L.app (L.of (Ty.zero Ty57) []) (L.get b1.2.2.2.1.2.1 t4.toNat))])),(b3_19,(b3_20,(b3_21,(b3_22,(b3_23,(b3_24,(b3_25,(b3_26,()))))))))))))))))))))))))))),(r1000704,(r1000705,()))))))) else none else none else none else some (.inr (.inl (((),((),((),()))),(b1,(((),(b2_1,((),(b2_3,(b2_4,(b2_5,(b2_6,(b2_7,(b2_8,(b2_9,(b2_10,(b2_11,(b2_12,(b2_13,(b2_14,(b2_15,(b2_16,(b2_17,((),(b2_19,((),(b2_21,(b2_22,((),((),((),((),()))))))))))))))))))))))))))),(((),(b3_1,((),(b3_3,(b3_4,(b3_5,(b3_6,(b3_7,(b3_8,(b3_9,(b3_10,(b3_11,(b3_12,(b3_13,(b3_14,(b3_15,(b3_16,(b3_17,((),(b3_19,(b3_20,(b3_21,(b3_22,(b3_23,(b3_24,(b3_25,(b3_26,()))))))))))))))))))))))))))),(b2_0,(b2_2,(b2_18,(b2_20,(b2_23,(b2_24,(b2_25,(b2_26,(r1000704,(r1000705,(b3_18,())))))))))))))))))
noncomputable def s98r_L0 (x:(Ta35×(Ta348×(Ta338×((Unit×(Int×(Unit×Ta325)))×Ta21))))):=q98r_L0 x.1.2.2.2.1 x.2.1 x.2.2.1.1 x.2.2.1.2.1 x.2.2.1.2.2.1 x.2.2.1.2.2.2.1 x.2.2.1.2.2.2.2.1 x.2.2.1.2.2.2.2.2.1 x.2.2.1.2.2.2.2.2.2.1 x.2.2.1.2.2.2.2.2.2.2.1 x.2.2.1.2.2.2.2.2.2.2.2.1 x.2.2.1.2.2.2.2.2.2.2.2.2.1 x.2.2.1.2.2.2.2.2.2.2.2.2.2.1 x.2.2.1.2.2.2.2.2.2.2.2.2.2.2.1 x.2.2.1.2.2.2.2.2.2.2.2.2.2.2.2.1 x.2.2.1.2.2.2.2.2.2.2.2.2.2.2.2.2.1 x.2.2.1.2.2.2.2.2.2.2.2.2.2.2.2.2.2.1 x.2.2.1.2.2.2.2.2.2.2.2.2.2.2.2.2.2.2.1 x.2.2.1.2.2.2.2.2.2.2.2.2.2.2.2.2.2.2.2.1 x.2.2.1.2.2.2.2.2.2.2.2.2.2.2.2.2.2.2.2.2.1 x.2.2.1.2.2.2.2.2.2.2.2.2.2.2.2.2.2.2.2.2.2.1 x.2.2.1.2.2.2.2.2.2.2.2.2.2.2.2.2.2.2.2.2.2.2.1 x.2.2.1.2.2.2.2.2.2.2.2.2.2.2.2.2.2.2.2.2.2.2.2.1 x.2.2.1.2.2.2.2.2.2.2.2.2.2.2.2.2.2.2.2.2.2.2.2.2.1 x.2.2.1.2.2.2.2.2.2.2.2.2.2.2.2.2.2.2.2.2.2.2.2.2.2.1 x.2.2.1.2.2.2.2.2.2.2.2.2.2.2.2.2.2.2.2.2.2.2.2.2.2.2.1 x.2.2.1.2.2.2.2.2.2.2.2.2.2.2.2.2.2.2.2.2.2.2.2.2.2.2.2.1 x.2.2.1.2.2.2.2.2.2.2.2.2.2.2.2.2.2.2.2.2.2.2.2.2.2.2.2.2.1 x.2.2.1.2.2.2.2.2.2.2.2.2.2.2.2.2.2.2.2.2.2.2.2.2.2.2.2.2.2.1 x.2.2.2.1.2.1 x.2.2.2.1.2.2.2.1 x.2.2.2.1.2.2.2.2.1 x.2.2.2.1.2.2.2.2.2.1 x.2.2.2.1.2.2.2.2.2.2.1 x.2.2.2.1.2.2.2.2.2.2.2.1 x.2.2.2.1.2.2.2.2.2.2.2.2.1 x.2.2.2.1.2.2.2.2.2.2.2.2.2.1 x.2.2.2.1.2.2.2.2.2.2.2.2.2.2.1 x.2.2.2.1.2.2.2.2.2.2.2.2.2.2.2.1 x.2.2.2.1.2.2.2.2.2.2.2.2.2.2.2.2.1 x.2.2.2.1.2.2.2.2.2.2.2.2.2.2.2.2.2.1 x.2.2.2.1.2.2.2.2.2.2.2.2.2.2.2.2.2.2.1 x.2.2.2.1.2.2.2.2.2.2.2.2.2.2.2.2.2.2.2.1 x.2.2.2.1.2.2.2.2.2.2.2.2.2.2.2.2.2.2.2.2.1 x.2.2.2.1.2.2.2.2.2.2.2.2.2.2.2.2.2.2.2.2.2.1 x.2.2.2.1.2.2.2.2.2.2.2.2.2.2.2.2.2.2.2.2.2.2.1 x.2.2.2.1.2.2.2.2.2.2.2.2.2.2.2.2.2.2.2.2.2.2.2.1 x.2.2.2.1.2.2.2.2.2.2.2.2.2.2.2.2.2.2.2.2.2.2.2.2.1 x.2.2.2.1.2.2.2.2.2.2.2.2.2.2.2.2.2.2.2.2.2.2.2.2.2.1 x.2.2.2.1.2.2.2.2.2.2.2.2.2.2.2.2.2.2.2.2.2.2.2.2.2.2.1 x.2.2.2.1.2.2.2.2.2.2.2.2.2.2.2.2.2.2.2.2.2.2.2.2.2.2.2.1 x.2.2.2.1.2.2.2.2.2.2.2.2.2.2.2.2.2.2.2.2.2.2.2.2.2.2.2.2.1 x.2.2.2.1.2.2.2.2.2.2.2.2.2.2.2.2.2.2.2.2.2.2.2.2.2.2.2.2.2.1 x.2.2.2.1.2.2.2.2.2.2.2.2.2.2.2.2.2.2.2.2.2.2.2.2.2.2.2.2.2.2.1 x.2.2.2.2.1 x.2.2.2.2.2.1
abbrev h98r_L2:Shape:={ slots:=[(1,.bx 1 0),(2,.bx 2 0),(3,.bx 3 0),(5,.v (.int .i64))],boxes:=[(1,.typ Ty371),(2,.cells [.ms 60128,.v (.int .u32),.ms 60130,.v .bool,.v (.int .u32),.v (.int .u32),.v (.int .u32),.v (.int .u32),.v .bool,.v .bool,.v (.int .u32),.v (.int .i64),.v (.int .i64),.v (.int .i64),.v .bool,.v (.int .i64),.v (.int .i64),.v (.int .i64),.ms 60146,.v (.int .i64),.ms 60148,.v (.int .i64),.v .bool,.ms 60151,.ms 60152,.ms 60153,.ms 60154]),(3,.cells [.ms 1000704,.v (.int .u32),.ms 1000705,.v .bool,.v (.int .u32),.v (.int .u32),.v (.int .u32),.v (.int .u32),.v .bool,.v .bool,.v (.int .u32),.v (.int .i64),.v (.int .i64),.v (.int .i64),.v .bool,.v (.int .i64),.v (.int .i64),.v (.int .i64),.ms 60210,.v (.int .i64),.ms 41,.v (.int .i64),.v .bool,.ms 1003200,.ms 52,.v Ty51,.v Ty125]),(60128,.row (.int .u32)),(60130,.row (.sl (.int .u8))),(60146,.row Ty76),(60148,.row (.int .i64)),(60151,.row (.sl (.int .u8))),(60152,.row Ty96),(60153,.row Ty30),(60154,.row Ty117),(1000704,.row (.int .u32)),(1000705,.row (.sl (.int .u8))),(60210,.row Ty76),(41,.row (.int .i64)),(1003200,.row (.sl (.int .u8))),(52,.row Ty96)] }
abbrev e98r_L2:List (XT×Shape):=[(.exit 2,{ slots:=[(1,.bx 1 0),(2,.bx 2 0),(3,.bx 3 0)],boxes:=[(1,.typ Ty371),(2,.cells [.ms 60128,.v (.int .u32),.ms 60130,.v .bool,.v (.int .u32),.v (.int .u32),.v (.int .u32),.v (.int .u32),.v .bool,.v .bool,.v (.int .u32),.v (.int .i64),.v (.int .i64),.v (.int .i64),.v .bool,.v (.int .i64),.v (.int .i64),.v (.int .i64),.ms 60146,.v (.int .i64),.ms 60148,.v (.int .i64),.v .bool,.ms 60151,.ms 60152,.ms 60153,.ms 60154]),(3,.cells [.ms 1000704,.v (.int .u32),.ms 1000705,.v .bool,.v (.int .u32),.v (.int .u32),.v (.int .u32),.v (.int .u32),.v .bool,.v .bool,.v (.int .u32),.v (.int .i64),.v (.int .i64),.v (.int .i64),.v .bool,.v (.int .i64),.v (.int .i64),.v (.int .i64),.ms 60210,.v (.int .i64),.ms 41,.v (.int .i64),.v .bool,.ms 1003200,.ms 52,.v Ty51,.v Ty125]),(60128,.row (.int .u32)),(60130,.row (.sl (.int .u8))),(60146,.row Ty76),(60148,.row (.int .i64)),(60151,.row (.sl (.int .u8))),(60152,.row Ty96),(60153,.row Ty30),(60154,.row Ty117),(1000704,.row (.int .u32)),(1000705,.row (.sl (.int .u8))),(60210,.row Ty76),(41,.row (.int .i64)),(1003200,.row (.sl (.int .u8))),(52,.row Ty96)] })]
noncomputable def q98r_L2 (t5:Int) (b1:Ta348) (b2_1:Int) (b2_3:Bool) (b2_4:Int) (b2_5:Int) (b2_6:Int) (b2_7:Int) (b2_8:Bool) (b2_9:Bool) (b2_10:Int) (b2_11:Int) (b2_12:Int) (b2_13:Int) (b2_14:Bool) (b2_15:Int) (b2_16:Int) (b2_17:Int) (b2_19:Int) (b2_21:Int) (b2_22:Bool) (b3_1:Int) (b3_3:Bool) (b3_4:Int) (b3_5:Int) (b3_6:Int) (b3_7:Int) (b3_8:Bool) (b3_9:Bool) (b3_10:Int) (b3_11:Int) (b3_12:Int) (b3_13:Int) (b3_14:Bool) (b3_15:Int) (b3_16:Int) (b3_17:Int) (b3_19:Int) (b3_21:Int) (b3_22:Bool) (b3_25:(L ((L Int)×Unit))) (b3_26:Ta18) (r60128:(L Int)) (r60130:(L (L Int))) (r60146:Ta6) (r60148:(L Int)) (r60151:(L (L Int))) (r60152:Ta1) (r60153:(L ((L Int)×Unit))) (r60154:Ta18) (r1000704:(L Int)) (r1000705:(L (L Int))) (r60210:Ta6) (r41:(L Int)) (r1003200:(L (L Int))) (r52:Ta1):Option ((Ta35×Ta372)⊕((Ta11×Ta372)⊕Empty)) :=
bif (decide (t5 < (b1.2.2.2.2.2.2.2.2.1.len:Int))) then bif (decide (0≤t5)&&decide (t5 < (b1.2.2.2.2.2.2.2.2.1.len:Int))) then bif (decide (0≤t5)&&decide (t5 < (b1.2.2.2.2.2.2.2.2.1.len:Int))) then (g178r (L.get b1.2.2.2.2.2.2.2.2.1 t5.toNat).2.1).bind fun y4=>bif (decide (r52.len + (L.of (Ty.zero Ty96) [((L.get b1.2.2.2.2.2.2.2.2.1 t5.toNat).1,y4.1)]).len≤most)) then some (.inl (((),((),((),((wI (t5 + (1:Int))),())))),(b1,(((),(b2_1,((),(b2_3,(b2_4,(b2_5,(b2_6,(b2_7,(b2_8,(b2_9,(b2_10,(b2_11,(b2_12,(b2_13,(b2_14,(b2_15,(b2_16,(b2_17,((),(b2_19,((),(b2_21,(b2_22,((),((),((),((),()))))))))))))))))))))))))))),(((),(b3_1,((),(b3_3,(b3_4,(b3_5,(b3_6,(b3_7,(b3_8,(b3_9,(b3_10,(b3_11,(b3_12,(b3_13,(b3_14,(b3_15,(b3_16,(b3_17,((),(b3_19,((),(b3_21,(b3_22,((),((),(b3_25,(b3_26,()))))))))))))))))))))))))))),(r60128,(r60130,(r60146,(r60148,(r60151,(r60152,(r60153,(r60154,(r1000704,(r1000705,(r60210,(r41,(r1003200,((L.app r52 (L.of (Ty.zero Ty96) [((L.get b1.2.2.2.2.2.2.2.2.1 t5.toNat).1,y4.1)])),()))))))))))))))))))) else none else none else none else some (.inr (.inl (((),((),((),()))),(b1,(((),(b2_1,((),(b2_3,(b2_4,(b2_5,(b2_6,(b2_7,(b2_8,(b2_9,(b2_10,(b2_11,(b2_12,(b2_13,(b2_14,(b2_15,(b2_16,(b2_17,((),(b2_19,((),(b2_21,(b2_22,((),((),((),((),()))))))))))))))))))))))))))),(((),(b3_1,((),(b3_3,(b3_4,(b3_5,(b3_6,(b3_7,(b3_8,(b3_9,(b3_10,(b3_11,(b3_12,(b3_13,(b3_14,(b3_15,(b3_16,(b3_17,((),(b3_19,((),(b3_21,(b3_22,((),((),(b3_25,(b3_26,()))))))))))))))))))))))))))),(r60128,(r60130,(r60146,(r60148,(r60151,(r60152,(r60153,(r60154,(r1000704,(r1000705,(r60210,(r41,(r1003200,(r52,()))))))))))))))))))))
noncomputable def s98r_L2 (x:(Ta35×Ta372)):=q98r_L2 x.1.2.2.2.1 x.2.1 x.2.2.1.2.1 x.2.2.1.2.2.2.1 x.2.2.1.2.2.2.2.1 x.2.2.1.2.2.2.2.2.1 x.2.2.1.2.2.2.2.2.2.1 x.2.2.1.2.2.2.2.2.2.2.1 x.2.2.1.2.2.2.2.2.2.2.2.1 x.2.2.1.2.2.2.2.2.2.2.2.2.1 x.2.2.1.2.2.2.2.2.2.2.2.2.2.1 x.2.2.1.2.2.2.2.2.2.2.2.2.2.2.1 x.2.2.1.2.2.2.2.2.2.2.2.2.2.2.2.1 x.2.2.1.2.2.2.2.2.2.2.2.2.2.2.2.2.1 x.2.2.1.2.2.2.2.2.2.2.2.2.2.2.2.2.2.1 x.2.2.1.2.2.2.2.2.2.2.2.2.2.2.2.2.2.2.1 x.2.2.1.2.2.2.2.2.2.2.2.2.2.2.2.2.2.2.2.1 x.2.2.1.2.2.2.2.2.2.2.2.2.2.2.2.2.2.2.2.2.1 x.2.2.1.2.2.2.2.2.2.2.2.2.2.2.2.2.2.2.2.2.2.2.1 x.2.2.1.2.2.2.2.2.2.2.2.2.2.2.2.2.2.2.2.2.2.2.2.2.1 x.2.2.1.2.2.2.2.2.2.2.2.2.2.2.2.2.2.2.2.2.2.2.2.2.2.1 x.2.2.2.1.2.1 x.2.2.2.1.2.2.2.1 x.2.2.2.1.2.2.2.2.1 x.2.2.2.1.2.2.2.2.2.1 x.2.2.2.1.2.2.2.2.2.2.1 x.2.2.2.1.2.2.2.2.2.2.2.1 x.2.2.2.1.2.2.2.2.2.2.2.2.1 x.2.2.2.1.2.2.2.2.2.2.2.2.2.1 x.2.2.2.1.2.2.2.2.2.2.2.2.2.2.1 x.2.2.2.1.2.2.2.2.2.2.2.2.2.2.2.1 x.2.2.2.1.2.2.2.2.2.2.2.2.2.2.2.2.1 x.2.2.2.1.2.2.2.2.2.2.2.2.2.2.2.2.2.1 x.2.2.2.1.2.2.2.2.2.2.2.2.2.2.2.2.2.2.1 x.2.2.2.1.2.2.2.2.2.2.2.2.2.2.2.2.2.2.2.1 x.2.2.2.1.2.2.2.2.2.2.2.2.2.2.2.2.2.2.2.2.1 x.2.2.2.1.2.2.2.2.2.2.2.2.2.2.2.2.2.2.2.2.2.1 x.2.2.2.1.2.2.2.2.2.2.2.2.2.2.2.2.2.2.2.2.2.2.2.1 x.2.2.2.1.2.2.2.2.2.2.2.2.2.2.2.2.2.2.2.2.2.2.2.2.2.1 x.2.2.2.1.2.2.2.2.2.2.2.2.2.2.2.2.2.2.2.2.2.2.2.2.2.2.1 x.2.2.2.1.2.2.2.2.2.2.2.2.2.2.2.2.2.2.2.2.2.2.2.2.2.2.2.2.2.1 x.2.2.2.1.2.2.2.2.2.2.2.2.2.2.2.2.2.2.2.2.2.2.2.2.2.2.2.2.2.2.1 x.2.2.2.2.1 x.2.2.2.2.2.1 x.2.2.2.2.2.2.1 x.2.2.2.2.2.2.2.1 x.2.2.2.2.2.2.2.2.1 x.2.2.2.2.2.2.2.2.2.1 x.2.2.2.2.2.2.2.2.2.2.1 x.2.2.2.2.2.2.2.2.2.2.2.1 x.2.2.2.2.2.2.2.2.2.2.2.2.1 x.2.2.2.2.2.2.2.2.2.2.2.2.2.1 x.2.2.2.2.2.2.2.2.2.2.2.2.2.2.1 x.2.2.2.2.2.2.2.2.2.2.2.2.2.2.2.1 x.2.2.2.2.2.2.2.2.2.2.2.2.2.2.2.2.1 x.2.2.2.2.2.2.2.2.2.2.2.2.2.2.2.2.2.1
abbrev h98r_L4:Shape:={ slots:=[(1,.bx 1 0),(2,.bx 2 0),(3,.bx 3 0),(6,.v (.int .i64))],boxes:=[(1,.typ Ty371),(2,.cells [.ms 60128,.v (.int .u32),.ms 60130,.v .bool,.v (.int .u32),.v (.int .u32),.v (.int .u32),.v (.int .u32),.v .bool,.v .bool,.v (.int .u32),.v (.int .i64),.v (.int .i64),.v (.int .i64),.v .bool,.v (.int .i64),.v (.int .i64),.v (.int .i64),.ms 60146,.v (.int .i64),.ms 60148,.v (.int .i64),.v .bool,.ms 60151,.ms 60152,.ms 60153,.ms 60154]),(3,.cells [.ms 1000704,.v (.int .u32),.ms 1000705,.v .bool,.v (.int .u32),.v (.int .u32),.v (.int .u32),.v (.int .u32),.v .bool,.v .bool,.v (.int .u32),.v (.int .i64),.v (.int .i64),.v (.int .i64),.v .bool,.v (.int .i64),.v (.int .i64),.v (.int .i64),.ms 60210,.v (.int .i64),.ms 41,.v (.int .i64),.v .bool,.ms 1003200,.ms 52,.ms 80,.v Ty125]),(60128,.row (.int .u32)),(60130,.row (.sl (.int .u8))),(60146,.row Ty76),(60148,.row (.int .i64)),(60151,.row (.sl (.int .u8))),(60152,.row Ty96),(60153,.row Ty30),(60154,.row Ty117),(1000704,.row (.int .u32)),(1000705,.row (.sl (.int .u8))),(60210,.row Ty76),(41,.row (.int .i64)),(1003200,.row (.sl (.int .u8))),(52,.row Ty96),(80,.row Ty30)] }
abbrev e98r_L4:List (XT×Shape):=[(.exit 4,{ slots:=[(1,.bx 1 0),(2,.bx 2 0),(3,.bx 3 0)],boxes:=[(1,.typ Ty371),(2,.cells [.ms 60128,.v (.int .u32),.ms 60130,.v .bool,.v (.int .u32),.v (.int .u32),.v (.int .u32),.v (.int .u32),.v .bool,.v .bool,.v (.int .u32),.v (.int .i64),.v (.int .i64),.v (.int .i64),.v .bool,.v (.int .i64),.v (.int .i64),.v (.int .i64),.ms 60146,.v (.int .i64),.ms 60148,.v (.int .i64),.v .bool,.ms 60151,.ms 60152,.ms 60153,.ms 60154]),(3,.cells [.ms 1000704,.v (.int .u32),.ms 1000705,.v .bool,.v (.int .u32),.v (.int .u32),.v (.int .u32),.v (.int .u32),.v .bool,.v .bool,.v (.int .u32),.v (.int .i64),.v (.int .i64),.v (.int .i64),.v .bool,.v (.int .i64),.v (.int .i64),.v (.int .i64),.ms 60210,.v (.int .i64),.ms 41,.v (.int .i64),.v .bool,.ms 1003200,.ms 52,.ms 80,.v Ty125]),(60128,.row (.int .u32)),(60130,.row (.sl (.int .u8))),(60146,.row Ty76),(60148,.row (.int .i64)),(60151,.row (.sl (.int .u8))),(60152,.row Ty96),(60153,.row Ty30),(60154,.row Ty117),(1000704,.row (.int .u32)),(1000705,.row (.sl (.int .u8))),(60210,.row Ty76),(41,.row (.int .i64)),(1003200,.row (.sl (.int .u8))),(52,.row Ty96),(80,.row Ty30)] })]
noncomputable def q98r_L4 (t6:Int) (b1:Ta348) (b2_1:Int) (b2_3:Bool) (b2_4:Int) (b2_5:Int) (b2_6:Int) (b2_7:Int) (b2_8:Bool) (b2_9:Bool) (b2_10:Int) (b2_11:Int) (b2_12:Int) (b2_13:Int) (b2_14:Bool) (b2_15:Int) (b2_16:Int) (b2_17:Int) (b2_19:Int) (b2_21:Int) (b2_22:Bool) (b3_1:Int) (b3_3:Bool) (b3_4:Int) (b3_5:Int) (b3_6:Int) (b3_7:Int) (b3_8:Bool) (b3_9:Bool) (b3_10:Int) (b3_11:Int) (b3_12:Int) (b3_13:Int) (b3_14:Bool) (b3_15:Int) (b3_16:Int) (b3_17:Int) (b3_19:Int) (b3_21:Int) (b3_22:Bool) (b3_26:Ta18) (r60128:(L Int)) (r60130:(L (L Int))) (r60146:Ta6) (r60148:(L Int)) (r60151:(L (L Int))) (r60152:Ta1) (r60153:(L ((L Int)×Unit))) (r60154:Ta18) (r1000704:(L Int)) (r1000705:(L (L Int))) (r60210:Ta6) (r41:(L Int)) (r1003200:(L (L Int))) (r52:Ta1) (r80:(L ((L Int)×Unit))):Option ((Ta35×Ta373)⊕((Ta11×Ta373)⊕Empty)) :=
bif (decide (t6 < (b1.2.2.2.2.2.2.2.2.2.1.len:Int))) then bif (decide (0≤t6)&&decide (t6 < (b1.2.2.2.2.2.2.2.2.2.1.len:Int))) then (g178r (L.get b1.2.2.2.2.2.2.2.2.2.1 t6.toNat).1).bind fun y6=>bif (decide (r80.len + (L.of (Ty.zero Ty30) [y6.1]).len≤most)) then some (.inl (((),((),((),((wI (t6 + (1:Int))),())))),(b1,(((),(b2_1,((),(b2_3,(b2_4,(b2_5,(b2_6,(b2_7,(b2_8,(b2_9,(b2_10,(b2_11,(b2_12,(b2_13,(b2_14,(b2_15,(b2_16,(b2_17,((),(b2_19,((),(b2_21,(b2_22,((),((),((),((),()))))))))))))))))))))))))))),(((),(b3_1,((),(b3_3,(b3_4,(b3_5,(b3_6,(b3_7,(b3_8,(b3_9,(b3_10,(b3_11,(b3_12,(b3_13,(b3_14,(b3_15,(b3_16,(b3_17,((),(b3_19,((),(b3_21,(b3_22,((),((),((),(b3_26,()))))))))))))))))))))))))))),(r60128,(r60130,(r60146,(r60148,(r60151,(r60152,(r60153,(r60154,(r1000704,(r1000705,(r60210,(r41,(r1003200,(r52,((L.app r80 (L.of (Ty.zero Ty30) [y6.1])),())))))))))))))))))))) else none else none else some (.inr (.inl (((),((),((),()))),(b1,(((),(b2_1,((),(b2_3,(b2_4,(b2_5,(b2_6,(b2_7,(b2_8,(b2_9,(b2_10,(b2_11,(b2_12,(b2_13,(b2_14,(b2_15,(b2_16,(b2_17,((),(b2_19,((),(b2_21,(b2_22,((),((),((),((),()))))))))))))))))))))))))))),(((),(b3_1,((),(b3_3,(b3_4,(b3_5,(b3_6,(b3_7,(b3_8,(b3_9,(b3_10,(b3_11,(b3_12,(b3_13,(b3_14,(b3_15,(b3_16,(b3_17,((),(b3_19,((),(b3_21,(b3_22,((),((),((),(b3_26,()))))))))))))))))))))))))))),(r60128,(r60130,(r60146,(r60148,(r60151,(r60152,(r60153,(r60154,(r1000704,(r1000705,(r60210,(r41,(r1003200,(r52,(r80,())))))))))))))))))))))
noncomputable def s98r_L4 (x:(Ta35×Ta373)):=q98r_L4 x.1.2.2.2.1 x.2.1 x.2.2.1.2.1 x.2.2.1.2.2.2.1 x.2.2.1.2.2.2.2.1 x.2.2.1.2.2.2.2.2.1 x.2.2.1.2.2.2.2.2.2.1 x.2.2.1.2.2.2.2.2.2.2.1 x.2.2.1.2.2.2.2.2.2.2.2.1 x.2.2.1.2.2.2.2.2.2.2.2.2.1 x.2.2.1.2.2.2.2.2.2.2.2.2.2.1 x.2.2.1.2.2.2.2.2.2.2.2.2.2.2.1 x.2.2.1.2.2.2.2.2.2.2.2.2.2.2.2.1 x.2.2.1.2.2.2.2.2.2.2.2.2.2.2.2.2.1 x.2.2.1.2.2.2.2.2.2.2.2.2.2.2.2.2.2.1 x.2.2.1.2.2.2.2.2.2.2.2.2.2.2.2.2.2.2.1 x.2.2.1.2.2.2.2.2.2.2.2.2.2.2.2.2.2.2.2.1 x.2.2.1.2.2.2.2.2.2.2.2.2.2.2.2.2.2.2.2.2.1 x.2.2.1.2.2.2.2.2.2.2.2.2.2.2.2.2.2.2.2.2.2.2.1 x.2.2.1.2.2.2.2.2.2.2.2.2.2.2.2.2.2.2.2.2.2.2.2.2.1 x.2.2.1.2.2.2.2.2.2.2.2.2.2.2.2.2.2.2.2.2.2.2.2.2.2.1 x.2.2.2.1.2.1 x.2.2.2.1.2.2.2.1 x.2.2.2.1.2.2.2.2.1 x.2.2.2.1.2.2.2.2.2.1 x.2.2.2.1.2.2.2.2.2.2.1 x.2.2.2.1.2.2.2.2.2.2.2.1 x.2.2.2.1.2.2.2.2.2.2.2.2.1 x.2.2.2.1.2.2.2.2.2.2.2.2.2.1 x.2.2.2.1.2.2.2.2.2.2.2.2.2.2.1 x.2.2.2.1.2.2.2.2.2.2.2.2.2.2.2.1 x.2.2.2.1.2.2.2.2.2.2.2.2.2.2.2.2.1 x.2.2.2.1.2.2.2.2.2.2.2.2.2.2.2.2.2.1 x.2.2.2.1.2.2.2.2.2.2.2.2.2.2.2.2.2.2.1 x.2.2.2.1.2.2.2.2.2.2.2.2.2.2.2.2.2.2.2.1 x.2.2.2.1.2.2.2.2.2.2.2.2.2.2.2.2.2.2.2.2.1 x.2.2.2.1.2.2.2.2.2.2.2.2.2.2.2.2.2.2.2.2.2.1 x.2.2.2.1.2.2.2.2.2.2.2.2.2.2.2.2.2.2.2.2.2.2.2.1 x.2.2.2.1.2.2.2.2.2.2.2.2.2.2.2.2.2.2.2.2.2.2.2.2.2.1 x.2.2.2.1.2.2.2.2.2.2.2.2.2.2.2.2.2.2.2.2.2.2.2.2.2.2.1 x.2.2.2.1.2.2.2.2.2.2.2.2.2.2.2.2.2.2.2.2.2.2.2.2.2.2.2.2.2.2.1 x.2.2.2.2.1 x.2.2.2.2.2.1 x.2.2.2.2.2.2.1 x.2.2.2.2.2.2.2.1 x.2.2.2.2.2.2.2.2.1 x.2.2.2.2.2.2.2.2.2.1 x.2.2.2.2.2.2.2.2.2.2.1 x.2.2.2.2.2.2.2.2.2.2.2.1 x.2.2.2.2.2.2.2.2.2.2.2.2.1 x.2.2.2.2.2.2.2.2.2.2.2.2.2.1 x.2.2.2.2.2.2.2.2.2.2.2.2.2.2.1 x.2.2.2.2.2.2.2.2.2.2.2.2.2.2.2.1 x.2.2.2.2.2.2.2.2.2.2.2.2.2.2.2.2.1 x.2.2.2.2.2.2.2.2.2.2.2.2.2.2.2.2.2.1 x.2.2.2.2.2.2.2.2.2.2.2.2.2.2.2.2.2.2.1
abbrev h98r_L6:Shape:={ slots:=[(1,.bx 1 0),(2,.bx 2 0),(3,.bx 3 0),(7,.v (.int .i64))],boxes:=[(1,.typ Ty371),(2,.cells [.ms 60128,.v (.int .u32),.ms 60130,.v .bool,.v (.int .u32),.v (.int .u32),.v (.int .u32),.v (.int .u32),.v .bool,.v .bool,.v (.int .u32),.v (.int .i64),.v (.int .i64),.v (.int .i64),.v .bool,.v (.int .i64),.v (.int .i64),.v (.int .i64),.ms 60146,.v (.int .i64),.ms 60148,.v (.int .i64),.v .bool,.ms 60151,.ms 60152,.ms 60153,.ms 60154]),(3,.cells [.ms 1000704,.v (.int .u32),.ms 1000705,.v .bool,.v (.int .u32),.v (.int .u32),.v (.int .u32),.v (.int .u32),.v .bool,.v .bool,.v (.int .u32),.v (.int .i64),.v (.int .i64),.v (.int .i64),.v .bool,.v (.int .i64),.v (.int .i64),.v (.int .i64),.ms 60210,.v (.int .i64),.ms 41,.v (.int .i64),.v .bool,.ms 1003200,.ms 52,.ms 80,.ms 102]),(60128,.row (.int .u32)),(60130,.row (.sl (.int .u8))),(60146,.row Ty76),(60148,.row (.int .i64)),(60151,.row (.sl (.int .u8))),(60152,.row Ty96),(60153,.row Ty30),(60154,.row Ty117),(1000704,.row (.int .u32)),(1000705,.row (.sl (.int .u8))),(60210,.row Ty76),(41,.row (.int .i64)),(1003200,.row (.sl (.int .u8))),(52,.row Ty96),(80,.row Ty30),(102,.row Ty117)] }
abbrev e98r_L6:List (XT×Shape):=[(.exit 6,{ slots:=[(2,.bx 2 0),(3,.bx 3 0)],boxes:=[(2,.cells [.ms 60128,.v (.int .u32),.ms 60130,.v .bool,.v (.int .u32),.v (.int .u32),.v (.int .u32),.v (.int .u32),.v .bool,.v .bool,.v (.int .u32),.v (.int .i64),.v (.int .i64),.v (.int .i64),.v .bool,.v (.int .i64),.v (.int .i64),.v (.int .i64),.ms 60146,.v (.int .i64),.ms 60148,.v (.int .i64),.v .bool,.ms 60151,.ms 60152,.ms 60153,.ms 60154]),(3,.cells [.ms 1000704,.v (.int .u32),.ms 1000705,.v .bool,.v (.int .u32),.v (.int .u32),.v (.int .u32),.v (.int .u32),.v .bool,.v .bool,.v (.int .u32),.v (.int .i64),.v (.int .i64),.v (.int .i64),.v .bool,.v (.int .i64),.v (.int .i64),.v (.int .i64),.ms 60210,.v (.int .i64),.ms 41,.v (.int .i64),.v .bool,.ms 1003200,.ms 52,.ms 80,.ms 102]),(60128,.row (.int .u32)),(60130,.row (.sl (.int .u8))),(60146,.row Ty76),(60148,.row (.int .i64)),(60151,.row (.sl (.int .u8))),(60152,.row Ty96),(60153,.row Ty30),(60154,.row Ty117),(1000704,.row (.int .u32)),(1000705,.row (.sl (.int .u8))),(60210,.row Ty76),(41,.row (.int .i64)),(1003200,.row (.sl (.int .u8))),(52,.row Ty96),(80,.row Ty30),(102,.row Ty117)] })]
noncomputable def q98r_L6 (t7:Int) (b1:Ta348) (b2_1:Int) (b2_3:Bool) (b2_4:Int) (b2_5:Int) (b2_6:Int) (b2_7:Int) (b2_8:Bool) (b2_9:Bool) (b2_10:Int) (b2_11:Int) (b2_12:Int) (b2_13:Int) (b2_14:Bool) (b2_15:Int) (b2_16:Int) (b2_17:Int) (b2_19:Int) (b2_21:Int) (b2_22:Bool) (b3_1:Int) (b3_3:Bool) (b3_4:Int) (b3_5:Int) (b3_6:Int) (b3_7:Int) (b3_8:Bool) (b3_9:Bool) (b3_10:Int) (b3_11:Int) (b3_12:Int) (b3_13:Int) (b3_14:Bool) (b3_15:Int) (b3_16:Int) (b3_17:Int) (b3_19:Int) (b3_21:Int) (b3_22:Bool) (r60128:(L Int)) (r60130:(L (L Int))) (r60146:Ta6) (r60148:(L Int)) (r60151:(L (L Int))) (r60152:Ta1) (r60153:(L ((L Int)×Unit))) (r60154:Ta18) (r1000704:(L Int)) (r1000705:(L (L Int))) (r60210:Ta6) (r41:(L Int)) (r1003200:(L (L Int))) (r52:Ta1) (r80:(L ((L Int)×Unit))) (r102:Ta18):Option ((Ta35×(Ta348×Ta367))⊕(((Unit×(Unit×Unit))×Ta367)⊕Empty)) :=
bif (decide (t7 < (b1.2.2.2.2.2.2.2.2.2.2.1.len:Int))) then bif (decide (0≤t7)&&decide (t7 < (b1.2.2.2.2.2.2.2.2.2.2.1.len:Int))) then (g179r (L.get b1.2.2.2.2.2.2.2.2.2.2.1 t7.toNat)).bind fun y8=>bif (decide (r102.len + (L.of (Ty.zero Ty117) [y8.1.1]).len≤most)) then some (.inl (((),((),((),((wI (t7 + (1:Int))),())))),(b1,(((),(b2_1,((),(b2_3,(b2_4,(b2_5,(b2_6,(b2_7,(b2_8,(b2_9,(b2_10,(b2_11,(b2_12,(b2_13,(b2_14,(b2_15,(b2_16,(b2_17,((),(b2_19,((),(b2_21,(b2_22,((),((),((),((),()))))))))))))))))))))))))))),(((),(b3_1,((),(b3_3,(b3_4,(b3_5,(b3_6,(b3_7,(b3_8,(b3_9,(b3_10,(b3_11,(b3_12,(b3_13,(b3_14,(b3_15,(b3_16,(b3_17,((),(b3_19,((),(b3_21,(b3_22,((),((),((),((),()))))))))))))))))))))))))))),(r60128,(r60130,(r60146,(r60148,(r60151,(r60152,(r60153,(r60154,(r1000704,(r1000705,(r60210,(r41,(r1003200,(r52,(r80,((L.app r102 (L.of (Ty.zero Ty117) [y8.1.1])),()))))))))))))))))))))) else none else none else some (.inr (.inl (((),((),())),(((),(b2_1,((),(b2_3,(b2_4,(b2_5,(b2_6,(b2_7,(b2_8,(b2_9,(b2_10,(b2_11,(b2_12,(b2_13,(b2_14,(b2_15,(b2_16,(b2_17,((),(b2_19,((),(b2_21,(b2_22,((),((),((),((),()))))))))))))))))))))))))))),(((),(b3_1,((),(b3_3,(b3_4,(b3_5,(b3_6,(b3_7,(b3_8,(b3_9,(b3_10,(b3_11,(b3_12,(b3_13,(b3_14,(b3_15,(b3_16,(b3_17,((),(b3_19,((),(b3_21,(b3_22,((),((),((),((),()))))))))))))))))))))))))))),(r60128,(r60130,(r60146,(r60148,(r60151,(r60152,(r60153,(r60154,(r1000704,(r1000705,(r60210,(r41,(r1003200,(r52,(r80,(r102,())))))))))))))))))))))
noncomputable def s98r_L6 (x:(Ta35×(Ta348×Ta367))):=q98r_L6 x.1.2.2.2.1 x.2.1 x.2.2.1.2.1 x.2.2.1.2.2.2.1 x.2.2.1.2.2.2.2.1 x.2.2.1.2.2.2.2.2.1 x.2.2.1.2.2.2.2.2.2.1 x.2.2.1.2.2.2.2.2.2.2.1 x.2.2.1.2.2.2.2.2.2.2.2.1 x.2.2.1.2.2.2.2.2.2.2.2.2.1 x.2.2.1.2.2.2.2.2.2.2.2.2.2.1 x.2.2.1.2.2.2.2.2.2.2.2.2.2.2.1 x.2.2.1.2.2.2.2.2.2.2.2.2.2.2.2.1 x.2.2.1.2.2.2.2.2.2.2.2.2.2.2.2.2.1 x.2.2.1.2.2.2.2.2.2.2.2.2.2.2.2.2.2.1 x.2.2.1.2.2.2.2.2.2.2.2.2.2.2.2.2.2.2.1 x.2.2.1.2.2.2.2.2.2.2.2.2.2.2.2.2.2.2.2.1 x.2.2.1.2.2.2.2.2.2.2.2.2.2.2.2.2.2.2.2.2.1 x.2.2.1.2.2.2.2.2.2.2.2.2.2.2.2.2.2.2.2.2.2.2.1 x.2.2.1.2.2.2.2.2.2.2.2.2.2.2.2.2.2.2.2.2.2.2.2.2.1 x.2.2.1.2.2.2.2.2.2.2.2.2.2.2.2.2.2.2.2.2.2.2.2.2.2.1 x.2.2.2.1.2.1 x.2.2.2.1.2.2.2.1 x.2.2.2.1.2.2.2.2.1 x.2.2.2.1.2.2.2.2.2.1 x.2.2.2.1.2.2.2.2.2.2.1 x.2.2.2.1.2.2.2.2.2.2.2.1 x.2.2.2.1.2.2.2.2.2.2.2.2.1 x.2.2.2.1.2.2.2.2.2.2.2.2.2.1 x.2.2.2.1.2.2.2.2.2.2.2.2.2.2.1 x.2.2.2.1.2.2.2.2.2.2.2.2.2.2.2.1 x.2.2.2.1.2.2.2.2.2.2.2.2.2.2.2.2.1 x.2.2.2.1.2.2.2.2.2.2.2.2.2.2.2.2.2.1 x.2.2.2.1.2.2.2.2.2.2.2.2.2.2.2.2.2.2.1 x.2.2.2.1.2.2.2.2.2.2.2.2.2.2.2.2.2.2.2.1 x.2.2.2.1.2.2.2.2.2.2.2.2.2.2.2.2.2.2.2.2.1 x.2.2.2.1.2.2.2.2.2.2.2.2.2.2.2.2.2.2.2.2.2.1 x.2.2.2.1.2.2.2.2.2.2.2.2.2.2.2.2.2.2.2.2.2.2.2.1 x.2.2.2.1.2.2.2.2.2.2.2.2.2.2.2.2.2.2.2.2.2.2.2.2.2.1 x.2.2.2.1.2.2.2.2.2.2.2.2.2.2.2.2.2.2.2.2.2.2.2.2.2.2.1 x.2.2.2.2.1 x.2.2.2.2.2.1 x.2.2.2.2.2.2.1 x.2.2.2.2.2.2.2.1 x.2.2.2.2.2.2.2.2.1 x.2.2.2.2.2.2.2.2.2.1 x.2.2.2.2.2.2.2.2.2.2.1 x.2.2.2.2.2.2.2.2.2.2.2.1 x.2.2.2.2.2.2.2.2.2.2.2.2.1 x.2.2.2.2.2.2.2.2.2.2.2.2.2.1 x.2.2.2.2.2.2.2.2.2.2.2.2.2.2.1 x.2.2.2.2.2.2.2.2.2.2.2.2.2.2.2.1 x.2.2.2.2.2.2.2.2.2.2.2.2.2.2.2.2.1 x.2.2.2.2.2.2.2.2.2.2.2.2.2.2.2.2.2.1 x.2.2.2.2.2.2.2.2.2.2.2.2.2.2.2.2.2.2.1 x.2.2.2.2.2.2.2.2.2.2.2.2.2.2.2.2.2.2.2.1
noncomputable def a98r:Nat→Option LoopAnn:=fun c=>bif Nat.beq c 0 then some (.fix h98r_L0 e98r_L0 s98r_L0) else bif Nat.beq c 2 then some (.fix h98r_L2 e98r_L2 s98r_L2) else bif Nat.beq c 4 then some (.fix h98r_L4 e98r_L4 s98r_L4) else bif Nat.beq c 6 then some (.fix h98r_L6 e98r_L6 s98r_L6) else none
noncomputable def g98r (x0:Ta348):Option Ta350 :=
(g177r x0.1).bind fun y1=>(fixO s98r_L0 (((),((),((),((0:Int),())))),(x0,(((nilL (.int .u32)),((0:Int),((nilL (.sl (.int .u8))),(false,((0:Int),((0:Int),((0:Int),((0:Int),(false,(false,((0:Int),((0:Int),((0:Int),((0:Int),(false,((0:Int),((0:Int),((0:Int),((nilL Ty76),((0:Int),((nilL (.int .i64)),((0:Int),(false,((nilL (.sl (.int .u8))),((nilL Ty96),((nilL Ty30),((nilL Ty117),()))))))))))))))))))))))))))),(((),(y1.1.1.2.1,((),(x0.2.1.1,(x0.2.1.2.1,(x0.2.1.2.2.1,(x0.2.1.2.2.2.1,(x0.2.1.2.2.2.2.1,(x0.2.1.2.2.2.2.2.1,(x0.2.1.2.2.2.2.2.2.1,(x0.2.1.2.2.2.2.2.2.2.1,(x0.2.2.1.1,(x0.2.2.1.2.1,(x0.2.2.1.2.2.1,(x0.2.2.1.2.2.2.1,(x0.2.2.2.1.1.1,(x0.2.2.2.1.1.2.1,(x0.2.2.2.1.1.2.2.1,((nilL Ty76),(x0.2.2.2.2.1.1,(x0.2.2.2.2.1.2.1,x0.2.2.2.2.2))))))))))))))))))))),(y1.1.1.1,y1.1.1.2.2)))))).bind fun d13=>match d13 with | .inl y2=>bif (decide ((L.of (Ty.zero (.int .i64)) []).len + y2.2.1.2.2.2.2.1.2.1.len≤most)) then (g130r y2.2.1.2.2.2.2.2.2.2.1).bind fun y3=>((fixO s98r_L2 (((),((),((),((0:Int),())))),(y2.2.1,(((),(y2.2.2.1.2.1,((),(y2.2.2.1.2.2.2.1,(y2.2.2.1.2.2.2.2.1,(y2.2.2.1.2.2.2.2.2.1,(y2.2.2.1.2.2.2.2.2.2.1,(y2.2.2.1.2.2.2.2.2.2.2.1,(y2.2.2.1.2.2.2.2.2.2.2.2.1,(y2.2.2.1.2.2.2.2.2.2.2.2.2.1,(y2.2.2.1.2.2.2.2.2.2.2.2.2.2.1,(y2.2.2.1.2.2.2.2.2.2.2.2.2.2.2.1,(y2.2.2.1.2.2.2.2.2.2.2.2.2.2.2.2.1,(y2.2.2.1.2.2.2.2.2.2.2.2.2.2.2.2.2.1,(y2.2.2.1.2.2.2.2.2.2.2.2.2.2.2.2.2.2.1,(y2.2.2.1.2.2.2.2.2.2.2.2.2.2.2.2.2.2.2.1,(y2.2.2.1.2.2.2.2.2.2.2.2.2.2.2.2.2.2.2.2.1,(y2.2.2.1.2.2.2.2.2.2.2.2.2.2.2.2.2.2.2.2.2.1,((),(y2.2.2.1.2.2.2.2.2.2.2.2.2.2.2.2.2.2.2.2.2.2.2.1,((),(y2.2.2.1.2.2.2.2.2.2.2.2.2.2.2.2.2.2.2.2.2.2.2.2.2.1,(y2.2.2.1.2.2.2.2.2.2.2.2.2.2.2.2.2.2.2.2.2.2.2.2.2.2.1,((),((),((),((),()))))))))))))))))))))))))))),(((),(y2.2.2.2.1.2.1,((),(y2.2.2.2.1.2.2.2.1,(y2.2.2.2.1.2.2.2.2.1,(y2.2.2.2.1.2.2.2.2.2.1,(y2.2.2.2.1.2.2.2.2.2.2.1,(y2.2.2.2.1.2.2.2.2.2.2.2.1,(y2.2.2.2.1.2.2.2.2.2.2.2.2.1,(y2.2.2.2.1.2.2.2.2.2.2.2.2.2.1,(y2.2.2.2.1.2.2.2.2.2.2.2.2.2.2.1,(y2.2.2.2.1.2.2.2.2.2.2.2.2.2.2.2.1,(y2.2.2.2.1.2.2.2.2.2.2.2.2.2.2.2.2.1,(y2.2.2.2.1.2.2.2.2.2.2.2.2.2.2.2.2.2.1,(y2.2.2.2.1.2.2.2.2.2.2.2.2.2.2.2.2.2.2.1,(y2.2.2.2.1.2.2.2.2.2.2.2.2.2.2.2.2.2.2.2.1,(y2.2.2.2.1.2.2.2.2.2.2.2.2.2.2.2.2.2.2.2.2.1,(y2.2.2.2.1.2.2.2.2.2.2.2.2.2.2.2.2.2.2.2.2.2.1,((),(y2.2.2.2.1.2.2.2.2.2.2.2.2.2.2.2.2.2.2.2.2.2.2.2.1,((),(y2.2.2.2.1.2.2.2.2.2.2.2.2.2.2.2.2.2.2.2.2.2.2.2.2.2.1,(y2.2.2.2.1.2.2.2.2.2.2.2.2.2.2.2.2.2.2.2.2.2.2.2.2.2.2.1,((),((),y2.2.2.2.1.2.2.2.2.2.2.2.2.2.2.2.2.2.2.2.2.2.2.2.2.2.2.2.2.2))))))))))))))))))))))))),(y2.2.2.2.2.1,(y2.2.2.2.2.2.1,(y2.2.2.2.2.2.2.1,(y2.2.2.2.2.2.2.2.1,(y2.2.2.2.2.2.2.2.2.1,(y2.2.2.2.2.2.2.2.2.2.1,(y2.2.2.2.2.2.2.2.2.2.2.1,(y2.2.2.2.2.2.2.2.2.2.2.2.1,(y2.2.2.2.2.2.2.2.2.2.2.2.2.1,(y2.2.2.2.2.2.2.2.2.2.2.2.2.2.1,(y2.2.2.2.2.2.2.2.2.2.2.2.2.2.2.1,((L.app (L.of (Ty.zero (.int .i64)) []) y2.2.1.2.2.2.2.1.2.1),(y3.1.1,((L.of (Ty.zero Ty96) []),()))))))))))))))))))).bind fun d12=>match d12 with | .inl y5=>((fixO s98r_L4 (((),((),((),((0:Int),())))),(y5.2.1,(((),(y5.2.2.1.2.1,((),(y5.2.2.1.2.2.2.1,(y5.2.2.1.2.2.2.2.1,(y5.2.2.1.2.2.2.2.2.1,(y5.2.2.1.2.2.2.2.2.2.1,(y5.2.2.1.2.2.2.2.2.2.2.1,(y5.2.2.1.2.2.2.2.2.2.2.2.1,(y5.2.2.1.2.2.2.2.2.2.2.2.2.1,(y5.2.2.1.2.2.2.2.2.2.2.2.2.2.1,(y5.2.2.1.2.2.2.2.2.2.2.2.2.2.2.1,(y5.2.2.1.2.2.2.2.2.2.2.2.2.2.2.2.1,(y5.2.2.1.2.2.2.2.2.2.2.2.2.2.2.2.2.1,(y5.2.2.1.2.2.2.2.2.2.2.2.2.2.2.2.2.2.1,(y5.2.2.1.2.2.2.2.2.2.2.2.2.2.2.2.2.2.2.1,(y5.2.2.1.2.2.2.2.2.2.2.2.2.2.2.2.2.2.2.2.1,(y5.2.2.1.2.2.2.2.2.2.2.2.2.2.2.2.2.2.2.2.2.1,((),(y5.2.2.1.2.2.2.2.2.2.2.2.2.2.2.2.2.2.2.2.2.2.2.1,((),(y5.2.2.1.2.2.2.2.2.2.2.2.2.2.2.2.2.2.2.2.2.2.2.2.2.1,(y5.2.2.1.2.2.2.2.2.2.2.2.2.2.2.2.2.2.2.2.2.2.2.2.2.2.1,((),((),((),((),()))))))))))))))))))))))))))),(((),(y5.2.2.2.1.2.1,((),(y5.2.2.2.1.2.2.2.1,(y5.2.2.2.1.2.2.2.2.1,(y5.2.2.2.1.2.2.2.2.2.1,(y5.2.2.2.1.2.2.2.2.2.2.1,(y5.2.2.2.1.2.2.2.2.2.2.2.1,(y5.2.2.2.1.2.2.2.2.2.2.2.2.1,(y5.2.2.2.1.2.2.2.2.2.2.2.2.2.1,(y5.2.2.2.1.2.2.2.2.2.2.2.2.2.2.1,(y5.2.2.2.1.2.2.2.2.2.2.2.2.2.2.2.1,(y5.2.2.2.1.2.2.2.2.2.2.2.2.2.2.2.2.1,(y5.2.2.2.1.2.2.2.2.2.2.2.2.2.2.2.2.2.1,(y5.2.2.2.1.2.2.2.2.2.2.2.2.2.2.2.2.2.2.1,(y5.2.2.2.1.2.2.2.2.2.2.2.2.2.2.2.2.2.2.2.1,(y5.2.2.2.1.2.2.2.2.2.2.2.2.2.2.2.2.2.2.2.2.1,(y5.2.2.2.1.2.2.2.2.2.2.2.2.2.2.2.2.2.2.2.2.2.1,((),(y5.2.2.2.1.2.2.2.2.2.2.2.2.2.2.2.2.2.2.2.2.2.2.2.1,((),(y5.2.2.2.1.2.2.2.2.2.2.2.2.2.2.2.2.2.2.2.2.2.2.2.2.2.1,(y5.2.2.2.1.2.2.2.2.2.2.2.2.2.2.2.2.2.2.2.2.2.2.2.2.2.2.1,((),((),((),y5.2.2.2.1.2.2.2.2.2.2.2.2.2.2.2.2.2.2.2.2.2.2.2.2.2.2.2.2.2.2)))))))))))))))))))))))))),(y5.2.2.2.2.1,(y5.2.2.2.2.2.1,(y5.2.2.2.2.2.2.1,(y5.2.2.2.2.2.2.2.1,(y5.2.2.2.2.2.2.2.2.1,(y5.2.2.2.2.2.2.2.2.2.1,(y5.2.2.2.2.2.2.2.2.2.2.1,(y5.2.2.2.2.2.2.2.2.2.2.2.1,(y5.2.2.2.2.2.2.2.2.2.2.2.2.1,(y5.2.2.2.2.2.2.2.2.2.2.2.2.2.1,(y5.2.2.2.2.2.2.2.2.2.2.2.2.2.2.1,(y5.2.2.2.2.2.2.2.2.2.2.2.2.2.2.2.1,(y5.2.2.2.2.2.2.2.2.2.2.2.2.2.2.2.2.1,(y5.2.2.2.2.2.2.2.2.2.2.2.2.2.2.2.2.2.1,((L.of (Ty.zero Ty30) []),())))))))))))))))))))).bind fun d11=>match d11 with | .inl y7=>((fixO s98r_L6 (((),((),((),((0:Int),())))),(y7.2.1,(((),(y7.2.2.1.2.1,((),(y7.2.2.1.2.2.2.1,(y7.2.2.1.2.2.2.2.1,(y7.2.2.1.2.2.2.2.2.1,(y7.2.2.1.2.2.2.2.2.2.1,(y7.2.2.1.2.2.2.2.2.2.2.1,(y7.2.2.1.2.2.2.2.2.2.2.2.1,(y7.2.2.1.2.2.2.2.2.2.2.2.2.1,(y7.2.2.1.2.2.2.2.2.2.2.2.2.2.1,(y7.2.2.1.2.2.2.2.2.2.2.2.2.2.2.1,(y7.2.2.1.2.2.2.2.2.2.2.2.2.2.2.2.1,(y7.2.2.1.2.2.2.2.2.2.2.2.2.2.2.2.2.1,(y7.2.2.1.2.2.2.2.2.2.2.2.2.2.2.2.2.2.1,(y7.2.2.1.2.2.2.2.2.2.2.2.2.2.2.2.2.2.2.1,(y7.2.2.1.2.2.2.2.2.2.2.2.2.2.2.2.2.2.2.2.1,(y7.2.2.1.2.2.2.2.2.2.2.2.2.2.2.2.2.2.2.2.2.1,((),(y7.2.2.1.2.2.2.2.2.2.2.2.2.2.2.2.2.2.2.2.2.2.2.1,((),(y7.2.2.1.2.2.2.2.2.2.2.2.2.2.2.2.2.2.2.2.2.2.2.2.2.1,(y7.2.2.1.2.2.2.2.2.2.2.2.2.2.2.2.2.2.2.2.2.2.2.2.2.2.1,((),((),((),((),()))))))))))))))))))))))))))),(((),(y7.2.2.2.1.2.1,((),(y7.2.2.2.1.2.2.2.1,(y7.2.2.2.1.2.2.2.2.1,(y7.2.2.2.1.2.2.2.2.2.1,(y7.2.2.2.1.2.2.2.2.2.2.1,(y7.2.2.2.1.2.2.2.2.2.2.2.1,(y7.2.2.2.1.2.2.2.2.2.2.2.2.1,(y7.2.2.2.1.2.2.2.2.2.2.2.2.2.1,(y7.2.2.2.1.2.2.2.2.2.2.2.2.2.2.1,(y7.2.2.2.1.2.2.2.2.2.2.2.2.2.2.2.1,(y7.2.2.2.1.2.2.2.2.2.2.2.2.2.2.2.2.1,(y7.2.2.2.1.2.2.2.2.2.2.2.2.2.2.2.2.2.1,(y7.2.2.2.1.2.2.2.2.2.2.2.2.2.2.2.2.2.2.1,(y7.2.2.2.1.2.2.2.2.2.2.2.2.2.2.2.2.2.2.2.1,(y7.2.2.2.1.2.2.2.2.2.2.2.2.2.2.2.2.2.2.2.2.1,(y7.2.2.2.1.2.2.2.2.2.2.2.2.2.2.2.2.2.2.2.2.2.1,((),(y7.2.2.2.1.2.2.2.2.2.2.2.2.2.2.2.2.2.2.2.2.2.2.2.1,((),(y7.2.2.2.1.2.2.2.2.2.2.2.2.2.2.2.2.2.2.2.2.2.2.2.2.2.1,(y7.2.2.2.1.2.2.2.2.2.2.2.2.2.2.2.2.2.2.2.2.2.2.2.2.2.2.1,((),((),((),((),()))))))))))))))))))))))))))),(y7.2.2.2.2.1,(y7.2.2.2.2.2.1,(y7.2.2.2.2.2.2.1,(y7.2.2.2.2.2.2.2.1,(y7.2.2.2.2.2.2.2.2.1,(y7.2.2.2.2.2.2.2.2.2.1,(y7.2.2.2.2.2.2.2.2.2.2.1,(y7.2.2.2.2.2.2.2.2.2.2.2.1,(y7.2.2.2.2.2.2.2.2.2.2.2.2.1,(y7.2.2.2.2.2.2.2.2.2.2.2.2.2.1,(y7.2.2.2.2.2.2.2.2.2.2.2.2.2.2.1,(y7.2.2.2.2.2.2.2.2.2.2.2.2.2.2.2.1,(y7.2.2.2.2.2.2.2.2.2.2.2.2.2.2.2.2.1,(y7.2.2.2.2.2.2.2.2.2.2.2.2.2.2.2.2.2.1,(y7.2.2.2.2.2.2.2.2.2.2.2.2.2.2.2.2.2.2.1,((L.of (Ty.zero Ty117) []),()))))))))))))))))))))).bind fun d10=>match d10 with | .inl y9=>some ((((y9.2.2.2.2.2.2.2.2.2.2.2.1,(y9.2.2.1.2.1,(y9.2.2.2.2.2.2.2.2.2.2.2.2.1,()))),((y9.2.2.1.2.2.2.1,(y9.2.2.1.2.2.2.2.1,(y9.2.2.1.2.2.2.2.2.1,(y9.2.2.1.2.2.2.2.2.2.1,(y9.2.2.1.2.2.2.2.2.2.2.1,(y9.2.2.1.2.2.2.2.2.2.2.2.1,(y9.2.2.1.2.2.2.2.2.2.2.2.2.1,(y9.2.2.1.2.2.2.2.2.2.2.2.2.2.1,())))))))),((y9.2.2.1.2.2.2.2.2.2.2.2.2.2.2.1,(y9.2.2.1.2.2.2.2.2.2.2.2.2.2.2.2.1,(y9.2.2.1.2.2.2.2.2.2.2.2.2.2.2.2.2.1,(y9.2.2.1.2.2.2.2.2.2.2.2.2.2.2.2.2.2.1,())))),(((y9.2.2.1.2.2.2.2.2.2.2.2.2.2.2.2.2.2.2.1,(y9.2.2.1.2.2.2.2.2.2.2.2.2.2.2.2.2.2.2.2.1,(y9.2.2.1.2.2.2.2.2.2.2.2.2.2.2.2.2.2.2.2.2.1,()))),(y9.2.2.2.2.2.2.2.2.2.2.2.2.2.1,())),((y9.2.2.1.2.2.2.2.2.2.2.2.2.2.2.2.2.2.2.2.2.2.2.1,(y9.2.2.2.2.2.2.2.2.2.2.2.2.2.2.1,())),(y9.2.2.1.2.2.2.2.2.2.2.2.2.2.2.2.2.2.2.2.2.2.2.2.2.1,(y9.2.2.1.2.2.2.2.2.2.2.2.2.2.2.2.2.2.2.2.2.2.2.2.2.2.1,y9.2.2.2.2.2.2.2.2.2.2.2.2.2.2.2))))))),()),()) | .inr e=>nomatch e) | .inr e=>nomatch e) | .inr e=>nomatch e) else none | .inr e=>nomatch e
noncomputable def c98r:Ctr:={ ins:=[.v Ty371],out:=[Ty371],F:=fun x=>g98r x.1,fr:=1 }
noncomputable def l98r:List (Nat×Code):=loopsIn (Tryz.f98.body.getD .skip) 0
theorem w98r_L0:LW t98r a98r l98r 0 0 h98r_L0 e98r_L0 s98r_L0:=fun x=>by kernel_rfl
theorem w98r_L2:LW t98r a98r l98r 1 2 h98r_L2 e98r_L2 s98r_L2:=fun x=>by kernel_rfl
theorem w98r_L4:LW t98r a98r l98r 2 4 h98r_L4 e98r_L4 s98r_L4:=fun x=>by kernel_rfl
theorem w98r_L6:LW t98r a98r l98r 3 6 h98r_L6 e98r_L6 s98r_L6:=fun x=>by kernel_rfl
theorem o98r:Holds Tryz.prog 98 c98r:=fh t98r a98r Tryz.func98 [(0,lg l98r 0),(2,lg l98r 1),(4,lg l98r 2),(6,lg l98r 3)] ⟨fun x d h=>(w98r_L0 x).trans h,fun x d h=>(w98r_L2 x).trans h,fun x d h=>(w98r_L4 x).trans h,fun x d h=>(w98r_L6 x).trans h,trivial⟩ (tc o177r (tc o130r (tc o178r (tc o179r tn))))
noncomputable def t99r:Tbl:=[(180,[],c180),(179,[],c179r)]
noncomputable def g99r (x0:Ta2) (x1:Int):Option ((Ta2×(Bool×Unit))×Unit) :=
bif (!(f180 x0)) then some ((((nilL (.int .u32)),((nilL (.int .u32)),())),false,()),()) else (g179r x0).bind fun y1=>bif ((x0.1.len:Int) == (8:Int)) then some ((y1.1.1,false,()),()) else bif (decide (y1.1.1.1.len + (L.of (Ty.zero (.int .u32)) [x1]).len≤most)) then some ((((L.app y1.1.1.1 (L.of (Ty.zero (.int .u32)) [x1])),y1.1.1.2),true,()),()) else none
noncomputable def c99r:Ctr:={ ins:=[.v Ty117,.v (.int .u32)],out:=[Ty117,.bool],F:=fun x=>g99r x.1 x.2.1,fr:=1 }
theorem o99r:Holds Tryz.prog 99 c99r:=f0 t99r Tryz.func99 (tc o180 (tc o179r tn))
noncomputable def t23r:Tbl:=[(96,[],c96),(97,[],c97),(98,[],c98r),(99,[],c99r)]
noncomputable def g23r (x0:Ta330) (x1:Int) (x2:Ta348) (x3:Int) (x4:Int):Option ((Ta348×(Bool×Unit))×Unit) :=
(g96 x0 x1 x2).bind fun y1=>bif (!y1.1.1) then some (((((nilL (.int .u32)),((0:Int),((nilL (.sl (.int .u8))),()))),((false,((0:Int),((0:Int),((0:Int),((0:Int),(false,(false,((0:Int),())))))))),(((0:Int),((0:Int),((0:Int),(false,())))),((((0:Int),((0:Int),((0:Int),()))),((nilL Ty76),())),(((0:Int),((nilL (.int .i64)),())),((0:Int),(false,((nilL (.sl (.int .u8))),((nilL Ty96),((nilL Ty30),((nilL Ty117),()))))))))))),false,()),()) else bif (!(f97 x3 (0:Int) (wI ((x0.2.2.2.2.2.2.2.2.1.len:Int) - (1:Int))))) then some (((((nilL (.int .u32)),((0:Int),((nilL (.sl (.int .u8))),()))),((false,((0:Int),((0:Int),((0:Int),((0:Int),(false,(false,((0:Int),())))))))),(((0:Int),((0:Int),((0:Int),(false,())))),((((0:Int),((0:Int),((0:Int),()))),((nilL Ty76),())),(((0:Int),((nilL (.int .i64)),())),((0:Int),(false,((nilL (.sl (.int .u8))),((nilL Ty96),((nilL Ty30),((nilL Ty117),()))))))))))),false,()),()) else bif (decide (0≤x3)&&decide (x3 < (x0.2.2.2.2.2.2.2.2.1.len:Int))) then bif ((L.get x0.2.2.2.2.2.2.2.2.1 x3.toNat) != x1) then some (((((nilL (.int .u32)),((0:Int),((nilL (.sl (.int .u8))),()))),((false,((0:Int),((0:Int),((0:Int),((0:Int),(false,(false,((0:Int),())))))))),(((0:Int),((0:Int),((0:Int),(false,())))),((((0:Int),((0:Int),((0:Int),()))),((nilL Ty76),())),(((0:Int),((nilL (.int .i64)),())),((0:Int),(false,((nilL (.sl (.int .u8))),((nilL Ty96),((nilL Ty30),((nilL Ty117),()))))))))))),false,()),()) else (g98r x2).bind fun y2=>bif (decide (0≤x3)&&decide (x3 < (y2.1.1.2.2.2.2.2.2.2.2.2.2.1.len:Int))) then (g99r ((L.get y2.1.1.2.2.2.2.2.2.2.2.2.2.1 x3.toNat).1,((L.get y2.1.1.2.2.2.2.2.2.2.2.2.2.1 x3.toNat).2.1,())) x4).bind fun y3=>bif (decide (0≤x3)&&decide (x3 < (y2.1.1.2.2.2.2.2.2.2.2.2.2.1.len:Int))) then some ((((y2.1.1.1.1,(y2.1.1.1.2.1,y2.1.1.1.2.2)),(y2.1.1.2.1,(y2.1.1.2.2.1,((y2.1.1.2.2.2.1.1,y2.1.1.2.2.2.1.2),((y2.1.1.2.2.2.2.1.1,y2.1.1.2.2.2.2.1.2),(y2.1.1.2.2.2.2.2.1,(y2.1.1.2.2.2.2.2.2.1,(y2.1.1.2.2.2.2.2.2.2.1,(y2.1.1.2.2.2.2.2.2.2.2.1,(y2.1.1.2.2.2.2.2.2.2.2.2.1,((L.set y2.1.1.2.2.2.2.2.2.2.2.2.2.1 x3.toNat y3.1.1),()))))))))))),y3.1.2.1,()),()) else none else none else none
noncomputable def c23r:Ctr:={ ins:=[.v Ty370,.v (.int .i64),.v Ty371,.v (.int .i64),.v (.int .u32)],out:=[Ty371,.bool],F:=fun x=>g23r x.1 x.2.1 x.2.2.1 x.2.2.2.1 x.2.2.2.2.1,fr:=1 }
theorem o23r:Holds Tryz.prog 23 c23r:=f0 t23r Tryz.func23 (tc o96 (tc o97 (tc o98r (tc o99r tn))))
noncomputable def t136:Tbl:=[]
noncomputable def g136 (x0:Int) (x1:Int) (x2:Int):Option ((Bool×Unit)×Unit) :=
bif (decide (x0 ≥ x1)) then some (((decide (x0≤x2)),()),()) else some ((false,()),())
noncomputable def f136 (x0:Int) (x1:Int) (x2:Int):Bool :=
bif (decide (x0 ≥ x1)) then (decide (x0≤x2)) else false
theorem n136 (x0:Int) (x1:Int) (x2:Int):g136 x0 x1 x2 = some ((f136 x0 x1 x2,()),()):=by simp only [g136,f136,pull1]
noncomputable def c136:Ctr:={ ins:=[.v (.int .i64),.v (.int .i64),.v (.int .i64)],out:=[.bool],F:=fun x=>some ((f136 x.1 x.2.1 x.2.2.1,()),()) }
theorem o136:Holds Tryz.prog 136 c136:=f0T t136 (fun x=>g136 x.1 x.2.1 x.2.2.1) Tryz.func136 tn (fun x=>n136 x.1 x.2.1 x.2.2.1)
noncomputable def t134:Tbl:=[(136,[],c136)]
noncomputable def g134 (x0:Int):Option ((Bool×Unit)×Unit) :=
bif (f136 x0 (64:Int) (2048:Int)) then some ((((Int.tmod x0 (4:Int)) == (0:Int)),()),()) else some ((false,()),())
noncomputable def f134 (x0:Int):Bool :=
bif (f136 x0 (64:Int) (2048:Int)) then ((Int.tmod x0 (4:Int)) == (0:Int)) else false
theorem n134 (x0:Int):g134 x0 = some ((f134 x0,()),()):=by simp only [g134,f134,pull1]
noncomputable def c134:Ctr:={ ins:=[.v (.int .i64)],out:=[.bool],F:=fun x=>some ((f134 x.1,()),()) }
theorem o134:Holds Tryz.prog 134 c134:=f0T t134 (fun x=>g134 x.1) Tryz.func134 (tc o136 tn) (fun x=>n134 x.1)
noncomputable def t226:Tbl:=[]
noncomputable def g226 (x0:Int):Option ((Bool×Unit)×Unit) :=
bif (decide (x0 > (0:Int))) then some ((((andOf .i64 x0 (wI (x0 - (1:Int)))) == (0:Int)),()),()) else some ((false,()),())
noncomputable def f226 (x0:Int):Bool :=
bif (decide (x0 > (0:Int))) then ((andOf .i64 x0 (wI (x0 - (1:Int)))) == (0:Int)) else false
theorem n226 (x0:Int):g226 x0 = some ((f226 x0,()),()):=by simp only [g226,f226,pull1]
noncomputable def c226:Ctr:={ ins:=[.v (.int .i64)],out:=[.bool],F:=fun x=>some ((f226 x.1,()),()) }
theorem o226:Holds Tryz.prog 226 c226:=f0T t226 (fun x=>g226 x.1) Tryz.func226 tn (fun x=>n226 x.1)
noncomputable def t135:Tbl:=[(136,[],c136),(226,[],c226)]
noncomputable def g135 (x0:(Int×(Int×(Int×Unit)))):Option ((Bool×Unit)×Unit) :=
bif (f136 x0.1 (1:Int) (16:Int)) then bif (f226 x0.1) then bif (f136 x0.2.1 (1:Int) (4:Int)) then bif (f136 x0.2.2.1 (4:Int) (32:Int)) then some (((f226 x0.2.2.1),()),()) else some ((false,()),()) else some ((false,()),()) else some ((false,()),()) else some ((false,()),())
noncomputable def f135 (x0:(Int×(Int×(Int×Unit)))):Bool :=
bif (f136 x0.1 (1:Int) (16:Int)) then bif (f226 x0.1) then bif (f136 x0.2.1 (1:Int) (4:Int)) then bif (f136 x0.2.2.1 (4:Int) (32:Int)) then (f226 x0.2.2.1) else false else false else false else false
theorem n135 (x0:(Int×(Int×(Int×Unit)))):g135 x0 = some ((f135 x0,()),()):=by simp only [g135,f135,pull1]
noncomputable def c135:Ctr:={ ins:=[.v Ty129],out:=[.bool],F:=fun x=>some ((f135 x.1,()),()) }
theorem o135:Holds Tryz.prog 135 c135:=f0T t135 (fun x=>g135 x.1) Tryz.func135 (tc o136 (tc o226 tn)) (fun x=>n135 x.1)
noncomputable def t137:Tbl:=[(136,[],c136)]
noncomputable def a137:Nat→Option LoopAnn:=fun c=>bif Nat.beq c 0 then some (.unroll 7 [1,17,18] [1]) else none
noncomputable def g137 (x0:Ta81):Option ((Bool×Unit)×Unit) :=
bif (!(f136 x0.2.1 (0:Int) (50:Int))) then some ((false,()),()) else bif (!(f136 x0.2.2.1 (0:Int) (50:Int))) then some ((false,()),()) else bif (!(f136 x0.2.2.2.1 (0:Int) (50:Int))) then some ((false,()),()) else bif (!(f136 x0.2.2.2.2.1 (0:Int) (50:Int))) then some ((false,()),()) else bif (!(f136 x0.2.2.2.2.2.1 (0:Int) (50:Int))) then some ((false,()),()) else bif (!(f136 x0.2.2.2.2.2.2.1 (0:Int) (50:Int))) then some ((false,()),()) else some (((f136 x0.1 (1:Int) (20:Int)),()),())
noncomputable def f137 (x0:Ta81):Bool :=
bif (!(f136 x0.2.1 (0:Int) (50:Int))) then false else bif (!(f136 x0.2.2.1 (0:Int) (50:Int))) then false else bif (!(f136 x0.2.2.2.1 (0:Int) (50:Int))) then false else bif (!(f136 x0.2.2.2.2.1 (0:Int) (50:Int))) then false else bif (!(f136 x0.2.2.2.2.2.1 (0:Int) (50:Int))) then false else bif (!(f136 x0.2.2.2.2.2.2.1 (0:Int) (50:Int))) then false else (f136 x0.1 (1:Int) (20:Int))
theorem n137 (x0:Ta81):g137 x0 = some ((f137 x0,()),()):=by simp only [g137,f137,pull1]
noncomputable def c137:Ctr:={ ins:=[.v Ty229],out:=[.bool],F:=fun x=>some ((f137 x.1,()),()) }
noncomputable def l137:List (Nat×Code):=loopsIn (Tryz.f137.body.getD .skip) 0
theorem o137:Holds Tryz.prog 137 c137:=fhT t137 a137 (fun x=>g137 x.1) Tryz.func137 [(0,lg l137 0)] ⟨trivial,trivial⟩ (tc o136 tn) (fun x=>n137 x.1)
noncomputable def t138:Tbl:=[(136,[],c136)]
noncomputable def g138 (x0:Int):Option ((Bool×Unit)×Unit) :=
some (((f136 x0 (1:Int) (5000:Int)),()),())
noncomputable def f138 (x0:Int):Bool :=
(f136 x0 (1:Int) (5000:Int))
theorem n138 (x0:Int):g138 x0 = some ((f138 x0,()),()):=by simp only [g138,f138,pull1]
noncomputable def c138:Ctr:={ ins:=[.v (.int .i64)],out:=[.bool],F:=fun x=>some ((f138 x.1,()),()) }
theorem o138:Holds Tryz.prog 138 c138:=f0T t138 (fun x=>g138 x.1) Tryz.func138 (tc o136 tn) (fun x=>n138 x.1)
noncomputable def t299:Tbl:=[(136,[],c136)]
noncomputable def g299 (x0:Ta81) (x1:Int):Option ((Int×Unit)×Unit) :=
bif (x1 == (9:Int)) then some (((wI (x0.1 + x0.2.1)),()),()) else bif (x1 == (10:Int)) then some (((wI (x0.1 + x0.2.1)),()),()) else bif (f136 x1 (15:Int) (18:Int)) then some (((wI (x0.1 + x0.2.2.1)),()),()) else bif (decide (x1 ≥ (25:Int))) then some (((wI (x0.1 + x0.2.2.2.2.2.1)),()),()) else some ((x0.1,()),())
noncomputable def f299 (x0:Ta81) (x1:Int):Int :=
bif (x1 == (9:Int)) then (wI (x0.1 + x0.2.1)) else bif (x1 == (10:Int)) then (wI (x0.1 + x0.2.1)) else bif (f136 x1 (15:Int) (18:Int)) then (wI (x0.1 + x0.2.2.1)) else bif (decide (x1 ≥ (25:Int))) then (wI (x0.1 + x0.2.2.2.2.2.1)) else x0.1
theorem n299 (x0:Ta81) (x1:Int):g299 x0 x1 = some ((f299 x0 x1,()),()):=by simp only [g299,f299,pull1]
noncomputable def c299:Ctr:={ ins:=[.v Ty229,.v (.int .i64)],out:=[(.int .i64)],F:=fun x=>some ((f299 x.1 x.2.1,()),()) }
theorem o299:Holds Tryz.prog 299 c299:=f0T t299 (fun x=>g299 x.1 x.2.1) Tryz.func299 (tc o136 tn) (fun x=>n299 x.1 x.2.1)
noncomputable def t300:Tbl:=[]
noncomputable def g300 (x0:Ta81) (x1:Ta10):Option ((Int×Unit)×Unit) :=
bif (!x1.1) then bif (!x1.2.1) then bif x1.2.2.1 then some (((wI ((wI ((wI ((0:Int) + x0.2.2.2.1)) + x0.2.2.2.2.1)) + x0.2.2.2.2.2.2.1)),()),()) else some (((wI ((wI ((0:Int) + x0.2.2.2.1)) + x0.2.2.2.2.1)),()),()) else bif x1.2.2.1 then some (((wI ((wI ((0:Int) + x0.2.2.2.1)) + x0.2.2.2.2.2.2.1)),()),()) else some (((wI ((0:Int) + x0.2.2.2.1)),()),()) else bif (!x1.2.1) then bif x1.2.2.1 then some (((wI ((wI ((0:Int) + x0.2.2.2.2.1)) + x0.2.2.2.2.2.2.1)),()),()) else some (((wI ((0:Int) + x0.2.2.2.2.1)),()),()) else bif x1.2.2.1 then some (((wI ((0:Int) + x0.2.2.2.2.2.2.1)),()),()) else some (((0:Int),()),())
noncomputable def f300 (x0:Ta81) (x1:Ta10):Int :=
bif (!x1.1) then bif (!x1.2.1) then bif x1.2.2.1 then (wI ((wI ((wI ((0:Int) + x0.2.2.2.1)) + x0.2.2.2.2.1)) + x0.2.2.2.2.2.2.1)) else (wI ((wI ((0:Int) + x0.2.2.2.1)) + x0.2.2.2.2.1)) else bif x1.2.2.1 then (wI ((wI ((0:Int) + x0.2.2.2.1)) + x0.2.2.2.2.2.2.1)) else (wI ((0:Int) + x0.2.2.2.1)) else bif (!x1.2.1) then bif x1.2.2.1 then (wI ((wI ((0:Int) + x0.2.2.2.2.1)) + x0.2.2.2.2.2.2.1)) else (wI ((0:Int) + x0.2.2.2.2.1)) else bif x1.2.2.1 then (wI ((0:Int) + x0.2.2.2.2.2.2.1)) else (0:Int)
theorem n300 (x0:Ta81) (x1:Ta10):g300 x0 x1 = some ((f300 x0 x1,()),()):=by simp only [g300,f300,pull1]
noncomputable def c300:Ctr:={ ins:=[.v Ty229,.v (.pair .bool (.pair .bool (.pair .bool .unit)))],out:=[(.int .i64)],F:=fun x=>some ((f300 x.1 x.2.1,()),()) }
theorem o300:Holds Tryz.prog 300 c300:=f0T t300 (fun x=>g300 x.1 x.2.1) Tryz.func300 tn (fun x=>n300 x.1 x.2.1)
noncomputable def t227:Tbl:=[(137,[],c137),(299,[],c299),(300,[],c300)]
abbrev h227_L0:Shape:={ slots:=[(1,.bx 1 0),(3,.v (.int .i64)),(8,.v (.int .i64))],boxes:=[(1,.typ Ty229)] }
abbrev e227_L0:List (XT×Shape):=[(.exit 0,{ slots:=[(1,.bx 1 0),(3,.v (.int .i64))],boxes:=[(1,.typ Ty229)] })]
noncomputable def q227_L0 (t3:Int) (t8:Int) (b1:Ta81):Option (Ta152⊕(((Unit×(Int×Unit))×Ta109)⊕Empty)) :=
bif (decide (t8 < (33:Int))) then some (.inl (((),((if (f299 b1 t8) > t3 then (f299 b1 t8) else t3),((wI (t8 + (1:Int))),()))),(b1,()))) else some (.inr (.inl (((),(t3,())),(b1,()))))
noncomputable def s227_L0 (x:Ta152):=q227_L0 x.1.2.1 x.1.2.2.1 x.2.1
noncomputable def a227:Nat→Option LoopAnn:=fun c=>bif Nat.beq c 0 then some (.fix h227_L0 e227_L0 s227_L0) else none
noncomputable def g227 (x0:Ta81):Option ((Int×Unit)×Unit) :=
bif (!(f137 x0)) then some (((-1:Int),()),()) else (fixO s227_L0 (((),((0:Int),((0:Int),()))),(x0,()))).bind fun d2=>match d2 with | .inl y1=>some (((wI ((wI (y1.1.2.1 + (wI ((2:Int) * (f300 y1.2.1 (false,(false,(true,())))))))) + y1.2.1.2.2.2.2.2.1)),()),()) | .inr e=>nomatch e
noncomputable def c227:Ctr:={ ins:=[.v Ty229],out:=[(.int .i64)],F:=fun x=>g227 x.1 }
noncomputable def l227:List (Nat×Code):=loopsIn (Tryz.f227.body.getD .skip) 0
theorem w227_L0:LW t227 a227 l227 0 0 h227_L0 e227_L0 s227_L0:=fun x=>by kernel_rfl
theorem o227:Holds Tryz.prog 227 c227:=fh t227 a227 Tryz.func227 [(0,lg l227 0)] ⟨fun x d h=>(w227_L0 x).trans h,trivial⟩ (tc o137 (tc o299 (tc o300 tn)))
noncomputable def t139:Tbl:=[(227,[],c227)]
noncomputable def g139 (x0:Ta81):Option ((Int×Unit)×Unit) :=
(g227 x0).bind fun y1=>some ((y1.1.1,()),())
noncomputable def c139:Ctr:={ ins:=[.v Ty229],out:=[(.int .i64)],F:=fun x=>g139 x.1 }
theorem o139:Holds Tryz.prog 139 c139:=f0 t139 Tryz.func139 (tc o227 tn)
noncomputable def t301:Tbl:=[(136,[],c136)]
abbrev h301_L0:Shape:={ slots:=[(0,.v .str),(5,.v (.int .i64)),(6,.v (.int .i64))],boxes:=[] }
abbrev e301_L0:List (XT×Shape):=[(.ret,{ slots:=[(2,.v .bool)],boxes:=[] }),(.exit 0,{ slots:=[(0,.v .str)],boxes:=[] })]
noncomputable def q301_L0 (t0:ByteArray) (t5:Int) (t6:Int):Option (((ByteArray×(Int×(Int×Unit)))×Unit)⊕(((Bool×Unit)×Unit)⊕(((ByteArray×Unit)×Unit)⊕Empty))) :=
bif (decide (t6 < t5)) then bif (decide (0≤t6)&&decide (t6 < t0.size)) then bif (decide ((bt t0 t6) < (97:Int))) then some (.inr (.inl ((false,()),()))) else bif (decide (0≤t6)&&decide (t6 < t0.size)) then bif (decide ((bt t0 t6) > (122:Int))) then some (.inr (.inl ((false,()),()))) else some (.inl ((t0,(t5,((wI (t6 + (1:Int))),()))),())) else none else none else some (.inr (.inr (.inl ((t0,()),()))))
noncomputable def s301_L0 (x:((ByteArray×(Int×(Int×Unit)))×Unit)):=q301_L0 x.1.1 x.1.2.1 x.1.2.2.1
noncomputable def a301:Nat→Option LoopAnn:=fun c=>bif Nat.beq c 0 then some (.fix h301_L0 e301_L0 s301_L0) else none
noncomputable def g301 (x0:ByteArray):Option ((Bool×Unit)×Unit) :=
(fixO s301_L0 ((x0,((x0.size:Int),((0:Int),()))),())).bind fun d2=>match d2 with | .inl y1=>some ((y1.1.1,()),()) | .inr (.inl y1)=>some (((f136 (y1.1.1.size:Int) (1:Int) (12:Int)),()),()) | .inr (.inr e)=>nomatch e
noncomputable def c301:Ctr:={ ins:=[.v .str],out:=[.bool],F:=fun x=>g301 x.1 }
noncomputable def l301:List (Nat×Code):=loopsIn (Tryz.f301.body.getD .skip) 0
theorem w301_L0:LW t301 a301 l301 0 0 h301_L0 e301_L0 s301_L0:=fun x=>by kernel_rfl
theorem o301:Holds Tryz.prog 301 c301:=fh t301 a301 Tryz.func301 [(0,lg l301 0)] ⟨fun x d h=>(w301_L0 x).trans h,trivial⟩ (tc o136 tn)
noncomputable def t228:Tbl:=[(301,[],c301)]
noncomputable def g228 (x0:ByteArray):Option ((Bool×Unit)×Unit) :=
(g301 x0).bind fun y1=>bif y1.1.1 then some (((decide ((x0.size:Int)≤(8:Int))),()),()) else some ((false,()),())
noncomputable def c228:Ctr:={ ins:=[.v .str],out:=[.bool],F:=fun x=>g228 x.1 }
theorem o228:Holds Tryz.prog 228 c228:=f0 t228 Tryz.func228 (tc o301 tn)
noncomputable def t303:Tbl:=[]
noncomputable def g303 (x0:Ta136) (x1:ByteArray):Option ((Bool×Unit)×Unit) :=
some (((strEq x0.1 x1),()),())
noncomputable def f303 (x0:Ta136) (x1:ByteArray):Bool :=
(strEq x0.1 x1)
theorem n303 (x0:Ta136) (x1:ByteArray):g303 x0 x1 = some ((f303 x0 x1,()),()):=by simp only [g303,f303,pull1]
noncomputable def c303:Ctr:={ ins:=[.v Ty259,.rf .str],out:=[.bool],F:=fun x=>some ((f303 x.1 x.2.1,()),()) }
theorem o303:Holds Tryz.prog 303 c303:=f0T t303 (fun x=>g303 x.1 x.2.1) Tryz.func303 tn (fun x=>n303 x.1 x.2.1)
noncomputable def t302_303:Tbl:=[(303,[],c303)]
abbrev h302_303_L0:Shape:={ slots:=[(0,.v Ty267),(1,.clo 303 [.str]),(7,.v (.int .i64)),(8,.v (.int .i64))],boxes:=[] }
abbrev e302_303_L0:List (XT×Shape):=[(.ret,{ slots:=[(4,.v (.int .i64))],boxes:=[] }),(.exit 0,{ slots:=[],boxes:=[] })]
noncomputable def q302_303_L0 (t0:Ta141) (t1:(ByteArray×Unit)) (t7:Int) (t8:Int):Option (((Ta141×((ByteArray×Unit)×(Int×(Int×Unit))))×Unit)⊕(((Int×Unit)×Unit)⊕((Unit×Unit)⊕Empty))) :=
bif (decide (t8 < t7)) then bif (decide (0≤t8)&&decide (t8 < (t0.len:Int))) then bif (f303 (L.get t0 t8.toNat) t1.1) then some (.inr (.inl ((t8,()),()))) else some (.inl ((t0,(t1,(t7,((wI (t8 + (1:Int))),())))),())) else none else some (.inr (.inr (.inl ((),()))))
noncomputable def s302_303_L0 (x:((Ta141×((ByteArray×Unit)×(Int×(Int×Unit))))×Unit)):=q302_303_L0 x.1.1 x.1.2.1 x.1.2.2.1 x.1.2.2.2.1
noncomputable def a302_303:Nat→Option LoopAnn:=fun c=>bif Nat.beq c 0 then some (.fix h302_303_L0 e302_303_L0 s302_303_L0) else none
noncomputable def g302_303 (x0:Ta141) (x1:(ByteArray×Unit)):Option ((Int×Unit)×Unit) :=
(fixO s302_303_L0 ((x0,(x1,((x0.len:Int),((0:Int),())))),())).bind fun d2=>match d2 with | .inl y1=>some ((y1.1.1,()),()) | .inr (.inl y1)=>some (((-1:Int),()),()) | .inr (.inr e)=>nomatch e
noncomputable def c302_303:Ctr:={ ins:=[.v Ty267,.clo 303 [.str]],out:=[(.int .i64)],F:=fun x=>g302_303 x.1 x.2.1 }
noncomputable def l302_303:List (Nat×Code):=loopsIn (Tryz.f302.body.getD .skip) 0
theorem w302_303_L0:LW t302_303 a302_303 l302_303 0 0 h302_303_L0 e302_303_L0 s302_303_L0:=fun x=>by kernel_rfl
theorem o302_303:Holds Tryz.prog 302 c302_303:=fh t302_303 a302_303 Tryz.func302 [(0,lg l302_303 0)] ⟨fun x d h=>(w302_303_L0 x).trans h,trivial⟩ (tc o303 tn)
noncomputable def t229:Tbl:=[(302,[303],c302_303)]
noncomputable def g229 (x0:Ta330) (x1:ByteArray):Option ((Int×Unit)×Unit) :=
(g302_303 x0.2.2.2.2.2.2.2.1 (x1,())).bind fun y1=>some ((y1.1.1,()),())
noncomputable def c229:Ctr:={ ins:=[.v Ty370,.v .str],out:=[(.int .i64)],F:=fun x=>g229 x.1 x.2.1 }
theorem o229:Holds Tryz.prog 229 c229:=f0 t229 Tryz.func229 (tc o302_303 tn)
noncomputable def t230:Tbl:=[(136,[],c136)]
noncomputable def g230 (x0:(Int×(Int×Unit))):Option ((Bool×Unit)×Unit) :=
bif (x0.1 == (1:Int)) then some (((f136 x0.2.1 (0:Int) (100:Int)),()),()) else bif (x0.1 == (0:Int)) then some (((x0.2.1 == (0:Int)),()),()) else bif (x0.1 == (2:Int)) then some (((x0.2.1 == (0:Int)),()),()) else some ((false,()),())
noncomputable def f230 (x0:(Int×(Int×Unit))):Bool :=
bif (x0.1 == (1:Int)) then (f136 x0.2.1 (0:Int) (100:Int)) else bif (x0.1 == (0:Int)) then (x0.2.1 == (0:Int)) else bif (x0.1 == (2:Int)) then (x0.2.1 == (0:Int)) else false
theorem n230 (x0:(Int×(Int×Unit))):g230 x0 = some ((f230 x0,()),()):=by simp only [g230,f230,pull1]
noncomputable def c230:Ctr:={ ins:=[.v Ty77],out:=[.bool],F:=fun x=>some ((f230 x.1,()),()) }
theorem o230:Holds Tryz.prog 230 c230:=f0T t230 (fun x=>g230 x.1) Tryz.func230 (tc o136 tn) (fun x=>n230 x.1)
noncomputable def t231:Tbl:=[(136,[],c136)]
noncomputable def g231 (x0:(Int×(Int×(Int×Unit)))):Option ((Bool×Unit)×Unit) :=
bif (f136 x0.2.1 (4:Int) (2048:Int)) then bif ((Int.tmod x0.2.1 (4:Int)) == (0:Int)) then bif (f136 x0.1 (0:Int) (wI ((2048:Int) - x0.2.1))) then bif ((Int.tmod x0.1 (4:Int)) == (0:Int)) then some (((f136 x0.2.2.1 (1:Int) (7:Int)),()),()) else some ((false,()),()) else some ((false,()),()) else some ((false,()),()) else some ((false,()),())
noncomputable def f231 (x0:(Int×(Int×(Int×Unit)))):Bool :=
bif (f136 x0.2.1 (4:Int) (2048:Int)) then bif ((Int.tmod x0.2.1 (4:Int)) == (0:Int)) then bif (f136 x0.1 (0:Int) (wI ((2048:Int) - x0.2.1))) then bif ((Int.tmod x0.1 (4:Int)) == (0:Int)) then (f136 x0.2.2.1 (1:Int) (7:Int)) else false else false else false else false
theorem n231 (x0:(Int×(Int×(Int×Unit)))):g231 x0 = some ((f231 x0,()),()):=by simp only [g231,f231,pull1]
noncomputable def c231:Ctr:={ ins:=[.v Ty129],out:=[.bool],F:=fun x=>some ((f231 x.1,()),()) }
theorem o231:Holds Tryz.prog 231 c231:=f0T t231 (fun x=>g231 x.1) Tryz.func231 (tc o136 tn) (fun x=>n231 x.1)
noncomputable def t234:Tbl:=[]
noncomputable def g234 (x0:(Int×(Int×(Int×Unit)))) (x1:(Int×(Int×(Int×Unit)))):Option ((Bool×Unit)×Unit) :=
bif (decide ((wI (x0.1 + x0.2.1))≤x1.1)) then some ((true,()),()) else some (((decide ((wI (x1.1 + x1.2.1))≤x0.1)),()),())
noncomputable def f234 (x0:(Int×(Int×(Int×Unit)))) (x1:(Int×(Int×(Int×Unit)))):Bool :=
bif (decide ((wI (x0.1 + x0.2.1))≤x1.1)) then true else (decide ((wI (x1.1 + x1.2.1))≤x0.1))
theorem n234 (x0:(Int×(Int×(Int×Unit)))) (x1:(Int×(Int×(Int×Unit)))):g234 x0 x1 = some ((f234 x0 x1,()),()):=by simp only [g234,f234,pull1]
noncomputable def c234:Ctr:={ ins:=[.v Ty129,.v Ty129],out:=[.bool],F:=fun x=>some ((f234 x.1 x.2.1,()),()) }
theorem o234:Holds Tryz.prog 234 c234:=f0T t234 (fun x=>g234 x.1 x.2.1) Tryz.func234 tn (fun x=>n234 x.1 x.2.1)
noncomputable def t233:Tbl:=[(234,[],c234)]
noncomputable def g233 (x0:(Int×(Int×(Int×Unit)))) (x1:(Int×(Int×(Int×Unit)))):Option ((Bool×Unit)×Unit) :=
some (((!(f234 x0 x1)),()),())
noncomputable def f233 (x0:(Int×(Int×(Int×Unit)))) (x1:(Int×(Int×(Int×Unit)))):Bool :=
(!(f234 x0 x1))
theorem n233 (x0:(Int×(Int×(Int×Unit)))) (x1:(Int×(Int×(Int×Unit)))):g233 x0 x1 = some ((f233 x0 x1,()),()):=by simp only [g233,f233,pull1]
noncomputable def c233:Ctr:={ ins:=[.v Ty129,.rf Ty129],out:=[.bool],F:=fun x=>some ((f233 x.1 x.2.1,()),()) }
theorem o233:Holds Tryz.prog 233 c233:=f0T t233 (fun x=>g233 x.1 x.2.1) Tryz.func233 (tc o234 tn) (fun x=>n233 x.1 x.2.1)
noncomputable def t304_233:Tbl:=[(233,[],c233)]
abbrev h304_233_L0:Shape:={ slots:=[(0,.v Ty138),(1,.clo 233 [Ty129]),(7,.v (.int .i64)),(8,.v (.int .i64))],boxes:=[] }
abbrev e304_233_L0:List (XT×Shape):=[(.ret,{ slots:=[(4,.v (.int .i64))],boxes:=[] }),(.exit 0,{ slots:=[],boxes:=[] })]
noncomputable def q304_233_L0 (t0:Ta12) (t1:Ta23) (t7:Int) (t8:Int):Option (Ta162⊕(((Int×Unit)×Unit)⊕((Unit×Unit)⊕Empty))) :=
bif (decide (t8 < t7)) then bif (decide (0≤t8)&&decide (t8 < (t0.len:Int))) then bif (f233 (L.get t0 t8.toNat) t1.1) then some (.inr (.inl ((t8,()),()))) else some (.inl ((t0,(t1,(t7,((wI (t8 + (1:Int))),())))),())) else none else some (.inr (.inr (.inl ((),()))))
noncomputable def s304_233_L0 (x:Ta162):=q304_233_L0 x.1.1 x.1.2.1 x.1.2.2.1 x.1.2.2.2.1
noncomputable def a304_233:Nat→Option LoopAnn:=fun c=>bif Nat.beq c 0 then some (.fix h304_233_L0 e304_233_L0 s304_233_L0) else none
noncomputable def g304_233 (x0:Ta12) (x1:Ta23):Option ((Int×Unit)×Unit) :=
(fixO s304_233_L0 ((x0,(x1,((x0.len:Int),((0:Int),())))),())).bind fun d2=>match d2 with | .inl y1=>some ((y1.1.1,()),()) | .inr (.inl y1)=>some (((-1:Int),()),()) | .inr (.inr e)=>nomatch e
noncomputable def c304_233:Ctr:={ ins:=[.v Ty138,.clo 233 [Ty129]],out:=[(.int .i64)],F:=fun x=>g304_233 x.1 x.2.1 }
noncomputable def l304_233:List (Nat×Code):=loopsIn (Tryz.f304.body.getD .skip) 0
theorem w304_233_L0:LW t304_233 a304_233 l304_233 0 0 h304_233_L0 e304_233_L0 s304_233_L0:=fun x=>by kernel_rfl
theorem o304_233:Holds Tryz.prog 304 c304_233:=fh t304_233 a304_233 Tryz.func304 [(0,lg l304_233 0)] ⟨fun x d h=>(w304_233_L0 x).trans h,trivial⟩ (tc o233 tn)
noncomputable def t232_233:Tbl:=[(304,[233],c304_233)]
noncomputable def g232_233 (x0:Ta12) (x1:Ta23):Option ((Bool×Unit)×Unit) :=
(g304_233 x0 x1).bind fun y1=>some (((decide (y1.1.1 ≥ (0:Int))),()),())
noncomputable def c232_233:Ctr:={ ins:=[.v Ty138,.clo 233 [Ty129]],out:=[.bool],F:=fun x=>g232_233 x.1 x.2.1 }
theorem o232_233:Holds Tryz.prog 232 c232_233:=f0 t232_233 Tryz.func232 (tc o304_233 tn)
noncomputable def t344:Tbl:=[]
noncomputable def g344 (x0:(Int×(Int×(Int×Unit)))) (x1:Int):Option ((Bool×Unit)×Unit) :=
bif (decide (x0.1≤x1)) then some (((decide (x1 < (wI (x0.1 + x0.2.1)))),()),()) else some ((false,()),())
noncomputable def f344 (x0:(Int×(Int×(Int×Unit)))) (x1:Int):Bool :=
bif (decide (x0.1≤x1)) then (decide (x1 < (wI (x0.1 + x0.2.1)))) else false
theorem n344 (x0:(Int×(Int×(Int×Unit)))) (x1:Int):g344 x0 x1 = some ((f344 x0 x1,()),()):=by simp only [g344,f344,pull1]
noncomputable def c344:Ctr:={ ins:=[.v Ty129,.rf (.int .i64)],out:=[.bool],F:=fun x=>some ((f344 x.1 x.2.1,()),()) }
theorem o344:Holds Tryz.prog 344 c344:=f0T t344 (fun x=>g344 x.1 x.2.1) Tryz.func344 tn (fun x=>n344 x.1 x.2.1)
noncomputable def t304_344:Tbl:=[(344,[],c344)]
abbrev h304_344_L0:Shape:={ slots:=[(0,.v Ty138),(1,.clo 344 [(.int .i64)]),(7,.v (.int .i64)),(8,.v (.int .i64))],boxes:=[] }
abbrev e304_344_L0:List (XT×Shape):=[(.ret,{ slots:=[(4,.v (.int .i64))],boxes:=[] }),(.exit 0,{ slots:=[],boxes:=[] })]
noncomputable def q304_344_L0 (t0:Ta12) (t1:(Int×Unit)) (t7:Int) (t8:Int):Option (((Ta12×Ta24)×Unit)⊕(((Int×Unit)×Unit)⊕((Unit×Unit)⊕Empty))) :=
bif (decide (t8 < t7)) then bif (decide (0≤t8)&&decide (t8 < (t0.len:Int))) then bif (f344 (L.get t0 t8.toNat) t1.1) then some (.inr (.inl ((t8,()),()))) else some (.inl ((t0,(t1,(t7,((wI (t8 + (1:Int))),())))),())) else none else some (.inr (.inr (.inl ((),()))))
noncomputable def s304_344_L0 (x:((Ta12×Ta24)×Unit)):=q304_344_L0 x.1.1 x.1.2.1 x.1.2.2.1 x.1.2.2.2.1
noncomputable def a304_344:Nat→Option LoopAnn:=fun c=>bif Nat.beq c 0 then some (.fix h304_344_L0 e304_344_L0 s304_344_L0) else none
noncomputable def g304_344 (x0:Ta12) (x1:(Int×Unit)):Option ((Int×Unit)×Unit) :=
(fixO s304_344_L0 ((x0,(x1,((x0.len:Int),((0:Int),())))),())).bind fun d2=>match d2 with | .inl y1=>some ((y1.1.1,()),()) | .inr (.inl y1)=>some (((-1:Int),()),()) | .inr (.inr e)=>nomatch e
noncomputable def c304_344:Ctr:={ ins:=[.v Ty138,.clo 344 [(.int .i64)]],out:=[(.int .i64)],F:=fun x=>g304_344 x.1 x.2.1 }
noncomputable def l304_344:List (Nat×Code):=loopsIn (Tryz.f304.body.getD .skip) 0
theorem w304_344_L0:LW t304_344 a304_344 l304_344 0 0 h304_344_L0 e304_344_L0 s304_344_L0:=fun x=>by kernel_rfl
theorem o304_344:Holds Tryz.prog 304 c304_344:=fh t304_344 a304_344 Tryz.func304 [(0,lg l304_344 0)] ⟨fun x d h=>(w304_344_L0 x).trans h,trivial⟩ (tc o344 tn)
noncomputable def t305:Tbl:=[(304,[344],c304_344)]
noncomputable def g305 (x0:Ta12) (x1:Int):Option ((Int×Unit)×Unit) :=
(g304_344 x0 (x1,())).bind fun y1=>some ((y1.1.1,()),())
noncomputable def c305:Ctr:={ ins:=[.v Ty138,.v (.int .i64)],out:=[(.int .i64)],F:=fun x=>g305 x.1 x.2.1 }
theorem o305:Holds Tryz.prog 305 c305:=f0 t305 Tryz.func305 (tc o304_344 tn)
noncomputable def t235:Tbl:=[(305,[],c305)]
noncomputable def g235 (x0:Ta136) (x1:Int):Option ((Bool×Unit)×Unit) :=
(g305 x0.2.2.2.1 x1).bind fun y1=>bif (decide (y1.1.1 ≥ (0:Int))) then bif (decide (0≤y1.1.1)&&decide (y1.1.1 < (x0.2.2.2.1.len:Int))) then some ((((andOf .i64 (L.get x0.2.2.2.1 y1.1.1.toNat).2.2.1 (4:Int)) != (0:Int)),()),()) else none else some ((false,()),())
noncomputable def c235:Ctr:={ ins:=[.v Ty259,.v (.int .i64)],out:=[.bool],F:=fun x=>g235 x.1 x.2.1 }
theorem o235:Holds Tryz.prog 235 c235:=f0 t235 Tryz.func235 (tc o305 tn)
noncomputable def t140:Tbl:=[(228,[],c228),(229,[],c229),(230,[],c230),(136,[],c136),(231,[],c231),(232,[233],c232_233),(235,[],c235)]
abbrev h140_L2:Shape:={ slots:=[(1,.bx 1 0),(3,.ms 50003),(5,.bx 5 0),(9,.v Ty267),(10,.v (.int .i64)),(11,.v (.int .i64)),(42,.v Ty138),(43,.v (.int .i64)),(44,.v (.int .i64))],boxes:=[(1,.typ Ty370),(50003,.row Ty129),(5,.typ Ty259)] }
abbrev e140_L2:List (XT×Shape):=[(.ret,{ slots:=[(2,.v .bool)],boxes:=[] }),(.exit 2,{ slots:=[(1,.bx 1 0),(3,.ms 50003),(5,.bx 5 0),(9,.v Ty267),(10,.v (.int .i64)),(11,.v (.int .i64))],boxes:=[(1,.typ Ty370),(50003,.row Ty129),(5,.typ Ty259)] })]
noncomputable def q140_L2 (t9:Ta141) (t10:Int) (t11:Int) (t42:Ta12) (t43:Int) (t44:Int) (b1:Ta330) (r50003:Ta12) (b5:Ta136):Option (((Unit×(Unit×(Unit×(Ta141×(Int×Ta100)))))×Ta351)⊕(((Bool×Unit)×Unit)⊕(((Unit×(Unit×(Unit×Ta170)))×Ta351)⊕Empty))) :=
bif (decide (t44 < t43)) then bif (decide (0≤t44)&&decide (t44 < (t42.len:Int))) then bif (!(f231 (L.get t42 t44.toNat))) then some (.inr (.inl ((false,()),()))) else bif (decide ((wI ((L.get t42 t44.toNat).1 + (L.get t42 t44.toNat).2.1)) > b1.1)) then some (.inr (.inl ((false,()),()))) else (g232_233 r50003 ((L.get t42 t44.toNat),())).bind fun y3=>bif y3.1.1 then some (.inr (.inl ((false,()),()))) else bif (decide (r50003.len + (L.of (Ty.zero Ty129) [(L.get t42 t44.toNat)]).len≤most)) then some (.inl (((),((),((),(t9,(t10,(t11,(t42,(t43,((wI (t44 + (1:Int))),()))))))))),(b1,((L.app r50003 (L.of (Ty.zero Ty129) [(L.get t42 t44.toNat)])),(b5,()))))) else none else none else some (.inr (.inr (.inl (((),((),((),(t9,(t10,(t11,())))))),(b1,(r50003,(b5,())))))))
noncomputable def s140_L2 (x:((Unit×(Unit×(Unit×(Ta141×(Int×Ta100)))))×Ta351)):=q140_L2 x.1.2.2.2.1 x.1.2.2.2.2.1 x.1.2.2.2.2.2.1 x.1.2.2.2.2.2.2.1 x.1.2.2.2.2.2.2.2.1 x.1.2.2.2.2.2.2.2.2.1 x.2.1 x.2.2.1 x.2.2.2.1
abbrev h140_L0:Shape:={ slots:=[(1,.bx 1 0),(3,.row Ty129 50003),(9,.v Ty267),(10,.v (.int .i64)),(11,.v (.int .i64))],boxes:=[(1,.typ Ty370)] }
abbrev e140_L0:List (XT×Shape):=[(.ret,{ slots:=[(2,.v .bool)],boxes:=[] }),(.exit 0,{ slots:=[],boxes:=[] })]
noncomputable def q140_L0 (t3:Ta12) (t9:Ta141) (t10:Int) (t11:Int) (b1:Ta330):Option (((Unit×(Ta12×Ta170))×Ta335)⊕(((Bool×Unit)×Unit)⊕((Unit×Unit)⊕Empty))) :=
bif (decide (t11 < t10)) then bif (decide (0≤t11)&&decide (t11 < (t9.len:Int))) then (g228 (L.get t9 t11.toNat).1).bind fun y1=>bif (!y1.1.1) then some (.inr (.inl ((false,()),()))) else (g229 b1 (L.get t9 t11.toNat).1).bind fun y2=>bif (decide (y2.1.1 < t11)) then some (.inr (.inl ((false,()),()))) else bif (!(f230 (L.get t9 t11.toNat).2.2.1)) then some (.inr (.inl ((false,()),()))) else bif (!(f136 ((L.get t9 t11.toNat).2.2.2.1.len:Int) (1:Int) (4:Int))) then some (.inr (.inl ((false,()),()))) else ((fixO s140_L2 (((),((),((),(t9,(t10,(t11,((L.get t9 t11.toNat).2.2.2.1,(((L.get t9 t11.toNat).2.2.2.1.len:Int),((0:Int),()))))))))),(b1,(t3,((L.get t9 t11.toNat),()))))).bind fun d6=>match d6 with | .inl y4=>some (.inr (.inl y4)) | .inr (.inl y4)=>bif ((Int.tmod y4.2.2.2.1.2.1 (4:Int)) != (0:Int)) then some (.inr (.inl ((false,()),()))) else (g235 y4.2.2.2.1 y4.2.2.2.1.2.1).bind fun y5=>bif (!y5.1.1) then some (.inr (.inl ((false,()),()))) else some (.inl (((),(y4.2.2.1,(y4.1.2.2.2.1,(y4.1.2.2.2.2.1,((wI (y4.1.2.2.2.2.2.1 + (1:Int))),()))))),(y4.2.1,()))) | .inr (.inr e)=>nomatch e) else none else some (.inr (.inr (.inl ((),()))))
noncomputable def s140_L0 (x:((Unit×(Ta12×Ta170))×Ta335)):=q140_L0 x.1.2.1 x.1.2.2.1 x.1.2.2.2.1 x.1.2.2.2.2.1 x.2.1
noncomputable def a140:Nat→Option LoopAnn:=fun c=>bif Nat.beq c 2 then some (.fix h140_L2 e140_L2 s140_L2) else bif Nat.beq c 0 then some (.fix h140_L0 e140_L0 s140_L0) else none
noncomputable def g140 (x0:Ta330):Option ((Bool×Unit)×Unit) :=
(fixO s140_L0 (((),((nilL Ty129),(x0.2.2.2.2.2.2.2.1,((x0.2.2.2.2.2.2.2.1.len:Int),((0:Int),()))))),(x0,()))).bind fun d8=>match d8 with | .inl y7=>some ((y7.1.1,()),()) | .inr (.inl y7)=>some ((true,()),()) | .inr (.inr e)=>nomatch e
noncomputable def c140:Ctr:={ ins:=[.v Ty370],out:=[.bool],F:=fun x=>g140 x.1 }
noncomputable def l140:List (Nat×Code):=loopsIn (Tryz.f140.body.getD .skip) 0
theorem w140_L2:LW t140 a140 l140 1 2 h140_L2 e140_L2 s140_L2:=fun x=>by kernel_rfl
theorem w140_L0:LW t140 a140 l140 0 0 h140_L0 e140_L0 s140_L0:=fun x=>by kernel_rfl
theorem o140:Holds Tryz.prog 140 c140:=fh t140 a140 Tryz.func140 [(0,lg l140 0),(2,lg l140 1)] ⟨fun x d h=>(w140_L0 x).trans h,fun x d h=>(w140_L2 x).trans h,trivial⟩ (tc o228 (tc o229 (tc o230 (tc o136 (tc o231 (tc o232_233 (tc o235 tn)))))))
noncomputable def t142:Tbl:=[(136,[],c136)]
noncomputable def g142 (x0:Int) (x1:Int):Option ((Bool×Unit)×Unit) :=
some (((!(f136 x0 (0:Int) (wI (x1 - (1:Int))))),()),())
noncomputable def f142 (x0:Int) (x1:Int):Bool :=
(!(f136 x0 (0:Int) (wI (x1 - (1:Int)))))
theorem n142 (x0:Int) (x1:Int):g142 x0 x1 = some ((f142 x0 x1,()),()):=by simp only [g142,f142,pull1]
noncomputable def c142:Ctr:={ ins:=[.v (.int .i64),.rf (.int .i64)],out:=[.bool],F:=fun x=>some ((f142 x.1 x.2.1,()),()) }
theorem o142:Holds Tryz.prog 142 c142:=f0T t142 (fun x=>g142 x.1 x.2.1) Tryz.func142 (tc o136 tn) (fun x=>n142 x.1 x.2.1)
noncomputable def t236_142:Tbl:=[(142,[],c142)]
abbrev h236_142_L0:Shape:={ slots:=[(0,.v (.sl (.int .i64))),(1,.clo 142 [(.int .i64)]),(7,.v (.int .i64)),(8,.v (.int .i64))],boxes:=[] }
abbrev e236_142_L0:List (XT×Shape):=[(.ret,{ slots:=[(4,.v (.int .i64))],boxes:=[] }),(.exit 0,{ slots:=[],boxes:=[] })]
noncomputable def q236_142_L0 (t0:(L Int)) (t1:(Int×Unit)) (t7:Int) (t8:Int):Option ((((L Int)×Ta24)×Unit)⊕(((Int×Unit)×Unit)⊕((Unit×Unit)⊕Empty))) :=
bif (decide (t8 < t7)) then bif (decide (0≤t8)&&decide (t8 < (t0.len:Int))) then bif (f142 (L.get t0 t8.toNat) t1.1) then some (.inr (.inl ((t8,()),()))) else some (.inl ((t0,(t1,(t7,((wI (t8 + (1:Int))),())))),())) else none else some (.inr (.inr (.inl ((),()))))
noncomputable def s236_142_L0 (x:(((L Int)×Ta24)×Unit)):=q236_142_L0 x.1.1 x.1.2.1 x.1.2.2.1 x.1.2.2.2.1
noncomputable def a236_142:Nat→Option LoopAnn:=fun c=>bif Nat.beq c 0 then some (.fix h236_142_L0 e236_142_L0 s236_142_L0) else none
noncomputable def g236_142 (x0:(L Int)) (x1:(Int×Unit)):Option ((Int×Unit)×Unit) :=
(fixO s236_142_L0 ((x0,(x1,((x0.len:Int),((0:Int),())))),())).bind fun d2=>match d2 with | .inl y1=>some ((y1.1.1,()),()) | .inr (.inl y1)=>some (((-1:Int),()),()) | .inr (.inr e)=>nomatch e
noncomputable def c236_142:Ctr:={ ins:=[.v (.sl (.int .i64)),.clo 142 [(.int .i64)]],out:=[(.int .i64)],F:=fun x=>g236_142 x.1 x.2.1 }
noncomputable def l236_142:List (Nat×Code):=loopsIn (Tryz.f236.body.getD .skip) 0
theorem w236_142_L0:LW t236_142 a236_142 l236_142 0 0 h236_142_L0 e236_142_L0 s236_142_L0:=fun x=>by kernel_rfl
theorem o236_142:Holds Tryz.prog 236 c236_142:=fh t236_142 a236_142 Tryz.func236 [(0,lg l236_142 0)] ⟨fun x d h=>(w236_142_L0 x).trans h,trivial⟩ (tc o142 tn)
noncomputable def t141_142:Tbl:=[(236,[142],c236_142)]
noncomputable def g141_142 (x0:(L Int)) (x1:(Int×Unit)):Option ((Bool×Unit)×Unit) :=
(g236_142 x0 x1).bind fun y1=>some (((decide (y1.1.1 ≥ (0:Int))),()),())
noncomputable def c141_142:Ctr:={ ins:=[.v (.sl (.int .i64)),.clo 142 [(.int .i64)]],out:=[.bool],F:=fun x=>g141_142 x.1 x.2.1 }
theorem o141_142:Holds Tryz.prog 141 c141_142:=f0 t141_142 Tryz.func141 (tc o236_142 tn)
noncomputable def t145:Tbl:=[(136,[],c136)]
noncomputable def g145 (x0:Ta17):Option ((Bool×Unit)×Unit) :=
bif (!(f136 x0.2.1 (0:Int) (5:Int))) then some ((false,()),()) else bif (!(f136 x0.2.2.1 (0:Int) (5:Int))) then some ((false,()),()) else bif (x0.2.1 == x0.2.2.1) then some ((false,()),()) else bif (x0.1 == (0:Int)) then bif (x0.2.2.2.1 == (0:Int)) then some ((true,()),()) else bif (x0.1 == (1:Int)) then some (((f136 x0.2.2.2.1 (1:Int) (8:Int)),()),()) else some ((false,()),()) else bif (x0.1 == (1:Int)) then some (((f136 x0.2.2.2.1 (1:Int) (8:Int)),()),()) else some ((false,()),())
noncomputable def f145 (x0:Ta17):Bool :=
bif (!(f136 x0.2.1 (0:Int) (5:Int))) then false else bif (!(f136 x0.2.2.1 (0:Int) (5:Int))) then false else bif (x0.2.1 == x0.2.2.1) then false else bif (x0.1 == (0:Int)) then bif (x0.2.2.2.1 == (0:Int)) then true else bif (x0.1 == (1:Int)) then (f136 x0.2.2.2.1 (1:Int) (8:Int)) else false else bif (x0.1 == (1:Int)) then (f136 x0.2.2.2.1 (1:Int) (8:Int)) else false
theorem n145 (x0:Ta17):g145 x0 = some ((f145 x0,()),()):=by simp only [g145,f145,pull1]
noncomputable def c145:Ctr:={ ins:=[.v Ty164],out:=[.bool],F:=fun x=>some ((f145 x.1,()),()) }
theorem o145:Holds Tryz.prog 145 c145:=f0T t145 (fun x=>g145 x.1) Tryz.func145 (tc o136 tn) (fun x=>n145 x.1)
noncomputable def t144:Tbl:=[(145,[],c145)]
noncomputable def g144 (x0:Ta17) (x1:Int):Option ((Bool×Unit)×Unit) :=
bif (!(f145 x0)) then some ((true,()),()) else bif (decide (x0.2.1 ≥ x1)) then some ((true,()),()) else some (((decide (x0.2.2.1 ≥ x1)),()),())
noncomputable def f144 (x0:Ta17) (x1:Int):Bool :=
bif (!(f145 x0)) then true else bif (decide (x0.2.1 ≥ x1)) then true else (decide (x0.2.2.1 ≥ x1))
theorem n144 (x0:Ta17) (x1:Int):g144 x0 x1 = some ((f144 x0 x1,()),()):=by simp only [g144,f144,pull1]
noncomputable def c144:Ctr:={ ins:=[.v Ty164,.rf (.int .i64)],out:=[.bool],F:=fun x=>some ((f144 x.1 x.2.1,()),()) }
theorem o144:Holds Tryz.prog 144 c144:=f0T t144 (fun x=>g144 x.1 x.2.1) Tryz.func144 (tc o145 tn) (fun x=>n144 x.1 x.2.1)
noncomputable def t237_144:Tbl:=[(144,[],c144)]
abbrev h237_144_L0:Shape:={ slots:=[(0,.v Ty169),(1,.clo 144 [(.int .i64)]),(7,.v (.int .i64)),(8,.v (.int .i64))],boxes:=[] }
abbrev e237_144_L0:List (XT×Shape):=[(.ret,{ slots:=[(4,.v (.int .i64))],boxes:=[] }),(.exit 0,{ slots:=[],boxes:=[] })]
noncomputable def q237_144_L0 (t0:Ta36) (t1:(Int×Unit)) (t7:Int) (t8:Int):Option (((Ta36×Ta24)×Unit)⊕(((Int×Unit)×Unit)⊕((Unit×Unit)⊕Empty))) :=
bif (decide (t8 < t7)) then bif (decide (0≤t8)&&decide (t8 < (t0.len:Int))) then bif (f144 (L.get t0 t8.toNat) t1.1) then some (.inr (.inl ((t8,()),()))) else some (.inl ((t0,(t1,(t7,((wI (t8 + (1:Int))),())))),())) else none else some (.inr (.inr (.inl ((),()))))
noncomputable def s237_144_L0 (x:((Ta36×Ta24)×Unit)):=q237_144_L0 x.1.1 x.1.2.1 x.1.2.2.1 x.1.2.2.2.1
noncomputable def a237_144:Nat→Option LoopAnn:=fun c=>bif Nat.beq c 0 then some (.fix h237_144_L0 e237_144_L0 s237_144_L0) else none
noncomputable def g237_144 (x0:Ta36) (x1:(Int×Unit)):Option ((Int×Unit)×Unit) :=
(fixO s237_144_L0 ((x0,(x1,((x0.len:Int),((0:Int),())))),())).bind fun d2=>match d2 with | .inl y1=>some ((y1.1.1,()),()) | .inr (.inl y1)=>some (((-1:Int),()),()) | .inr (.inr e)=>nomatch e
noncomputable def c237_144:Ctr:={ ins:=[.v Ty169,.clo 144 [(.int .i64)]],out:=[(.int .i64)],F:=fun x=>g237_144 x.1 x.2.1 }
noncomputable def l237_144:List (Nat×Code):=loopsIn (Tryz.f237.body.getD .skip) 0
theorem w237_144_L0:LW t237_144 a237_144 l237_144 0 0 h237_144_L0 e237_144_L0 s237_144_L0:=fun x=>by kernel_rfl
theorem o237_144:Holds Tryz.prog 237 c237_144:=fh t237_144 a237_144 Tryz.func237 [(0,lg l237_144 0)] ⟨fun x d h=>(w237_144_L0 x).trans h,trivial⟩ (tc o144 tn)
noncomputable def t143_144:Tbl:=[(237,[144],c237_144)]
noncomputable def g143_144 (x0:Ta36) (x1:(Int×Unit)):Option ((Bool×Unit)×Unit) :=
(g237_144 x0 x1).bind fun y1=>some (((decide (y1.1.1 ≥ (0:Int))),()),())
noncomputable def c143_144:Ctr:={ ins:=[.v Ty169,.clo 144 [(.int .i64)]],out:=[.bool],F:=fun x=>g143_144 x.1 x.2.1 }
theorem o143_144:Holds Tryz.prog 143 c143_144:=f0 t143_144 Tryz.func143 (tc o237_144 tn)
noncomputable def t238:Tbl:=[]
noncomputable def g238 (x0:Ta17):Option ((Int×Unit)×Unit) :=
some (((if x0.2.2.2.1 > (1:Int) then x0.2.2.2.1 else (1:Int)),()),())
noncomputable def f238 (x0:Ta17):Int :=
(if x0.2.2.2.1 > (1:Int) then x0.2.2.2.1 else (1:Int))
theorem n238 (x0:Ta17):g238 x0 = some ((f238 x0,()),()):=by simp only [g238,f238,pull1]
noncomputable def c238:Ctr:={ ins:=[.v Ty164],out:=[(.int .i64)],F:=fun x=>some ((f238 x.1,()),()) }
theorem o238:Holds Tryz.prog 238 c238:=f0T t238 (fun x=>g238 x.1) Tryz.func238 tn (fun x=>n238 x.1)
noncomputable def t146:Tbl:=[(238,[],c238)]
abbrev h146_L0:Shape:={ slots:=[(3,.bx 3 0),(7,.v (.int .i64)),(22,.v Ty169),(23,.v (.int .i64)),(24,.v (.int .i64))],boxes:=[(3,.typ Ty229)] }
abbrev e146_L0:List (XT×Shape):=[(.exit 0,{ slots:=[(7,.v (.int .i64))],boxes:=[] })]
noncomputable def q146_L0 (t7:Int) (t22:Ta36) (t23:Int) (t24:Int) (b3:Ta81):Option (((Unit×(Int×Ta101))×Ta109)⊕(((Int×Unit)×Unit)⊕Empty)) :=
bif (decide (t24 < t23)) then bif (decide (0≤t24)&&decide (t24 < (t22.len:Int))) then some (.inl (((),((wI (t7 + (wI (b3.1 * (f238 (L.get t22 t24.toNat)))))),(t22,(t23,((wI (t24 + (1:Int))),()))))),(b3,()))) else none else some (.inr (.inl ((t7,()),())))
noncomputable def s146_L0 (x:((Unit×(Int×Ta101))×Ta109)):=q146_L0 x.1.2.1 x.1.2.2.1 x.1.2.2.2.1 x.1.2.2.2.2.1 x.2.1
noncomputable def a146:Nat→Option LoopAnn:=fun c=>bif Nat.beq c 0 then some (.fix h146_L0 e146_L0 s146_L0) else none
noncomputable def g146 (x0:Ta81) (x1:(Int×(Int×(Int×Unit)))) (x2:Ta36):Option ((Int×Unit)×Unit) :=
(fixO s146_L0 (((),((wI ((wI ((16:Int) * x0.1)) + (wI ((wI (x1.1 * x1.2.1)) * x0.2.2.2.2.2.2.1)))),(x2,((x2.len:Int),((0:Int),()))))),(x0,()))).bind fun d2=>match d2 with | .inl y1=>some ((y1.1.1,()),()) | .inr e=>nomatch e
noncomputable def c146:Ctr:={ ins:=[.v Ty229,.v Ty129,.v Ty169],out:=[(.int .i64)],F:=fun x=>g146 x.1 x.2.1 x.2.2.1 }
noncomputable def l146:List (Nat×Code):=loopsIn (Tryz.f146.body.getD .skip) 0
theorem w146_L0:LW t146 a146 l146 0 0 h146_L0 e146_L0 s146_L0:=fun x=>by kernel_rfl
theorem o146:Holds Tryz.prog 146 c146:=fh t146 a146 Tryz.func146 [(0,lg l146 0)] ⟨fun x d h=>(w146_L0 x).trans h,trivial⟩ (tc o238 tn)
noncomputable def t239:Tbl:=[]
noncomputable def g239 (x0:Ta330) (x1:(Int×(Int×(Int×Unit)))) (x2:Int):Option ((Bool×Unit)×Unit) :=
bif (decide (x1.2.2.1 > (wI (x0.2.2.2.2.1 + x0.2.2.2.2.2.1)))) then bif (decide (x1.2.2.1≤x0.2.2.2.2.2.2.1)) then bif (decide (x1.2.1 ≥ x2)) then some (((decide (x1.2.1≤(wI (x0.2.2.2.2.2.2.1 - x1.2.2.1)))),()),()) else some ((false,()),()) else some ((false,()),()) else some ((false,()),())
noncomputable def f239 (x0:Ta330) (x1:(Int×(Int×(Int×Unit)))) (x2:Int):Bool :=
bif (decide (x1.2.2.1 > (wI (x0.2.2.2.2.1 + x0.2.2.2.2.2.1)))) then bif (decide (x1.2.2.1≤x0.2.2.2.2.2.2.1)) then bif (decide (x1.2.1 ≥ x2)) then (decide (x1.2.1≤(wI (x0.2.2.2.2.2.2.1 - x1.2.2.1)))) else false else false else false
theorem n239 (x0:Ta330) (x1:(Int×(Int×(Int×Unit)))) (x2:Int):g239 x0 x1 x2 = some ((f239 x0 x1 x2,()),()):=by simp only [g239,f239,pull1]
noncomputable def c239:Ctr:={ ins:=[.v Ty370,.v Ty129,.v (.int .i64)],out:=[.bool],F:=fun x=>some ((f239 x.1 x.2.1 x.2.2.1,()),()) }
theorem o239:Holds Tryz.prog 239 c239:=f0T t239 (fun x=>g239 x.1 x.2.1 x.2.2.1) Tryz.func239 tn (fun x=>n239 x.1 x.2.1 x.2.2.1)
noncomputable def t147:Tbl:=[(136,[],c136),(239,[],c239)]
abbrev h147_L0:Shape:={ slots:=[(1,.bx 1 0),(3,.v (.int .i64)),(7,.v Ty138),(8,.v (.int .i64)),(9,.v (.int .i64))],boxes:=[(1,.typ Ty370)] }
abbrev e147_L0:List (XT×Shape):=[(.ret,{ slots:=[(2,.v .bool)],boxes:=[] }),(.exit 0,{ slots:=[(1,.bx 1 0)],boxes:=[(1,.typ Ty370)] })]
noncomputable def q147_L0 (t3:Int) (t7:Ta12) (t8:Int) (t9:Int) (b1:Ta330):Option (((Unit×Ta100)×Ta335)⊕(((Bool×Unit)×Unit)⊕(Ta339⊕Empty))) :=
bif (decide (t9 < t8)) then bif (decide (0≤t9)&&decide (t9 < (t7.len:Int))) then bif (!(f136 (L.get t7 t9.toNat).1 (0:Int) (wI ((b1.2.2.2.2.2.2.2.1.len:Int) - (1:Int))))) then some (.inr (.inl ((false,()),()))) else bif (!(f239 b1 (L.get t7 t9.toNat) t3)) then some (.inr (.inl ((false,()),()))) else some (.inl (((),((wI ((L.get t7 t9.toNat).2.1 + (L.get t7 t9.toNat).2.2.1)),(t7,(t8,((wI (t9 + (1:Int))),()))))),(b1,()))) else none else some (.inr (.inr (.inl (((),()),(b1,())))))
noncomputable def s147_L0 (x:((Unit×Ta100)×Ta335)):=q147_L0 x.1.2.1 x.1.2.2.1 x.1.2.2.2.1 x.1.2.2.2.2.1 x.2.1
noncomputable def a147:Nat→Option LoopAnn:=fun c=>bif Nat.beq c 0 then some (.fix h147_L0 e147_L0 s147_L0) else none
noncomputable def g147 (x0:Ta330):Option ((Bool×Unit)×Unit) :=
(fixO s147_L0 (((),((0:Int),(x0.2.2.2.2.2.2.2.2.2.2.1,((x0.2.2.2.2.2.2.2.2.2.2.1.len:Int),((0:Int),()))))),(x0,()))).bind fun d2=>match d2 with | .inl y1=>some ((y1.1.1,()),()) | .inr (.inl y1)=>some (((f136 (y1.2.1.2.2.2.2.2.2.2.2.2.2.1.len:Int) (1:Int) (16:Int)),()),()) | .inr (.inr e)=>nomatch e
noncomputable def c147:Ctr:={ ins:=[.v Ty370],out:=[.bool],F:=fun x=>g147 x.1 }
noncomputable def l147:List (Nat×Code):=loopsIn (Tryz.f147.body.getD .skip) 0
theorem w147_L0:LW t147 a147 l147 0 0 h147_L0 e147_L0 s147_L0:=fun x=>by kernel_rfl
theorem o147:Holds Tryz.prog 147 c147:=fh t147 a147 Tryz.func147 [(0,lg l147 0)] ⟨fun x d h=>(w147_L0 x).trans h,trivial⟩ (tc o136 (tc o239 tn))
noncomputable def t54:Tbl:=[(134,[],c134),(135,[],c135),(136,[],c136),(137,[],c137),(138,[],c138),(139,[],c139),(140,[],c140),(141,[142],c141_142),(143,[144],c143_144),(146,[],c146),(147,[],c147)]
noncomputable def g54 (x0:Ta330):Option ((Bool×Unit)×Unit) :=
bif (!(f134 x0.1)) then some ((false,()),()) else bif (!(f135 x0.2.1)) then some ((false,()),()) else bif (!(f136 x0.2.2.1 (1:Int) (8:Int))) then some ((false,()),()) else bif (!(f137 x0.2.2.2.1)) then some ((false,()),()) else bif (!(f138 x0.2.2.2.2.1)) then some ((false,()),()) else bif (!(f138 x0.2.2.2.2.2.1)) then some ((false,()),()) else bif (!(f138 x0.2.2.2.2.2.2.1)) then some ((false,()),()) else (g139 x0.2.2.2.1).bind fun y1=>bif (decide (x0.2.2.2.2.2.1 < y1.1.1)) then some ((false,()),()) else bif (!(f136 (x0.2.2.2.2.2.2.2.1.len:Int) (1:Int) (6:Int))) then some ((false,()),()) else (g140 x0).bind fun y2=>bif (!y2.1.1) then some ((false,()),()) else bif (decide ((x0.2.2.2.2.2.2.2.2.1.len:Int) > (8:Int))) then some ((false,()),()) else (g141_142 x0.2.2.2.2.2.2.2.2.1 ((x0.2.2.2.2.2.2.2.1.len:Int),())).bind fun y3=>bif y3.1.1 then some ((false,()),()) else bif (decide ((x0.2.2.2.2.2.2.2.2.2.1.len:Int) > (8:Int))) then some ((false,()),()) else (g143_144 x0.2.2.2.2.2.2.2.2.2.1 ((x0.2.2.2.2.2.2.2.1.len:Int),())).bind fun y4=>bif y4.1.1 then some ((false,()),()) else (g146 x0.2.2.2.1 x0.2.1 x0.2.2.2.2.2.2.2.2.2.1).bind fun y5=>bif (decide (x0.2.2.2.2.1 < y5.1.1)) then some ((false,()),()) else (g147 x0).bind fun y6=>some ((y6.1.1,()),())
noncomputable def c54:Ctr:={ ins:=[.v Ty370],out:=[.bool],F:=fun x=>g54 x.1 }
theorem o54:Holds Tryz.prog 54 c54:=f0 t54 Tryz.func54 (tc o134 (tc o135 (tc o136 (tc o137 (tc o138 (tc o139 (tc o140 (tc o141_142 (tc o143_144 (tc o146 (tc o147 tn)))))))))))
noncomputable def t55:Tbl:=[(136,[],c136)]
abbrev h55_L0:Shape:={ slots:=[(2,.v (.sl (.sl (.int .u8)))),(33,.v Ty138),(34,.v (.int .i64)),(35,.v (.int .i64))],boxes:=[] }
abbrev e55_L0:List (XT×Shape):=[(.ret,{ slots:=[(6,.v .bool)],boxes:=[] }),(.exit 0,{ slots:=[],boxes:=[] })]
noncomputable def q55_L0 (t2:(L (L Int))) (t33:Ta12) (t34:Int) (t35:Int):Option ((((L (L Int))×Ta78)×Unit)⊕(((Bool×Unit)×Unit)⊕((Unit×Unit)⊕Empty))) :=
bif (decide (t35 < t34)) then bif (decide (0≤t35)&&decide (t35 < (t33.len:Int))) then bif (decide (0≤t35)&&decide (t35 < (t2.len:Int))) then bif (((L.get t2 t35.toNat).len:Int) != (L.get t33 t35.toNat).2.1) then some (.inr (.inl ((false,()),()))) else some (.inl ((t2,(t33,(t34,((wI (t35 + (1:Int))),())))),())) else none else none else some (.inr (.inr (.inl ((),()))))
noncomputable def s55_L0 (x:(((L (L Int))×Ta78)×Unit)):=q55_L0 x.1.1 x.1.2.1 x.1.2.2.1 x.1.2.2.2.1
noncomputable def a55:Nat→Option LoopAnn:=fun c=>bif Nat.beq c 0 then some (.fix h55_L0 e55_L0 s55_L0) else none
noncomputable def g55 (x0:Ta330) (x1:Int) (x2:(L (L Int))):Option ((Bool×Unit)×Unit) :=
bif (!(f136 x1 (0:Int) (wI ((x0.2.2.2.2.2.2.2.1.len:Int) - (1:Int))))) then some ((false,()),()) else bif (decide (0≤x1)&&decide (x1 < (x0.2.2.2.2.2.2.2.1.len:Int))) then bif ((x2.len:Int) != ((L.get x0.2.2.2.2.2.2.2.1 x1.toNat).2.2.2.1.len:Int)) then some ((false,()),()) else bif (decide (0≤x1)&&decide (x1 < (x0.2.2.2.2.2.2.2.1.len:Int))) then ((fixO s55_L0 ((x2,((L.get x0.2.2.2.2.2.2.2.1 x1.toNat).2.2.2.1,(((L.get x0.2.2.2.2.2.2.2.1 x1.toNat).2.2.2.1.len:Int),((0:Int),())))),())).bind fun d2=>match d2 with | .inl y1=>some ((y1.1.1,()),()) | .inr (.inl y1)=>some ((true,()),()) | .inr (.inr e)=>nomatch e) else none else none
noncomputable def c55:Ctr:={ ins:=[.v Ty370,.v (.int .i64),.v (.sl (.sl (.int .u8)))],out:=[.bool],F:=fun x=>g55 x.1 x.2.1 x.2.2.1 }
noncomputable def l55:List (Nat×Code):=loopsIn (Tryz.f55.body.getD .skip) 0
theorem w55_L0:LW t55 a55 l55 0 0 h55_L0 e55_L0 s55_L0:=fun x=>by kernel_rfl
theorem o55:Holds Tryz.prog 55 c55:=fh t55 a55 Tryz.func55 [(0,lg l55 0)] ⟨fun x d h=>(w55_L0 x).trans h,trivial⟩ (tc o136 tn)
noncomputable def t311:Tbl:=[(234,[],c234)]
noncomputable def g311 (x0:(Int×(Int×(Int×Unit)))) (x1:(Int×(Int×(Int×Unit)))):Option ((Bool×Unit)×Unit) :=
some (((!(f234 x0 x1)),()),())
noncomputable def f311 (x0:(Int×(Int×(Int×Unit)))) (x1:(Int×(Int×(Int×Unit)))):Bool :=
(!(f234 x0 x1))
theorem n311 (x0:(Int×(Int×(Int×Unit)))) (x1:(Int×(Int×(Int×Unit)))):g311 x0 x1 = some ((f311 x0 x1,()),()):=by simp only [g311,f311,pull1]
noncomputable def c311:Ctr:={ ins:=[.v Ty129,.rf Ty129],out:=[.bool],F:=fun x=>some ((f311 x.1 x.2.1,()),()) }
theorem o311:Holds Tryz.prog 311 c311:=f0T t311 (fun x=>g311 x.1 x.2.1) Tryz.func311 (tc o234 tn) (fun x=>n311 x.1 x.2.1)
noncomputable def t304_311:Tbl:=[(311,[],c311)]
abbrev h304_311_L0:Shape:={ slots:=[(0,.v Ty138),(1,.clo 311 [Ty129]),(7,.v (.int .i64)),(8,.v (.int .i64))],boxes:=[] }
abbrev e304_311_L0:List (XT×Shape):=[(.ret,{ slots:=[(4,.v (.int .i64))],boxes:=[] }),(.exit 0,{ slots:=[],boxes:=[] })]
noncomputable def q304_311_L0 (t0:Ta12) (t1:Ta23) (t7:Int) (t8:Int):Option (Ta162⊕(((Int×Unit)×Unit)⊕((Unit×Unit)⊕Empty))) :=
bif (decide (t8 < t7)) then bif (decide (0≤t8)&&decide (t8 < (t0.len:Int))) then bif (f311 (L.get t0 t8.toNat) t1.1) then some (.inr (.inl ((t8,()),()))) else some (.inl ((t0,(t1,(t7,((wI (t8 + (1:Int))),())))),())) else none else some (.inr (.inr (.inl ((),()))))
noncomputable def s304_311_L0 (x:Ta162):=q304_311_L0 x.1.1 x.1.2.1 x.1.2.2.1 x.1.2.2.2.1
noncomputable def a304_311:Nat→Option LoopAnn:=fun c=>bif Nat.beq c 0 then some (.fix h304_311_L0 e304_311_L0 s304_311_L0) else none
noncomputable def g304_311 (x0:Ta12) (x1:Ta23):Option ((Int×Unit)×Unit) :=
(fixO s304_311_L0 ((x0,(x1,((x0.len:Int),((0:Int),())))),())).bind fun d2=>match d2 with | .inl y1=>some ((y1.1.1,()),()) | .inr (.inl y1)=>some (((-1:Int),()),()) | .inr (.inr e)=>nomatch e
noncomputable def c304_311:Ctr:={ ins:=[.v Ty138,.clo 311 [Ty129]],out:=[(.int .i64)],F:=fun x=>g304_311 x.1 x.2.1 }
noncomputable def l304_311:List (Nat×Code):=loopsIn (Tryz.f304.body.getD .skip) 0
theorem w304_311_L0:LW t304_311 a304_311 l304_311 0 0 h304_311_L0 e304_311_L0 s304_311_L0:=fun x=>by kernel_rfl
theorem o304_311:Holds Tryz.prog 304 c304_311:=fh t304_311 a304_311 Tryz.func304 [(0,lg l304_311 0)] ⟨fun x d h=>(w304_311_L0 x).trans h,trivial⟩ (tc o311 tn)
noncomputable def t232_311:Tbl:=[(304,[311],c304_311)]
noncomputable def g232_311 (x0:Ta12) (x1:Ta23):Option ((Bool×Unit)×Unit) :=
(g304_311 x0 x1).bind fun y1=>some (((decide (y1.1.1 ≥ (0:Int))),()),())
noncomputable def c232_311:Ctr:={ ins:=[.v Ty138,.clo 311 [Ty129]],out:=[.bool],F:=fun x=>g232_311 x.1 x.2.1 }
theorem o232_311:Holds Tryz.prog 232 c232_311:=f0 t232_311 Tryz.func232 (tc o304_311 tn)
noncomputable def t252:Tbl:=[(231,[],c231),(232,[311],c232_311)]
abbrev h252_L0:Shape:={ slots:=[(0,.v Ty138),(8,.v Ty138),(9,.v (.int .i64)),(10,.v (.int .i64))],boxes:=[] }
abbrev e252_L0:List (XT×Shape):=[(.ret,{ slots:=[(2,.v .bool)],boxes:=[] }),(.exit 0,{ slots:=[],boxes:=[] })]
noncomputable def q252_L0 (t0:Ta12) (t8:Ta12) (t9:Int) (t10:Int):Option (((Ta12×Ta78)×Unit)⊕(((Bool×Unit)×Unit)⊕((Unit×Unit)⊕Empty))) :=
bif (decide (t10 < t9)) then bif (decide (0≤t10)&&decide (t10 < (t8.len:Int))) then bif (!(f231 (L.get t8 t10.toNat))) then some (.inr (.inl ((false,()),()))) else bif (decide (0≤(0:Int))&&(decide ((0:Int)≤t10)&&decide (t10≤(t0.len:Int)))) then (g232_311 (L.cut t0 (0:Int).toNat t10.toNat) ((L.get t8 t10.toNat),())).bind fun y1=>bif y1.1.1 then some (.inr (.inl ((false,()),()))) else some (.inl ((t0,(t8,(t9,((wI (t10 + (1:Int))),())))),())) else none else none else some (.inr (.inr (.inl ((),()))))
noncomputable def s252_L0 (x:((Ta12×Ta78)×Unit)):=q252_L0 x.1.1 x.1.2.1 x.1.2.2.1 x.1.2.2.2.1
noncomputable def a252:Nat→Option LoopAnn:=fun c=>bif Nat.beq c 0 then some (.fix h252_L0 e252_L0 s252_L0) else none
noncomputable def g252 (x0:Ta12):Option ((Bool×Unit)×Unit) :=
bif (decide ((x0.len:Int) > (4:Int))) then some ((false,()),()) else (fixO s252_L0 ((x0,(x0,((x0.len:Int),((0:Int),())))),())).bind fun d3=>match d3 with | .inl y2=>some ((y2.1.1,()),()) | .inr (.inl y2)=>some ((true,()),()) | .inr (.inr e)=>nomatch e
noncomputable def c252:Ctr:={ ins:=[.v Ty138],out:=[.bool],F:=fun x=>g252 x.1 }
noncomputable def l252:List (Nat×Code):=loopsIn (Tryz.f252.body.getD .skip) 0
theorem w252_L0:LW t252 a252 l252 0 0 h252_L0 e252_L0 s252_L0:=fun x=>by kernel_rfl
theorem o252:Holds Tryz.prog 252 c252:=fh t252 a252 Tryz.func252 [(0,lg l252 0)] ⟨fun x d h=>(w252_L0 x).trans h,trivial⟩ (tc o231 (tc o232_311 tn))
noncomputable def t186:Tbl:=[(252,[],c252)]
abbrev h186_L0:Shape:={ slots:=[(3,.bx 3 0),(31,.v Ty138),(32,.v (.int .i64)),(33,.v (.int .i64))],boxes:=[(3,.typ Ty154)] }
abbrev e186_L0:List (XT×Shape):=[(.ret,{ slots:=[(4,.v .bool)],boxes:=[] }),(.exit 0,{ slots:=[],boxes:=[] })]
noncomputable def q186_L0 (t31:Ta12) (t32:Int) (t33:Int) (b3:Ta43):Option (((Unit×Ta78)×Ta67)⊕(((Bool×Unit)×Unit)⊕((Unit×Unit)⊕Empty))) :=
bif (decide (t33 < t32)) then bif (decide (0≤t33)&&decide (t33 < (t31.len:Int))) then bif (decide (0≤t33)&&decide (t33 < (b3.2.2.1.len:Int))) then bif (((L.get b3.2.2.1 t33.toNat).len:Int) != (L.get t31 t33.toNat).2.1) then some (.inr (.inl ((false,()),()))) else some (.inl (((),(t31,(t32,((wI (t33 + (1:Int))),())))),(b3,()))) else none else none else some (.inr (.inr (.inl ((),()))))
noncomputable def s186_L0 (x:((Unit×Ta78)×Ta67)):=q186_L0 x.1.2.1 x.1.2.2.1 x.1.2.2.2.1 x.2.1
noncomputable def a186:Nat→Option LoopAnn:=fun c=>bif Nat.beq c 0 then some (.fix h186_L0 e186_L0 s186_L0) else none
noncomputable def g186 (x0:Ta12) (x1:Ta43):Option ((Bool×Unit)×Unit) :=
(g252 x0).bind fun y1=>bif (!y1.1.1) then some ((false,()),()) else bif ((x1.1.len:Int) != (16:Int)) then some ((false,()),()) else bif (decide ((0:Int) < (x1.1.len:Int))) then bif ((L.get x1.1 (0:Int).toNat) != (0:Int)) then some ((false,()),()) else bif ((x1.2.2.1.len:Int) != (x0.len:Int)) then some ((false,()),()) else ((fixO s186_L0 (((),(x0,((x0.len:Int),((0:Int),())))),(x1,()))).bind fun d3=>match d3 with | .inl y2=>some ((y2.1.1,()),()) | .inr (.inl y2)=>some ((true,()),()) | .inr (.inr e)=>nomatch e) else none
noncomputable def c186:Ctr:={ ins:=[.v Ty138,.v Ty154],out:=[.bool],F:=fun x=>g186 x.1 x.2.1 }
noncomputable def l186:List (Nat×Code):=loopsIn (Tryz.f186.body.getD .skip) 0
theorem w186_L0:LW t186 a186 l186 0 0 h186_L0 e186_L0 s186_L0:=fun x=>by kernel_rfl
theorem o186:Holds Tryz.prog 186 c186:=fh t186 a186 Tryz.func186 [(0,lg l186 0)] ⟨fun x d h=>(w186_L0 x).trans h,trivial⟩ (tc o252 tn)
noncomputable def t187:Tbl:=[(136,[],c136)]
noncomputable def g187 (x0:Ta22):Option ((Bool×Unit)×Unit) :=
bif (f136 x0.1 (0:Int) (1000000000:Int)) then bif (f136 x0.2.1 (0:Int) (1000000000:Int)) then some (((f136 x0.2.2.1 (0:Int) (9:Int)),()),()) else some ((false,()),()) else some ((false,()),())
noncomputable def f187 (x0:Ta22):Bool :=
bif (f136 x0.1 (0:Int) (1000000000:Int)) then bif (f136 x0.2.1 (0:Int) (1000000000:Int)) then (f136 x0.2.2.1 (0:Int) (9:Int)) else false else false
theorem n187 (x0:Ta22):g187 x0 = some ((f187 x0,()),()):=by simp only [g187,f187,pull1]
noncomputable def c187:Ctr:={ ins:=[.v Ty151],out:=[.bool],F:=fun x=>some ((f187 x.1,()),()) }
theorem o187:Holds Tryz.prog 187 c187:=f0T t187 (fun x=>g187 x.1) Tryz.func187 (tc o136 tn) (fun x=>n187 x.1)
noncomputable def t215:Tbl:=[(136,[],c136)]
noncomputable def g215 (x0:Int):Option ((Bool×Unit)×Unit) :=
some (((f136 x0 (0:Int) (65535:Int)),()),())
noncomputable def f215 (x0:Int):Bool :=
(f136 x0 (0:Int) (65535:Int))
theorem n215 (x0:Int):g215 x0 = some ((f215 x0,()),()):=by simp only [g215,f215,pull1]
noncomputable def c215:Ctr:={ ins:=[.v (.int .i64)],out:=[.bool],F:=fun x=>some ((f215 x.1,()),()) }
theorem o215:Holds Tryz.prog 215 c215:=f0T t215 (fun x=>g215 x.1) Tryz.func215 (tc o136 tn) (fun x=>n215 x.1)
noncomputable def t282:Tbl:=[]
noncomputable def g282 (x0:(Int×(Bool×Unit))) (x1:Int):Option ((Bool×Unit)×Unit) :=
some (((x0.1 == x1),()),())
noncomputable def f282 (x0:(Int×(Bool×Unit))) (x1:Int):Bool :=
(x0.1 == x1)
theorem n282 (x0:(Int×(Bool×Unit))) (x1:Int):g282 x0 x1 = some ((f282 x0 x1,()),()):=by simp only [g282,f282,pull1]
noncomputable def c282:Ctr:={ ins:=[.v Ty57,.rf (.int .i64)],out:=[.bool],F:=fun x=>some ((f282 x.1 x.2.1,()),()) }
theorem o282:Holds Tryz.prog 282 c282:=f0T t282 (fun x=>g282 x.1 x.2.1) Tryz.func282 tn (fun x=>n282 x.1 x.2.1)
noncomputable def t281_282:Tbl:=[(282,[],c282)]
abbrev h281_282_L0:Shape:={ slots:=[(0,.v Ty76),(1,.clo 282 [(.int .i64)]),(7,.v (.int .i64)),(8,.v (.int .i64))],boxes:=[] }
abbrev e281_282_L0:List (XT×Shape):=[(.ret,{ slots:=[(4,.v (.int .i64))],boxes:=[] }),(.exit 0,{ slots:=[],boxes:=[] })]
noncomputable def q281_282_L0 (t0:(L (Int×(Bool×Unit)))) (t1:(Int×Unit)) (t7:Int) (t8:Int):Option ((((L (Int×(Bool×Unit)))×Ta24)×Unit)⊕(((Int×Unit)×Unit)⊕((Unit×Unit)⊕Empty))) :=
bif (decide (t8 < t7)) then bif (decide (0≤t8)&&decide (t8 < (t0.len:Int))) then bif (f282 (L.get t0 t8.toNat) t1.1) then some (.inr (.inl ((t8,()),()))) else some (.inl ((t0,(t1,(t7,((wI (t8 + (1:Int))),())))),())) else none else some (.inr (.inr (.inl ((),()))))
noncomputable def s281_282_L0 (x:(((L (Int×(Bool×Unit)))×Ta24)×Unit)):=q281_282_L0 x.1.1 x.1.2.1 x.1.2.2.1 x.1.2.2.2.1
noncomputable def a281_282:Nat→Option LoopAnn:=fun c=>bif Nat.beq c 0 then some (.fix h281_282_L0 e281_282_L0 s281_282_L0) else none
noncomputable def g281_282 (x0:(L (Int×(Bool×Unit)))) (x1:(Int×Unit)):Option ((Int×Unit)×Unit) :=
(fixO s281_282_L0 ((x0,(x1,((x0.len:Int),((0:Int),())))),())).bind fun d2=>match d2 with | .inl y1=>some ((y1.1.1,()),()) | .inr (.inl y1)=>some (((-1:Int),()),()) | .inr (.inr e)=>nomatch e
noncomputable def c281_282:Ctr:={ ins:=[.v Ty76,.clo 282 [(.int .i64)]],out:=[(.int .i64)],F:=fun x=>g281_282 x.1 x.2.1 }
noncomputable def l281_282:List (Nat×Code):=loopsIn (Tryz.f281.body.getD .skip) 0
theorem w281_282_L0:LW t281_282 a281_282 l281_282 0 0 h281_282_L0 e281_282_L0 s281_282_L0:=fun x=>by kernel_rfl
theorem o281_282:Holds Tryz.prog 281 c281_282:=fh t281_282 a281_282 Tryz.func281 [(0,lg l281_282 0)] ⟨fun x d h=>(w281_282_L0 x).trans h,trivial⟩ (tc o282 tn)
noncomputable def t216:Tbl:=[(281,[282],c281_282)]
noncomputable def g216 (x0:(L (Int×(Bool×Unit)))) (x1:Int):Option ((Int×Unit)×Unit) :=
(g281_282 x0 (x1,())).bind fun y1=>some ((y1.1.1,()),())
noncomputable def c216:Ctr:={ ins:=[.v Ty76,.v (.int .i64)],out:=[(.int .i64)],F:=fun x=>g216 x.1 x.2.1 }
theorem o216:Holds Tryz.prog 216 c216:=f0 t216 Tryz.func216 (tc o281_282 tn)
noncomputable def t124:Tbl:=[(135,[],c135),(215,[],c215),(216,[],c216)]
abbrev h124_L2:Shape:={ slots:=[(1,.bx 1 0),(4,.v Ty76),(21,.v Ty97),(22,.v (.int .i64)),(23,.v (.int .i64)),(33,.v Ty76),(34,.v (.int .i64)),(35,.v (.int .i64))],boxes:=[(1,.typ Ty225)] }
abbrev e124_L2:List (XT×Shape):=[(.ret,{ slots:=[(2,.v .bool)],boxes:=[] }),(.exit 2,{ slots:=[(1,.bx 1 0),(21,.v Ty97),(22,.v (.int .i64)),(23,.v (.int .i64))],boxes:=[(1,.typ Ty225)] })]
noncomputable def q124_L2 (t4:(L (Int×(Bool×Unit)))) (t21:Ta6) (t22:Int) (t23:Int) (t33:(L (Int×(Bool×Unit)))) (t34:Int) (t35:Int) (b1:Ta118):Option (((Unit×((L (Int×(Bool×Unit)))×(Ta6×(Int×Ta84))))×Ta128)⊕(((Bool×Unit)×Unit)⊕(Ta201⊕Empty))) :=
bif (decide (t35 < t34)) then bif (decide (0≤t35)&&decide (t35 < (t33.len:Int))) then bif (!(f215 (L.get t33 t35.toNat).1)) then some (.inr (.inl ((false,()),()))) else (g216 t4 (L.get t33 t35.toNat).1).bind fun y1=>bif (decide (y1.1.1 < t35)) then some (.inr (.inl ((false,()),()))) else some (.inl (((),(t4,(t21,(t22,(t23,(t33,(t34,((wI (t35 + (1:Int))),())))))))),(b1,()))) else none else some (.inr (.inr (.inl (((),(t21,(t22,(t23,())))),(b1,())))))
noncomputable def s124_L2 (x:((Unit×((L (Int×(Bool×Unit)))×(Ta6×(Int×Ta84))))×Ta128)):=q124_L2 x.1.2.1 x.1.2.2.1 x.1.2.2.2.1 x.1.2.2.2.2.1 x.1.2.2.2.2.2.1 x.1.2.2.2.2.2.2.1 x.1.2.2.2.2.2.2.2.1 x.2.1
abbrev h124_L0:Shape:={ slots:=[(1,.bx 1 0),(21,.v Ty97),(22,.v (.int .i64)),(23,.v (.int .i64))],boxes:=[(1,.typ Ty225)] }
abbrev e124_L0:List (XT×Shape):=[(.ret,{ slots:=[(2,.v .bool)],boxes:=[] }),(.exit 0,{ slots:=[],boxes:=[] })]
noncomputable def q124_L0 (t21:Ta6) (t22:Int) (t23:Int) (b1:Ta118):Option (Ta201⊕(((Bool×Unit)×Unit)⊕((Unit×Unit)⊕Empty))) :=
bif (decide (t23 < t22)) then bif (decide (0≤t23)&&decide (t23 < (t21.len:Int))) then bif (decide (((L.get t21 t23.toNat).len:Int) > b1.1.2.1)) then some (.inr (.inl ((false,()),()))) else ((fixO s124_L2 (((),((L.get t21 t23.toNat),(t21,(t22,(t23,((L.get t21 t23.toNat),(((L.get t21 t23.toNat).len:Int),((0:Int),())))))))),(b1,()))).bind fun d3=>match d3 with | .inl y2=>some (.inr (.inl y2)) | .inr (.inl y2)=>some (.inl (((),(y2.1.2.1,(y2.1.2.2.1,((wI (y2.1.2.2.2.1 + (1:Int))),())))),y2.2)) | .inr (.inr e)=>nomatch e) else none else some (.inr (.inr (.inl ((),()))))
noncomputable def s124_L0 (x:Ta201):=q124_L0 x.1.2.1 x.1.2.2.1 x.1.2.2.2.1 x.2.1
noncomputable def a124:Nat→Option LoopAnn:=fun c=>bif Nat.beq c 2 then some (.fix h124_L2 e124_L2 s124_L2) else bif Nat.beq c 0 then some (.fix h124_L0 e124_L0 s124_L0) else none
noncomputable def g124 (x0:Ta118):Option ((Bool×Unit)×Unit) :=
bif (!(f135 x0.1)) then some ((false,()),()) else bif ((x0.2.1.len:Int) != x0.1.1) then some ((false,()),()) else (fixO s124_L0 (((),(x0.2.1,((x0.2.1.len:Int),((0:Int),())))),(x0,()))).bind fun d5=>match d5 with | .inl y4=>some ((y4.1.1,()),()) | .inr (.inl y4)=>some ((true,()),()) | .inr (.inr e)=>nomatch e
noncomputable def c124:Ctr:={ ins:=[.v Ty225],out:=[.bool],F:=fun x=>g124 x.1 }
noncomputable def l124:List (Nat×Code):=loopsIn (Tryz.f124.body.getD .skip) 0
theorem w124_L2:LW t124 a124 l124 1 2 h124_L2 e124_L2 s124_L2:=fun x=>by kernel_rfl
theorem w124_L0:LW t124 a124 l124 0 0 h124_L0 e124_L0 s124_L0:=fun x=>by kernel_rfl
theorem o124:Holds Tryz.prog 124 c124:=fh t124 a124 Tryz.func124 [(0,lg l124 0),(2,lg l124 1)] ⟨fun x d h=>(w124_L0 x).trans h,fun x d h=>(w124_L2 x).trans h,trivial⟩ (tc o135 (tc o215 (tc o216 tn)))
noncomputable def t312:Tbl:=[]
abbrev h312_L0:Shape:={ slots:=[(0,.v (.sl (.int .i64))),(1,.v (.int .i64)),(7,.v (.int .i64)),(8,.v (.int .i64))],boxes:=[] }
abbrev e312_L0:List (XT×Shape):=[(.ret,{ slots:=[(4,.v (.int .i64))],boxes:=[] }),(.exit 0,{ slots:=[],boxes:=[] })]
noncomputable def q312_L0 (t0:(L Int)) (t1:Int) (t7:Int) (t8:Int):Option ((((L Int)×(Int×(Int×(Int×Unit))))×Unit)⊕(((Int×Unit)×Unit)⊕((Unit×Unit)⊕Empty))) :=
bif (decide (t8 < t7)) then bif (decide (0≤t8)&&decide (t8 < (t0.len:Int))) then bif (t1 == (L.get t0 t8.toNat)) then some (.inr (.inl ((t8,()),()))) else some (.inl ((t0,(t1,(t7,((wI (t8 + (1:Int))),())))),())) else none else some (.inr (.inr (.inl ((),()))))
noncomputable def s312_L0 (x:(((L Int)×(Int×(Int×(Int×Unit))))×Unit)):=q312_L0 x.1.1 x.1.2.1 x.1.2.2.1 x.1.2.2.2.1
noncomputable def a312:Nat→Option LoopAnn:=fun c=>bif Nat.beq c 0 then some (.fix h312_L0 e312_L0 s312_L0) else none
noncomputable def g312 (x0:(L Int)) (x1:Int):Option ((Int×Unit)×Unit) :=
(fixO s312_L0 ((x0,(x1,((x0.len:Int),((0:Int),())))),())).bind fun d2=>match d2 with | .inl y1=>some ((y1.1.1,()),()) | .inr (.inl y1)=>some (((-1:Int),()),()) | .inr (.inr e)=>nomatch e
noncomputable def c312:Ctr:={ ins:=[.v (.sl (.int .i64)),.v (.int .i64)],out:=[(.int .i64)],F:=fun x=>g312 x.1 x.2.1 }
noncomputable def l312:List (Nat×Code):=loopsIn (Tryz.f312.body.getD .skip) 0
theorem w312_L0:LW t312 a312 l312 0 0 h312_L0 e312_L0 s312_L0:=fun x=>by kernel_rfl
theorem o312:Holds Tryz.prog 312 c312:=fh t312 a312 Tryz.func312 [(0,lg l312 0)] ⟨fun x d h=>(w312_L0 x).trans h,trivial⟩ tn
noncomputable def t253:Tbl:=[(312,[],c312)]
noncomputable def g253 (x0:(L Int)) (x1:Int):Option ((Bool×Unit)×Unit) :=
(g312 x0 x1).bind fun y1=>some (((decide (y1.1.1 ≥ (0:Int))),()),())
noncomputable def c253:Ctr:={ ins:=[.v (.sl (.int .i64)),.v (.int .i64)],out:=[.bool],F:=fun x=>g253 x.1 x.2.1 }
theorem o253:Holds Tryz.prog 253 c253:=f0 t253 Tryz.func253 (tc o312 tn)
noncomputable def t188:Tbl:=[(136,[],c136),(253,[],c253)]
abbrev h188_L0:Shape:={ slots:=[(1,.bx 1 0),(18,.v (.sl (.int .i64))),(19,.v (.int .i64)),(20,.v (.int .i64))],boxes:=[(1,.typ Ty99)] }
abbrev e188_L0:List (XT×Shape):=[(.ret,{ slots:=[(2,.v .bool)],boxes:=[] }),(.exit 0,{ slots:=[],boxes:=[] })]
noncomputable def q188_L0 (t18:(L Int)) (t19:Int) (t20:Int) (b1:(Int×((L Int)×Unit))):Option (((Unit×Ta13)×Ta15)⊕(((Bool×Unit)×Unit)⊕((Unit×Unit)⊕Empty))) :=
bif (decide (t20 < t19)) then bif (decide (0≤t20)&&decide (t20 < (t18.len:Int))) then bif (!(f136 (L.get t18 t20.toNat) (0:Int) (1023:Int))) then some (.inr (.inl ((false,()),()))) else bif (decide (0≤(0:Int))&&(decide ((0:Int)≤t20)&&decide (t20≤(b1.2.1.len:Int)))) then (g253 (L.cut b1.2.1 (0:Int).toNat t20.toNat) (L.get t18 t20.toNat)).bind fun y1=>bif y1.1.1 then some (.inr (.inl ((false,()),()))) else some (.inl (((),(t18,(t19,((wI (t20 + (1:Int))),())))),(b1,()))) else none else none else some (.inr (.inr (.inl ((),()))))
noncomputable def s188_L0 (x:((Unit×Ta13)×Ta15)):=q188_L0 x.1.2.1 x.1.2.2.1 x.1.2.2.2.1 x.2.1
noncomputable def a188:Nat→Option LoopAnn:=fun c=>bif Nat.beq c 0 then some (.fix h188_L0 e188_L0 s188_L0) else none
noncomputable def g188 (x0:(Int×((L Int)×Unit))):Option ((Bool×Unit)×Unit) :=
bif (!(f136 x0.1 (1:Int) (8:Int))) then some ((false,()),()) else bif (decide ((x0.2.1.len:Int) > x0.1)) then some ((false,()),()) else (fixO s188_L0 (((),(x0.2.1,((x0.2.1.len:Int),((0:Int),())))),(x0,()))).bind fun d3=>match d3 with | .inl y2=>some ((y2.1.1,()),()) | .inr (.inl y2)=>some ((true,()),()) | .inr (.inr e)=>nomatch e
noncomputable def c188:Ctr:={ ins:=[.v Ty99],out:=[.bool],F:=fun x=>g188 x.1 }
noncomputable def l188:List (Nat×Code):=loopsIn (Tryz.f188.body.getD .skip) 0
theorem w188_L0:LW t188 a188 l188 0 0 h188_L0 e188_L0 s188_L0:=fun x=>by kernel_rfl
theorem o188:Holds Tryz.prog 188 c188:=fh t188 a188 Tryz.func188 [(0,lg l188 0)] ⟨fun x d h=>(w188_L0 x).trans h,trivial⟩ (tc o136 (tc o253 tn))
noncomputable def t254:Tbl:=[(136,[],c136)]
noncomputable def g254 (x0:Ta330) (x1:Int) (x2:Int):Option ((Bool×Unit)×Unit) :=
bif (f136 x2 (0:Int) (wI ((x0.2.2.2.2.2.2.2.2.2.1.len:Int) - (1:Int)))) then bif (decide (0≤x2)&&decide (x2 < (x0.2.2.2.2.2.2.2.2.2.1.len:Int))) then some ((((L.get x0.2.2.2.2.2.2.2.2.2.1 x2.toNat).2.1 == x1),()),()) else none else some ((false,()),())
noncomputable def c254:Ctr:={ ins:=[.v Ty370,.v (.int .i64),.v (.int .i64)],out:=[.bool],F:=fun x=>g254 x.1 x.2.1 x.2.2.1 }
theorem o254:Holds Tryz.prog 254 c254:=f0 t254 Tryz.func254 (tc o136 tn)
noncomputable def t255:Tbl:=[(145,[],c145),(238,[],c238),(136,[],c136)]
noncomputable def g255 (x0:Ta17) (x1:(Int×((L Int)×Unit))):Option ((Bool×Unit)×Unit) :=
bif (!(f145 x0)) then some ((false,()),()) else bif (decide ((x1.2.1.len:Int) > (f238 x0))) then some ((false,()),()) else bif (f136 x1.1 (0:Int) x0.2.2.2.1) then bif (x0.1 == (0:Int)) then some ((true,()),()) else some (((decide (x1.1≤(wI (x0.2.2.2.1 - (x1.2.1.len:Int))))),()),()) else some ((false,()),())
noncomputable def f255 (x0:Ta17) (x1:(Int×((L Int)×Unit))):Bool :=
bif (!(f145 x0)) then false else bif (decide ((x1.2.1.len:Int) > (f238 x0))) then false else bif (f136 x1.1 (0:Int) x0.2.2.2.1) then bif (x0.1 == (0:Int)) then true else (decide (x1.1≤(wI (x0.2.2.2.1 - (x1.2.1.len:Int))))) else false
theorem n255 (x0:Ta17) (x1:(Int×((L Int)×Unit))):g255 x0 x1 = some ((f255 x0 x1,()),()):=by simp only [g255,f255,pull1]
noncomputable def c255:Ctr:={ ins:=[.v Ty164,.v Ty96],out:=[.bool],F:=fun x=>some ((f255 x.1 x.2.1,()),()) }
theorem o255:Holds Tryz.prog 255 c255:=f0T t255 (fun x=>g255 x.1 x.2.1) Tryz.func255 (tc o145 (tc o238 (tc o136 tn))) (fun x=>n255 x.1 x.2.1)
noncomputable def t256:Tbl:=[(136,[],c136)]
noncomputable def g256 (x0:Ta330) (x1:Int) (x2:Int):Option ((Bool×Unit)×Unit) :=
bif (f136 x2 (0:Int) (wI ((x0.2.2.2.2.2.2.2.2.2.1.len:Int) - (1:Int)))) then bif (decide (0≤x2)&&decide (x2 < (x0.2.2.2.2.2.2.2.2.2.1.len:Int))) then some ((((L.get x0.2.2.2.2.2.2.2.2.2.1 x2.toNat).2.2.1 == x1),()),()) else none else some ((false,()),())
noncomputable def c256:Ctr:={ ins:=[.v Ty370,.v (.int .i64),.v (.int .i64)],out:=[.bool],F:=fun x=>g256 x.1 x.2.1 x.2.2.1 }
theorem o256:Holds Tryz.prog 256 c256:=f0 t256 Tryz.func256 (tc o136 tn)
noncomputable def t257:Tbl:=[(145,[],c145),(238,[],c238)]
noncomputable def g257 (x0:Ta17) (x1:((L Int)×Unit)):Option ((Bool×Unit)×Unit) :=
bif (f145 x0) then some (((decide ((x1.1.len:Int)≤(f238 x0))),()),()) else some ((false,()),())
noncomputable def f257 (x0:Ta17) (x1:((L Int)×Unit)):Bool :=
bif (f145 x0) then (decide ((x1.1.len:Int)≤(f238 x0))) else false
theorem n257 (x0:Ta17) (x1:((L Int)×Unit)):g257 x0 x1 = some ((f257 x0 x1,()),()):=by simp only [g257,f257,pull1]
noncomputable def c257:Ctr:={ ins:=[.v Ty164,.v Ty30],out:=[.bool],F:=fun x=>some ((f257 x.1 x.2.1,()),()) }
theorem o257:Holds Tryz.prog 257 c257:=f0T t257 (fun x=>g257 x.1 x.2.1) Tryz.func257 (tc o145 (tc o238 tn)) (fun x=>n257 x.1 x.2.1)
noncomputable def t109:Tbl:=[(136,[],c136)]
noncomputable def g109 (x0:Ta330) (x1:Int) (x2:Int):Option ((Bool×Unit)×Unit) :=
bif (f136 x2 (0:Int) (wI ((x0.2.2.2.2.2.2.2.2.1.len:Int) - (1:Int)))) then bif (decide (0≤x2)&&decide (x2 < (x0.2.2.2.2.2.2.2.2.1.len:Int))) then some ((((L.get x0.2.2.2.2.2.2.2.2.1 x2.toNat) == x1),()),()) else none else some ((false,()),())
noncomputable def c109:Ctr:={ ins:=[.v Ty370,.v (.int .i64),.v (.int .i64)],out:=[.bool],F:=fun x=>g109 x.1 x.2.1 x.2.2.1 }
theorem o109:Holds Tryz.prog 109 c109:=f0 t109 Tryz.func109 (tc o136 tn)
noncomputable def t258:Tbl:=[]
noncomputable def g258 (x0:Ta2):Option ((Bool×Unit)×Unit) :=
bif (decide ((x0.1.len:Int)≤(8:Int))) then some (((decide ((x0.2.1.len:Int)≤(8:Int))),()),()) else some ((false,()),())
noncomputable def f258 (x0:Ta2):Bool :=
bif (decide ((x0.1.len:Int)≤(8:Int))) then (decide ((x0.2.1.len:Int)≤(8:Int))) else false
theorem n258 (x0:Ta2):g258 x0 = some ((f258 x0,()),()):=by simp only [g258,f258,pull1]
noncomputable def c258:Ctr:={ ins:=[.v Ty117],out:=[.bool],F:=fun x=>some ((f258 x.1,()),()) }
theorem o258:Holds Tryz.prog 258 c258:=f0T t258 (fun x=>g258 x.1) Tryz.func258 tn (fun x=>n258 x.1)
noncomputable def t189:Tbl:=[(254,[],c254),(255,[],c255),(256,[],c256),(257,[],c257),(109,[],c109),(258,[],c258)]
abbrev h189_L0:Shape:={ slots:=[(1,.v (.int .i64)),(3,.bx 3 0),(5,.bx 5 0),(39,.v Ty169),(40,.v (.int .i64)),(41,.v (.int .i64))],boxes:=[(3,.typ Ty370),(5,.typ Ty371)] }
abbrev e189_L0:List (XT×Shape):=[(.ret,{ slots:=[(6,.v .bool)],boxes:=[] }),(.exit 0,{ slots:=[(1,.v (.int .i64)),(3,.bx 3 0),(5,.bx 5 0)],boxes:=[(3,.typ Ty370),(5,.typ Ty371)] })]
noncomputable def q189_L0 (t1:Int) (t39:Ta36) (t40:Int) (t41:Int) (b3:Ta330) (b5:Ta348):Option (((Int×(Unit×(Unit×Ta101)))×Ta361)⊕(((Bool×Unit)×Unit)⊕(((Int×(Unit×(Unit×Unit)))×Ta361)⊕Empty))) :=
bif (decide (t41 < t40)) then bif (decide (0≤t41)&&decide (t41 < (t39.len:Int))) then bif (decide (0≤t41)&&decide (t41 < (b5.2.2.2.2.2.2.2.2.1.len:Int))) then bif (decide (0≤t41)&&decide (t41 < (b5.2.2.2.2.2.2.2.2.2.1.len:Int))) then (g254 b3 t1 t41).bind fun y1=>bif y1.1.1 then bif (!(f255 (L.get t39 t41.toNat) (L.get b5.2.2.2.2.2.2.2.2.1 t41.toNat))) then some (.inr (.inl ((false,()),()))) else (g254 b3 t1 t41).bind fun y2=>bif (!y2.1.1) then bif ((L.get b5.2.2.2.2.2.2.2.2.1 t41.toNat).1 != (0:Int)) then some (.inr (.inl ((false,()),()))) else bif (decide (((L.get b5.2.2.2.2.2.2.2.2.1 t41.toNat).2.1.len:Int) > (0:Int))) then some (.inr (.inl ((false,()),()))) else (g256 b3 t1 t41).bind fun y3=>bif y3.1.1 then bif (!(f257 (L.get t39 t41.toNat) (L.get b5.2.2.2.2.2.2.2.2.2.1 t41.toNat))) then some (.inr (.inl ((false,()),()))) else (g256 b3 t1 t41).bind fun y4=>bif (!y4.1.1) then bif (decide (((L.get b5.2.2.2.2.2.2.2.2.2.1 t41.toNat).1.len:Int) > (0:Int))) then some (.inr (.inl ((false,()),()))) else some (.inl ((t1,((),((),(t39,(t40,((wI (t41 + (1:Int))),())))))),(b3,(b5,())))) else some (.inl ((t1,((),((),(t39,(t40,((wI (t41 + (1:Int))),())))))),(b3,(b5,())))) else (g256 b3 t1 t41).bind fun y5=>bif (!y5.1.1) then bif (decide (((L.get b5.2.2.2.2.2.2.2.2.2.1 t41.toNat).1.len:Int) > (0:Int))) then some (.inr (.inl ((false,()),()))) else some (.inl ((t1,((),((),(t39,(t40,((wI (t41 + (1:Int))),())))))),(b3,(b5,())))) else some (.inl ((t1,((),((),(t39,(t40,((wI (t41 + (1:Int))),())))))),(b3,(b5,())))) else (g256 b3 t1 t41).bind fun y6=>bif y6.1.1 then bif (!(f257 (L.get t39 t41.toNat) (L.get b5.2.2.2.2.2.2.2.2.2.1 t41.toNat))) then some (.inr (.inl ((false,()),()))) else (g256 b3 t1 t41).bind fun y7=>bif (!y7.1.1) then bif (decide (((L.get b5.2.2.2.2.2.2.2.2.2.1 t41.toNat).1.len:Int) > (0:Int))) then some (.inr (.inl ((false,()),()))) else some (.inl ((t1,((),((),(t39,(t40,((wI (t41 + (1:Int))),())))))),(b3,(b5,())))) else some (.inl ((t1,((),((),(t39,(t40,((wI (t41 + (1:Int))),())))))),(b3,(b5,())))) else (g256 b3 t1 t41).bind fun y8=>bif (!y8.1.1) then bif (decide (((L.get b5.2.2.2.2.2.2.2.2.2.1 t41.toNat).1.len:Int) > (0:Int))) then some (.inr (.inl ((false,()),()))) else some (.inl ((t1,((),((),(t39,(t40,((wI (t41 + (1:Int))),())))))),(b3,(b5,())))) else some (.inl ((t1,((),((),(t39,(t40,((wI (t41 + (1:Int))),())))))),(b3,(b5,())))) else (g254 b3 t1 t41).bind fun y9=>bif (!y9.1.1) then bif ((L.get b5.2.2.2.2.2.2.2.2.1 t41.toNat).1 != (0:Int)) then some (.inr (.inl ((false,()),()))) else bif (decide (((L.get b5.2.2.2.2.2.2.2.2.1 t41.toNat).2.1.len:Int) > (0:Int))) then some (.inr (.inl ((false,()),()))) else (g256 b3 t1 t41).bind fun y10=>bif y10.1.1 then bif (!(f257 (L.get t39 t41.toNat) (L.get b5.2.2.2.2.2.2.2.2.2.1 t41.toNat))) then some (.inr (.inl ((false,()),()))) else (g256 b3 t1 t41).bind fun y11=>bif (!y11.1.1) then bif (decide (((L.get b5.2.2.2.2.2.2.2.2.2.1 t41.toNat).1.len:Int) > (0:Int))) then some (.inr (.inl ((false,()),()))) else some (.inl ((t1,((),((),(t39,(t40,((wI (t41 + (1:Int))),())))))),(b3,(b5,())))) else some (.inl ((t1,((),((),(t39,(t40,((wI (t41 + (1:Int))),())))))),(b3,(b5,())))) else (g256 b3 t1 t41).bind fun y12=>bif (!y12.1.1) then bif (decide (((L.get b5.2.2.2.2.2.2.2.2.2.1 t41.toNat).1.len:Int) > (0:Int))) then some (.inr (.inl ((false,()),()))) else some (.inl ((t1,((),((),(t39,(t40,((wI (t41 + (1:Int))),())))))),(b3,(b5,())))) else some (.inl ((t1,((),((),(t39,(t40,((wI (t41 + (1:Int))),())))))),(b3,(b5,())))) else (g256 b3 t1 t41).bind fun y13=>bif y13.1.1 then bif (!(f257 (L.get t39 t41.toNat) (L.get b5.2.2.2.2.2.2.2.2.2.1 t41.toNat))) then some (.inr (.inl ((false,()),()))) else (g256 b3 t1 t41).bind fun y14=>bif (!y14.1.1) then bif (decide (((L.get b5.2.2.2.2.2.2.2.2.2.1 t41.toNat).1.len:Int) > (0:Int))) then some (.inr (.inl ((false,()),()))) else some (.inl ((t1,((),((),(t39,(t40,((wI (t41 + (1:Int))),())))))),(b3,(b5,())))) else some (.inl ((t1,((),((),(t39,(t40,((wI (t41 + (1:Int))),())))))),(b3,(b5,())))) else (g256 b3 t1 t41).bind fun y15=>bif (!y15.1.1) then bif (decide (((L.get b5.2.2.2.2.2.2.2.2.2.1 t41.toNat).1.len:Int) > (0:Int))) then some (.inr (.inl ((false,()),()))) else some (.inl ((t1,((),((),(t39,(t40,((wI (t41 + (1:Int))),())))))),(b3,(b5,())))) else some (.inl ((t1,((),((),(t39,(t40,((wI (t41 + (1:Int))),())))))),(b3,(b5,())))) else none else none else none else some (.inr (.inr (.inl ((t1,((),((),()))),(b3,(b5,()))))))
noncomputable def s189_L0 (x:((Int×(Unit×(Unit×Ta101)))×Ta361)):=q189_L0 x.1.1 x.1.2.2.2.1 x.1.2.2.2.2.1 x.1.2.2.2.2.2.1 x.2.1 x.2.2.1
abbrev h189_L2:Shape:={ slots:=[(1,.v (.int .i64)),(3,.bx 3 0),(109,.v Ty125),(110,.v (.int .i64)),(111,.v (.int .i64))],boxes:=[(3,.typ Ty370)] }
abbrev e189_L2:List (XT×Shape):=[(.ret,{ slots:=[(6,.v .bool)],boxes:=[] }),(.exit 2,{ slots:=[],boxes:=[] })]
noncomputable def q189_L2 (t1:Int) (t109:Ta18) (t110:Int) (t111:Int) (b3:Ta330):Option (((Int×(Unit×Ta86))×Ta335)⊕(((Bool×Unit)×Unit)⊕((Unit×Unit)⊕Empty))) :=
bif (decide (t111 < t110)) then bif (decide (0≤t111)&&decide (t111 < (t109.len:Int))) then (g109 b3 t1 t111).bind fun y17=>bif y17.1.1 then bif (!(f258 (L.get t109 t111.toNat))) then some (.inr (.inl ((false,()),()))) else (g109 b3 t1 t111).bind fun y18=>bif (!y18.1.1) then bif (decide ((wI (((L.get t109 t111.toNat).1.len:Int) + ((L.get t109 t111.toNat).2.1.len:Int))) > (0:Int))) then some (.inr (.inl ((false,()),()))) else some (.inl ((t1,((),(t109,(t110,((wI (t111 + (1:Int))),()))))),(b3,()))) else some (.inl ((t1,((),(t109,(t110,((wI (t111 + (1:Int))),()))))),(b3,()))) else (g109 b3 t1 t111).bind fun y19=>bif (!y19.1.1) then bif (decide ((wI (((L.get t109 t111.toNat).1.len:Int) + ((L.get t109 t111.toNat).2.1.len:Int))) > (0:Int))) then some (.inr (.inl ((false,()),()))) else some (.inl ((t1,((),(t109,(t110,((wI (t111 + (1:Int))),()))))),(b3,()))) else some (.inl ((t1,((),(t109,(t110,((wI (t111 + (1:Int))),()))))),(b3,()))) else none else some (.inr (.inr (.inl ((),()))))
noncomputable def s189_L2 (x:((Int×(Unit×Ta86))×Ta335)):=q189_L2 x.1.1 x.1.2.2.1 x.1.2.2.2.1 x.1.2.2.2.2.1 x.2.1
noncomputable def a189:Nat→Option LoopAnn:=fun c=>bif Nat.beq c 0 then some (.fix h189_L0 e189_L0 s189_L0) else bif Nat.beq c 2 then some (.fix h189_L2 e189_L2 s189_L2) else none
noncomputable def g189 (x0:Ta330) (x1:Int) (x2:Ta348):Option ((Bool×Unit)×Unit) :=
bif ((x2.2.2.2.2.2.2.2.2.1.len:Int) != (x0.2.2.2.2.2.2.2.2.2.1.len:Int)) then some ((false,()),()) else bif ((x2.2.2.2.2.2.2.2.2.2.1.len:Int) != (x0.2.2.2.2.2.2.2.2.2.1.len:Int)) then some ((false,()),()) else bif ((x2.2.2.2.2.2.2.2.2.2.2.1.len:Int) != (x0.2.2.2.2.2.2.2.2.1.len:Int)) then some ((false,()),()) else (fixO s189_L0 ((x1,((),((),(x0.2.2.2.2.2.2.2.2.2.1,((x0.2.2.2.2.2.2.2.2.2.1.len:Int),((0:Int),())))))),(x0,(x2,())))).bind fun d22=>match d22 with | .inl y16=>some ((y16.1.1,()),()) | .inr (.inl y16)=>((fixO s189_L2 ((y16.1.1,((),(y16.2.2.1.2.2.2.2.2.2.2.2.2.2.1,((y16.2.2.1.2.2.2.2.2.2.2.2.2.2.1.len:Int),((0:Int),()))))),(y16.2.1,()))).bind fun d21=>match d21 with | .inl y20=>some ((y20.1.1,()),()) | .inr (.inl y20)=>some ((true,()),()) | .inr (.inr e)=>nomatch e) | .inr (.inr e)=>nomatch e
noncomputable def c189:Ctr:={ ins:=[.v Ty370,.v (.int .i64),.v Ty371],out:=[.bool],F:=fun x=>g189 x.1 x.2.1 x.2.2.1 }
noncomputable def l189:List (Nat×Code):=loopsIn (Tryz.f189.body.getD .skip) 0
theorem w189_L0:LW t189 a189 l189 0 0 h189_L0 e189_L0 s189_L0:=fun x=>by kernel_rfl
theorem w189_L2:LW t189 a189 l189 1 2 h189_L2 e189_L2 s189_L2:=fun x=>by kernel_rfl
theorem o189:Holds Tryz.prog 189 c189:=fh t189 a189 Tryz.func189 [(0,lg l189 0),(2,lg l189 1)] ⟨fun x d h=>(w189_L0 x).trans h,fun x d h=>(w189_L2 x).trans h,trivial⟩ (tc o254 (tc o255 (tc o256 (tc o257 (tc o109 (tc o258 tn))))))
noncomputable def t108:Tbl:=[(54,[],c54),(55,[],c55),(186,[],c186),(187,[],c187),(124,[],c124),(188,[],c188),(136,[],c136),(189,[],c189)]
noncomputable def g108 (x0:Ta330) (x1:Int) (x2:Ta348):Option ((Bool×Unit)×Unit) :=
(g54 x0).bind fun y1=>bif (!y1.1.1) then some ((false,()),()) else (g55 x0 x1 x2.2.2.2.2.2.2.2.1).bind fun y2=>bif (!y2.1.1) then some ((false,()),()) else bif (decide (0≤x1)&&decide (x1 < (x0.2.2.2.2.2.2.2.1.len:Int))) then (g186 (L.get x0.2.2.2.2.2.2.2.1 x1.toNat).2.2.2.1 x2.1).bind fun y3=>bif (!y3.1.1) then some ((false,()),()) else bif (!(f187 x2.2.2.1)) then some ((false,()),()) else (g124 x2.2.2.2.1).bind fun y4=>bif (!y4.1.1) then some ((false,()),()) else bif (!((x2.2.2.2.1.1.1 == x0.2.1.1)&&((x2.2.2.2.1.1.2.1 == x0.2.1.2.1)&&((x2.2.2.2.1.1.2.2.1 == x0.2.1.2.2.1)&&true)))) then some ((false,()),()) else (g188 x2.2.2.2.2.1).bind fun y5=>bif (!y5.1.1) then some ((false,()),()) else bif (x2.2.2.2.2.1.1 != x0.2.2.1) then some ((false,()),()) else bif (!(f136 x2.2.2.2.2.2.1 (0:Int) (100000:Int))) then some ((false,()),()) else (g189 x0 x1 x2).bind fun y6=>some ((y6.1.1,()),()) else none
noncomputable def c108:Ctr:={ ins:=[.v Ty370,.v (.int .i64),.v Ty371],out:=[.bool],F:=fun x=>g108 x.1 x.2.1 x.2.2.1 }
theorem o108:Holds Tryz.prog 108 c108:=f0 t108 Tryz.func108 (tc o54 (tc o55 (tc o186 (tc o187 (tc o124 (tc o188 (tc o136 (tc o189 tn))))))))
noncomputable def t197r:Tbl:=[]
noncomputable def g197r (x0:(L Int)):Option (((L Int)×Unit)×Unit) :=
bif x0.nil then some (((nilL (.int .u32)),()),()) else bif (decide ((L.of (Ty.zero (.int .u32)) []).len + x0.len≤most)) then some (((L.app (L.of (Ty.zero (.int .u32)) []) x0),()),()) else none
noncomputable def c197r:Ctr:={ ins:=[.v (.sl (.int .u32))],out:=[(.sl (.int .u32))],F:=fun x=>g197r x.1,fr:=1 }
theorem o197r:Holds Tryz.prog 197 c197r:=f0 t197r Tryz.func197 tn
noncomputable def t241r:Tbl:=[]
noncomputable def g241r (x0:(L Int)):Option (((L Int)×Unit)×Unit) :=
bif x0.nil then some (((nilL (.int .u8)),()),()) else bif (decide ((L.of (Ty.zero (.int .u8)) []).len + x0.len≤most)) then some (((L.app (L.of (Ty.zero (.int .u8)) []) x0),()),()) else none
noncomputable def c241r:Ctr:={ ins:=[.v (.sl (.int .u8))],out:=[(.sl (.int .u8))],F:=fun x=>g241r x.1,fr:=1 }
theorem o241r:Holds Tryz.prog 241 c241r:=f0 t241r Tryz.func241 tn
noncomputable def t190r:Tbl:=[(197,[],c197r),(241,[],c241r)]
abbrev h190r_L0:Shape:={ slots:=[(2,.bx 2 0),(3,.bx 3 0),(13,.v (.sl (.sl (.int .u8)))),(14,.v (.int .i64)),(15,.v (.int .i64))],boxes:=[(2,.cells [.row (.int .u32) 60128,.v (.int .u32),.row (.sl (.int .u8)) 60130]),(3,.cells [.ms 1000512,.v (.int .u32),.row (.sl (.int .u8)) 60194]),(1000512,.row (.int .u32))] }
abbrev e190r_L0:List (XT×Shape):=[(.exit 0,{ slots:=[(2,.bx 2 0),(3,.bx 3 0)],boxes:=[(2,.cells [.ms 60128,.v (.int .u32),.ms 60130]),(3,.cells [.ms 1000512,.v (.int .u32),.ms 60194]),(60128,.row (.int .u32)),(60130,.row (.sl (.int .u8))),(1000512,.row (.int .u32)),(60194,.row (.sl (.int .u8)))] })]
noncomputable def q190r_L0 (t13:(L (L Int))) (t14:Int) (t15:Int) (b2_0:(L Int)) (b2_1:Int) (b2_2:(L (L Int))) (b3_1:Int) (b3_2:(L (L Int))) (r1000512:(L Int)):Option (((Unit×(Unit×Ta25))×(Ta43×((Unit×Ta0)×((L Int)×Unit))))⊕(((Unit×(Unit×Unit))×((Unit×(Int×(Unit×Unit)))×((Unit×(Int×(Unit×Unit)))×((L Int)×((L (L Int))×Ta21)))))⊕Empty)) :=
bif (decide (t15 < t14)) then bif (decide (0≤t15)&&decide (t15 < (t13.len:Int))) then (g241r (L.get t13 t15.toNat)).bind fun y2=>bif (decide (b3_2.len + (L.of (Ty.zero (.sl (.int .u8))) [y2.1.1]).len≤most)) then some (.inl (((),((),(t13,(t14,((wI (t15 + (1:Int))),()))))),((b2_0,(b2_1,(b2_2,()))),(((),(b3_1,((L.app b3_2 (L.of (Ty.zero (.sl (.int .u8))) [y2.1.1])),()))),(r1000512,()))))) else none else none else some (.inr (.inl (((),((),())),(((),(b2_1,((),()))),(((),(b3_1,((),()))),(b2_0,(b2_2,(r1000512,(b3_2,())))))))))
noncomputable def s190r_L0 (x:((Unit×(Unit×Ta25))×(Ta43×((Unit×Ta0)×((L Int)×Unit))))):=q190r_L0 x.1.2.2.1 x.1.2.2.2.1 x.1.2.2.2.2.1 x.2.1.1 x.2.1.2.1 x.2.1.2.2.1 x.2.2.1.2.1 x.2.2.1.2.2.1 x.2.2.2.1
noncomputable def a190r:Nat→Option LoopAnn:=fun c=>bif Nat.beq c 0 then some (.fix h190r_L0 e190r_L0 s190r_L0) else none
noncomputable def g190r (x0:Ta43):Option Ta91 :=
(g197r x0.1).bind fun y1=>(fixO s190r_L0 (((),((),(x0.2.2.1,((x0.2.2.1.len:Int),((0:Int),()))))),(((nilL (.int .u32)),((0:Int),((nilL (.sl (.int .u8))),()))),(((),(x0.2.1,((nilL (.sl (.int .u8))),()))),y1.1)))).bind fun d4=>match d4 with | .inl y3=>some (((y3.2.2.2.2.2.1,(y3.2.2.1.2.1,y3.2.2.2.2.2.2)),()),()) | .inr e=>nomatch e
noncomputable def c190r:Ctr:={ ins:=[.v Ty154],out:=[Ty154],F:=fun x=>g190r x.1,fr:=1 }
noncomputable def l190r:List (Nat×Code):=loopsIn (Tryz.f190.body.getD .skip) 0
theorem w190r_L0:LW t190r a190r l190r 0 0 h190r_L0 e190r_L0 s190r_L0:=fun x=>by kernel_rfl
theorem o190r:Holds Tryz.prog 190 c190r:=fh t190r a190r Tryz.func190 [(0,lg l190r 0)] ⟨fun x d h=>(w190r_L0 x).trans h,trivial⟩ (tc o197r (tc o241r tn))
noncomputable def t259r:Tbl:=[]
noncomputable def g259r (x0:(L (Int×(Bool×Unit)))):Option (Ta20×Unit) :=
bif x0.nil then some (((nilL Ty57),()),()) else bif (decide ((L.of (Ty.zero Ty57) []).len + x0.len≤most)) then some (((L.app (L.of (Ty.zero Ty57) []) x0),()),()) else none
noncomputable def c259r:Ctr:={ ins:=[.v Ty76],out:=[Ty76],F:=fun x=>g259r x.1,fr:=1 }
theorem o259r:Holds Tryz.prog 259 c259r:=f0 t259r Tryz.func259 tn
noncomputable def t191r:Tbl:=[(259,[],c259r)]
abbrev h191r_L0:Shape:={ slots:=[(2,.bx 2 0),(3,.bx 3 0),(10,.v Ty97),(11,.v (.int .i64)),(12,.v (.int .i64))],boxes:=[(2,.cells [.v (.int .i64),.v (.int .i64),.v (.int .i64),.row Ty76 60131]),(3,.cells [.v (.int .i64),.v (.int .i64),.v (.int .i64),.row Ty76 60195])] }
abbrev e191r_L0:List (XT×Shape):=[(.exit 0,{ slots:=[(2,.bx 2 0),(3,.bx 3 0)],boxes:=[(2,.cells [.v (.int .i64),.v (.int .i64),.v (.int .i64),.ms 60131]),(3,.cells [.v (.int .i64),.v (.int .i64),.v (.int .i64),.ms 60195]),(60131,.row Ty76),(60195,.row Ty76)] })]
noncomputable def q191r_L0 (t10:Ta6) (t11:Int) (t12:Int) (b2_0:Int) (b2_1:Int) (b2_2:Int) (b2_3:Ta6) (b3_0:Int) (b3_1:Int) (b3_2:Int) (b3_3:Ta6):Option (((Unit×Ta102)×(Ta95×(Ta95×Unit)))⊕(((Unit×(Unit×Unit))×((Int×(Int×(Int×(Unit×Unit))))×((Int×(Int×(Int×(Unit×Unit))))×(Ta6×Ta37))))⊕Empty)) :=
bif (decide (t12 < t11)) then bif (decide (0≤t12)&&decide (t12 < (t10.len:Int))) then (g259r (L.get t10 t12.toNat)).bind fun y1=>bif (decide (b3_3.len + (L.of (Ty.zero Ty76) [y1.1.1]).len≤most)) then some (.inl (((),((),(t10,(t11,((wI (t12 + (1:Int))),()))))),((b2_0,(b2_1,(b2_2,(b2_3,())))),((b3_0,(b3_1,(b3_2,((L.app b3_3 (L.of (Ty.zero Ty76) [y1.1.1])),())))),())))) else none else none else some (.inr (.inl (((),((),())),((b2_0,(b2_1,(b2_2,((),())))),((b3_0,(b3_1,(b3_2,((),())))),(b2_3,(b3_3,())))))))
noncomputable def s191r_L0 (x:((Unit×Ta102)×(Ta95×(Ta95×Unit)))):=q191r_L0 x.1.2.2.1 x.1.2.2.2.1 x.1.2.2.2.2.1 x.2.1.1 x.2.1.2.1 x.2.1.2.2.1 x.2.1.2.2.2.1 x.2.2.1.1 x.2.2.1.2.1 x.2.2.1.2.2.1 x.2.2.1.2.2.2.1
noncomputable def a191r:Nat→Option LoopAnn:=fun c=>bif Nat.beq c 0 then some (.fix h191r_L0 e191r_L0 s191r_L0) else none
noncomputable def g191r (x0:Ta118):Option (Ta128×Unit) :=
(fixO s191r_L0 (((),((),(x0.2.1,((x0.2.1.len:Int),((0:Int),()))))),(((0:Int),((0:Int),((0:Int),((nilL Ty76),())))),((x0.1.1,(x0.1.2.1,(x0.1.2.2.1,((nilL Ty76),())))),())))).bind fun d3=>match d3 with | .inl y2=>some ((((y2.2.2.1.1,(y2.2.2.1.2.1,(y2.2.2.1.2.2.1,()))),y2.2.2.2.2),()),()) | .inr e=>nomatch e
noncomputable def c191r:Ctr:={ ins:=[.v Ty225],out:=[Ty225],F:=fun x=>g191r x.1,fr:=1 }
noncomputable def l191r:List (Nat×Code):=loopsIn (Tryz.f191.body.getD .skip) 0
theorem w191r_L0:LW t191r a191r l191r 0 0 h191r_L0 e191r_L0 s191r_L0:=fun x=>by kernel_rfl
theorem o191r:Holds Tryz.prog 191 c191r:=fh t191r a191r Tryz.func191 [(0,lg l191r 0)] ⟨fun x d h=>(w191r_L0 x).trans h,trivial⟩ (tc o259r tn)
noncomputable def t150r:Tbl:=[(241,[],c241r)]
abbrev h150r_L0:Shape:={ slots:=[(3,.row (.sl (.int .u8)) 50003),(6,.v (.sl (.sl (.int .u8)))),(7,.v (.int .i64)),(8,.v (.int .i64))],boxes:=[] }
abbrev e150r_L0:List (XT×Shape):=[(.exit 0,{ slots:=[(3,.ms 50003)],boxes:=[(50003,.row (.sl (.int .u8)))] })]
noncomputable def q150r_L0 (t3:(L (L Int))) (t6:(L (L Int))) (t7:Int) (t8:Int):Option ((((L (L Int))×Ta25)×Unit)⊕(Ta38⊕Empty)) :=
bif (decide (t8 < t7)) then bif (decide (0≤t8)&&decide (t8 < (t6.len:Int))) then (g241r (L.get t6 t8.toNat)).bind fun y1=>bif (decide (t3.len + (L.of (Ty.zero (.sl (.int .u8))) [y1.1.1]).len≤most)) then some (.inl (((L.app t3 (L.of (Ty.zero (.sl (.int .u8))) [y1.1.1])),(t6,(t7,((wI (t8 + (1:Int))),())))),())) else none else none else some (.inr (.inl (((),()),(t3,()))))
noncomputable def s150r_L0 (x:(((L (L Int))×Ta25)×Unit)):=q150r_L0 x.1.1 x.1.2.1 x.1.2.2.1 x.1.2.2.2.1
noncomputable def a150r:Nat→Option LoopAnn:=fun c=>bif Nat.beq c 0 then some (.fix h150r_L0 e150r_L0 s150r_L0) else none
noncomputable def g150r (x0:(L (L Int))):Option Ta8 :=
(fixO s150r_L0 (((nilL (.sl (.int .u8))),(x0,((x0.len:Int),((0:Int),())))),())).bind fun d3=>match d3 with | .inl y2=>some ((y2.2.1,()),()) | .inr e=>nomatch e
noncomputable def c150r:Ctr:={ ins:=[.v (.sl (.sl (.int .u8)))],out:=[(.sl (.sl (.int .u8)))],F:=fun x=>g150r x.1,fr:=1 }
noncomputable def l150r:List (Nat×Code):=loopsIn (Tryz.f150.body.getD .skip) 0
theorem w150r_L0:LW t150r a150r l150r 0 0 h150r_L0 e150r_L0 s150r_L0:=fun x=>by kernel_rfl
theorem o150r:Holds Tryz.prog 150 c150r:=fh t150r a150r Tryz.func150 [(0,lg l150r 0)] ⟨fun x d h=>(w150r_L0 x).trans h,trivial⟩ (tc o241r tn)
noncomputable def t192r:Tbl:=[]
noncomputable def g192r (x0:(L Int)):Option (((L Int)×Unit)×Unit) :=
bif x0.nil then some (((nilL (.int .i64)),()),()) else bif (decide ((L.of (Ty.zero (.int .i64)) []).len + x0.len≤most)) then some (((L.app (L.of (Ty.zero (.int .i64)) []) x0),()),()) else none
noncomputable def c192r:Ctr:={ ins:=[.v (.sl (.int .i64))],out:=[(.sl (.int .i64))],F:=fun x=>g192r x.1,fr:=1 }
theorem o192r:Holds Tryz.prog 192 c192r:=f0 t192r Tryz.func192 tn
noncomputable def t193w:Tbl:=[]
noncomputable def g193w (x0:Ta1):Option (Ta33×Unit) :=
bif x0.nil then some (((nilL Ty96),()),()) else bif (decide ((L.of (Ty.zero Ty96) []).len + x0.len≤most)) then some (((L.app (L.of (Ty.zero Ty96) []) x0),()),()) else none
noncomputable def c193w:Ctr:={ ins:=[.v Ty119],out:=[Ty119],F:=fun x=>g193w x.1,fr:=2 }
theorem o193w:Holds Tryz.prog 193 c193w:=f0 t193w Tryz.func193 tn
noncomputable def t194w:Tbl:=[]
noncomputable def g194w (x0:(L ((L Int)×Unit))):Option (Ta9×Unit) :=
bif x0.nil then some (((nilL Ty30),()),()) else bif (decide ((L.of (Ty.zero Ty30) []).len + x0.len≤most)) then some (((L.app (L.of (Ty.zero Ty30) []) x0),()),()) else none
noncomputable def c194w:Ctr:={ ins:=[.v Ty51],out:=[Ty51],F:=fun x=>g194w x.1,fr:=2 }
theorem o194w:Holds Tryz.prog 194 c194w:=f0 t194w Tryz.func194 tn
noncomputable def t195w:Tbl:=[]
noncomputable def g195w (x0:Ta18):Option (Ta46×Unit) :=
bif x0.nil then some (((nilL Ty117),()),()) else bif (decide ((L.of (Ty.zero Ty117) []).len + x0.len≤most)) then some (((L.app (L.of (Ty.zero Ty117) []) x0),()),()) else none
noncomputable def c195w:Ctr:={ ins:=[.v Ty125],out:=[Ty125],F:=fun x=>g195w x.1,fr:=2 }
theorem o195w:Holds Tryz.prog 195 c195w:=f0 t195w Tryz.func195 tn
noncomputable def t196r:Tbl:=[(197,[],c197r)]
noncomputable def g196r (x0:(Int×((L Int)×Unit))):Option Ta44 :=
(g197r x0.2.1).bind fun y1=>some (((x0.1,y1.1),()),())
noncomputable def c196r:Ctr:={ ins:=[.v Ty96],out:=[Ty96],F:=fun x=>g196r x.1,fr:=1 }
theorem o196r:Holds Tryz.prog 196 c196r:=f0 t196r Tryz.func196 (tc o197r tn)
noncomputable def t198r:Tbl:=[(197,[],c197r)]
noncomputable def g198r (x0:Ta2):Option Ta55 :=
(g197r x0.1).bind fun y1=>(g197r x0.2.1).bind fun y2=>some (((y1.1.1,y2.1),()),())
noncomputable def c198r:Ctr:={ ins:=[.v Ty117],out:=[Ty117],F:=fun x=>g198r x.1,fr:=1 }
theorem o198r:Holds Tryz.prog 198 c198r:=f0 t198r Tryz.func198 (tc o197r tn)
end Go.VE.VFnExactPartInput
