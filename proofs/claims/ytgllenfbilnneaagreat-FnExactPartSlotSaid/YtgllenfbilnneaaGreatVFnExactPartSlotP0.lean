import Derived.Test.YtgllenfbilnneaaGreatVk9
import Derived.Test.YtgllenfbilnneaaGreatProg
/- What the functions do that laws.FnExactPartSlot reaches, as plain functions, and that they do it. -/
set_option linter.unusedVariables false
set_option linter.unusedSimpArgs false
namespace Go.VE.VFnExactPartSlot
open Go.Proofs Go.VE
abbrev Ta0 : Type := (Int×((L (L Int))×Unit))
abbrev Ta1 : Type := (L (Int×((L Int)×Unit)))
abbrev Ta2 : Type := ((L Int)×((L Int)×Unit))
abbrev Ta3 : Type := (Bool×(Bool×(Int×Unit)))
abbrev Ta4 : Type := (Unit×(Unit×(Int×Unit)))
abbrev Ta5 : Type := ((L (L Int))×(Int×Unit))
abbrev Ty6 : Ty := (.pair (.int .i64) .unit)
abbrev Ta7 : Type := (L (L (Int×(Bool×Unit))))
abbrev Ty8 : Ty := (.pair (.int .u32) .unit)
abbrev Ta9 : Type := (((L (L Int))×Unit)×Unit)
abbrev Ta10 : Type := ((L ((L Int)×Unit))×Unit)
abbrev Ta11 : Type := (Bool×(Bool×(Bool×Unit)))
abbrev Ta12 : Type := (Unit×(Unit×(Unit×Unit)))
abbrev Ta13 : Type := (Unit×(Unit×(Bool×Unit)))
abbrev Ta14 : Type := (L (Int×(Int×(Int×Unit))))
abbrev Ta15 : Type := ((L Int)×(Int×(Int×Unit)))
abbrev Ta16 : Type := ((L Int)×(Unit×(Int×Unit)))
abbrev Ta17 : Type := ((Int×((L Int)×Unit))×Unit)
abbrev Ta18 : Type := ((Int×Unit)×((L Int)×Unit))
abbrev Ta19 : Type := (Int×(Int×(Int×(Int×Unit))))
abbrev Ta20 : Type := (L Ta2)
abbrev Ta21 : Type := ((Unit×Unit)×((L Int)×Unit))
abbrev Ta22 : Type := ((L (Int×(Bool×Unit)))×Unit)
abbrev Ta23 : Type := ((L Int)×((L (L Int))×Unit))
abbrev Ta24 : Type := (Int×(Int×(Int×(Bool×Unit))))
abbrev Ta25 : Type := ((Int×(Int×(Int×Unit)))×Unit)
abbrev Ta26 : Type := (Int×(Int×(Int×(Unit×Unit))))
abbrev Ta27 : Type := ((Int×Unit)×(Int×(Int×Unit)))
abbrev Ta28 : Type := ((L (L Int))×(Int×(Int×Unit)))
abbrev Ta29 : Type := (Int×Ta3)
abbrev Ta30 : Type := (Int×Ta4)
abbrev Ta31 : Type := (Unit×(Unit×(Int×(Int×Unit))))
abbrev Ta32 : Type := ((L Int)×((L Int)×(Int×Unit)))
abbrev Ty33 : Ty := (.pair (.sl (.int .u32)) .unit)
abbrev Ty34 : Ty := (.pair (.sl (.int .i64)) .unit)
abbrev Ta35 : Type := ((L (L Int))×(Unit×(Int×Unit)))
abbrev Ta36 : Type := (Ta1×Unit)
abbrev Ta37 : Type := (Ta2×Unit)
abbrev Ta38 : Type := (Unit×Ta4)
abbrev Ta39 : Type := (L Ta19)
abbrev Ta40 : Type := (Ta7×Unit)
abbrev Ta41 : Type := ((Unit×Unit)×((L (L Int))×Unit))
abbrev Ta42 : Type := (Unit×Ta12)
abbrev Ta43 : Type := (Ta14×Unit)
abbrev Ta44 : Type := (Ta15×Unit)
abbrev Ta45 : Type := (Int×Ta19)
abbrev Ta46 : Type := ((L Int)×Ta0)
abbrev Ta47 : Type := (Ta17×Unit)
abbrev Ta48 : Type := ((L (Int×(Bool×Unit)))×(Int×Unit))
abbrev Ta49 : Type := (Ta20×Unit)
abbrev Ty50 : Ty := (.pair (.sl (.sl (.int .u8))) .unit)
abbrev Ta51 : Type := (Int×Ta29)
abbrev Ta52 : Type := (Ta25×Unit)
abbrev Ta53 : Type := (Ta28×Unit)
abbrev Ty54 : Ty := (.sl Ty33)
abbrev Ta55 : Type := ((L ((L Int)×Unit))×(Int×(Int×Unit)))
abbrev Ta56 : Type := (Unit×Ta28)
abbrev Ta57 : Type := (Unit×Ta31)
abbrev Ta58 : Type := (Ta32×Unit)
abbrev Ta59 : Type := (Ta37×Unit)
abbrev Ta60 : Type := (Int×Ta40)
abbrev Ty61 : Ty := (.pair (.int .i64) (.pair .bool .unit))
abbrev Ty62 : Ty := (.pair .bool Ty8)
abbrev Ta63 : Type := (Ta39×Unit)
abbrev Ta64 : Type := (Ta14×(Int×Unit))
abbrev Ta65 : Type := (Bool×Ta42)
abbrev Ta66 : Type := (Int×Ta45)
abbrev Ta67 : Type := (Ta43×Unit)
abbrev Ta68 : Type := ((L (Int×(Bool×Unit)))×(Int×(Int×Unit)))
abbrev Ta69 : Type := (Int×Ta48)
abbrev Ta70 : Type := ((Unit×(Int×(Int×Unit)))×((L Int)×Unit))
abbrev Ta71 : Type := (Ta46×Unit)
abbrev Ta72 : Type := (Int×Ta51)
abbrev Ta73 : Type := (Unit×Ta49)
abbrev Ta74 : Type := (Ta1×(Int×(Int×Unit)))
abbrev Ta75 : Type := (Ta7×(Int×(Int×Unit)))
abbrev Ta76 : Type := (Ta55×Unit)
abbrev Ta77 : Type := (Ta16×((L Int)×Unit))
abbrev Ta78 : Type := (Int×Ta60)
abbrev Ta79 : Type := (Unit×Ta57)
abbrev Ty80 : Ty := (.sl Ty61)
abbrev Ty81 : Ty := (.pair (.int .i64) Ty6)
abbrev Ta82 : Type := (Ta14×(Int×(Int×Unit)))
abbrev Ta83 : Type := (Int×Ta65)
abbrev Ta84 : Type := ((L (L Int))×Ta36)
abbrev Ta85 : Type := (Int×Ta66)
abbrev Ta86 : Type := (Ta14×(Unit×(Int×Unit)))
abbrev Ta87 : Type := (Ta64×Unit)
abbrev Ta88 : Type := (Int×Ta68)
abbrev Ta89 : Type := ((Int×Unit)×Ta43)
abbrev Ta90 : Type := (Ta20×(Int×(Int×Unit)))
abbrev Ta91 : Type := ((Unit×Unit)×Ta43)
abbrev Ta92 : Type := (Unit×Ta69)
abbrev Ta93 : Type := ((Unit×(Int×Unit))×Ta17)
abbrev Ta94 : Type := (Int×Ta72)
abbrev Ta95 : Type := (Ta71×Unit)
abbrev Ta96 : Type := (Ta25×(Int×(Int×Unit)))
abbrev Ta97 : Type := (Unit×Ta73)
abbrev Ta98 : Type := (Ta74×Unit)
abbrev Ta99 : Type := (Int×Ta78)
abbrev Ty100 : Ty := (.pair (.int .i64) Ty33)
abbrev Ty101 : Ty := (.sl Ty80)
abbrev Ta102 : Type := (Ta75×Unit)
abbrev Ty103 : Ty := (.pair (.int .i64) Ty34)
abbrev Ta104 : Type := (Int×Ta82)
abbrev Ta105 : Type := (Ta39×(Int×(Int×Unit)))
abbrev Ta106 : Type := (Unit×Ta75)
abbrev Ta107 : Type := (Unit×Ta79)
abbrev Ta108 : Type := ((Int×(Int×Unit))×Ta43)
abbrev Ta109 : Type := (Ta35×((L (L Int))×Unit))
abbrev Ta110 : Type := (Unit×Ta83)
abbrev Ta111 : Type := (Ta1×Ta10)
abbrev Ty112 : Ty := (.pair .bool Ty62)
abbrev Ta113 : Type := (Ta85×Unit)
abbrev Ta114 : Type := ((Unit×(Int×Unit))×Ta43)
abbrev Ta115 : Type := (Ta90×Unit)
abbrev Ta116 : Type := (Bool×Ta94)
abbrev Ta117 : Type := ((L Int)×Ta84)
abbrev Ty118 : Ty := (.pair (.int .u32) Ty50)
abbrev Ta119 : Type := ((L ((L Int)×Unit))×Ta49)
abbrev Ta120 : Type := (Unit×Ta97)
abbrev Ty121 : Ty := (.pair (.sl (.int .u32)) Ty33)
abbrev Ta122 : Type := ((Int×(Int×(Int×Unit)))×Ta40)
abbrev Ty123 : Ty := (.sl Ty100)
abbrev Ta124 : Type := (Ta99×Unit)
abbrev Ta125 : Type := (Int×Ta108)
abbrev Ta126 : Type := (Int×Ta110)
abbrev Ta127 : Type := (Unit×Ta107)
abbrev Ty128 : Ty := (.pair (.int .i64) Ty61)
abbrev Ta129 : Type := ((Unit×(Int×(Int×Unit)))×Ta43)
abbrev Ta130 : Type := (Ta116×Unit)
abbrev Ty131 : Ty := (.sl Ty121)
abbrev Ta132 : Type := (Unit×Ta119)
abbrev Ta133 : Type := (Bool×Ta120)
abbrev Ta134 : Type := (Ta122×Unit)
abbrev Ty135 : Ty := (.pair (.int .i64) Ty81)
abbrev Ty136 : Ty := (.pair Ty101 .unit)
abbrev Ta137 : Type := (Unit×Ta126)
abbrev Ta138 : Type := ((L (L Int))×Ta111)
abbrev Ta139 : Type := (Ta39×Ta43)
abbrev Ta140 : Type := (Ta14×Ta64)
abbrev Ta141 : Type := (Ta130×Unit)
abbrev Ta142 : Type := (Int×Ta133)
abbrev Ta143 : Type := (ByteArray×Ta125)
abbrev Ta144 : Type := (Unit×Ta132)
abbrev Ty145 : Ty := (.sl Ty135)
abbrev Ta146 : Type := (Ta134×Unit)
abbrev Ta147 : Type := (Int×Ta137)
abbrev Ty148 : Ty := (.pair (.int .u32) Ty112)
abbrev Ta149 : Type := (L Ta143)
abbrev Ta150 : Type := (Ta140×Unit)
abbrev Ta151 : Type := (Unit×Ta142)
abbrev Ta152 : Type := ((L Int)×Ta138)
abbrev Ty153 : Ty := (.pair Ty131 .unit)
abbrev Ta154 : Type := (Ta143×Unit)
abbrev Ta155 : Type := (Int×Ta147)
abbrev Ta156 : Type := (Bool×Ta144)
abbrev Ta157 : Type := (Ta14×Ta96)
abbrev Ta158 : Type := ((L Int)×Ta139)
abbrev Ty159 : Ty := (.pair (.int .i64) Ty128)
abbrev Ta160 : Type := ((Unit×(Int×(Int×Unit)))×Ta113)
abbrev Ta161 : Type := (Ta149×Unit)
abbrev Ty162 : Ty := (.pair (.sl (.int .u32)) Ty118)
abbrev Ta163 : Type := (Ta86×Ta43)
abbrev Ta164 : Type := (Int×Ta151)
abbrev Ta165 : Type := (Ta1×Ta119)
abbrev Ta166 : Type := (Int×Ta155)
abbrev Ta167 : Type := (Int×Ta156)
abbrev Ta168 : Type := (Ta7×Ta117)
abbrev Ta169 : Type := ((Unit×(Int×Unit))×Ta134)
abbrev Ta170 : Type := (Ta157×Unit)
abbrev Ty171 : Ty := (.pair Ty145 .unit)
abbrev Ty172 : Ty := (.pair (.int .i64) Ty135)
abbrev Ta173 : Type := (Unit×Ta164)
abbrev Ta174 : Type := (Bool×Ta166)
abbrev Ta175 : Type := (Unit×Ta167)
abbrev Ta176 : Type := (Unit×Ta165)
abbrev Ty177 : Ty := (.sl Ty172)
abbrev Ta178 : Type := (Ta149×(Int×(Int×Unit)))
abbrev Ty179 : Ty := (.pair (.int .u32) Ty148)
abbrev Ta180 : Type := (Ta149×(Unit×(Int×Unit)))
abbrev Ta181 : Type := (Int×Ta173)
abbrev Ta182 : Type := (Int×Ta174)
abbrev Ta183 : Type := (Int×Ta175)
abbrev Ta184 : Type := ((L (L Int))×Ta165)
abbrev Ta185 : Type := ((L (L Int))×Ta168)
abbrev Ta186 : Type := (Bool×Ta176)
abbrev Ta187 : Type := (Int×Ta181)
abbrev Ta188 : Type := (Int×Ta182)
abbrev Ta189 : Type := (Unit×Ta183)
abbrev Ta190 : Type := (Int×Ta186)
abbrev Ta191 : Type := (Bool×Ta184)
abbrev Ta192 : Type := (Ta7×Ta152)
abbrev Ty193 : Ty := (.pair (.int .i64) Ty172)
abbrev Ta194 : Type := (Ta14×Ta154)
abbrev Ta195 : Type := ((L Int)×Ta185)
abbrev Ta196 : Type := (Int×Ta187)
abbrev Ta197 : Type := ((L Int)×Ta184)
abbrev Ta198 : Type := (Int×Ta188)
abbrev Ta199 : Type := (Int×Ta189)
abbrev Ta200 : Type := (Int×Ta191)
abbrev Ta201 : Type := (Ta99×Ta124)
abbrev Ta202 : Type := (Unit×Ta190)
abbrev Ty203 : Ty := (.pair (.int .u32) Ty179)
abbrev Ta204 : Type := (Ta92×Ta134)
abbrev Ta205 : Type := (Int×Ta198)
abbrev Ta206 : Type := (Bool×Ta196)
abbrev Ta207 : Type := (Int×Ta199)
abbrev Ta208 : Type := (Int×Ta202)
abbrev Ta209 : Type := ((L (L Int))×Ta192)
abbrev Ta210 : Type := (Ta106×Ta134)
abbrev Ta211 : Type := ((L Int)×Ta200)
abbrev Ta212 : Type := (Int×Ta206)
abbrev Ta213 : Type := (Bool×Ta205)
abbrev Ta214 : Type := (Int×Ta207)
abbrev Ty215 : Ty := (.pair Ty54 Ty153)
abbrev Ta216 : Type := (Unit×Ta208)
abbrev Ty217 : Ty := (.pair (.int .i64) Ty193)
abbrev Ta218 : Type := (Int×Ta211)
abbrev Ta219 : Type := (Int×Ta212)
abbrev Ta220 : Type := (Bool×Ta213)
abbrev Ta221 : Type := (Bool×Ta214)
abbrev Ta222 : Type := ((L Int)×Ta209)
abbrev Ta223 : Type := (Int×Ta216)
abbrev Ta224 : Type := (Int×Ta219)
abbrev Ta225 : Type := ((Int×((L Int)×Unit))×Ta200)
abbrev Ty226 : Ty := (.pair (.int .u32) Ty203)
abbrev Ta227 : Type := (Int×Ta220)
abbrev Ta228 : Type := (Int×Ta221)
abbrev Ta229 : Type := (Ta7×Ta197)
abbrev Ta230 : Type := (Int×Ta223)
abbrev Ta231 : Type := (Ta20×Ta195)
abbrev Ta232 : Type := (Int×Ta224)
abbrev Ty233 : Ty := (.pair Ty81 Ty171)
abbrev Ty234 : Ty := (.pair Ty135 Ty136)
abbrev Ta235 : Type := (Int×Ta227)
abbrev Ta236 : Type := (Int×Ta228)
abbrev Ta237 : Type := (Int×Ta230)
abbrev Ty238 : Ty := (.pair (.int .i64) Ty217)
abbrev Ta239 : Type := (Bool×Ta232)
abbrev Ta240 : Type := (Int×Ta235)
abbrev Ta241 : Type := (Int×Ta236)
abbrev Ty242 : Ty := (.pair .bool Ty226)
abbrev Ta243 : Type := (Bool×Ta237)
abbrev Ta244 : Type := ((L (L Int))×Ta229)
abbrev Ta245 : Type := (Int×Ta240)
abbrev Ta246 : Type := (Int×Ta241)
abbrev Ta247 : Type := (Bool×Ta239)
abbrev Ta248 : Type := (Ta7×Ta218)
abbrev Ta249 : Type := (Int×Ta243)
abbrev Ta250 : Type := (Ta149×Ta158)
abbrev Ta251 : Type := (Int×Ta247)
abbrev Ty252 : Ty := (.pair (.int .i64) Ty233)
abbrev Ta253 : Type := (Bool×Ta245)
abbrev Ta254 : Type := (Bool×Ta246)
abbrev Ta255 : Type := ((L ((L Int)×Unit))×Ta231)
abbrev Ta256 : Type := (Ta20×Ta222)
abbrev Ta257 : Type := ((L Int)×Ta244)
abbrev Ta258 : Type := (Int×Ta248)
abbrev Ta259 : Type := (Int×Ta249)
abbrev Ta260 : Type := (Int×Ta250)
abbrev Ta261 : Type := (Int×Ta251)
abbrev Ta262 : Type := (Int×Ta258)
abbrev Ta263 : Type := (Unit×Ta253)
abbrev Ta264 : Type := (Bool×Ta254)
abbrev Ta265 : Type := (Int×Ta259)
abbrev Ta266 : Type := (Int×Ta260)
abbrev Ta267 : Type := (Int×Ta261)
abbrev Ty268 : Ty := (.pair .str Ty252)
abbrev Ta269 : Type := (Int×Ta262)
abbrev Ta270 : Type := (Int×Ta263)
abbrev Ta271 : Type := (Int×Ta264)
abbrev Ta272 : Type := (Int×Ta265)
abbrev Ta273 : Type := (Int×Ta266)
abbrev Ta274 : Type := ((L (L Int))×Ta257)
abbrev Ta275 : Type := (Int×Ta267)
abbrev Ty276 : Ty := (.sl Ty268)
abbrev Ta277 : Type := (Int×Ta271)
abbrev Ta278 : Type := (Bool×Ta269)
abbrev Ta279 : Type := (Unit×Ta270)
abbrev Ta280 : Type := (Bool×Ta272)
abbrev Ta281 : Type := ((L ((L Int)×Unit))×Ta256)
abbrev Ta282 : Type := (Bool×Ta275)
abbrev Ta283 : Type := ((L Int)×Ta274)
abbrev Ta284 : Type := (Int×Ta277)
abbrev Ty285 : Ty := (.pair Ty177 Ty171)
abbrev Ta286 : Type := (Int×Ta278)
abbrev Ta287 : Type := (Ta1×Ta255)
abbrev Ta288 : Type := (Bool×Ta280)
abbrev Ty289 : Ty := (.pair Ty123 Ty215)
abbrev Ta290 : Type := (Int×Ta284)
abbrev Ta291 : Type := (Unit×Ta282)
abbrev Ta292 : Type := (Ta20×Ta257)
abbrev Ta293 : Type := (Int×Ta286)
abbrev Ta294 : Type := (Int×Ta288)
abbrev Ta295 : Type := (Ta122×Ta225)
abbrev Ta296 : Type := (Int×Ta291)
abbrev Ta297 : Type := (Int×Ta293)
abbrev Ta298 : Type := (Bool×Ta290)
abbrev Ta299 : Type := (Int×Ta294)
abbrev Ta300 : Type := ((L (L Int))×Ta287)
abbrev Ta301 : Type := (Int×Ta297)
abbrev Ta302 : Type := (Unit×Ta296)
abbrev Ta303 : Type := (Unit×Ta298)
abbrev Ta304 : Type := (Int×Ta299)
abbrev Ta305 : Type := (Ta1×Ta281)
abbrev Ta306 : Type := (Bool×Ta301)
abbrev Ta307 : Type := (Int×Ta303)
abbrev Ta308 : Type := ((L Int)×Ta300)
abbrev Ta309 : Type := (Int×Ta304)
abbrev Ty310 : Ty := (.pair (.sl (.int .i64)) Ty285)
abbrev Ta311 : Type := ((L ((L Int)×Unit))×Ta292)
abbrev Ta312 : Type := (Ta7×Ta283)
abbrev Ta313 : Type := (Bool×Ta306)
abbrev Ta314 : Type := (Unit×Ta307)
abbrev Ta315 : Type := (Bool×Ta309)
abbrev Ty316 : Ty := (.pair (.sl (.sl (.int .u8))) Ty289)
abbrev Ta317 : Type := ((L (L Int))×Ta305)
abbrev Ta318 : Type := (Ta85×Ta273)
abbrev Ta319 : Type := (Int×Ta313)
abbrev Ta320 : Type := (Unit×Ta315)
abbrev Ta321 : Type := (Ta24×Ta295)
abbrev Ta322 : Type := ((L (L Int))×Ta312)
abbrev Ta323 : Type := (Int×Ta318)
abbrev Ta324 : Type := (Int×Ta319)
abbrev Ta325 : Type := (Int×Ta320)
abbrev Ta326 : Type := ((L Int)×Ta317)
abbrev Ty327 : Ty := (.pair .bool Ty316)
abbrev Ta328 : Type := (Int×Ta324)
abbrev Ta329 : Type := ((L Int)×Ta322)
abbrev Ta330 : Type := (Unit×Ta325)
abbrev Ta331 : Type := (Ta7×Ta308)
abbrev Ta332 : Type := (Ta1×Ta311)
abbrev Ta333 : Type := (Int×Ta328)
abbrev Ta334 : Type := (Bool×Ta333)
abbrev Ta335 : Type := ((L (L Int))×Ta331)
abbrev Ta336 : Type := ((L (L Int))×Ta332)
abbrev Ta337 : Type := ((Int×(Int×(Int×Unit)))×Ta323)
abbrev Ty338 : Ty := (.pair (.int .i64) Ty327)
abbrev Ta339 : Type := (Int×Ta337)
abbrev Ta340 : Type := (Ta7×Ta326)
abbrev Ta341 : Type := ((L (L Int))×Ta334)
abbrev Ta342 : Type := ((L Int)×Ta335)
abbrev Ta343 : Type := ((L Int)×Ta336)
abbrev Ta344 : Type := (Ta339×Unit)
abbrev Ta345 : Type := (Int×Ta341)
abbrev Ta346 : Type := ((L (L Int))×Ta340)
abbrev Ta347 : Type := ((L Int)×Ta345)
abbrev Ta348 : Type := ((Unit×Unit)×Ta344)
abbrev Ta349 : Type := (Ta116×Ta321)
abbrev Ta350 : Type := ((L Int)×Ta346)
abbrev Ta351 : Type := ((Unit×(Int×Unit))×Ta344)
abbrev Ta352 : Type := (Ta7×Ta343)
abbrev Ta353 : Type := ((Unit×(Int×(Int×Unit)))×Ta344)
abbrev Ta354 : Type := ((L (L Int))×Ta352)
abbrev Ty355 : Ty := (.pair Ty103 Ty338)
abbrev Ta356 : Type := ((L Int)×Ta354)
abbrev Ta357 : Type := (Ta46×Ta349)
abbrev Ta358 : Type := (Ta357×Unit)
abbrev Ta359 : Type := (Ta358×Unit)
abbrev Ta360 : Type := (Ta339×Ta194)
abbrev Ty361 : Ty := (.pair Ty276 Ty310)
abbrev Ty362 : Ty := (.pair (.int .i64) Ty361)
abbrev Ty363 : Ty := (.pair (.int .i64) Ty362)
abbrev Ty364 : Ty := (.pair (.int .i64) Ty363)
abbrev Ty365 : Ty := (.pair Ty234 Ty355)
abbrev Ta366 : Type := (Ta314×Ta342)
abbrev Ta367 : Type := (Ta302×Ta350)
abbrev Ta368 : Type := (Ta279×Ta356)
abbrev Ty369 : Ty := (.pair Ty159 Ty365)
abbrev Ta370 : Type := (Ta339×Ta358)
abbrev Ty371 : Ty := (.pair Ty238 Ty364)
abbrev Ta372 : Type := (Ta30×Ta370)
abbrev Ty373 : Ty := (.pair (.int .i64) Ty371)
abbrev Ta374 : Type := (Ta279×Ta366)
abbrev Ta375 : Type := (Ta279×Ta367)
abbrev Ta376 : Type := (Ta279×Ta368)
abbrev Ty377 : Ty := (.pair Ty135 Ty373)
abbrev Ty378 : Ty := (.pair Ty242 Ty369)
abbrev Ty379 : Ty := (.pair (.int .i64) Ty377)
abbrev Ty380 : Ty := (.pair Ty162 Ty378)
abbrev Ta381 : Type := (Ta357×Ta374)
abbrev Ta382 : Type := (Ta357×Ta375)
def om {α β : Type} (f : α → β) (o : Option α) : Option β := match o with
  | some y => some (f y)
  | none => none
def ob {α β : Type} (o : Option α) (f : α → Option β) : Option β := match o with
  | some y => f y
  | none => none
def Γ : TypeId → Option Ty := fun e => bif Nat.beq e 3 then some (.int .i64) else bif Nat.beq e 5 then some (.int .u8) else bif Nat.beq e 35 then some (.sl (.int .u32)) else bif Nat.beq e 36 then some (.int .u32) else bif Nat.beq e 90 then some (.sl (.int .u8)) else bif Nat.beq e 96 then some Ty121 else bif Nat.beq e 173 then some Ty80 else bif Nat.beq e 175 then some Ty100 else bif Nat.beq e 177 then some Ty33 else bif Nat.beq e 179 then some Ty61 else bif Nat.beq e 186 then some Ty268 else bif Nat.beq e 191 then some Ty268 else bif Nat.beq e 194 then some Ty172 else bif Nat.beq e 196 then some Ty172 else bif Nat.beq e 198 then some Ty135 else bif Nat.beq e 200 then some Ty135 else bif Nat.beq e 208 then some Ty135 else bif Nat.beq e 222 then some Ty100 else bif Nat.beq e 224 then some Ty33 else bif Nat.beq e 226 then some Ty121 else bif Nat.beq e 282 then some Ty80 else bif Nat.beq e 333 then some Ty135 else bif Nat.beq e 342 then some Ty61 else none
theorem gamOk : GamOk Tryz.prog Γ := gamOk_of [3, 5, 35, 36, 90, 96, 173, 175, 177, 179, 186, 191, 194, 196, 198, 200, 208, 222, 224, 226, 282, 333, 342] (fun e ty h => by
  simp only [Γ] at h
  cases h3 : Nat.beq e 3 with
  | true => simp [Nat.eq_of_beq_eq_true h3]
  | false =>
  simp only [h3, cond_false] at h
  cases h5 : Nat.beq e 5 with
  | true => simp [Nat.eq_of_beq_eq_true h5]
  | false =>
  simp only [h5, cond_false] at h
  cases h35 : Nat.beq e 35 with
  | true => simp [Nat.eq_of_beq_eq_true h35]
  | false =>
  simp only [h35, cond_false] at h
  cases h36 : Nat.beq e 36 with
  | true => simp [Nat.eq_of_beq_eq_true h36]
  | false =>
  simp only [h36, cond_false] at h
  cases h90 : Nat.beq e 90 with
  | true => simp [Nat.eq_of_beq_eq_true h90]
  | false =>
  simp only [h90, cond_false] at h
  cases h96 : Nat.beq e 96 with
  | true => simp [Nat.eq_of_beq_eq_true h96]
  | false =>
  simp only [h96, cond_false] at h
  cases h173 : Nat.beq e 173 with
  | true => simp [Nat.eq_of_beq_eq_true h173]
  | false =>
  simp only [h173, cond_false] at h
  cases h175 : Nat.beq e 175 with
  | true => simp [Nat.eq_of_beq_eq_true h175]
  | false =>
  simp only [h175, cond_false] at h
  cases h177 : Nat.beq e 177 with
  | true => simp [Nat.eq_of_beq_eq_true h177]
  | false =>
  simp only [h177, cond_false] at h
  cases h179 : Nat.beq e 179 with
  | true => simp [Nat.eq_of_beq_eq_true h179]
  | false =>
  simp only [h179, cond_false] at h
  cases h186 : Nat.beq e 186 with
  | true => simp [Nat.eq_of_beq_eq_true h186]
  | false =>
  simp only [h186, cond_false] at h
  cases h191 : Nat.beq e 191 with
  | true => simp [Nat.eq_of_beq_eq_true h191]
  | false =>
  simp only [h191, cond_false] at h
  cases h194 : Nat.beq e 194 with
  | true => simp [Nat.eq_of_beq_eq_true h194]
  | false =>
  simp only [h194, cond_false] at h
  cases h196 : Nat.beq e 196 with
  | true => simp [Nat.eq_of_beq_eq_true h196]
  | false =>
  simp only [h196, cond_false] at h
  cases h198 : Nat.beq e 198 with
  | true => simp [Nat.eq_of_beq_eq_true h198]
  | false =>
  simp only [h198, cond_false] at h
  cases h200 : Nat.beq e 200 with
  | true => simp [Nat.eq_of_beq_eq_true h200]
  | false =>
  simp only [h200, cond_false] at h
  cases h208 : Nat.beq e 208 with
  | true => simp [Nat.eq_of_beq_eq_true h208]
  | false =>
  simp only [h208, cond_false] at h
  cases h222 : Nat.beq e 222 with
  | true => simp [Nat.eq_of_beq_eq_true h222]
  | false =>
  simp only [h222, cond_false] at h
  cases h224 : Nat.beq e 224 with
  | true => simp [Nat.eq_of_beq_eq_true h224]
  | false =>
  simp only [h224, cond_false] at h
  cases h226 : Nat.beq e 226 with
  | true => simp [Nat.eq_of_beq_eq_true h226]
  | false =>
  simp only [h226, cond_false] at h
  cases h282 : Nat.beq e 282 with
  | true => simp [Nat.eq_of_beq_eq_true h282]
  | false =>
  simp only [h282, cond_false] at h
  cases h333 : Nat.beq e 333 with
  | true => simp [Nat.eq_of_beq_eq_true h333]
  | false =>
  simp only [h333, cond_false] at h
  cases h342 : Nat.beq e 342 with
  | true => simp [Nat.eq_of_beq_eq_true h342]
  | false =>
  simp only [h342, cond_false] at h
  cases h) (by kernel_rfl)
theorem mo : Tryz.prog.follows .mixedOrders = true := by kernel_rfl
theorem tn : TblOk Tryz.prog [] := tblOk_nil
theorem tc {f : Nat} {gs : List Nat} {c : Ctr} {r : Tbl} (h : Holds Tryz.prog f c) (hr : TblOk Tryz.prog r) : TblOk Tryz.prog ((f, gs, c) :: r) := tblOk_cons h hr
noncomputable def a0 : Nat → Option LoopAnn := fun _ => none
noncomputable def lg (l : List (Nat × Code)) (j : Nat) : Code := (l.getD j (0, .skip)).2
abbrev LW (T : Tbl) (A : Nat → Option LoopAnn) (l : List (Nat × Code)) (j ctx : Nat) (h : Shape) (es : List (XT × Shape)) (s : h.T → Option (h.T ⊕ ExT es)) : Prop := ∀ x : h.T, runK Tryz.prog Γ T A (lg l j) ctx (pkSh h x) (loopCls (sh := h) (es := es)) = (s x : Option _)
section
variable {k : Nat} {fn : Func} {c : Ctr}
theorem fhT (T : Tbl) (A : Nat → Option LoopAnn) (G : InsT c.ins → Option (TysT c.out × PtT c.ins)) (hf : Tryz.prog.funcs[k]? = some fn) (l : List (Nat × Code)) (hl : LoopsOk Tryz.prog Γ T A l) (hT : TblOk Tryz.prog T) (hn : ∀ x, G x = c.F x) (hr : ∀ x, fnK Tryz.prog Γ T A fn c x = G x := by intro x; kernel_rfl) (he : loopsIn (fn.body.getD .skip) 0 = l := by kernel_rfl) (h1 : (fn.name == "runtime.NumGoroutine") = false := by kernel_rfl) (h2 : fn.body = some (fn.body.getD .skip) := by kernel_rfl)
    (h3 : Nat.ble c.ins.length fn.ntmps = true := by kernel_rfl) (h4 : dstsOk fn.ntmps (fn.body.getD .skip) = true := by kernel_rfl) : Holds Tryz.prog k c :=
  fn_holds (code := fn.body.getD .skip) mo gamOk hT hf h1 h2 h3 h4 (by rw [he]; exact hl) (fun x _ h => (hr x).trans ((hn x).trans h))
theorem fh (T : Tbl) (A : Nat → Option LoopAnn) (hf : Tryz.prog.funcs[k]? = some fn) (l : List (Nat × Code)) (hl : LoopsOk Tryz.prog Γ T A l) (hT : TblOk Tryz.prog T) (hr : ∀ x, fnK Tryz.prog Γ T A fn c x = c.F x := by intro x; kernel_rfl) (he : loopsIn (fn.body.getD .skip) 0 = l := by kernel_rfl) (h1 : (fn.name == "runtime.NumGoroutine") = false := by kernel_rfl) (h2 : fn.body = some (fn.body.getD .skip) := by kernel_rfl)
    (h3 : Nat.ble c.ins.length fn.ntmps = true := by kernel_rfl) (h4 : dstsOk fn.ntmps (fn.body.getD .skip) = true := by kernel_rfl) : Holds Tryz.prog k c := fhT T A c.F hf l hl hT (fun _ => rfl) hr he h1 h2 h3 h4
theorem f0T (T : Tbl) (G : InsT c.ins → Option (TysT c.out × PtT c.ins)) (hf : Tryz.prog.funcs[k]? = some fn) (hT : TblOk Tryz.prog T) (hn : ∀ x, G x = c.F x) (hr : ∀ x, fnK Tryz.prog Γ T a0 fn c x = G x := by intro x; kernel_rfl) (he : loopsIn (fn.body.getD .skip) 0 = [] := by kernel_rfl) (h1 : (fn.name == "runtime.NumGoroutine") = false := by kernel_rfl) (h2 : fn.body = some (fn.body.getD .skip) := by kernel_rfl)
    (h3 : Nat.ble c.ins.length fn.ntmps = true := by kernel_rfl) (h4 : dstsOk fn.ntmps (fn.body.getD .skip) = true := by kernel_rfl) : Holds Tryz.prog k c := fhT T a0 G hf [] trivial hT hn hr he h1 h2 h3 h4
theorem f0 (T : Tbl) (hf : Tryz.prog.funcs[k]? = some fn) (hT : TblOk Tryz.prog T) (hr : ∀ x, fnK Tryz.prog Γ T a0 fn c x = c.F x := by intro x; kernel_rfl) (he : loopsIn (fn.body.getD .skip) 0 = [] := by kernel_rfl) (h1 : (fn.name == "runtime.NumGoroutine") = false := by kernel_rfl) (h2 : fn.body = some (fn.body.getD .skip) := by kernel_rfl)
    (h3 : Nat.ble c.ins.length fn.ntmps = true := by kernel_rfl) (h4 : dstsOk fn.ntmps (fn.body.getD .skip) = true := by kernel_rfl) : Holds Tryz.prog k c := fhT T a0 c.F hf [] trivial hT (fun _ => rfl) hr he h1 h2 h3 h4
end
noncomputable def t219:Tbl:=[]
noncomputable def g219 (x0:Ta14) (x1:Int):Option ((Int×Unit)×Unit) :=
bif (decide ((wI (x1 - (x0.len:Int))) < (0:Int))) then some (((-1:Int),()),()) else some (((wI (x1 - (x0.len:Int))),()),())
noncomputable def f219 (x0:Ta14) (x1:Int):Int :=
bif (decide ((wI (x1 - (x0.len:Int))) < (0:Int))) then (-1:Int) else (wI (x1 - (x0.len:Int)))
theorem n219 (x0:Ta14) (x1:Int):g219 x0 x1 = some ((f219 x0 x1,()),()):=by simp only [g219,f219,pull1]
noncomputable def c219:Ctr:={ ins:=[.v Ty145,.v (.int .i64)],out:=[(.int .i64)],F:=fun x=>some ((f219 x.1 x.2.1,()),()) }
theorem o219:Holds Tryz.prog 219 c219:=f0T t219 (fun x=>g219 x.1 x.2.1) Tryz.func219 tn (fun x=>n219 x.1 x.2.1)
noncomputable def t126:Tbl:=[(219,[],c219)]
noncomputable def g126 (x0:Ta143) (x1:Int):Option ((Int×Unit)×Unit) :=
bif (decide ((wI (x1 - (x0.1.size:Int))) < (0:Int))) then some (((-1:Int),()),()) else bif (decide ((f219 x0.2.2.2.1 (wI (x1 - (x0.1.size:Int)))) < (0:Int))) then some (((-1:Int),()),()) else some (((f219 x0.2.2.2.1 (wI (x1 - (x0.1.size:Int)))),()),())
noncomputable def f126 (x0:Ta143) (x1:Int):Int :=
bif (decide ((wI (x1 - (x0.1.size:Int))) < (0:Int))) then (-1:Int) else bif (decide ((f219 x0.2.2.2.1 (wI (x1 - (x0.1.size:Int)))) < (0:Int))) then (-1:Int) else (f219 x0.2.2.2.1 (wI (x1 - (x0.1.size:Int))))
theorem n126 (x0:Ta143) (x1:Int):g126 x0 x1 = some ((f126 x0 x1,()),()):=by simp only [g126,f126,pull1]
noncomputable def c126:Ctr:={ ins:=[.v Ty268,.v (.int .i64)],out:=[(.int .i64)],F:=fun x=>some ((f126 x.1 x.2.1,()),()) }
theorem o126:Holds Tryz.prog 126 c126:=f0T t126 (fun x=>g126 x.1 x.2.1) Tryz.func126 (tc o219 tn) (fun x=>n126 x.1 x.2.1)
noncomputable def t40:Tbl:=[(126,[],c126)]
abbrev h40_L0:Shape:={ slots:=[(0,.v Ty276),(1,.v (.int .i64)),(5,.v (.int .i64))],boxes:=[] }
abbrev e40_L0:List (XT×Shape):=[(.ret,{ slots:=[(4,.v (.int .i64))],boxes:=[] }),(.exit 0,{ slots:=[(1,.v (.int .i64))],boxes:=[] })]
noncomputable def q40_L0 (t0:Ta149) (t1:Int) (t5:Int):Option ((Ta178×Unit)⊕(((Int×Unit)×Unit)⊕(((Int×Unit)×Unit)⊕Empty))) :=
bif (decide (t5 < (t0.len:Int))) then bif (decide (0≤t5)&&decide (t5 < (t0.len:Int))) then bif (decide ((f126 (L.get t0 t5.toNat) t1) < (0:Int))) then some (.inr (.inl (((-1:Int),()),()))) else some (.inl ((t0,((f126 (L.get t0 t5.toNat) t1),((wI (t5 + (1:Int))),()))),())) else none else some (.inr (.inr (.inl ((t1,()),()))))
noncomputable def s40_L0 (x:(Ta178×Unit)):=q40_L0 x.1.1 x.1.2.1 x.1.2.2.1
noncomputable def a40:Nat→Option LoopAnn:=fun c=>bif Nat.beq c 0 then some (.fix h40_L0 e40_L0 s40_L0) else none
noncomputable def g40 (x0:Ta149) (x1:Int):Option ((Int×Unit)×Unit) :=
bif (decide ((wI (x1 - (x0.len:Int))) < (0:Int))) then some (((-1:Int),()),()) else (fixO s40_L0 ((x0,((wI (x1 - (x0.len:Int))),((0:Int),()))),())).bind fun d2=>match d2 with | .inl y1=>some ((y1.1.1,()),()) | .inr (.inl y1)=>some ((y1.1.1,()),()) | .inr (.inr e)=>nomatch e
noncomputable def c40:Ctr:={ ins:=[.v Ty276,.v (.int .i64)],out:=[(.int .i64)],F:=fun x=>g40 x.1 x.2.1 }
noncomputable def l40:List (Nat×Code):=loopsIn (Tryz.f40.body.getD .skip) 0
theorem w40_L0:LW t40 a40 l40 0 0 h40_L0 e40_L0 s40_L0:=fun x=>by kernel_rfl
theorem o40:Holds Tryz.prog 40 c40:=fh t40 a40 Tryz.func40 [(0,lg l40 0)] ⟨fun x d h=>(w40_L0 x).trans h,trivial⟩ (tc o126 tn)
noncomputable def t41:Tbl:=[]
noncomputable def g41 (x0:(L Int)) (x1:Int):Option ((Int×Unit)×Unit) :=
bif (decide ((wI (x1 - (x0.len:Int))) < (0:Int))) then some (((-1:Int),()),()) else some (((wI (x1 - (x0.len:Int))),()),())
noncomputable def f41 (x0:(L Int)) (x1:Int):Int :=
bif (decide ((wI (x1 - (x0.len:Int))) < (0:Int))) then (-1:Int) else (wI (x1 - (x0.len:Int)))
theorem n41 (x0:(L Int)) (x1:Int):g41 x0 x1 = some ((f41 x0 x1,()),()):=by simp only [g41,f41,pull1]
noncomputable def c41:Ctr:={ ins:=[.v (.sl (.int .i64)),.v (.int .i64)],out:=[(.int .i64)],F:=fun x=>some ((f41 x.1 x.2.1,()),()) }
theorem o41:Holds Tryz.prog 41 c41:=f0T t41 (fun x=>g41 x.1 x.2.1) Tryz.func41 tn (fun x=>n41 x.1 x.2.1)
noncomputable def t42:Tbl:=[]
noncomputable def g42 (x0:Ta39) (x1:Int):Option ((Int×Unit)×Unit) :=
bif (decide ((wI (x1 - (x0.len:Int))) < (0:Int))) then some (((-1:Int),()),()) else some (((wI (x1 - (x0.len:Int))),()),())
noncomputable def f42 (x0:Ta39) (x1:Int):Int :=
bif (decide ((wI (x1 - (x0.len:Int))) < (0:Int))) then (-1:Int) else (wI (x1 - (x0.len:Int)))
theorem n42 (x0:Ta39) (x1:Int):g42 x0 x1 = some ((f42 x0 x1,()),()):=by simp only [g42,f42,pull1]
noncomputable def c42:Ctr:={ ins:=[.v Ty177,.v (.int .i64)],out:=[(.int .i64)],F:=fun x=>some ((f42 x.1 x.2.1,()),()) }
theorem o42:Holds Tryz.prog 42 c42:=f0T t42 (fun x=>g42 x.1 x.2.1) Tryz.func42 tn (fun x=>n42 x.1 x.2.1)
noncomputable def t43:Tbl:=[]
noncomputable def g43 (x0:Ta14) (x1:Int):Option ((Int×Unit)×Unit) :=
bif (decide ((wI (x1 - (x0.len:Int))) < (0:Int))) then some (((-1:Int),()),()) else some (((wI (x1 - (x0.len:Int))),()),())
noncomputable def f43 (x0:Ta14) (x1:Int):Int :=
bif (decide ((wI (x1 - (x0.len:Int))) < (0:Int))) then (-1:Int) else (wI (x1 - (x0.len:Int)))
theorem n43 (x0:Ta14) (x1:Int):g43 x0 x1 = some ((f43 x0 x1,()),()):=by simp only [g43,f43,pull1]
noncomputable def c43:Ctr:={ ins:=[.v Ty145,.v (.int .i64)],out:=[(.int .i64)],F:=fun x=>some ((f43 x.1 x.2.1,()),()) }
theorem o43:Holds Tryz.prog 43 c43:=f0T t43 (fun x=>g43 x.1 x.2.1) Tryz.func43 tn (fun x=>n43 x.1 x.2.1)
noncomputable def t9:Tbl:=[(40,[],c40),(41,[],c41),(42,[],c42),(43,[],c43)]
noncomputable def g9 (x0:Ta339) (x1:Int):Option ((Int×Unit)×Unit) :=
(g40 x0.2.2.2.2.2.2.2.1 x1).bind fun y1=>bif (decide (y1.1.1 < (0:Int))) then some (((-1:Int),()),()) else bif (decide ((f41 x0.2.2.2.2.2.2.2.2.1 y1.1.1) < (0:Int))) then some (((-1:Int),()),()) else bif (decide ((f42 x0.2.2.2.2.2.2.2.2.2.1 (f41 x0.2.2.2.2.2.2.2.2.1 y1.1.1)) < (0:Int))) then some (((-1:Int),()),()) else bif (decide ((f43 x0.2.2.2.2.2.2.2.2.2.2.1 (f42 x0.2.2.2.2.2.2.2.2.2.1 (f41 x0.2.2.2.2.2.2.2.2.1 y1.1.1))) < (0:Int))) then some (((-1:Int),()),()) else some (((f43 x0.2.2.2.2.2.2.2.2.2.2.1 (f42 x0.2.2.2.2.2.2.2.2.2.1 (f41 x0.2.2.2.2.2.2.2.2.1 y1.1.1))),()),())
noncomputable def c9:Ctr:={ ins:=[.v Ty379,.v (.int .i64)],out:=[(.int .i64)],F:=fun x=>g9 x.1 x.2.1 }
theorem o9:Holds Tryz.prog 9 c9:=f0 t9 Tryz.func9 (tc o40 (tc o41 (tc o42 (tc o43 tn))))
noncomputable def t167:Tbl:=[]
noncomputable def g167 (x0:(L Int)) (x1:Int):Option ((Int×Unit)×Unit) :=
bif (decide ((wI (x1 - (x0.len:Int))) < (0:Int))) then some (((-1:Int),()),()) else some (((wI (x1 - (x0.len:Int))),()),())
noncomputable def f167 (x0:(L Int)) (x1:Int):Int :=
bif (decide ((wI (x1 - (x0.len:Int))) < (0:Int))) then (-1:Int) else (wI (x1 - (x0.len:Int)))
theorem n167 (x0:(L Int)) (x1:Int):g167 x0 x1 = some ((f167 x0 x1,()),()):=by simp only [g167,f167,pull1]
noncomputable def c167:Ctr:={ ins:=[.v (.sl (.int .u32)),.v (.int .i64)],out:=[(.int .i64)],F:=fun x=>some ((f167 x.1 x.2.1,()),()) }
theorem o167:Holds Tryz.prog 167 c167:=f0T t167 (fun x=>g167 x.1 x.2.1) Tryz.func167 tn (fun x=>n167 x.1 x.2.1)
noncomputable def t44:Tbl:=[]
noncomputable def g44 (x0:(L Int)) (x1:Int):Option ((Int×Unit)×Unit) :=
bif (decide ((wI (x1 - (x0.len:Int))) < (0:Int))) then some (((-1:Int),()),()) else some (((wI (x1 - (x0.len:Int))),()),())
noncomputable def f44 (x0:(L Int)) (x1:Int):Int :=
bif (decide ((wI (x1 - (x0.len:Int))) < (0:Int))) then (-1:Int) else (wI (x1 - (x0.len:Int)))
theorem n44 (x0:(L Int)) (x1:Int):g44 x0 x1 = some ((f44 x0 x1,()),()):=by simp only [g44,f44,pull1]
noncomputable def c44:Ctr:={ ins:=[.v (.sl (.int .u8)),.v (.int .i64)],out:=[(.int .i64)],F:=fun x=>some ((f44 x.1 x.2.1,()),()) }
theorem o44:Holds Tryz.prog 44 c44:=f0T t44 (fun x=>g44 x.1 x.2.1) Tryz.func44 tn (fun x=>n44 x.1 x.2.1)
noncomputable def t10:Tbl:=[(44,[],c44)]
abbrev h10_L0:Shape:={ slots:=[(0,.v (.sl (.sl (.int .u8)))),(1,.v (.int .i64)),(5,.v (.int .i64))],boxes:=[] }
abbrev e10_L0:List (XT×Shape):=[(.ret,{ slots:=[(4,.v (.int .i64))],boxes:=[] }),(.exit 0,{ slots:=[(1,.v (.int .i64))],boxes:=[] })]
noncomputable def q10_L0 (t0:(L (L Int))) (t1:Int) (t5:Int):Option (Ta53⊕(((Int×Unit)×Unit)⊕(((Int×Unit)×Unit)⊕Empty))) :=
bif (decide (t5 < (t0.len:Int))) then bif (decide (0≤t5)&&decide (t5 < (t0.len:Int))) then bif (decide ((f44 (L.get t0 t5.toNat) t1) < (0:Int))) then some (.inr (.inl (((-1:Int),()),()))) else some (.inl ((t0,((f44 (L.get t0 t5.toNat) t1),((wI (t5 + (1:Int))),()))),())) else none else some (.inr (.inr (.inl ((t1,()),()))))
noncomputable def s10_L0 (x:Ta53):=q10_L0 x.1.1 x.1.2.1 x.1.2.2.1
noncomputable def a10:Nat→Option LoopAnn:=fun c=>bif Nat.beq c 0 then some (.fix h10_L0 e10_L0 s10_L0) else none
noncomputable def g10 (x0:(L (L Int))) (x1:Int):Option ((Int×Unit)×Unit) :=
bif (decide ((wI (x1 - (x0.len:Int))) < (0:Int))) then some (((-1:Int),()),()) else (fixO s10_L0 ((x0,((wI (x1 - (x0.len:Int))),((0:Int),()))),())).bind fun d2=>match d2 with | .inl y1=>some ((y1.1.1,()),()) | .inr (.inl y1)=>some ((y1.1.1,()),()) | .inr (.inr e)=>nomatch e
noncomputable def c10:Ctr:={ ins:=[.v (.sl (.sl (.int .u8))),.v (.int .i64)],out:=[(.int .i64)],F:=fun x=>g10 x.1 x.2.1 }
noncomputable def l10:List (Nat×Code):=loopsIn (Tryz.f10.body.getD .skip) 0
theorem w10_L0:LW t10 a10 l10 0 0 h10_L0 e10_L0 s10_L0:=fun x=>by kernel_rfl
theorem o10:Holds Tryz.prog 10 c10:=fh t10 a10 Tryz.func10 [(0,lg l10 0)] ⟨fun x d h=>(w10_L0 x).trans h,trivial⟩ (tc o44 tn)
noncomputable def t90:Tbl:=[(167,[],c167),(10,[],c10)]
noncomputable def g90 (x0:Ta46) (x1:Int):Option ((Int×Unit)×Unit) :=
bif (decide ((f167 x0.1 x1) < (0:Int))) then some (((-1:Int),()),()) else (g10 x0.2.2.1 (f167 x0.1 x1)).bind fun y1=>bif (decide (y1.1.1 < (0:Int))) then some (((-1:Int),()),()) else some ((y1.1.1,()),())
noncomputable def c90:Ctr:={ ins:=[.v Ty162,.v (.int .i64)],out:=[(.int .i64)],F:=fun x=>g90 x.1 x.2.1 }
theorem o90:Holds Tryz.prog 90 c90:=f0 t90 Tryz.func90 (tc o167 (tc o10 tn))
noncomputable def t247:Tbl:=[]
noncomputable def g247 (x0:(L (Int×(Bool×Unit)))) (x1:Int):Option ((Int×Unit)×Unit) :=
bif (decide ((wI (x1 - (x0.len:Int))) < (0:Int))) then some (((-1:Int),()),()) else some (((wI (x1 - (x0.len:Int))),()),())
noncomputable def f247 (x0:(L (Int×(Bool×Unit)))) (x1:Int):Int :=
bif (decide ((wI (x1 - (x0.len:Int))) < (0:Int))) then (-1:Int) else (wI (x1 - (x0.len:Int)))
theorem n247 (x0:(L (Int×(Bool×Unit)))) (x1:Int):g247 x0 x1 = some ((f247 x0 x1,()),()):=by simp only [g247,f247,pull1]
noncomputable def c247:Ctr:={ ins:=[.v Ty80,.v (.int .i64)],out:=[(.int .i64)],F:=fun x=>some ((f247 x.1 x.2.1,()),()) }
theorem o247:Holds Tryz.prog 247 c247:=f0T t247 (fun x=>g247 x.1 x.2.1) Tryz.func247 tn (fun x=>n247 x.1 x.2.1)
noncomputable def t168:Tbl:=[(247,[],c247)]
abbrev h168_L0:Shape:={ slots:=[(0,.v Ty101),(1,.v (.int .i64)),(5,.v (.int .i64))],boxes:=[] }
abbrev e168_L0:List (XT×Shape):=[(.ret,{ slots:=[(4,.v (.int .i64))],boxes:=[] }),(.exit 0,{ slots:=[(1,.v (.int .i64))],boxes:=[] })]
noncomputable def q168_L0 (t0:Ta7) (t1:Int) (t5:Int):Option (Ta102⊕(((Int×Unit)×Unit)⊕(((Int×Unit)×Unit)⊕Empty))) :=
bif (decide (t5 < (t0.len:Int))) then bif (decide (0≤t5)&&decide (t5 < (t0.len:Int))) then bif (decide ((f247 (L.get t0 t5.toNat) t1) < (0:Int))) then some (.inr (.inl (((-1:Int),()),()))) else some (.inl ((t0,((f247 (L.get t0 t5.toNat) t1),((wI (t5 + (1:Int))),()))),())) else none else some (.inr (.inr (.inl ((t1,()),()))))
noncomputable def s168_L0 (x:Ta102):=q168_L0 x.1.1 x.1.2.1 x.1.2.2.1
noncomputable def a168:Nat→Option LoopAnn:=fun c=>bif Nat.beq c 0 then some (.fix h168_L0 e168_L0 s168_L0) else none
noncomputable def g168 (x0:Ta7) (x1:Int):Option ((Int×Unit)×Unit) :=
bif (decide ((wI (x1 - (x0.len:Int))) < (0:Int))) then some (((-1:Int),()),()) else (fixO s168_L0 ((x0,((wI (x1 - (x0.len:Int))),((0:Int),()))),())).bind fun d2=>match d2 with | .inl y1=>some ((y1.1.1,()),()) | .inr (.inl y1)=>some ((y1.1.1,()),()) | .inr (.inr e)=>nomatch e
noncomputable def c168:Ctr:={ ins:=[.v Ty101,.v (.int .i64)],out:=[(.int .i64)],F:=fun x=>g168 x.1 x.2.1 }
noncomputable def l168:List (Nat×Code):=loopsIn (Tryz.f168.body.getD .skip) 0
theorem w168_L0:LW t168 a168 l168 0 0 h168_L0 e168_L0 s168_L0:=fun x=>by kernel_rfl
theorem o168:Holds Tryz.prog 168 c168:=fh t168 a168 Tryz.func168 [(0,lg l168 0)] ⟨fun x d h=>(w168_L0 x).trans h,trivial⟩ (tc o247 tn)
noncomputable def t91:Tbl:=[(168,[],c168)]
noncomputable def g91 (x0:Ta122) (x1:Int):Option ((Int×Unit)×Unit) :=
(g168 x0.2.1 x1).bind fun y1=>bif (decide (y1.1.1 < (0:Int))) then some (((-1:Int),()),()) else some ((y1.1.1,()),())
noncomputable def c91:Ctr:={ ins:=[.v Ty234,.v (.int .i64)],out:=[(.int .i64)],F:=fun x=>g91 x.1 x.2.1 }
theorem o91:Holds Tryz.prog 91 c91:=f0 t91 Tryz.func91 (tc o168 tn)
noncomputable def t92:Tbl:=[(41,[],c41)]
noncomputable def g92 (x0:(Int×((L Int)×Unit))) (x1:Int):Option ((Int×Unit)×Unit) :=
bif (decide ((f41 x0.2.1 x1) < (0:Int))) then some (((-1:Int),()),()) else some (((f41 x0.2.1 x1),()),())
noncomputable def f92 (x0:(Int×((L Int)×Unit))) (x1:Int):Int :=
bif (decide ((f41 x0.2.1 x1) < (0:Int))) then (-1:Int) else (f41 x0.2.1 x1)
theorem n92 (x0:(Int×((L Int)×Unit))) (x1:Int):g92 x0 x1 = some ((f92 x0 x1,()),()):=by simp only [g92,f92,pull1]
noncomputable def c92:Ctr:={ ins:=[.v Ty103,.v (.int .i64)],out:=[(.int .i64)],F:=fun x=>some ((f92 x.1 x.2.1,()),()) }
theorem o92:Holds Tryz.prog 92 c92:=f0T t92 (fun x=>g92 x.1 x.2.1) Tryz.func92 (tc o41 tn) (fun x=>n92 x.1 x.2.1)
noncomputable def t169:Tbl:=[(167,[],c167)]
noncomputable def g169 (x0:(Int×((L Int)×Unit))) (x1:Int):Option ((Int×Unit)×Unit) :=
bif (decide ((f167 x0.2.1 x1) < (0:Int))) then some (((-1:Int),()),()) else some (((f167 x0.2.1 x1),()),())
noncomputable def f169 (x0:(Int×((L Int)×Unit))) (x1:Int):Int :=
bif (decide ((f167 x0.2.1 x1) < (0:Int))) then (-1:Int) else (f167 x0.2.1 x1)
theorem n169 (x0:(Int×((L Int)×Unit))) (x1:Int):g169 x0 x1 = some ((f169 x0 x1,()),()):=by simp only [g169,f169,pull1]
noncomputable def c169:Ctr:={ ins:=[.v Ty100,.v (.int .i64)],out:=[(.int .i64)],F:=fun x=>some ((f169 x.1 x.2.1,()),()) }
theorem o169:Holds Tryz.prog 169 c169:=f0T t169 (fun x=>g169 x.1 x.2.1) Tryz.func169 (tc o167 tn) (fun x=>n169 x.1 x.2.1)
noncomputable def t93:Tbl:=[(169,[],c169)]
abbrev h93_L0:Shape:={ slots:=[(0,.v Ty123),(1,.v (.int .i64)),(5,.v (.int .i64))],boxes:=[] }
abbrev e93_L0:List (XT×Shape):=[(.ret,{ slots:=[(4,.v (.int .i64))],boxes:=[] }),(.exit 0,{ slots:=[(1,.v (.int .i64))],boxes:=[] })]
noncomputable def q93_L0 (t0:Ta1) (t1:Int) (t5:Int):Option (Ta98⊕(((Int×Unit)×Unit)⊕(((Int×Unit)×Unit)⊕Empty))) :=
bif (decide (t5 < (t0.len:Int))) then bif (decide (0≤t5)&&decide (t5 < (t0.len:Int))) then bif (decide ((f169 (L.get t0 t5.toNat) t1) < (0:Int))) then some (.inr (.inl (((-1:Int),()),()))) else some (.inl ((t0,((f169 (L.get t0 t5.toNat) t1),((wI (t5 + (1:Int))),()))),())) else none else some (.inr (.inr (.inl ((t1,()),()))))
noncomputable def s93_L0 (x:Ta98):=q93_L0 x.1.1 x.1.2.1 x.1.2.2.1
noncomputable def a93:Nat→Option LoopAnn:=fun c=>bif Nat.beq c 0 then some (.fix h93_L0 e93_L0 s93_L0) else none
noncomputable def g93 (x0:Ta1) (x1:Int):Option ((Int×Unit)×Unit) :=
bif (decide ((wI (x1 - (x0.len:Int))) < (0:Int))) then some (((-1:Int),()),()) else (fixO s93_L0 ((x0,((wI (x1 - (x0.len:Int))),((0:Int),()))),())).bind fun d2=>match d2 with | .inl y1=>some ((y1.1.1,()),()) | .inr (.inl y1)=>some ((y1.1.1,()),()) | .inr (.inr e)=>nomatch e
noncomputable def c93:Ctr:={ ins:=[.v Ty123,.v (.int .i64)],out:=[(.int .i64)],F:=fun x=>g93 x.1 x.2.1 }
noncomputable def l93:List (Nat×Code):=loopsIn (Tryz.f93.body.getD .skip) 0
theorem w93_L0:LW t93 a93 l93 0 0 h93_L0 e93_L0 s93_L0:=fun x=>by kernel_rfl
theorem o93:Holds Tryz.prog 93 c93:=fh t93 a93 Tryz.func93 [(0,lg l93 0)] ⟨fun x d h=>(w93_L0 x).trans h,trivial⟩ (tc o169 tn)
noncomputable def t170:Tbl:=[(167,[],c167)]
noncomputable def g170 (x0:((L Int)×Unit)) (x1:Int):Option ((Int×Unit)×Unit) :=
bif (decide ((f167 x0.1 x1) < (0:Int))) then some (((-1:Int),()),()) else some (((f167 x0.1 x1),()),())
noncomputable def f170 (x0:((L Int)×Unit)) (x1:Int):Int :=
bif (decide ((f167 x0.1 x1) < (0:Int))) then (-1:Int) else (f167 x0.1 x1)
theorem n170 (x0:((L Int)×Unit)) (x1:Int):g170 x0 x1 = some ((f170 x0 x1,()),()):=by simp only [g170,f170,pull1]
noncomputable def c170:Ctr:={ ins:=[.v Ty33,.v (.int .i64)],out:=[(.int .i64)],F:=fun x=>some ((f170 x.1 x.2.1,()),()) }
theorem o170:Holds Tryz.prog 170 c170:=f0T t170 (fun x=>g170 x.1 x.2.1) Tryz.func170 (tc o167 tn) (fun x=>n170 x.1 x.2.1)
noncomputable def t94:Tbl:=[(170,[],c170)]
abbrev h94_L0:Shape:={ slots:=[(0,.v Ty54),(1,.v (.int .i64)),(5,.v (.int .i64))],boxes:=[] }
abbrev e94_L0:List (XT×Shape):=[(.ret,{ slots:=[(4,.v (.int .i64))],boxes:=[] }),(.exit 0,{ slots:=[(1,.v (.int .i64))],boxes:=[] })]
noncomputable def q94_L0 (t0:(L ((L Int)×Unit))) (t1:Int) (t5:Int):Option (Ta76⊕(((Int×Unit)×Unit)⊕(((Int×Unit)×Unit)⊕Empty))) :=
bif (decide (t5 < (t0.len:Int))) then bif (decide (0≤t5)&&decide (t5 < (t0.len:Int))) then bif (decide ((f170 (L.get t0 t5.toNat) t1) < (0:Int))) then some (.inr (.inl (((-1:Int),()),()))) else some (.inl ((t0,((f170 (L.get t0 t5.toNat) t1),((wI (t5 + (1:Int))),()))),())) else none else some (.inr (.inr (.inl ((t1,()),()))))
noncomputable def s94_L0 (x:Ta76):=q94_L0 x.1.1 x.1.2.1 x.1.2.2.1
noncomputable def a94:Nat→Option LoopAnn:=fun c=>bif Nat.beq c 0 then some (.fix h94_L0 e94_L0 s94_L0) else none
noncomputable def g94 (x0:(L ((L Int)×Unit))) (x1:Int):Option ((Int×Unit)×Unit) :=
bif (decide ((wI (x1 - (x0.len:Int))) < (0:Int))) then some (((-1:Int),()),()) else (fixO s94_L0 ((x0,((wI (x1 - (x0.len:Int))),((0:Int),()))),())).bind fun d2=>match d2 with | .inl y1=>some ((y1.1.1,()),()) | .inr (.inl y1)=>some ((y1.1.1,()),()) | .inr (.inr e)=>nomatch e
noncomputable def c94:Ctr:={ ins:=[.v Ty54,.v (.int .i64)],out:=[(.int .i64)],F:=fun x=>g94 x.1 x.2.1 }
noncomputable def l94:List (Nat×Code):=loopsIn (Tryz.f94.body.getD .skip) 0
theorem w94_L0:LW t94 a94 l94 0 0 h94_L0 e94_L0 s94_L0:=fun x=>by kernel_rfl
theorem o94:Holds Tryz.prog 94 c94:=fh t94 a94 Tryz.func94 [(0,lg l94 0)] ⟨fun x d h=>(w94_L0 x).trans h,trivial⟩ (tc o170 tn)
noncomputable def t171:Tbl:=[(167,[],c167)]
noncomputable def g171 (x0:Ta2) (x1:Int):Option ((Int×Unit)×Unit) :=
bif (decide ((f167 x0.1 x1) < (0:Int))) then some (((-1:Int),()),()) else bif (decide ((f167 x0.2.1 (f167 x0.1 x1)) < (0:Int))) then some (((-1:Int),()),()) else some (((f167 x0.2.1 (f167 x0.1 x1)),()),())
noncomputable def f171 (x0:Ta2) (x1:Int):Int :=
bif (decide ((f167 x0.1 x1) < (0:Int))) then (-1:Int) else bif (decide ((f167 x0.2.1 (f167 x0.1 x1)) < (0:Int))) then (-1:Int) else (f167 x0.2.1 (f167 x0.1 x1))
theorem n171 (x0:Ta2) (x1:Int):g171 x0 x1 = some ((f171 x0 x1,()),()):=by simp only [g171,f171,pull1]
noncomputable def c171:Ctr:={ ins:=[.v Ty121,.v (.int .i64)],out:=[(.int .i64)],F:=fun x=>some ((f171 x.1 x.2.1,()),()) }
theorem o171:Holds Tryz.prog 171 c171:=f0T t171 (fun x=>g171 x.1 x.2.1) Tryz.func171 (tc o167 tn) (fun x=>n171 x.1 x.2.1)
noncomputable def t95:Tbl:=[(171,[],c171)]
abbrev h95_L0:Shape:={ slots:=[(0,.v Ty131),(1,.v (.int .i64)),(5,.v (.int .i64))],boxes:=[] }
abbrev e95_L0:List (XT×Shape):=[(.ret,{ slots:=[(4,.v (.int .i64))],boxes:=[] }),(.exit 0,{ slots:=[(1,.v (.int .i64))],boxes:=[] })]
noncomputable def q95_L0 (t0:Ta20) (t1:Int) (t5:Int):Option (Ta115⊕(((Int×Unit)×Unit)⊕(((Int×Unit)×Unit)⊕Empty))) :=
bif (decide (t5 < (t0.len:Int))) then bif (decide (0≤t5)&&decide (t5 < (t0.len:Int))) then bif (decide ((f171 (L.get t0 t5.toNat) t1) < (0:Int))) then some (.inr (.inl (((-1:Int),()),()))) else some (.inl ((t0,((f171 (L.get t0 t5.toNat) t1),((wI (t5 + (1:Int))),()))),())) else none else some (.inr (.inr (.inl ((t1,()),()))))
noncomputable def s95_L0 (x:Ta115):=q95_L0 x.1.1 x.1.2.1 x.1.2.2.1
noncomputable def a95:Nat→Option LoopAnn:=fun c=>bif Nat.beq c 0 then some (.fix h95_L0 e95_L0 s95_L0) else none
noncomputable def g95 (x0:Ta20) (x1:Int):Option ((Int×Unit)×Unit) :=
bif (decide ((wI (x1 - (x0.len:Int))) < (0:Int))) then some (((-1:Int),()),()) else (fixO s95_L0 ((x0,((wI (x1 - (x0.len:Int))),((0:Int),()))),())).bind fun d2=>match d2 with | .inl y1=>some ((y1.1.1,()),()) | .inr (.inl y1)=>some ((y1.1.1,()),()) | .inr (.inr e)=>nomatch e
noncomputable def c95:Ctr:={ ins:=[.v Ty131,.v (.int .i64)],out:=[(.int .i64)],F:=fun x=>g95 x.1 x.2.1 }
noncomputable def l95:List (Nat×Code):=loopsIn (Tryz.f95.body.getD .skip) 0
theorem w95_L0:LW t95 a95 l95 0 0 h95_L0 e95_L0 s95_L0:=fun x=>by kernel_rfl
theorem o95:Holds Tryz.prog 95 c95:=fh t95 a95 Tryz.func95 [(0,lg l95 0)] ⟨fun x d h=>(w95_L0 x).trans h,trivial⟩ (tc o171 tn)
noncomputable def t22:Tbl:=[(90,[],c90),(91,[],c91),(92,[],c92),(10,[],c10),(93,[],c93),(94,[],c94),(95,[],c95)]
noncomputable def g22 (x0:Ta357) (x1:Int):Option ((Int×Unit)×Unit) :=
(g90 x0.1 x1).bind fun y1=>bif (decide (y1.1.1 < (0:Int))) then some (((-1:Int),()),()) else (g91 x0.2.2.2.1 y1.1.1).bind fun y2=>bif (decide (y2.1.1 < (0:Int))) then some (((-1:Int),()),()) else bif (decide ((f92 x0.2.2.2.2.1 y2.1.1) < (0:Int))) then some (((-1:Int),()),()) else (g10 x0.2.2.2.2.2.2.2.1 (f92 x0.2.2.2.2.1 y2.1.1)).bind fun y3=>bif (decide (y3.1.1 < (0:Int))) then some (((-1:Int),()),()) else (g93 x0.2.2.2.2.2.2.2.2.1 y3.1.1).bind fun y4=>bif (decide (y4.1.1 < (0:Int))) then some (((-1:Int),()),()) else (g94 x0.2.2.2.2.2.2.2.2.2.1 y4.1.1).bind fun y5=>bif (decide (y5.1.1 < (0:Int))) then some (((-1:Int),()),()) else (g95 x0.2.2.2.2.2.2.2.2.2.2.1 y5.1.1).bind fun y6=>bif (decide (y6.1.1 < (0:Int))) then some (((-1:Int),()),()) else some ((y6.1.1,()),())
noncomputable def c22:Ctr:={ ins:=[.v Ty380,.v (.int .i64)],out:=[(.int .i64)],F:=fun x=>g22 x.1 x.2.1 }
theorem o22:Holds Tryz.prog 22 c22:=f0 t22 Tryz.func22 (tc o90 (tc o91 (tc o92 (tc o10 (tc o93 (tc o94 (tc o95 tn)))))))
noncomputable def t47:Tbl:=[]
noncomputable def g47 (x0:(Int×(Int×(Int×Unit)))):Option Ta52 :=
some ((x0,()),())
noncomputable def f47 (x0:(Int×(Int×(Int×Unit)))):(Int×(Int×(Int×Unit))) :=
x0
theorem n47 (x0:(Int×(Int×(Int×Unit)))):g47 x0 = some ((f47 x0,()),()):=by simp only [g47,f47,pull1]
noncomputable def c47:Ctr:={ ins:=[.v Ty135],out:=[Ty135],F:=fun x=>some ((f47 x.1,()),()) }
theorem o47:Holds Tryz.prog 47 c47:=f0T t47 (fun x=>g47 x.1) Tryz.func47 tn (fun x=>n47 x.1)
noncomputable def t48:Tbl:=[]
noncomputable def g48 (x0:Ta85):Option (Ta113×Unit) :=
some ((x0,()),())
noncomputable def f48 (x0:Ta85):Ta85 :=
x0
theorem n48 (x0:Ta85):g48 x0 = some ((f48 x0,()),()):=by simp only [g48,f48,pull1]
noncomputable def c48:Ctr:={ ins:=[.v Ty238],out:=[Ty238],F:=fun x=>some ((f48 x.1,()),()) }
theorem o48:Holds Tryz.prog 48 c48:=f0T t48 (fun x=>g48 x.1) Tryz.func48 tn (fun x=>n48 x.1)
noncomputable def t224:Tbl:=[]
noncomputable def g224 (x0:(Int×(Int×Unit))):Option (((Int×(Int×Unit))×Unit)×Unit) :=
some ((x0,()),())
noncomputable def f224 (x0:(Int×(Int×Unit))):(Int×(Int×Unit)) :=
x0
theorem n224 (x0:(Int×(Int×Unit))):g224 x0 = some ((f224 x0,()),()):=by simp only [g224,f224,pull1]
noncomputable def c224:Ctr:={ ins:=[.v Ty81],out:=[Ty81],F:=fun x=>some ((f224 x.1,()),()) }
theorem o224:Holds Tryz.prog 224 c224:=f0T t224 (fun x=>g224 x.1) Tryz.func224 tn (fun x=>n224 x.1)
noncomputable def t298:Tbl:=[]
noncomputable def g298 (x0:(Int×(Int×(Int×Unit)))):Option Ta52 :=
some ((x0,()),())
noncomputable def f298 (x0:(Int×(Int×(Int×Unit)))):(Int×(Int×(Int×Unit))) :=
x0
theorem n298 (x0:(Int×(Int×(Int×Unit)))):g298 x0 = some ((f298 x0,()),()):=by simp only [g298,f298,pull1]
noncomputable def c298:Ctr:={ ins:=[.v Ty135],out:=[Ty135],F:=fun x=>some ((f298 x.1,()),()) }
theorem o298:Holds Tryz.prog 298 c298:=f0T t298 (fun x=>g298 x.1) Tryz.func298 tn (fun x=>n298 x.1)
noncomputable def t225r:Tbl:=[(298,[],c298)]
abbrev h225r_L0:Shape:={ slots:=[(0,.v Ty145),(3,.ms 7),(4,.v (.int .i64))],boxes:=[(7,.row Ty135)] }
abbrev e225r_L0:List (XT×Shape):=[(.exit 0,{ slots:=[(3,.ms 7)],boxes:=[(7,.row Ty135)] })]
noncomputable def q225r_L0 (t0:Ta14) (t4:Int) (r7:Ta14):Option (Ta163⊕(Ta91⊕Empty)) :=
bif (decide (t4 < (t0.len:Int))) then bif (decide (0≤t4)&&decide (t4 < (t0.len:Int))) then bif (decide (0≤t4)&&decide (t4 < (r7.len:Int))) then some (.inl ((t0,((),((wI (t4 + (1:Int))),()))),((L.set r7 t4.toNat (f298 (L.get t0 t4.toNat))),()))) else none else none else some (.inr (.inl (((),()),(r7,()))))
noncomputable def s225r_L0 (x:Ta163):=q225r_L0 x.1.1 x.1.2.2.1 x.2.1
noncomputable def a225r:Nat→Option LoopAnn:=fun c=>bif Nat.beq c 0 then some (.fix h225r_L0 e225r_L0 s225r_L0) else none
noncomputable def g225r (x0:Ta14):Option Ta67 :=
bif (decide ((x0.len:Int) = (x0.len:Int))&&(decide (0≤(x0.len:Int))&&(decide ((x0.len:Int)≤2 ^ 40)&&decide (24 * (x0.len:Int)≤2 ^ 48)))) then ((fixO s225r_L0 ((x0,((),((0:Int),()))),((L.rep (x0.len:Int).toNat (Ty.zero Ty135)),()))).bind fun d2=>match d2 with | .inl y1=>some ((y1.2.1,()),()) | .inr e=>nomatch e) else none
noncomputable def c225r:Ctr:={ ins:=[.v Ty145],out:=[Ty145],F:=fun x=>g225r x.1,fr:=1 }
noncomputable def l225r:List (Nat×Code):=loopsIn (Tryz.f225.body.getD .skip) 0
theorem w225r_L0:LW t225r a225r l225r 0 0 h225r_L0 e225r_L0 s225r_L0:=fun x=>by kernel_rfl
theorem o225r:Holds Tryz.prog 225 c225r:=fh t225r a225r Tryz.func225 [(0,lg l225r 0)] ⟨fun x d h=>(w225r_L0 x).trans h,trivial⟩ (tc o298 tn)
noncomputable def t131r:Tbl:=[(224,[],c224),(225,[],c225r)]
noncomputable def g131r (x0:Ta143):Option (Ta154×Unit) :=
(g225r x0.2.2.2.1).bind fun y1=>some (((x0.1,(x0.2.1,((f224 x0.2.2.1),y1.1))),()),())
noncomputable def c131r:Ctr:={ ins:=[.v Ty268],out:=[Ty268],F:=fun x=>g131r x.1,fr:=1 }
theorem o131r:Holds Tryz.prog 131 c131r:=f0 t131r Tryz.func131 (tc o224 (tc o225r tn))
noncomputable def t49r:Tbl:=[(131,[],c131r)]
abbrev h49r_L0:Shape:={ slots:=[(0,.v Ty276),(3,.ms 7),(4,.v (.int .i64))],boxes:=[(7,.row Ty268)] }
abbrev e49r_L0:List (XT×Shape):=[(.exit 0,{ slots:=[(3,.ms 7)],boxes:=[(7,.row Ty268)] })]
noncomputable def q49r_L0 (t0:Ta149) (t4:Int) (r7:Ta149):Option ((Ta180×Ta161)⊕(((Unit×Unit)×Ta161)⊕Empty)) :=
bif (decide (t4 < (t0.len:Int))) then bif (decide (0≤t4)&&decide (t4 < (t0.len:Int))) then (g131r (L.get t0 t4.toNat)).bind fun y1=>bif (decide (0≤t4)&&decide (t4 < (r7.len:Int))) then some (.inl ((t0,((),((wI (t4 + (1:Int))),()))),((L.set r7 t4.toNat (y1.1.1.1,(y1.1.1.2.1,(y1.1.1.2.2.1,y1.1.1.2.2.2)))),()))) else none else none else some (.inr (.inl (((),()),(r7,()))))
noncomputable def s49r_L0 (x:(Ta180×Ta161)):=q49r_L0 x.1.1 x.1.2.2.1 x.2.1
noncomputable def a49r:Nat→Option LoopAnn:=fun c=>bif Nat.beq c 0 then some (.fix h49r_L0 e49r_L0 s49r_L0) else none
noncomputable def g49r (x0:Ta149):Option (Ta161×Unit) :=
bif (decide ((x0.len:Int) = (x0.len:Int))&&(decide (0≤(x0.len:Int))&&(decide ((x0.len:Int)≤2 ^ 40)&&decide (64 * (x0.len:Int)≤2 ^ 48)))) then ((fixO s49r_L0 ((x0,((),((0:Int),()))),((L.rep (x0.len:Int).toNat (Ty.zero Ty268)),()))).bind fun d3=>match d3 with | .inl y2=>some ((y2.2.1,()),()) | .inr e=>nomatch e) else none
noncomputable def c49r:Ctr:={ ins:=[.v Ty276],out:=[Ty276],F:=fun x=>g49r x.1,fr:=1 }
noncomputable def l49r:List (Nat×Code):=loopsIn (Tryz.f49.body.getD .skip) 0
theorem w49r_L0:LW t49r a49r l49r 0 0 h49r_L0 e49r_L0 s49r_L0:=fun x=>by kernel_rfl
theorem o49r:Holds Tryz.prog 49 c49r:=fh t49r a49r Tryz.func49 [(0,lg l49r 0)] ⟨fun x d h=>(w49r_L0 x).trans h,trivial⟩ (tc o131r tn)
noncomputable def t50r:Tbl:=[]
abbrev h50r_L0:Shape:={ slots:=[(0,.v (.sl (.int .i64))),(3,.ms 7),(4,.v (.int .i64))],boxes:=[(7,.row (.int .i64))] }
abbrev e50r_L0:List (XT×Shape):=[(.exit 0,{ slots:=[(3,.ms 7)],boxes:=[(7,.row (.int .i64))] })]
noncomputable def q50r_L0 (t0:(L Int)) (t4:Int) (r7:(L Int)):Option (Ta77⊕(Ta21⊕Empty)) :=
bif (decide (t4 < (t0.len:Int))) then bif (decide (0≤t4)&&decide (t4 < (t0.len:Int))) then bif (decide (0≤t4)&&decide (t4 < (r7.len:Int))) then some (.inl ((t0,((),((wI (t4 + (1:Int))),()))),((L.set r7 t4.toNat (L.get t0 t4.toNat)),()))) else none else none else some (.inr (.inl (((),()),(r7,()))))
noncomputable def s50r_L0 (x:Ta77):=q50r_L0 x.1.1 x.1.2.2.1 x.2.1
noncomputable def a50r:Nat→Option LoopAnn:=fun c=>bif Nat.beq c 0 then some (.fix h50r_L0 e50r_L0 s50r_L0) else none
noncomputable def g50r (x0:(L Int)):Option (((L Int)×Unit)×Unit) :=
bif (decide ((x0.len:Int) = (x0.len:Int))&&(decide (0≤(x0.len:Int))&&(decide ((x0.len:Int)≤2 ^ 40)&&decide (8 * (x0.len:Int)≤2 ^ 48)))) then ((fixO s50r_L0 ((x0,((),((0:Int),()))),((L.rep (x0.len:Int).toNat (Ty.zero (.int .i64))),()))).bind fun d2=>match d2 with | .inl y1=>some ((y1.2.1,()),()) | .inr e=>nomatch e) else none
noncomputable def c50r:Ctr:={ ins:=[.v (.sl (.int .i64))],out:=[(.sl (.int .i64))],F:=fun x=>g50r x.1,fr:=1 }
noncomputable def l50r:List (Nat×Code):=loopsIn (Tryz.f50.body.getD .skip) 0
theorem w50r_L0:LW t50r a50r l50r 0 0 h50r_L0 e50r_L0 s50r_L0:=fun x=>by kernel_rfl
theorem o50r:Holds Tryz.prog 50 c50r:=fh t50r a50r Tryz.func50 [(0,lg l50r 0)] ⟨fun x d h=>(w50r_L0 x).trans h,trivial⟩ tn
noncomputable def t132:Tbl:=[]
noncomputable def g132 (x0:Ta19):Option ((Ta19×Unit)×Unit) :=
some ((x0,()),())
noncomputable def f132 (x0:Ta19):Ta19 :=
x0
theorem n132 (x0:Ta19):g132 x0 = some ((f132 x0,()),()):=by simp only [g132,f132,pull1]
noncomputable def c132:Ctr:={ ins:=[.v Ty172],out:=[Ty172],F:=fun x=>some ((f132 x.1,()),()) }
theorem o132:Holds Tryz.prog 132 c132:=f0T t132 (fun x=>g132 x.1) Tryz.func132 tn (fun x=>n132 x.1)
noncomputable def t51r:Tbl:=[(132,[],c132)]
abbrev h51r_L0:Shape:={ slots:=[(0,.v Ty177),(3,.ms 7),(4,.v (.int .i64))],boxes:=[(7,.row Ty172)] }
abbrev e51r_L0:List (XT×Shape):=[(.exit 0,{ slots:=[(3,.ms 7)],boxes:=[(7,.row Ty172)] })]
noncomputable def q51r_L0 (t0:Ta39) (t4:Int) (r7:Ta39):Option (((Ta39×(Unit×(Int×Unit)))×Ta63)⊕(((Unit×Unit)×Ta63)⊕Empty)) :=
bif (decide (t4 < (t0.len:Int))) then bif (decide (0≤t4)&&decide (t4 < (t0.len:Int))) then bif (decide (0≤t4)&&decide (t4 < (r7.len:Int))) then some (.inl ((t0,((),((wI (t4 + (1:Int))),()))),((L.set r7 t4.toNat (f132 (L.get t0 t4.toNat))),()))) else none else none else some (.inr (.inl (((),()),(r7,()))))
noncomputable def s51r_L0 (x:((Ta39×(Unit×(Int×Unit)))×Ta63)):=q51r_L0 x.1.1 x.1.2.2.1 x.2.1
noncomputable def a51r:Nat→Option LoopAnn:=fun c=>bif Nat.beq c 0 then some (.fix h51r_L0 e51r_L0 s51r_L0) else none
noncomputable def g51r (x0:Ta39):Option (Ta63×Unit) :=
bif (decide ((x0.len:Int) = (x0.len:Int))&&(decide (0≤(x0.len:Int))&&(decide ((x0.len:Int)≤2 ^ 40)&&decide (32 * (x0.len:Int)≤2 ^ 48)))) then ((fixO s51r_L0 ((x0,((),((0:Int),()))),((L.rep (x0.len:Int).toNat (Ty.zero Ty172)),()))).bind fun d2=>match d2 with | .inl y1=>some ((y1.2.1,()),()) | .inr e=>nomatch e) else none
noncomputable def c51r:Ctr:={ ins:=[.v Ty177],out:=[Ty177],F:=fun x=>g51r x.1,fr:=1 }
noncomputable def l51r:List (Nat×Code):=loopsIn (Tryz.f51.body.getD .skip) 0
theorem w51r_L0:LW t51r a51r l51r 0 0 h51r_L0 e51r_L0 s51r_L0:=fun x=>by kernel_rfl
theorem o51r:Holds Tryz.prog 51 c51r:=fh t51r a51r Tryz.func51 [(0,lg l51r 0)] ⟨fun x d h=>(w51r_L0 x).trans h,trivial⟩ (tc o132 tn)
noncomputable def t133:Tbl:=[]
noncomputable def g133 (x0:(Int×(Int×(Int×Unit)))):Option Ta52 :=
some ((x0,()),())
noncomputable def f133 (x0:(Int×(Int×(Int×Unit)))):(Int×(Int×(Int×Unit))) :=
x0
theorem n133 (x0:(Int×(Int×(Int×Unit)))):g133 x0 = some ((f133 x0,()),()):=by simp only [g133,f133,pull1]
noncomputable def c133:Ctr:={ ins:=[.v Ty135],out:=[Ty135],F:=fun x=>some ((f133 x.1,()),()) }
theorem o133:Holds Tryz.prog 133 c133:=f0T t133 (fun x=>g133 x.1) Tryz.func133 tn (fun x=>n133 x.1)
noncomputable def t52r:Tbl:=[(133,[],c133)]
abbrev h52r_L0:Shape:={ slots:=[(0,.v Ty145),(3,.ms 7),(4,.v (.int .i64))],boxes:=[(7,.row Ty135)] }
abbrev e52r_L0:List (XT×Shape):=[(.exit 0,{ slots:=[(3,.ms 7)],boxes:=[(7,.row Ty135)] })]
noncomputable def q52r_L0 (t0:Ta14) (t4:Int) (r7:Ta14):Option (Ta163⊕(Ta91⊕Empty)) :=
bif (decide (t4 < (t0.len:Int))) then bif (decide (0≤t4)&&decide (t4 < (t0.len:Int))) then bif (decide (0≤t4)&&decide (t4 < (r7.len:Int))) then some (.inl ((t0,((),((wI (t4 + (1:Int))),()))),((L.set r7 t4.toNat (f133 (L.get t0 t4.toNat))),()))) else none else none else some (.inr (.inl (((),()),(r7,()))))
noncomputable def s52r_L0 (x:Ta163):=q52r_L0 x.1.1 x.1.2.2.1 x.2.1
noncomputable def a52r:Nat→Option LoopAnn:=fun c=>bif Nat.beq c 0 then some (.fix h52r_L0 e52r_L0 s52r_L0) else none
noncomputable def g52r (x0:Ta14):Option Ta67 :=
bif (decide ((x0.len:Int) = (x0.len:Int))&&(decide (0≤(x0.len:Int))&&(decide ((x0.len:Int)≤2 ^ 40)&&decide (24 * (x0.len:Int)≤2 ^ 48)))) then ((fixO s52r_L0 ((x0,((),((0:Int),()))),((L.rep (x0.len:Int).toNat (Ty.zero Ty135)),()))).bind fun d2=>match d2 with | .inl y1=>some ((y1.2.1,()),()) | .inr e=>nomatch e) else none
noncomputable def c52r:Ctr:={ ins:=[.v Ty145],out:=[Ty145],F:=fun x=>g52r x.1,fr:=1 }
noncomputable def l52r:List (Nat×Code):=loopsIn (Tryz.f52.body.getD .skip) 0
theorem w52r_L0:LW t52r a52r l52r 0 0 h52r_L0 e52r_L0 s52r_L0:=fun x=>by kernel_rfl
theorem o52r:Holds Tryz.prog 52 c52r:=fh t52r a52r Tryz.func52 [(0,lg l52r 0)] ⟨fun x d h=>(w52r_L0 x).trans h,trivial⟩ (tc o133 tn)
noncomputable def t12r:Tbl:=[(47,[],c47),(48,[],c48),(49,[],c49r),(50,[],c50r),(51,[],c51r),(52,[],c52r)]
noncomputable def g12r (x0:Ta339):Option (Ta344×Unit) :=
(g49r x0.2.2.2.2.2.2.2.1).bind fun y1=>(g50r x0.2.2.2.2.2.2.2.2.1).bind fun y2=>(g51r x0.2.2.2.2.2.2.2.2.2.1).bind fun y3=>(g52r x0.2.2.2.2.2.2.2.2.2.2.1).bind fun y4=>some (((x0.1,((f47 x0.2.1),(x0.2.2.1,((f48 x0.2.2.2.1),(x0.2.2.2.2.1,(x0.2.2.2.2.2.1,(x0.2.2.2.2.2.2.1,(y1.1.1,(y2.1.1,(y3.1.1,y4.1)))))))))),()),())
noncomputable def c12r:Ctr:={ ins:=[.v Ty379],out:=[Ty379],F:=fun x=>g12r x.1,fr:=1 }
theorem o12r:Holds Tryz.prog 12 c12r:=f0 t12r Tryz.func12 (tc o47 (tc o48 (tc o49r (tc o50r (tc o51r (tc o52r tn))))))
noncomputable def t181r:Tbl:=[]
abbrev h181r_L0:Shape:={ slots:=[(0,.v (.sl (.int .u32))),(3,.ms 7),(4,.v (.int .i64))],boxes:=[(7,.row (.int .u32))] }
abbrev e181r_L0:List (XT×Shape):=[(.exit 0,{ slots:=[(3,.ms 7)],boxes:=[(7,.row (.int .u32))] })]
noncomputable def q181r_L0 (t0:(L Int)) (t4:Int) (r7:(L Int)):Option (Ta77⊕(Ta21⊕Empty)) :=
bif (decide (t4 < (t0.len:Int))) then bif (decide (0≤t4)&&decide (t4 < (t0.len:Int))) then bif (decide (0≤t4)&&decide (t4 < (r7.len:Int))) then some (.inl ((t0,((),((wI (t4 + (1:Int))),()))),((L.set r7 t4.toNat (L.get t0 t4.toNat)),()))) else none else none else some (.inr (.inl (((),()),(r7,()))))
noncomputable def s181r_L0 (x:Ta77):=q181r_L0 x.1.1 x.1.2.2.1 x.2.1
noncomputable def a181r:Nat→Option LoopAnn:=fun c=>bif Nat.beq c 0 then some (.fix h181r_L0 e181r_L0 s181r_L0) else none
noncomputable def g181r (x0:(L Int)):Option (((L Int)×Unit)×Unit) :=
bif (decide ((x0.len:Int) = (x0.len:Int))&&(decide (0≤(x0.len:Int))&&(decide ((x0.len:Int)≤2 ^ 40)&&decide (4 * (x0.len:Int)≤2 ^ 48)))) then ((fixO s181r_L0 ((x0,((),((0:Int),()))),((L.rep (x0.len:Int).toNat (Ty.zero (.int .u32))),()))).bind fun d2=>match d2 with | .inl y1=>some ((y1.2.1,()),()) | .inr e=>nomatch e) else none
noncomputable def c181r:Ctr:={ ins:=[.v (.sl (.int .u32))],out:=[(.sl (.int .u32))],F:=fun x=>g181r x.1,fr:=1 }
noncomputable def l181r:List (Nat×Code):=loopsIn (Tryz.f181.body.getD .skip) 0
theorem w181r_L0:LW t181r a181r l181r 0 0 h181r_L0 e181r_L0 s181r_L0:=fun x=>by kernel_rfl
theorem o181r:Holds Tryz.prog 181 c181r:=fh t181r a181r Tryz.func181 [(0,lg l181r 0)] ⟨fun x d h=>(w181r_L0 x).trans h,trivial⟩ tn
noncomputable def t53r:Tbl:=[]
abbrev h53r_L0:Shape:={ slots:=[(0,.v (.sl (.int .u8))),(3,.ms 7),(4,.v (.int .i64))],boxes:=[(7,.row (.int .u8))] }
abbrev e53r_L0:List (XT×Shape):=[(.exit 0,{ slots:=[(3,.ms 7)],boxes:=[(7,.row (.int .u8))] })]
noncomputable def q53r_L0 (t0:(L Int)) (t4:Int) (r7:(L Int)):Option (Ta77⊕(Ta21⊕Empty)) :=
bif (decide (t4 < (t0.len:Int))) then bif (decide (0≤t4)&&decide (t4 < (t0.len:Int))) then bif (decide (0≤t4)&&decide (t4 < (r7.len:Int))) then some (.inl ((t0,((),((wI (t4 + (1:Int))),()))),((L.set r7 t4.toNat (L.get t0 t4.toNat)),()))) else none else none else some (.inr (.inl (((),()),(r7,()))))
noncomputable def s53r_L0 (x:Ta77):=q53r_L0 x.1.1 x.1.2.2.1 x.2.1
noncomputable def a53r:Nat→Option LoopAnn:=fun c=>bif Nat.beq c 0 then some (.fix h53r_L0 e53r_L0 s53r_L0) else none
noncomputable def g53r (x0:(L Int)):Option (((L Int)×Unit)×Unit) :=
bif (decide ((x0.len:Int) = (x0.len:Int))&&(decide (0≤(x0.len:Int))&&(decide ((x0.len:Int)≤2 ^ 40)&&decide (1 * (x0.len:Int)≤2 ^ 48)))) then ((fixO s53r_L0 ((x0,((),((0:Int),()))),((L.rep (x0.len:Int).toNat (Ty.zero (.int .u8))),()))).bind fun d2=>match d2 with | .inl y1=>some ((y1.2.1,()),()) | .inr e=>nomatch e) else none
noncomputable def c53r:Ctr:={ ins:=[.v (.sl (.int .u8))],out:=[(.sl (.int .u8))],F:=fun x=>g53r x.1,fr:=1 }
noncomputable def l53r:List (Nat×Code):=loopsIn (Tryz.f53.body.getD .skip) 0
theorem w53r_L0:LW t53r a53r l53r 0 0 h53r_L0 e53r_L0 s53r_L0:=fun x=>by kernel_rfl
theorem o53r:Holds Tryz.prog 53 c53r:=fh t53r a53r Tryz.func53 [(0,lg l53r 0)] ⟨fun x d h=>(w53r_L0 x).trans h,trivial⟩ tn
noncomputable def t13r:Tbl:=[(53,[],c53r)]
abbrev h13r_L0:Shape:={ slots:=[(0,.v (.sl (.sl (.int .u8)))),(3,.ms 7),(4,.v (.int .i64))],boxes:=[(7,.row (.sl (.int .u8)))] }
abbrev e13r_L0:List (XT×Shape):=[(.exit 0,{ slots:=[(3,.ms 7)],boxes:=[(7,.row (.sl (.int .u8)))] })]
noncomputable def q13r_L0 (t0:(L (L Int))) (t4:Int) (r7:(L (L Int))):Option (Ta109⊕(Ta41⊕Empty)) :=
bif (decide (t4 < (t0.len:Int))) then bif (decide (0≤t4)&&decide (t4 < (t0.len:Int))) then (g53r (L.get t0 t4.toNat)).bind fun y1=>bif (decide (0≤t4)&&decide (t4 < (r7.len:Int))) then some (.inl ((t0,((),((wI (t4 + (1:Int))),()))),((L.set r7 t4.toNat y1.1.1),()))) else none else none else some (.inr (.inl (((),()),(r7,()))))
noncomputable def s13r_L0 (x:Ta109):=q13r_L0 x.1.1 x.1.2.2.1 x.2.1
noncomputable def a13r:Nat→Option LoopAnn:=fun c=>bif Nat.beq c 0 then some (.fix h13r_L0 e13r_L0 s13r_L0) else none
noncomputable def g13r (x0:(L (L Int))):Option Ta9 :=
bif (decide ((x0.len:Int) = (x0.len:Int))&&(decide (0≤(x0.len:Int))&&(decide ((x0.len:Int)≤2 ^ 40)&&decide (24 * (x0.len:Int)≤2 ^ 48)))) then ((fixO s13r_L0 ((x0,((),((0:Int),()))),((L.rep (x0.len:Int).toNat (Ty.zero (.sl (.int .u8)))),()))).bind fun d3=>match d3 with | .inl y2=>some ((y2.2.1,()),()) | .inr e=>nomatch e) else none
noncomputable def c13r:Ctr:={ ins:=[.v (.sl (.sl (.int .u8)))],out:=[(.sl (.sl (.int .u8)))],F:=fun x=>g13r x.1,fr:=1 }
noncomputable def l13r:List (Nat×Code):=loopsIn (Tryz.f13.body.getD .skip) 0
theorem w13r_L0:LW t13r a13r l13r 0 0 h13r_L0 e13r_L0 s13r_L0:=fun x=>by kernel_rfl
theorem o13r:Holds Tryz.prog 13 c13r:=fh t13r a13r Tryz.func13 [(0,lg l13r 0)] ⟨fun x d h=>(w13r_L0 x).trans h,trivial⟩ (tc o53r tn)
noncomputable def t100r:Tbl:=[(181,[],c181r),(13,[],c13r)]
noncomputable def g100r (x0:Ta46):Option Ta95 :=
(g181r x0.1).bind fun y1=>(g13r x0.2.2.1).bind fun y2=>some (((y1.1.1,(x0.2.1,y2.1)),()),())
noncomputable def c100r:Ctr:={ ins:=[.v Ty162],out:=[Ty162],F:=fun x=>g100r x.1,fr:=1 }
theorem o100r:Holds Tryz.prog 100 c100r:=f0 t100r Tryz.func100 (tc o181r (tc o13r tn))
noncomputable def t101:Tbl:=[]
noncomputable def g101 (x0:Ta116):Option Ta141 :=
some ((x0,()),())
noncomputable def f101 (x0:Ta116):Ta116 :=
x0
theorem n101 (x0:Ta116):g101 x0 = some ((f101 x0,()),()):=by simp only [g101,f101,pull1]
noncomputable def c101:Ctr:={ ins:=[.v Ty242],out:=[Ty242],F:=fun x=>some ((f101 x.1,()),()) }
theorem o101:Holds Tryz.prog 101 c101:=f0T t101 (fun x=>g101 x.1) Tryz.func101 tn (fun x=>n101 x.1)
noncomputable def t102:Tbl:=[]
noncomputable def g102 (x0:Ta24):Option ((Ta24×Unit)×Unit) :=
some ((x0,()),())
noncomputable def f102 (x0:Ta24):Ta24 :=
x0
theorem n102 (x0:Ta24):g102 x0 = some ((f102 x0,()),()):=by simp only [g102,f102,pull1]
noncomputable def c102:Ctr:={ ins:=[.v Ty159],out:=[Ty159],F:=fun x=>some ((f102 x.1,()),()) }
theorem o102:Holds Tryz.prog 102 c102:=f0T t102 (fun x=>g102 x.1) Tryz.func102 tn (fun x=>n102 x.1)
noncomputable def t310:Tbl:=[]
noncomputable def g310 (x0:(Int×(Bool×Unit))):Option (((Int×(Bool×Unit))×Unit)×Unit) :=
some ((x0,()),())
noncomputable def f310 (x0:(Int×(Bool×Unit))):(Int×(Bool×Unit)) :=
x0
theorem n310 (x0:(Int×(Bool×Unit))):g310 x0 = some ((f310 x0,()),()):=by simp only [g310,f310,pull1]
noncomputable def c310:Ctr:={ ins:=[.v Ty61],out:=[Ty61],F:=fun x=>some ((f310 x.1,()),()) }
theorem o310:Holds Tryz.prog 310 c310:=f0T t310 (fun x=>g310 x.1) Tryz.func310 tn (fun x=>n310 x.1)
noncomputable def t251r:Tbl:=[(310,[],c310)]
abbrev h251r_L0:Shape:={ slots:=[(0,.v Ty80),(3,.ms 7),(4,.v (.int .i64))],boxes:=[(7,.row Ty61)] }
abbrev e251r_L0:List (XT×Shape):=[(.exit 0,{ slots:=[(3,.ms 7)],boxes:=[(7,.row Ty61)] })]
noncomputable def q251r_L0 (t0:(L (Int×(Bool×Unit)))) (t4:Int) (r7:(L (Int×(Bool×Unit)))):Option ((((L (Int×(Bool×Unit)))×(Unit×(Int×Unit)))×Ta22)⊕(((Unit×Unit)×Ta22)⊕Empty)) :=
bif (decide (t4 < (t0.len:Int))) then bif (decide (0≤t4)&&decide (t4 < (t0.len:Int))) then bif (decide (0≤t4)&&decide (t4 < (r7.len:Int))) then some (.inl ((t0,((),((wI (t4 + (1:Int))),()))),((L.set r7 t4.toNat (f310 (L.get t0 t4.toNat))),()))) else none else none else some (.inr (.inl (((),()),(r7,()))))
noncomputable def s251r_L0 (x:(((L (Int×(Bool×Unit)))×(Unit×(Int×Unit)))×Ta22)):=q251r_L0 x.1.1 x.1.2.2.1 x.2.1
noncomputable def a251r:Nat→Option LoopAnn:=fun c=>bif Nat.beq c 0 then some (.fix h251r_L0 e251r_L0 s251r_L0) else none
noncomputable def g251r (x0:(L (Int×(Bool×Unit)))):Option (Ta22×Unit) :=
bif (decide ((x0.len:Int) = (x0.len:Int))&&(decide (0≤(x0.len:Int))&&(decide ((x0.len:Int)≤2 ^ 40)&&decide (16 * (x0.len:Int)≤2 ^ 48)))) then ((fixO s251r_L0 ((x0,((),((0:Int),()))),((L.rep (x0.len:Int).toNat (Ty.zero Ty61)),()))).bind fun d2=>match d2 with | .inl y1=>some ((y1.2.1,()),()) | .inr e=>nomatch e) else none
noncomputable def c251r:Ctr:={ ins:=[.v Ty80],out:=[Ty80],F:=fun x=>g251r x.1,fr:=1 }
noncomputable def l251r:List (Nat×Code):=loopsIn (Tryz.f251.body.getD .skip) 0
theorem w251r_L0:LW t251r a251r l251r 0 0 h251r_L0 e251r_L0 s251r_L0:=fun x=>by kernel_rfl
theorem o251r:Holds Tryz.prog 251 c251r:=fh t251r a251r Tryz.func251 [(0,lg l251r 0)] ⟨fun x d h=>(w251r_L0 x).trans h,trivial⟩ (tc o310 tn)
noncomputable def t182r:Tbl:=[(251,[],c251r)]
abbrev h182r_L0:Shape:={ slots:=[(0,.v Ty101),(3,.ms 7),(4,.v (.int .i64))],boxes:=[(7,.row Ty80)] }
abbrev e182r_L0:List (XT×Shape):=[(.exit 0,{ slots:=[(3,.ms 7)],boxes:=[(7,.row Ty80)] })]
noncomputable def q182r_L0 (t0:Ta7) (t4:Int) (r7:Ta7):Option (((Ta7×(Unit×(Int×Unit)))×Ta40)⊕(((Unit×Unit)×Ta40)⊕Empty)) :=
bif (decide (t4 < (t0.len:Int))) then bif (decide (0≤t4)&&decide (t4 < (t0.len:Int))) then (g251r (L.get t0 t4.toNat)).bind fun y1=>bif (decide (0≤t4)&&decide (t4 < (r7.len:Int))) then some (.inl ((t0,((),((wI (t4 + (1:Int))),()))),((L.set r7 t4.toNat y1.1.1),()))) else none else none else some (.inr (.inl (((),()),(r7,()))))
noncomputable def s182r_L0 (x:((Ta7×(Unit×(Int×Unit)))×Ta40)):=q182r_L0 x.1.1 x.1.2.2.1 x.2.1
noncomputable def a182r:Nat→Option LoopAnn:=fun c=>bif Nat.beq c 0 then some (.fix h182r_L0 e182r_L0 s182r_L0) else none
noncomputable def g182r (x0:Ta7):Option (Ta40×Unit) :=
bif (decide ((x0.len:Int) = (x0.len:Int))&&(decide (0≤(x0.len:Int))&&(decide ((x0.len:Int)≤2 ^ 40)&&decide (24 * (x0.len:Int)≤2 ^ 48)))) then ((fixO s182r_L0 ((x0,((),((0:Int),()))),((L.rep (x0.len:Int).toNat (Ty.zero Ty80)),()))).bind fun d3=>match d3 with | .inl y2=>some ((y2.2.1,()),()) | .inr e=>nomatch e) else none
noncomputable def c182r:Ctr:={ ins:=[.v Ty101],out:=[Ty101],F:=fun x=>g182r x.1,fr:=1 }
noncomputable def l182r:List (Nat×Code):=loopsIn (Tryz.f182.body.getD .skip) 0
theorem w182r_L0:LW t182r a182r l182r 0 0 h182r_L0 e182r_L0 s182r_L0:=fun x=>by kernel_rfl
theorem o182r:Holds Tryz.prog 182 c182r:=fh t182r a182r Tryz.func182 [(0,lg l182r 0)] ⟨fun x d h=>(w182r_L0 x).trans h,trivial⟩ (tc o251r tn)
noncomputable def t103r:Tbl:=[(47,[],c47),(182,[],c182r)]
noncomputable def g103r (x0:Ta122):Option Ta146 :=
(g182r x0.2.1).bind fun y1=>some ((((f47 x0.1),y1.1),()),())
noncomputable def c103r:Ctr:={ ins:=[.v Ty234],out:=[Ty234],F:=fun x=>g103r x.1,fr:=1 }
theorem o103r:Holds Tryz.prog 103 c103r:=f0 t103r Tryz.func103 (tc o47 (tc o182r tn))
noncomputable def t104r:Tbl:=[(50,[],c50r)]
noncomputable def g104r (x0:(Int×((L Int)×Unit))):Option Ta47 :=
(g50r x0.2.1).bind fun y1=>some (((x0.1,y1.1),()),())
noncomputable def c104r:Ctr:={ ins:=[.v Ty103],out:=[Ty103],F:=fun x=>g104r x.1,fr:=1 }
theorem o104r:Holds Tryz.prog 104 c104r:=f0 t104r Tryz.func104 (tc o50r tn)
noncomputable def t183r:Tbl:=[(181,[],c181r)]
noncomputable def g183r (x0:(Int×((L Int)×Unit))):Option Ta47 :=
(g181r x0.2.1).bind fun y1=>some (((x0.1,y1.1),()),())
noncomputable def c183r:Ctr:={ ins:=[.v Ty100],out:=[Ty100],F:=fun x=>g183r x.1,fr:=1 }
theorem o183r:Holds Tryz.prog 183 c183r:=f0 t183r Tryz.func183 (tc o181r tn)
noncomputable def t105r:Tbl:=[(183,[],c183r)]
abbrev h105r_L0:Shape:={ slots:=[(0,.v Ty123),(3,.ms 7),(4,.v (.int .i64))],boxes:=[(7,.row Ty100)] }
abbrev e105r_L0:List (XT×Shape):=[(.exit 0,{ slots:=[(3,.ms 7)],boxes:=[(7,.row Ty100)] })]
noncomputable def q105r_L0 (t0:Ta1) (t4:Int) (r7:Ta1):Option (((Ta1×(Unit×(Int×Unit)))×Ta36)⊕(((Unit×Unit)×Ta36)⊕Empty)) :=
bif (decide (t4 < (t0.len:Int))) then bif (decide (0≤t4)&&decide (t4 < (t0.len:Int))) then (g183r (L.get t0 t4.toNat)).bind fun y1=>bif (decide (0≤t4)&&decide (t4 < (r7.len:Int))) then some (.inl ((t0,((),((wI (t4 + (1:Int))),()))),((L.set r7 t4.toNat y1.1.1),()))) else none else none else some (.inr (.inl (((),()),(r7,()))))
noncomputable def s105r_L0 (x:((Ta1×(Unit×(Int×Unit)))×Ta36)):=q105r_L0 x.1.1 x.1.2.2.1 x.2.1
noncomputable def a105r:Nat→Option LoopAnn:=fun c=>bif Nat.beq c 0 then some (.fix h105r_L0 e105r_L0 s105r_L0) else none
noncomputable def g105r (x0:Ta1):Option (Ta36×Unit) :=
bif (decide ((x0.len:Int) = (x0.len:Int))&&(decide (0≤(x0.len:Int))&&(decide ((x0.len:Int)≤2 ^ 40)&&decide (32 * (x0.len:Int)≤2 ^ 48)))) then ((fixO s105r_L0 ((x0,((),((0:Int),()))),((L.rep (x0.len:Int).toNat (Ty.zero Ty100)),()))).bind fun d3=>match d3 with | .inl y2=>some ((y2.2.1,()),()) | .inr e=>nomatch e) else none
noncomputable def c105r:Ctr:={ ins:=[.v Ty123],out:=[Ty123],F:=fun x=>g105r x.1,fr:=1 }
noncomputable def l105r:List (Nat×Code):=loopsIn (Tryz.f105.body.getD .skip) 0
theorem w105r_L0:LW t105r a105r l105r 0 0 h105r_L0 e105r_L0 s105r_L0:=fun x=>by kernel_rfl
theorem o105r:Holds Tryz.prog 105 c105r:=fh t105r a105r Tryz.func105 [(0,lg l105r 0)] ⟨fun x d h=>(w105r_L0 x).trans h,trivial⟩ (tc o183r tn)
noncomputable def t184r:Tbl:=[(181,[],c181r)]
noncomputable def g184r (x0:((L Int)×Unit)):Option ((((L Int)×Unit)×Unit)×Unit) :=
(g181r x0.1).bind fun y1=>some ((y1.1,()),())
noncomputable def c184r:Ctr:={ ins:=[.v Ty33],out:=[Ty33],F:=fun x=>g184r x.1,fr:=1 }
theorem o184r:Holds Tryz.prog 184 c184r:=f0 t184r Tryz.func184 (tc o181r tn)
noncomputable def t106r:Tbl:=[(184,[],c184r)]
abbrev h106r_L0:Shape:={ slots:=[(0,.v Ty54),(3,.ms 7),(4,.v (.int .i64))],boxes:=[(7,.row Ty33)] }
abbrev e106r_L0:List (XT×Shape):=[(.exit 0,{ slots:=[(3,.ms 7)],boxes:=[(7,.row Ty33)] })]
noncomputable def q106r_L0 (t0:(L ((L Int)×Unit))) (t4:Int) (r7:(L ((L Int)×Unit))):Option ((((L ((L Int)×Unit))×(Unit×(Int×Unit)))×Ta10)⊕(((Unit×Unit)×Ta10)⊕Empty)) :=
bif (decide (t4 < (t0.len:Int))) then bif (decide (0≤t4)&&decide (t4 < (t0.len:Int))) then (g184r (L.get t0 t4.toNat)).bind fun y1=>bif (decide (0≤t4)&&decide (t4 < (r7.len:Int))) then some (.inl ((t0,((),((wI (t4 + (1:Int))),()))),((L.set r7 t4.toNat y1.1.1),()))) else none else none else some (.inr (.inl (((),()),(r7,()))))
noncomputable def s106r_L0 (x:(((L ((L Int)×Unit))×(Unit×(Int×Unit)))×Ta10)):=q106r_L0 x.1.1 x.1.2.2.1 x.2.1
noncomputable def a106r:Nat→Option LoopAnn:=fun c=>bif Nat.beq c 0 then some (.fix h106r_L0 e106r_L0 s106r_L0) else none
noncomputable def g106r (x0:(L ((L Int)×Unit))):Option (Ta10×Unit) :=
bif (decide ((x0.len:Int) = (x0.len:Int))&&(decide (0≤(x0.len:Int))&&(decide ((x0.len:Int)≤2 ^ 40)&&decide (24 * (x0.len:Int)≤2 ^ 48)))) then ((fixO s106r_L0 ((x0,((),((0:Int),()))),((L.rep (x0.len:Int).toNat (Ty.zero Ty33)),()))).bind fun d3=>match d3 with | .inl y2=>some ((y2.2.1,()),()) | .inr e=>nomatch e) else none
noncomputable def c106r:Ctr:={ ins:=[.v Ty54],out:=[Ty54],F:=fun x=>g106r x.1,fr:=1 }
noncomputable def l106r:List (Nat×Code):=loopsIn (Tryz.f106.body.getD .skip) 0
theorem w106r_L0:LW t106r a106r l106r 0 0 h106r_L0 e106r_L0 s106r_L0:=fun x=>by kernel_rfl
theorem o106r:Holds Tryz.prog 106 c106r:=fh t106r a106r Tryz.func106 [(0,lg l106r 0)] ⟨fun x d h=>(w106r_L0 x).trans h,trivial⟩ (tc o184r tn)
noncomputable def t185r:Tbl:=[(181,[],c181r)]
noncomputable def g185r (x0:Ta2):Option Ta59 :=
(g181r x0.1).bind fun y1=>(g181r x0.2.1).bind fun y2=>some (((y1.1.1,y2.1),()),())
noncomputable def c185r:Ctr:={ ins:=[.v Ty121],out:=[Ty121],F:=fun x=>g185r x.1,fr:=1 }
theorem o185r:Holds Tryz.prog 185 c185r:=f0 t185r Tryz.func185 (tc o181r tn)
noncomputable def t107r:Tbl:=[(185,[],c185r)]
abbrev h107r_L0:Shape:={ slots:=[(0,.v Ty131),(3,.ms 7),(4,.v (.int .i64))],boxes:=[(7,.row Ty121)] }
abbrev e107r_L0:List (XT×Shape):=[(.exit 0,{ slots:=[(3,.ms 7)],boxes:=[(7,.row Ty121)] })]
noncomputable def q107r_L0 (t0:Ta20) (t4:Int) (r7:Ta20):Option (((Ta20×(Unit×(Int×Unit)))×Ta49)⊕(((Unit×Unit)×Ta49)⊕Empty)) :=
bif (decide (t4 < (t0.len:Int))) then bif (decide (0≤t4)&&decide (t4 < (t0.len:Int))) then (g185r (L.get t0 t4.toNat)).bind fun y1=>bif (decide (0≤t4)&&decide (t4 < (r7.len:Int))) then some (.inl ((t0,((),((wI (t4 + (1:Int))),()))),((L.set r7 t4.toNat y1.1.1),()))) else none else none else some (.inr (.inl (((),()),(r7,()))))
noncomputable def s107r_L0 (x:((Ta20×(Unit×(Int×Unit)))×Ta49)):=q107r_L0 x.1.1 x.1.2.2.1 x.2.1
noncomputable def a107r:Nat→Option LoopAnn:=fun c=>bif Nat.beq c 0 then some (.fix h107r_L0 e107r_L0 s107r_L0) else none
noncomputable def g107r (x0:Ta20):Option (Ta49×Unit) :=
bif (decide ((x0.len:Int) = (x0.len:Int))&&(decide (0≤(x0.len:Int))&&(decide ((x0.len:Int)≤2 ^ 40)&&decide (48 * (x0.len:Int)≤2 ^ 48)))) then ((fixO s107r_L0 ((x0,((),((0:Int),()))),((L.rep (x0.len:Int).toNat (Ty.zero Ty121)),()))).bind fun d3=>match d3 with | .inl y2=>some ((y2.2.1,()),()) | .inr e=>nomatch e) else none
noncomputable def c107r:Ctr:={ ins:=[.v Ty131],out:=[Ty131],F:=fun x=>g107r x.1,fr:=1 }
noncomputable def l107r:List (Nat×Code):=loopsIn (Tryz.f107.body.getD .skip) 0
theorem w107r_L0:LW t107r a107r l107r 0 0 h107r_L0 e107r_L0 s107r_L0:=fun x=>by kernel_rfl
theorem o107r:Holds Tryz.prog 107 c107r:=fh t107r a107r Tryz.func107 [(0,lg l107r 0)] ⟨fun x d h=>(w107r_L0 x).trans h,trivial⟩ (tc o185r tn)
noncomputable def t24r:Tbl:=[(100,[],c100r),(101,[],c101),(102,[],c102),(103,[],c103r),(104,[],c104r),(13,[],c13r),(105,[],c105r),(106,[],c106r),(107,[],c107r)]
noncomputable def g24r (x0:Ta357):Option Ta359 :=
(g100r x0.1).bind fun y1=>(g103r x0.2.2.2.1).bind fun y2=>(g104r x0.2.2.2.2.1).bind fun y3=>(g13r x0.2.2.2.2.2.2.2.1).bind fun y4=>(g105r x0.2.2.2.2.2.2.2.2.1).bind fun y5=>(g106r x0.2.2.2.2.2.2.2.2.2.1).bind fun y6=>(g107r x0.2.2.2.2.2.2.2.2.2.2.1).bind fun y7=>some ((((y1.1.1.1,(y1.1.1.2.1,y1.1.1.2.2)),((f101 x0.2.1),((f102 x0.2.2.1),(y2.1.1,(y3.1.1,(x0.2.2.2.2.2.1,(x0.2.2.2.2.2.2.1,(y4.1.1,(y5.1.1,(y6.1.1,y7.1)))))))))),()),())
noncomputable def c24r:Ctr:={ ins:=[.v Ty380],out:=[Ty380],F:=fun x=>g24r x.1,fr:=1 }
theorem o24r:Holds Tryz.prog 24 c24r:=f0 t24r Tryz.func24 (tc o100r (tc o101 (tc o102 (tc o103r (tc o104r (tc o13r (tc o105r (tc o106r (tc o107r tn)))))))))
noncomputable def t97:Tbl:=[]
noncomputable def g97 (x0:Int) (x1:Int) (x2:Int):Option ((Bool×Unit)×Unit) :=
bif (decide (x0 ≥ x1)) then some (((decide (x0≤x2)),()),()) else some ((false,()),())
noncomputable def f97 (x0:Int) (x1:Int) (x2:Int):Bool :=
bif (decide (x0 ≥ x1)) then (decide (x0≤x2)) else false
theorem n97 (x0:Int) (x1:Int) (x2:Int):g97 x0 x1 x2 = some ((f97 x0 x1 x2,()),()):=by simp only [g97,f97,pull1]
noncomputable def c97:Ctr:={ ins:=[.v (.int .i64),.v (.int .i64),.v (.int .i64)],out:=[.bool],F:=fun x=>some ((f97 x.1 x.2.1 x.2.2.1,()),()) }
theorem o97:Holds Tryz.prog 97 c97:=f0T t97 (fun x=>g97 x.1 x.2.1 x.2.2.1) Tryz.func97 tn (fun x=>n97 x.1 x.2.1 x.2.2.1)
noncomputable def t119:Tbl:=[(97,[],c97)]
noncomputable def g119 (x0:(Int×(Int×(Int×Unit)))):Option ((Bool×Unit)×Unit) :=
bif (x0.1 == (1:Int)) then bif (x0.2.2.1 == (4:Int)) then some (((f97 x0.2.1 (1:Int) (4:Int)),()),()) else bif (x0.2.2.1 == (8:Int)) then some (((f97 x0.2.1 (1:Int) (4:Int)),()),()) else bif (x0.2.2.1 == (16:Int)) then some (((f97 x0.2.1 (1:Int) (4:Int)),()),()) else bif (x0.2.2.1 == (32:Int)) then some (((f97 x0.2.1 (1:Int) (4:Int)),()),()) else some ((false,()),()) else bif (x0.1 == (2:Int)) then bif (x0.2.2.1 == (4:Int)) then some (((f97 x0.2.1 (1:Int) (4:Int)),()),()) else bif (x0.2.2.1 == (8:Int)) then some (((f97 x0.2.1 (1:Int) (4:Int)),()),()) else bif (x0.2.2.1 == (16:Int)) then some (((f97 x0.2.1 (1:Int) (4:Int)),()),()) else bif (x0.2.2.1 == (32:Int)) then some (((f97 x0.2.1 (1:Int) (4:Int)),()),()) else some ((false,()),()) else bif (x0.1 == (4:Int)) then bif (x0.2.2.1 == (4:Int)) then some (((f97 x0.2.1 (1:Int) (4:Int)),()),()) else bif (x0.2.2.1 == (8:Int)) then some (((f97 x0.2.1 (1:Int) (4:Int)),()),()) else bif (x0.2.2.1 == (16:Int)) then some (((f97 x0.2.1 (1:Int) (4:Int)),()),()) else bif (x0.2.2.1 == (32:Int)) then some (((f97 x0.2.1 (1:Int) (4:Int)),()),()) else some ((false,()),()) else bif (x0.1 == (8:Int)) then bif (x0.2.2.1 == (4:Int)) then some (((f97 x0.2.1 (1:Int) (4:Int)),()),()) else bif (x0.2.2.1 == (8:Int)) then some (((f97 x0.2.1 (1:Int) (4:Int)),()),()) else bif (x0.2.2.1 == (16:Int)) then some (((f97 x0.2.1 (1:Int) (4:Int)),()),()) else bif (x0.2.2.1 == (32:Int)) then some (((f97 x0.2.1 (1:Int) (4:Int)),()),()) else some ((false,()),()) else bif (x0.2.2.1 == (4:Int)) then bif (x0.1 == (16:Int)) then some (((f97 x0.2.1 (1:Int) (4:Int)),()),()) else some ((false,()),()) else bif (x0.2.2.1 == (8:Int)) then bif (x0.1 == (16:Int)) then some (((f97 x0.2.1 (1:Int) (4:Int)),()),()) else some ((false,()),()) else bif (x0.2.2.1 == (16:Int)) then bif (x0.1 == (16:Int)) then some (((f97 x0.2.1 (1:Int) (4:Int)),()),()) else some ((false,()),()) else bif (x0.1 == (16:Int)) then bif (x0.2.2.1 == (32:Int)) then some (((f97 x0.2.1 (1:Int) (4:Int)),()),()) else some ((false,()),()) else some ((false,()),())
noncomputable def f119 (x0:(Int×(Int×(Int×Unit)))):Bool :=
bif (x0.1 == (1:Int)) then bif (x0.2.2.1 == (4:Int)) then (f97 x0.2.1 (1:Int) (4:Int)) else bif (x0.2.2.1 == (8:Int)) then (f97 x0.2.1 (1:Int) (4:Int)) else bif (x0.2.2.1 == (16:Int)) then (f97 x0.2.1 (1:Int) (4:Int)) else bif (x0.2.2.1 == (32:Int)) then (f97 x0.2.1 (1:Int) (4:Int)) else false else bif (x0.1 == (2:Int)) then bif (x0.2.2.1 == (4:Int)) then (f97 x0.2.1 (1:Int) (4:Int)) else bif (x0.2.2.1 == (8:Int)) then (f97 x0.2.1 (1:Int) (4:Int)) else bif (x0.2.2.1 == (16:Int)) then (f97 x0.2.1 (1:Int) (4:Int)) else bif (x0.2.2.1 == (32:Int)) then (f97 x0.2.1 (1:Int) (4:Int)) else false else bif (x0.1 == (4:Int)) then bif (x0.2.2.1 == (4:Int)) then (f97 x0.2.1 (1:Int) (4:Int)) else bif (x0.2.2.1 == (8:Int)) then (f97 x0.2.1 (1:Int) (4:Int)) else bif (x0.2.2.1 == (16:Int)) then (f97 x0.2.1 (1:Int) (4:Int)) else bif (x0.2.2.1 == (32:Int)) then (f97 x0.2.1 (1:Int) (4:Int)) else false else bif (x0.1 == (8:Int)) then bif (x0.2.2.1 == (4:Int)) then (f97 x0.2.1 (1:Int) (4:Int)) else bif (x0.2.2.1 == (8:Int)) then (f97 x0.2.1 (1:Int) (4:Int)) else bif (x0.2.2.1 == (16:Int)) then (f97 x0.2.1 (1:Int) (4:Int)) else bif (x0.2.2.1 == (32:Int)) then (f97 x0.2.1 (1:Int) (4:Int)) else false else bif (x0.2.2.1 == (4:Int)) then bif (x0.1 == (16:Int)) then (f97 x0.2.1 (1:Int) (4:Int)) else false else bif (x0.2.2.1 == (8:Int)) then bif (x0.1 == (16:Int)) then (f97 x0.2.1 (1:Int) (4:Int)) else false else bif (x0.2.2.1 == (16:Int)) then bif (x0.1 == (16:Int)) then (f97 x0.2.1 (1:Int) (4:Int)) else false else bif (x0.1 == (16:Int)) then bif (x0.2.2.1 == (32:Int)) then (f97 x0.2.1 (1:Int) (4:Int)) else false else false
theorem n119 (x0:(Int×(Int×(Int×Unit)))):g119 x0 = some ((f119 x0,()),()):=by simp only [g119,f119,pull1]
noncomputable def c119:Ctr:={ ins:=[.v Ty135],out:=[.bool],F:=fun x=>some ((f119 x.1,()),()) }
theorem o119:Holds Tryz.prog 119 c119:=f0T t119 (fun x=>g119 x.1) Tryz.func119 (tc o97 tn) (fun x=>n119 x.1)
noncomputable def t294:Tbl:=[(97,[],c97)]
noncomputable def g294 (x0:Ta85):Option ((Bool×Unit)×Unit) :=
bif (f97 x0.1 (1:Int) (20:Int)) then bif (f97 x0.2.1 (0:Int) (50:Int)) then bif (f97 x0.2.2.1 (0:Int) (50:Int)) then bif (f97 x0.2.2.2.1 (0:Int) (50:Int)) then bif (f97 x0.2.2.2.2.1 (0:Int) (50:Int)) then bif (f97 x0.2.2.2.2.2.1 (0:Int) (50:Int)) then some (((f97 x0.2.2.2.2.2.2.1 (0:Int) (50:Int)),()),()) else some ((false,()),()) else some ((false,()),()) else some ((false,()),()) else some ((false,()),()) else some ((false,()),()) else some ((false,()),())
noncomputable def f294 (x0:Ta85):Bool :=
bif (f97 x0.1 (1:Int) (20:Int)) then bif (f97 x0.2.1 (0:Int) (50:Int)) then bif (f97 x0.2.2.1 (0:Int) (50:Int)) then bif (f97 x0.2.2.2.1 (0:Int) (50:Int)) then bif (f97 x0.2.2.2.2.1 (0:Int) (50:Int)) then bif (f97 x0.2.2.2.2.2.1 (0:Int) (50:Int)) then (f97 x0.2.2.2.2.2.2.1 (0:Int) (50:Int)) else false else false else false else false else false else false
theorem n294 (x0:Ta85):g294 x0 = some ((f294 x0,()),()):=by simp only [g294,f294,pull1]
noncomputable def c294:Ctr:={ ins:=[.v Ty238],out:=[.bool],F:=fun x=>some ((f294 x.1,()),()) }
theorem o294:Holds Tryz.prog 294 c294:=f0T t294 (fun x=>g294 x.1) Tryz.func294 (tc o97 tn) (fun x=>n294 x.1)
noncomputable def t350r:Tbl:=[]
noncomputable def g350r:Option (((L Int)×Unit)×Unit) :=
some (((L.of (Ty.zero (.int .i64)) [(0:Int),(7:Int),(7:Int),(7:Int),(7:Int),(7:Int),(7:Int),(7:Int),(7:Int),(7:Int),(7:Int),(7:Int),(7:Int),(11:Int),(9:Int),(11:Int),(11:Int),(11:Int),(11:Int),(11:Int),(11:Int),(11:Int),(9:Int),(10:Int),(1:Int),(11:Int),(11:Int),(11:Int),(9:Int),(9:Int),(0:Int),(0:Int),(8:Int)]),()),())
noncomputable def f350r:(L Int) :=
(L.of (Ty.zero (.int .i64)) [(0:Int),(7:Int),(7:Int),(7:Int),(7:Int),(7:Int),(7:Int),(7:Int),(7:Int),(7:Int),(7:Int),(7:Int),(7:Int),(11:Int),(9:Int),(11:Int),(11:Int),(11:Int),(11:Int),(11:Int),(11:Int),(11:Int),(9:Int),(10:Int),(1:Int),(11:Int),(11:Int),(11:Int),(9:Int),(9:Int),(0:Int),(0:Int),(8:Int)])
theorem n350r:g350r = some ((f350r,()),()):=by simp only [g350r,f350r,pull1]
noncomputable def c350r:Ctr:={ ins:=[],out:=[(.sl (.int .i64))],F:=fun x=>some ((f350r,()),()),fr:=1 }
theorem o350r:Holds Tryz.prog 350 c350r:=f0T t350r (fun x=>g350r) Tryz.func350 tn (fun x=>n350r)
noncomputable def t324:Tbl:=[(97,[],c97),(350,[],c350r)]
noncomputable def g324 (x0:Int):Option ((Int×Unit)×Unit) :=
bif (!(f97 x0 (0:Int) (32:Int))) then some (((-1:Int),()),()) else bif (decide (0≤x0)&&decide (x0 < ((f350r).len:Int))) then some (((L.get (f350r) x0.toNat),()),()) else none
noncomputable def c324:Ctr:={ ins:=[.v (.int .i64)],out:=[(.int .i64)],F:=fun x=>g324 x.1 }
theorem o324:Holds Tryz.prog 324 c324:=f0 t324 Tryz.func324 (tc o97 (tc o350r tn))
noncomputable def t275:Tbl:=[(294,[],c294),(324,[],c324),(97,[],c97)]
noncomputable def g275 (x0:Ta85) (x1:Int):Option ((Int×Unit)×Unit) :=
bif (!(f294 x0)) then some (((-1:Int),()),()) else (g324 x1).bind fun y1=>bif (decide (y1.1.1 < (0:Int))) then some (((-1:Int),()),()) else bif (x1 == (9:Int)) then some (((wI (x0.1 + x0.2.1)),()),()) else bif (x1 == (10:Int)) then some (((wI (x0.1 + x0.2.1)),()),()) else bif (f97 x1 (15:Int) (18:Int)) then some (((wI (x0.1 + x0.2.2.1)),()),()) else bif (decide (x1 ≥ (25:Int))) then some (((wI (x0.1 + x0.2.2.2.2.2.1)),()),()) else some ((x0.1,()),())
noncomputable def c275:Ctr:={ ins:=[.v Ty238,.v (.int .i64)],out:=[(.int .i64)],F:=fun x=>g275 x.1 x.2.1 }
theorem o275:Holds Tryz.prog 275 c275:=f0 t275 Tryz.func275 (tc o294 (tc o324 (tc o97 tn)))
noncomputable def t327:Tbl:=[(294,[],c294)]
noncomputable def g327 (x0:Ta85) (x1:Ta11):Option ((Int×Unit)×Unit) :=
bif (!(f294 x0)) then some (((-1:Int),()),()) else bif (!x1.1) then bif (!x1.2.1) then bif x1.2.2.1 then some (((wI ((wI ((wI ((0:Int) + x0.2.2.2.1)) + x0.2.2.2.2.1)) + x0.2.2.2.2.2.2.1)),()),()) else some (((wI ((wI ((0:Int) + x0.2.2.2.1)) + x0.2.2.2.2.1)),()),()) else bif x1.2.2.1 then some (((wI ((wI ((0:Int) + x0.2.2.2.1)) + x0.2.2.2.2.2.2.1)),()),()) else some (((wI ((0:Int) + x0.2.2.2.1)),()),()) else bif (!x1.2.1) then bif x1.2.2.1 then some (((wI ((wI ((0:Int) + x0.2.2.2.2.1)) + x0.2.2.2.2.2.2.1)),()),()) else some (((wI ((0:Int) + x0.2.2.2.2.1)),()),()) else bif x1.2.2.1 then some (((wI ((0:Int) + x0.2.2.2.2.2.2.1)),()),()) else some (((0:Int),()),())
noncomputable def f327 (x0:Ta85) (x1:Ta11):Int :=
bif (!(f294 x0)) then (-1:Int) else bif (!x1.1) then bif (!x1.2.1) then bif x1.2.2.1 then (wI ((wI ((wI ((0:Int) + x0.2.2.2.1)) + x0.2.2.2.2.1)) + x0.2.2.2.2.2.2.1)) else (wI ((wI ((0:Int) + x0.2.2.2.1)) + x0.2.2.2.2.1)) else bif x1.2.2.1 then (wI ((wI ((0:Int) + x0.2.2.2.1)) + x0.2.2.2.2.2.2.1)) else (wI ((0:Int) + x0.2.2.2.1)) else bif (!x1.2.1) then bif x1.2.2.1 then (wI ((wI ((0:Int) + x0.2.2.2.2.1)) + x0.2.2.2.2.2.2.1)) else (wI ((0:Int) + x0.2.2.2.2.1)) else bif x1.2.2.1 then (wI ((0:Int) + x0.2.2.2.2.2.2.1)) else (0:Int)
theorem n327 (x0:Ta85) (x1:Ta11):g327 x0 x1 = some ((f327 x0 x1,()),()):=by simp only [g327,f327,pull1]
noncomputable def c327:Ctr:={ ins:=[.v Ty238,.v (.pair .bool (.pair .bool (.pair .bool .unit)))],out:=[(.int .i64)],F:=fun x=>some ((f327 x.1 x.2.1,()),()) }
theorem o327:Holds Tryz.prog 327 c327:=f0T t327 (fun x=>g327 x.1 x.2.1) Tryz.func327 (tc o294 tn) (fun x=>n327 x.1 x.2.1)
noncomputable def t314:Tbl:=[(327,[],c327)]
abbrev h314_L0:Shape:={ slots:=[(1,.bx 1 0),(3,.v (.int .i64)),(4,.v (.int .i64))],boxes:=[(1,.typ Ty238)] }
abbrev e314_L0:List (XT×Shape):=[(.exit 0,{ slots:=[(3,.v (.int .i64))],boxes:=[] })]
noncomputable def q314_L0 (t3:Int) (t4:Int) (b1:Ta85):Option (Ta160⊕(((Int×Unit)×Unit)⊕Empty)) :=
bif (decide (t4 < (8:Int))) then bif (decide ((f327 b1 (((Int.tmod t4 (2:Int)) == (1:Int)),(((Int.tmod (wI (Int.tdiv t4 (2:Int))) (2:Int)) == (1:Int)),(((wI (Int.tdiv t4 (4:Int))) == (1:Int)),())))) > t3)) then some (.inl (((),((f327 b1 (((Int.tmod t4 (2:Int)) == (1:Int)),(((Int.tmod (wI (Int.tdiv t4 (2:Int))) (2:Int)) == (1:Int)),(((wI (Int.tdiv t4 (4:Int))) == (1:Int)),())))),((wI (t4 + (1:Int))),()))),(b1,()))) else some (.inl (((),(t3,((wI (t4 + (1:Int))),()))),(b1,()))) else some (.inr (.inl ((t3,()),())))
noncomputable def s314_L0 (x:Ta160):=q314_L0 x.1.2.1 x.1.2.2.1 x.2.1
noncomputable def a314:Nat→Option LoopAnn:=fun c=>bif Nat.beq c 0 then some (.fix h314_L0 e314_L0 s314_L0) else none
noncomputable def g314 (x0:Ta85):Option ((Int×Unit)×Unit) :=
(fixO s314_L0 (((),((-1:Int),((0:Int),()))),(x0,()))).bind fun d2=>match d2 with | .inl y1=>some ((y1.1.1,()),()) | .inr e=>nomatch e
noncomputable def c314:Ctr:={ ins:=[.v Ty238],out:=[(.int .i64)],F:=fun x=>g314 x.1 }
noncomputable def l314:List (Nat×Code):=loopsIn (Tryz.f314.body.getD .skip) 0
theorem w314_L0:LW t314 a314 l314 0 0 h314_L0 e314_L0 s314_L0:=fun x=>by kernel_rfl
theorem o314:Holds Tryz.prog 314 c314:=fh t314 a314 Tryz.func314 [(0,lg l314 0)] ⟨fun x d h=>(w314_L0 x).trans h,trivial⟩ (tc o327 tn)
noncomputable def t265:Tbl:=[(294,[],c294),(275,[],c275),(314,[],c314)]
abbrev h265_L0:Shape:={ slots:=[(1,.bx 1 0),(3,.v (.int .i64)),(4,.v (.int .i64))],boxes:=[(1,.typ Ty238)] }
abbrev e265_L0:List (XT×Shape):=[(.exit 0,{ slots:=[(1,.bx 1 0),(3,.v (.int .i64))],boxes:=[(1,.typ Ty238)] })]
noncomputable def q265_L0 (t3:Int) (t4:Int) (b1:Ta85):Option (Ta160⊕(((Unit×(Int×Unit))×Ta113)⊕Empty)) :=
bif (decide (t4 < (33:Int))) then (g275 b1 t4).bind fun y1=>bif (decide (y1.1.1 > t3)) then (g275 b1 t4).bind fun y2=>some (.inl (((),(y2.1.1,((wI (t4 + (1:Int))),()))),(b1,()))) else some (.inl (((),(t3,((wI (t4 + (1:Int))),()))),(b1,()))) else some (.inr (.inl (((),(t3,())),(b1,()))))
noncomputable def s265_L0 (x:Ta160):=q265_L0 x.1.2.1 x.1.2.2.1 x.2.1
noncomputable def a265:Nat→Option LoopAnn:=fun c=>bif Nat.beq c 0 then some (.fix h265_L0 e265_L0 s265_L0) else none
noncomputable def g265 (x0:Ta85):Option ((Int×Unit)×Unit) :=
bif (!(f294 x0)) then some (((-1:Int),()),()) else (fixO s265_L0 (((),((0:Int),((0:Int),()))),(x0,()))).bind fun d5=>match d5 with | .inl y3=>(g314 y3.2.1).bind fun y4=>some (((wI ((wI (y3.1.2.1 + (wI ((2:Int) * y4.1.1)))) + y3.2.1.2.2.2.2.2.1)),()),()) | .inr e=>nomatch e
noncomputable def c265:Ctr:={ ins:=[.v Ty238],out:=[(.int .i64)],F:=fun x=>g265 x.1 }
noncomputable def l265:List (Nat×Code):=loopsIn (Tryz.f265.body.getD .skip) 0
theorem w265_L0:LW t265 a265 l265 0 0 h265_L0 e265_L0 s265_L0:=fun x=>by kernel_rfl
theorem o265:Holds Tryz.prog 265 c265:=fh t265 a265 Tryz.func265 [(0,lg l265 0)] ⟨fun x d h=>(w265_L0 x).trans h,trivial⟩ (tc o294 (tc o275 (tc o314 tn)))
noncomputable def t220:Tbl:=[(97,[],c97),(119,[],c119),(294,[],c294),(265,[],c265)]
noncomputable def g220 (x0:Ta339):Option ((Bool×Unit)×Unit) :=
bif (!(f97 x0.1 (64:Int) (2048:Int))) then some ((false,()),()) else bif ((Int.tmod x0.1 (4:Int)) != (0:Int)) then some ((false,()),()) else bif (!(f119 x0.2.1)) then some ((false,()),()) else bif (!(f97 x0.2.2.1 (1:Int) (8:Int))) then some ((false,()),()) else bif (!(f294 x0.2.2.2.1)) then some ((false,()),()) else bif (f97 x0.2.2.2.2.1 (1:Int) (5000:Int)) then bif (f97 x0.2.2.2.2.2.1 (1:Int) (5000:Int)) then bif (f97 x0.2.2.2.2.2.2.1 (1:Int) (5000:Int)) then (g265 x0.2.2.2.1).bind fun y1=>some (((decide (x0.2.2.2.2.2.1 ≥ y1.1.1)),()),()) else some ((false,()),()) else some ((false,()),()) else some ((false,()),())
noncomputable def c220:Ctr:={ ins:=[.v Ty379],out:=[.bool],F:=fun x=>g220 x.1 }
theorem o220:Holds Tryz.prog 220 c220:=f0 t220 Tryz.func220 (tc o97 (tc o119 (tc o294 (tc o265 tn))))
noncomputable def t355:Tbl:=[(97,[],c97)]
abbrev h355_L0:Shape:={ slots:=[(0,.v .str),(3,.v (.int .i64))],boxes:=[] }
abbrev e355_L0:List (XT×Shape):=[(.ret,{ slots:=[(2,.v .bool)],boxes:=[] }),(.exit 0,{ slots:=[(0,.v .str)],boxes:=[] })]
noncomputable def q355_L0 (t0:ByteArray) (t3:Int):Option (((ByteArray×(Int×Unit))×Unit)⊕(((Bool×Unit)×Unit)⊕(((ByteArray×Unit)×Unit)⊕Empty))) :=
bif (decide (t3 < (t0.size:Int))) then bif (decide (t3 < (13:Int))) then bif (decide (0≤t3)&&decide (t3 < t0.size)) then bif (!(f97 (wI ((bt t0 t3))) (97:Int) (122:Int))) then some (.inr (.inl ((false,()),()))) else some (.inl ((t0,((wI (t3 + (1:Int))),())),())) else none else some (.inr (.inr (.inl ((t0,()),())))) else some (.inr (.inr (.inl ((t0,()),()))))
noncomputable def s355_L0 (x:((ByteArray×(Int×Unit))×Unit)):=q355_L0 x.1.1 x.1.2.1
noncomputable def a355:Nat→Option LoopAnn:=fun c=>bif Nat.beq c 0 then some (.fix h355_L0 e355_L0 s355_L0) else none
noncomputable def g355 (x0:ByteArray):Option ((Bool×Unit)×Unit) :=
(fixO s355_L0 ((x0,((0:Int),())),())).bind fun d2=>match d2 with | .inl y1=>some ((y1.1.1,()),()) | .inr (.inl y1)=>some (((f97 (y1.1.1.size:Int) (1:Int) (12:Int)),()),()) | .inr (.inr e)=>nomatch e
noncomputable def c355:Ctr:={ ins:=[.v .str],out:=[.bool],F:=fun x=>g355 x.1 }
noncomputable def l355:List (Nat×Code):=loopsIn (Tryz.f355.body.getD .skip) 0
theorem w355_L0:LW t355 a355 l355 0 0 h355_L0 e355_L0 s355_L0:=fun x=>by kernel_rfl
theorem o355:Holds Tryz.prog 355 c355:=fh t355 a355 Tryz.func355 [(0,lg l355 0)] ⟨fun x d h=>(w355_L0 x).trans h,trivial⟩ (tc o97 tn)
noncomputable def t342:Tbl:=[(355,[],c355)]
noncomputable def g342 (x0:ByteArray):Option ((Bool×Unit)×Unit) :=
bif (decide ((x0.size:Int)≤(8:Int))) then (g355 x0).bind fun y1=>some ((y1.1.1,()),()) else some ((false,()),())
noncomputable def c342:Ctr:={ ins:=[.v .str],out:=[.bool],F:=fun x=>g342 x.1 }
theorem o342:Holds Tryz.prog 342 c342:=f0 t342 Tryz.func342 (tc o355 tn)
noncomputable def t335:Tbl:=[(97,[],c97)]
noncomputable def g335 (x0:(Int×(Int×Unit))):Option ((Bool×Unit)×Unit) :=
bif (x0.1 == (1:Int)) then some (((f97 x0.2.1 (0:Int) (100:Int)),()),()) else bif (x0.1 == (0:Int)) then some (((x0.2.1 == (0:Int)),()),()) else bif (x0.1 == (2:Int)) then some (((x0.2.1 == (0:Int)),()),()) else some ((false,()),())
noncomputable def f335 (x0:(Int×(Int×Unit))):Bool :=
bif (x0.1 == (1:Int)) then (f97 x0.2.1 (0:Int) (100:Int)) else bif (x0.1 == (0:Int)) then (x0.2.1 == (0:Int)) else bif (x0.1 == (2:Int)) then (x0.2.1 == (0:Int)) else false
theorem n335 (x0:(Int×(Int×Unit))):g335 x0 = some ((f335 x0,()),()):=by simp only [g335,f335,pull1]
noncomputable def c335:Ctr:={ ins:=[.v Ty81],out:=[.bool],F:=fun x=>some ((f335 x.1,()),()) }
theorem o335:Holds Tryz.prog 335 c335:=f0T t335 (fun x=>g335 x.1) Tryz.func335 (tc o97 tn) (fun x=>n335 x.1)
noncomputable def t308:Tbl:=[(97,[],c97)]
noncomputable def g308 (x0:(Int×(Int×(Int×Unit)))):Option ((Bool×Unit)×Unit) :=
bif (f97 x0.1 (0:Int) (2048:Int)) then bif (f97 x0.2.1 (4:Int) (2048:Int)) then bif ((Int.tmod x0.1 (4:Int)) == (0:Int)) then bif ((Int.tmod x0.2.1 (4:Int)) == (0:Int)) then bif (decide ((wI (x0.1 + x0.2.1))≤(2048:Int))) then some (((f97 x0.2.2.1 (1:Int) (7:Int)),()),()) else some ((false,()),()) else some ((false,()),()) else some ((false,()),()) else some ((false,()),()) else some ((false,()),())
noncomputable def f308 (x0:(Int×(Int×(Int×Unit)))):Bool :=
bif (f97 x0.1 (0:Int) (2048:Int)) then bif (f97 x0.2.1 (4:Int) (2048:Int)) then bif ((Int.tmod x0.1 (4:Int)) == (0:Int)) then bif ((Int.tmod x0.2.1 (4:Int)) == (0:Int)) then bif (decide ((wI (x0.1 + x0.2.1))≤(2048:Int))) then (f97 x0.2.2.1 (1:Int) (7:Int)) else false else false else false else false else false
theorem n308 (x0:(Int×(Int×(Int×Unit)))):g308 x0 = some ((f308 x0,()),()):=by simp only [g308,f308,pull1]
noncomputable def c308:Ctr:={ ins:=[.v Ty135],out:=[.bool],F:=fun x=>some ((f308 x.1,()),()) }
theorem o308:Holds Tryz.prog 308 c308:=f0T t308 (fun x=>g308 x.1) Tryz.func308 (tc o97 tn) (fun x=>n308 x.1)
noncomputable def t343:Tbl:=[]
noncomputable def g343 (x0:(Int×(Int×(Int×Unit)))) (x1:Int):Option ((Bool×Unit)×Unit) :=
bif (decide (x1 ≥ x0.1)) then some (((decide (x1 < (wI (x0.1 + x0.2.1)))),()),()) else some ((false,()),())
noncomputable def f343 (x0:(Int×(Int×(Int×Unit)))) (x1:Int):Bool :=
bif (decide (x1 ≥ x0.1)) then (decide (x1 < (wI (x0.1 + x0.2.1)))) else false
theorem n343 (x0:(Int×(Int×(Int×Unit)))) (x1:Int):g343 x0 x1 = some ((f343 x0 x1,()),()):=by simp only [g343,f343,pull1]
noncomputable def c343:Ctr:={ ins:=[.v Ty135,.v (.int .i64)],out:=[.bool],F:=fun x=>some ((f343 x.1 x.2.1,()),()) }
theorem o343:Holds Tryz.prog 343 c343:=f0T t343 (fun x=>g343 x.1 x.2.1) Tryz.func343 tn (fun x=>n343 x.1 x.2.1)
noncomputable def t295:Tbl:=[(342,[],c342),(335,[],c335),(97,[],c97),(308,[],c308),(343,[],c343)]
abbrev h295_L0:Shape:={ slots:=[(1,.v (.int .i64)),(2,.bx 2 0),(5,.v .bool),(6,.v (.int .i64))],boxes:=[(2,.typ Ty268)] }
abbrev e295_L0:List (XT×Shape):=[(.ret,{ slots:=[(4,.v .bool)],boxes:=[] }),(.exit 0,{ slots:=[(2,.bx 2 0),(5,.v .bool)],boxes:=[(2,.typ Ty268)] })]
noncomputable def q295_L0 (t1:Int) (t5:Bool) (t6:Int) (b2:Ta143):Option (((Int×(Unit×(Bool×(Int×Unit))))×Ta154)⊕(((Bool×Unit)×Unit)⊕(((Unit×(Bool×Unit))×Ta154)⊕Empty))) :=
bif (decide (t6 < (b2.2.2.2.1.len:Int))) then bif (decide (0≤t6)&&decide (t6 < (b2.2.2.2.1.len:Int))) then bif (!(f308 (L.get b2.2.2.2.1 t6.toNat))) then some (.inr (.inl ((false,()),()))) else bif (decide ((wI ((L.get b2.2.2.2.1 t6.toNat).1 + (L.get b2.2.2.2.1 t6.toNat).2.1)) > t1)) then some (.inr (.inl ((false,()),()))) else bif (f343 (L.get b2.2.2.2.1 t6.toNat) b2.2.1) then bif ((wI (Int.tdiv (L.get b2.2.2.2.1 t6.toNat).2.2.1 (4:Int))) == (1:Int)) then some (.inl ((t1,((),(true,((wI (t6 + (1:Int))),())))),(b2,()))) else some (.inl ((t1,((),(t5,((wI (t6 + (1:Int))),())))),(b2,()))) else some (.inl ((t1,((),(t5,((wI (t6 + (1:Int))),())))),(b2,()))) else none else some (.inr (.inr (.inl (((),(t5,())),(b2,())))))
noncomputable def s295_L0 (x:((Int×(Unit×(Bool×(Int×Unit))))×Ta154)):=q295_L0 x.1.1 x.1.2.2.1 x.1.2.2.2.1 x.2.1
noncomputable def a295:Nat→Option LoopAnn:=fun c=>bif Nat.beq c 0 then some (.fix h295_L0 e295_L0 s295_L0) else none
noncomputable def g295 (x0:Ta143) (x1:Int):Option ((Bool×Unit)×Unit) :=
(g342 x0.1).bind fun y1=>bif (!y1.1.1) then some ((false,()),()) else bif (!(f335 x0.2.2.1)) then some ((false,()),()) else bif (!(f97 (x0.2.2.2.1.len:Int) (1:Int) (4:Int))) then some ((false,()),()) else (fixO s295_L0 ((x1,((),(false,((0:Int),())))),(x0,()))).bind fun d3=>match d3 with | .inl y2=>some ((y2.1.1,()),()) | .inr (.inl y2)=>bif y2.1.2.1 then some ((((Int.tmod y2.2.1.2.1 (4:Int)) == (0:Int)),()),()) else some ((false,()),()) | .inr (.inr e)=>nomatch e
noncomputable def c295:Ctr:={ ins:=[.v Ty268,.v (.int .i64)],out:=[.bool],F:=fun x=>g295 x.1 x.2.1 }
noncomputable def l295:List (Nat×Code):=loopsIn (Tryz.f295.body.getD .skip) 0
theorem w295_L0:LW t295 a295 l295 0 0 h295_L0 e295_L0 s295_L0:=fun x=>by kernel_rfl
theorem o295:Holds Tryz.prog 295 c295:=fh t295 a295 Tryz.func295 [(0,lg l295 0)] ⟨fun x d h=>(w295_L0 x).trans h,trivial⟩ (tc o342 (tc o335 (tc o97 (tc o308 (tc o343 tn)))))
noncomputable def t296r:Tbl:=[]
abbrev h296r_L0:Shape:={ slots:=[(0,.v Ty276),(3,.ms 5),(4,.v (.int .i64))],boxes:=[(5,.row Ty135)] }
abbrev e296r_L0:List (XT×Shape):=[(.exit 0,{ slots:=[(3,.ms 5)],boxes:=[(5,.row Ty135)] })]
noncomputable def q296r_L0 (t0:Ta149) (t4:Int) (r5:Ta14):Option ((Ta180×Ta43)⊕(Ta91⊕Empty)) :=
bif (decide (t4 < (t0.len:Int))) then bif (decide (0≤t4)&&decide (t4 < (t0.len:Int))) then bif (decide (r5.len + (L.get t0 t4.toNat).2.2.2.1.len≤most)) then some (.inl ((t0,((),((wI (t4 + (1:Int))),()))),((L.app r5 (L.get t0 t4.toNat).2.2.2.1),()))) else none else none else some (.inr (.inl (((),()),(r5,()))))
noncomputable def s296r_L0 (x:(Ta180×Ta43)):=q296r_L0 x.1.1 x.1.2.2.1 x.2.1
noncomputable def a296r:Nat→Option LoopAnn:=fun c=>bif Nat.beq c 0 then some (.fix h296r_L0 e296r_L0 s296r_L0) else none
noncomputable def g296r (x0:Ta149):Option Ta67 :=
(fixO s296r_L0 ((x0,((),((0:Int),()))),((L.of (Ty.zero Ty135) []),()))).bind fun d2=>match d2 with | .inl y1=>some ((y1.2.1,()),()) | .inr e=>nomatch e
noncomputable def c296r:Ctr:={ ins:=[.v Ty276],out:=[Ty145],F:=fun x=>g296r x.1,fr:=1 }
noncomputable def l296r:List (Nat×Code):=loopsIn (Tryz.f296.body.getD .skip) 0
theorem w296r_L0:LW t296r a296r l296r 0 0 h296r_L0 e296r_L0 s296r_L0:=fun x=>by kernel_rfl
theorem o296r:Holds Tryz.prog 296 c296r:=fh t296r a296r Tryz.func296 [(0,lg l296r 0)] ⟨fun x d h=>(w296r_L0 x).trans h,trivial⟩ tn
noncomputable def t221:Tbl:=[(97,[],c97),(295,[],c295),(296,[],c296r)]
abbrev h221_L2:Shape:={ slots:=[(1,.bx 1 0),(3,.v (.int .i64)),(4,.v (.int .i64))],boxes:=[(1,.typ Ty379)] }
abbrev e221_L2:List (XT×Shape):=[(.ret,{ slots:=[(2,.v .bool)],boxes:=[] }),(.exit 2,{ slots:=[(1,.bx 1 0),(3,.v (.int .i64))],boxes:=[(1,.typ Ty379)] })]
noncomputable def q221_L2 (t3:Int) (t4:Int) (b1:Ta339):Option (Ta353⊕(((Bool×Unit)×Unit)⊕(Ta351⊕Empty))) :=
bif (decide (t4 < t3)) then bif (decide (0≤t4)&&decide (t4 < (b1.2.2.2.2.2.2.2.1.len:Int))) then bif (decide (0≤t3)&&decide (t3 < (b1.2.2.2.2.2.2.2.1.len:Int))) then bif (strEq (L.get b1.2.2.2.2.2.2.2.1 t4.toNat).1 (L.get b1.2.2.2.2.2.2.2.1 t3.toNat).1) then some (.inr (.inl ((false,()),()))) else some (.inl (((),(t3,((wI (t4 + (1:Int))),()))),(b1,()))) else none else none else some (.inr (.inr (.inl (((),(t3,())),(b1,())))))
noncomputable def s221_L2 (x:Ta353):=q221_L2 x.1.2.1 x.1.2.2.1 x.2.1
abbrev h221_L0:Shape:={ slots:=[(1,.bx 1 0),(3,.v (.int .i64))],boxes:=[(1,.typ Ty379)] }
abbrev e221_L0:List (XT×Shape):=[(.ret,{ slots:=[(2,.v .bool)],boxes:=[] }),(.exit 0,{ slots:=[(1,.bx 1 0)],boxes:=[(1,.typ Ty379)] })]
noncomputable def q221_L0 (t3:Int) (b1:Ta339):Option (Ta351⊕(((Bool×Unit)×Unit)⊕(Ta348⊕Empty))) :=
bif (decide (t3 < (b1.2.2.2.2.2.2.2.1.len:Int))) then bif (decide (0≤t3)&&decide (t3 < (b1.2.2.2.2.2.2.2.1.len:Int))) then (g295 (L.get b1.2.2.2.2.2.2.2.1 t3.toNat) b1.1).bind fun y1=>bif (!y1.1.1) then some (.inr (.inl ((false,()),()))) else ((fixO s221_L2 (((),(t3,((0:Int),()))),(b1,()))).bind fun d3=>match d3 with | .inl y2=>some (.inr (.inl y2)) | .inr (.inl y2)=>some (.inl (((),((wI (y2.1.2.1 + (1:Int))),())),y2.2)) | .inr (.inr e)=>nomatch e) else none else some (.inr (.inr (.inl (((),()),(b1,())))))
noncomputable def s221_L0 (x:Ta351):=q221_L0 x.1.2.1 x.2.1
abbrev h221_L6:Shape:={ slots:=[(5,.ms 1003136),(6,.v (.int .i64)),(7,.v (.int .i64))],boxes:=[(1003136,.row Ty135)] }
abbrev e221_L6:List (XT×Shape):=[(.ret,{ slots:=[(2,.v .bool)],boxes:=[] }),(.exit 6,{ slots:=[(5,.ms 1003136),(6,.v (.int .i64))],boxes:=[(1003136,.row Ty135)] })]
noncomputable def q221_L6 (t6:Int) (t7:Int) (r1003136:Ta14):Option (Ta129⊕(((Bool×Unit)×Unit)⊕(Ta114⊕Empty))) :=
bif (decide (t7 < t6)) then bif (decide (0≤t7)&&decide (t7 < (r1003136.len:Int))) then bif (decide (0≤t6)&&decide (t6 < (r1003136.len:Int))) then bif (decide (0≤t6)&&decide (t6 < (r1003136.len:Int))) then bif (decide ((L.get r1003136 t7.toNat).1 < (wI ((L.get r1003136 t6.toNat).1 + (L.get r1003136 t6.toNat).2.1)))) then bif (decide (0≤t6)&&decide (t6 < (r1003136.len:Int))) then bif (decide (0≤t7)&&decide (t7 < (r1003136.len:Int))) then bif (decide (0≤t7)&&decide (t7 < (r1003136.len:Int))) then bif (decide ((L.get r1003136 t6.toNat).1 < (wI ((L.get r1003136 t7.toNat).1 + (L.get r1003136 t7.toNat).2.1)))) then some (.inr (.inl ((false,()),()))) else some (.inl (((),(t6,((wI (t7 + (1:Int))),()))),(r1003136,()))) else none else none else none else some (.inl (((),(t6,((wI (t7 + (1:Int))),()))),(r1003136,()))) else none else none else none else some (.inr (.inr (.inl (((),(t6,())),(r1003136,())))))
noncomputable def s221_L6 (x:Ta129):=q221_L6 x.1.2.1 x.1.2.2.1 x.2.1
abbrev h221_L4:Shape:={ slots:=[(5,.ms 1003136),(6,.v (.int .i64))],boxes:=[(1003136,.row Ty135)] }
abbrev e221_L4:List (XT×Shape):=[(.ret,{ slots:=[(2,.v .bool)],boxes:=[] }),(.exit 4,{ slots:=[],boxes:=[] })]
noncomputable def q221_L4 (t6:Int) (r1003136:Ta14):Option (Ta114⊕(((Bool×Unit)×Unit)⊕((Unit×Unit)⊕Empty))) :=
bif (decide (t6 < (r1003136.len:Int))) then ((fixO s221_L6 (((),(t6,((0:Int),()))),(r1003136,()))).bind fun d7=>match d7 with | .inl y6=>some (.inr (.inl y6)) | .inr (.inl y6)=>some (.inl (((),((wI (y6.1.2.1 + (1:Int))),())),y6.2)) | .inr (.inr e)=>nomatch e) else some (.inr (.inr (.inl ((),()))))
noncomputable def s221_L4 (x:Ta114):=q221_L4 x.1.2.1 x.2.1
noncomputable def a221:Nat→Option LoopAnn:=fun c=>bif Nat.beq c 2 then some (.fix h221_L2 e221_L2 s221_L2) else bif Nat.beq c 0 then some (.fix h221_L0 e221_L0 s221_L0) else bif Nat.beq c 6 then some (.fix h221_L6 e221_L6 s221_L6) else bif Nat.beq c 4 then some (.fix h221_L4 e221_L4 s221_L4) else none
noncomputable def g221 (x0:Ta339):Option ((Bool×Unit)×Unit) :=
bif (!(f97 (x0.2.2.2.2.2.2.2.1.len:Int) (1:Int) (6:Int))) then some ((false,()),()) else (fixO s221_L0 (((),((0:Int),())),(x0,()))).bind fun d10=>match d10 with | .inl y4=>some ((y4.1.1,()),()) | .inr (.inl y4)=>(g296r y4.2.1.2.2.2.2.2.2.2.1).bind fun y5=>((fixO s221_L4 (((),((0:Int),())),y5.1)).bind fun d9=>match d9 with | .inl y8=>some ((y8.1.1,()),()) | .inr (.inl y8)=>some ((true,()),()) | .inr (.inr e)=>nomatch e) | .inr (.inr e)=>nomatch e
noncomputable def c221:Ctr:={ ins:=[.v Ty379],out:=[.bool],F:=fun x=>g221 x.1 }
noncomputable def l221:List (Nat×Code):=loopsIn (Tryz.f221.body.getD .skip) 0
theorem w221_L2:LW t221 a221 l221 1 2 h221_L2 e221_L2 s221_L2:=fun x=>by kernel_rfl
theorem w221_L0:LW t221 a221 l221 0 0 h221_L0 e221_L0 s221_L0:=fun x=>by kernel_rfl
theorem w221_L6:LW t221 a221 l221 3 6 h221_L6 e221_L6 s221_L6:=fun x=>by kernel_rfl
theorem w221_L4:LW t221 a221 l221 2 4 h221_L4 e221_L4 s221_L4:=fun x=>by kernel_rfl
theorem o221:Holds Tryz.prog 221 c221:=fh t221 a221 Tryz.func221 [(0,lg l221 0),(2,lg l221 1),(4,lg l221 2),(6,lg l221 3)] ⟨fun x d h=>(w221_L0 x).trans h,fun x d h=>(w221_L2 x).trans h,fun x d h=>(w221_L4 x).trans h,fun x d h=>(w221_L6 x).trans h,trivial⟩ (tc o97 (tc o295 (tc o296r tn)))
noncomputable def t297:Tbl:=[(97,[],c97)]
noncomputable def g297 (x0:Ta19):Option ((Bool×Unit)×Unit) :=
bif (!(f97 x0.2.1 (0:Int) (5:Int))) then some ((false,()),()) else bif (!(f97 x0.2.2.1 (0:Int) (5:Int))) then some ((false,()),()) else bif (x0.2.1 == x0.2.2.1) then some ((false,()),()) else bif (x0.1 == (0:Int)) then bif (x0.2.2.2.1 == (0:Int)) then some ((true,()),()) else bif (x0.1 == (1:Int)) then some (((f97 x0.2.2.2.1 (1:Int) (8:Int)),()),()) else some ((false,()),()) else bif (x0.1 == (1:Int)) then some (((f97 x0.2.2.2.1 (1:Int) (8:Int)),()),()) else some ((false,()),())
noncomputable def f297 (x0:Ta19):Bool :=
bif (!(f97 x0.2.1 (0:Int) (5:Int))) then false else bif (!(f97 x0.2.2.1 (0:Int) (5:Int))) then false else bif (x0.2.1 == x0.2.2.1) then false else bif (x0.1 == (0:Int)) then bif (x0.2.2.2.1 == (0:Int)) then true else bif (x0.1 == (1:Int)) then (f97 x0.2.2.2.1 (1:Int) (8:Int)) else false else bif (x0.1 == (1:Int)) then (f97 x0.2.2.2.1 (1:Int) (8:Int)) else false
theorem n297 (x0:Ta19):g297 x0 = some ((f297 x0,()),()):=by simp only [g297,f297,pull1]
noncomputable def c297:Ctr:={ ins:=[.v Ty172],out:=[.bool],F:=fun x=>some ((f297 x.1,()),()) }
theorem o297:Holds Tryz.prog 297 c297:=f0T t297 (fun x=>g297 x.1) Tryz.func297 (tc o97 tn) (fun x=>n297 x.1)
noncomputable def t266:Tbl:=[(294,[],c294),(119,[],c119),(297,[],c297)]
abbrev h266_L0:Shape:={ slots:=[(2,.v Ty177),(3,.bx 3 0),(7,.v (.int .i64)),(8,.v (.int .i64))],boxes:=[(3,.typ Ty238)] }
abbrev e266_L0:List (XT×Shape):=[(.ret,{ slots:=[(6,.v (.int .i64))],boxes:=[] }),(.exit 0,{ slots:=[(7,.v (.int .i64))],boxes:=[] })]
noncomputable def q266_L0 (t2:Ta39) (t7:Int) (t8:Int) (b3:Ta85):Option (((Ta39×(Unit×(Int×(Int×Unit))))×Ta113)⊕(((Int×Unit)×Unit)⊕(((Int×Unit)×Unit)⊕Empty))) :=
bif (decide (t8 < (t2.len:Int))) then bif (decide (0≤t8)&&decide (t8 < (t2.len:Int))) then bif (!(f297 (L.get t2 t8.toNat))) then some (.inr (.inl (((-1:Int),()),()))) else bif (decide (0≤t8)&&decide (t8 < (t2.len:Int))) then bif ((L.get t2 t8.toNat).1 == (0:Int)) then some (.inl ((t2,((),((wI (t7 + b3.1)),((wI (t8 + (1:Int))),())))),(b3,()))) else bif (decide (0≤t8)&&decide (t8 < (t2.len:Int))) then some (.inl ((t2,((),((wI (t7 + (wI (b3.1 * (L.get t2 t8.toNat).2.2.2.1)))),((wI (t8 + (1:Int))),())))),(b3,()))) else none else none else none else some (.inr (.inr (.inl ((t7,()),()))))
noncomputable def s266_L0 (x:((Ta39×(Unit×(Int×(Int×Unit))))×Ta113)):=q266_L0 x.1.1 x.1.2.2.1 x.1.2.2.2.1 x.2.1
noncomputable def a266:Nat→Option LoopAnn:=fun c=>bif Nat.beq c 0 then some (.fix h266_L0 e266_L0 s266_L0) else none
noncomputable def g266 (x0:Ta85) (x1:(Int×(Int×(Int×Unit)))) (x2:Ta39):Option ((Int×Unit)×Unit) :=
bif (!(f294 x0)) then some (((-1:Int),()),()) else bif (!(f119 x1)) then some (((-1:Int),()),()) else bif (decide ((x2.len:Int) > (8:Int))) then some (((-1:Int),()),()) else (fixO s266_L0 ((x2,((),((wI ((wI ((16:Int) * x0.1)) + (wI ((wI (x1.1 * x1.2.1)) * x0.2.2.2.2.2.2.1)))),((0:Int),())))),(x0,()))).bind fun d2=>match d2 with | .inl y1=>some ((y1.1.1,()),()) | .inr (.inl y1)=>some ((y1.1.1,()),()) | .inr (.inr e)=>nomatch e
noncomputable def c266:Ctr:={ ins:=[.v Ty238,.v Ty135,.v Ty177],out:=[(.int .i64)],F:=fun x=>g266 x.1 x.2.1 x.2.2.1 }
noncomputable def l266:List (Nat×Code):=loopsIn (Tryz.f266.body.getD .skip) 0
theorem w266_L0:LW t266 a266 l266 0 0 h266_L0 e266_L0 s266_L0:=fun x=>by kernel_rfl
theorem o266:Holds Tryz.prog 266 c266:=fh t266 a266 Tryz.func266 [(0,lg l266 0)] ⟨fun x d h=>(w266_L0 x).trans h,trivial⟩ (tc o294 (tc o119 (tc o297 tn)))
noncomputable def t222:Tbl:=[(97,[],c97),(297,[],c297),(266,[],c266)]
abbrev h222_L0:Shape:={ slots:=[(1,.bx 1 0),(3,.v (.int .i64))],boxes:=[(1,.typ Ty379)] }
abbrev e222_L0:List (XT×Shape):=[(.ret,{ slots:=[(2,.v .bool)],boxes:=[] }),(.exit 0,{ slots:=[(1,.bx 1 0)],boxes:=[(1,.typ Ty379)] })]
noncomputable def q222_L0 (t3:Int) (b1:Ta339):Option (Ta351⊕(((Bool×Unit)×Unit)⊕(Ta348⊕Empty))) :=
bif (decide (t3 < (b1.2.2.2.2.2.2.2.2.1.len:Int))) then bif (decide (0≤t3)&&decide (t3 < (b1.2.2.2.2.2.2.2.2.1.len:Int))) then bif (!(f97 (L.get b1.2.2.2.2.2.2.2.2.1 t3.toNat) (0:Int) (wI ((b1.2.2.2.2.2.2.2.1.len:Int) - (1:Int))))) then some (.inr (.inl ((false,()),()))) else some (.inl (((),((wI (t3 + (1:Int))),())),(b1,()))) else none else some (.inr (.inr (.inl (((),()),(b1,())))))
noncomputable def s222_L0 (x:Ta351):=q222_L0 x.1.2.1 x.2.1
abbrev h222_L2:Shape:={ slots:=[(1,.bx 1 0),(4,.v (.int .i64))],boxes:=[(1,.typ Ty379)] }
abbrev e222_L2:List (XT×Shape):=[(.ret,{ slots:=[(2,.v .bool)],boxes:=[] }),(.exit 2,{ slots:=[(1,.bx 1 0)],boxes:=[(1,.typ Ty379)] })]
noncomputable def q222_L2 (t4:Int) (b1:Ta339):Option (Ta351⊕(((Bool×Unit)×Unit)⊕(Ta348⊕Empty))) :=
bif (decide (t4 < (b1.2.2.2.2.2.2.2.2.2.1.len:Int))) then bif (decide (0≤t4)&&decide (t4 < (b1.2.2.2.2.2.2.2.2.2.1.len:Int))) then bif (!(f297 (L.get b1.2.2.2.2.2.2.2.2.2.1 t4.toNat))) then some (.inr (.inl ((false,()),()))) else bif (decide (0≤t4)&&decide (t4 < (b1.2.2.2.2.2.2.2.2.2.1.len:Int))) then bif (decide ((L.get b1.2.2.2.2.2.2.2.2.2.1 t4.toNat).2.1 ≥ (b1.2.2.2.2.2.2.2.1.len:Int))) then some (.inr (.inl ((false,()),()))) else bif (decide (0≤t4)&&decide (t4 < (b1.2.2.2.2.2.2.2.2.2.1.len:Int))) then bif (decide ((L.get b1.2.2.2.2.2.2.2.2.2.1 t4.toNat).2.2.1 ≥ (b1.2.2.2.2.2.2.2.1.len:Int))) then some (.inr (.inl ((false,()),()))) else some (.inl (((),((wI (t4 + (1:Int))),())),(b1,()))) else none else none else none else some (.inr (.inr (.inl (((),()),(b1,())))))
noncomputable def s222_L2 (x:Ta351):=q222_L2 x.1.2.1 x.2.1
noncomputable def a222:Nat→Option LoopAnn:=fun c=>bif Nat.beq c 0 then some (.fix h222_L0 e222_L0 s222_L0) else bif Nat.beq c 2 then some (.fix h222_L2 e222_L2 s222_L2) else none
noncomputable def g222 (x0:Ta339):Option ((Bool×Unit)×Unit) :=
bif (decide ((x0.2.2.2.2.2.2.2.2.1.len:Int) > (8:Int))) then some ((false,()),()) else bif (decide ((x0.2.2.2.2.2.2.2.2.2.1.len:Int) > (8:Int))) then some ((false,()),()) else (fixO s222_L0 (((),((0:Int),())),(x0,()))).bind fun d5=>match d5 with | .inl y1=>some ((y1.1.1,()),()) | .inr (.inl y1)=>((fixO s222_L2 (((),((0:Int),())),y1.2)).bind fun d4=>match d4 with | .inl y2=>some ((y2.1.1,()),()) | .inr (.inl y2)=>(g266 y2.2.1.2.2.2.1 y2.2.1.2.1 y2.2.1.2.2.2.2.2.2.2.2.2.1).bind fun y3=>some (((decide (y2.2.1.2.2.2.2.1 ≥ y3.1.1)),()),()) | .inr (.inr e)=>nomatch e) | .inr (.inr e)=>nomatch e
noncomputable def c222:Ctr:={ ins:=[.v Ty379],out:=[.bool],F:=fun x=>g222 x.1 }
noncomputable def l222:List (Nat×Code):=loopsIn (Tryz.f222.body.getD .skip) 0
theorem w222_L0:LW t222 a222 l222 0 0 h222_L0 e222_L0 s222_L0:=fun x=>by kernel_rfl
theorem w222_L2:LW t222 a222 l222 1 2 h222_L2 e222_L2 s222_L2:=fun x=>by kernel_rfl
theorem o222:Holds Tryz.prog 222 c222:=fh t222 a222 Tryz.func222 [(0,lg l222 0),(2,lg l222 1)] ⟨fun x d h=>(w222_L0 x).trans h,fun x d h=>(w222_L2 x).trans h,trivial⟩ (tc o97 (tc o297 (tc o266 tn)))
noncomputable def t223:Tbl:=[(97,[],c97)]
abbrev h223_L0:Shape:={ slots:=[(1,.bx 1 0),(3,.v (.int .i64)),(4,.v (.int .i64))],boxes:=[(1,.typ Ty379)] }
abbrev e223_L0:List (XT×Shape):=[(.ret,{ slots:=[(2,.v .bool)],boxes:=[] }),(.exit 0,{ slots:=[],boxes:=[] })]
noncomputable def q223_L0 (t3:Int) (t4:Int) (b1:Ta339):Option (Ta353⊕(((Bool×Unit)×Unit)⊕((Unit×Unit)⊕Empty))) :=
bif (decide (t4 < (b1.2.2.2.2.2.2.2.2.2.2.1.len:Int))) then bif (decide (0≤t4)&&decide (t4 < (b1.2.2.2.2.2.2.2.2.2.2.1.len:Int))) then bif (!(f97 (L.get b1.2.2.2.2.2.2.2.2.2.2.1 t4.toNat).1 (0:Int) (wI ((b1.2.2.2.2.2.2.2.1.len:Int) - (1:Int))))) then some (.inr (.inl ((false,()),()))) else bif (!(f97 (L.get b1.2.2.2.2.2.2.2.2.2.2.1 t4.toNat).2.1 t3 (5000:Int))) then some (.inr (.inl ((false,()),()))) else bif (!(f97 (L.get b1.2.2.2.2.2.2.2.2.2.2.1 t4.toNat).2.2.1 (wI ((wI (b1.2.2.2.2.1 + b1.2.2.2.2.2.1)) + (1:Int))) (5000:Int))) then some (.inr (.inl ((false,()),()))) else bif (decide ((wI ((L.get b1.2.2.2.2.2.2.2.2.2.2.1 t4.toNat).2.1 + (L.get b1.2.2.2.2.2.2.2.2.2.2.1 t4.toNat).2.2.1)) > b1.2.2.2.2.2.2.1)) then some (.inr (.inl ((false,()),()))) else some (.inl (((),((wI ((L.get b1.2.2.2.2.2.2.2.2.2.2.1 t4.toNat).2.1 + (L.get b1.2.2.2.2.2.2.2.2.2.2.1 t4.toNat).2.2.1)),((wI (t4 + (1:Int))),()))),(b1,()))) else none else some (.inr (.inr (.inl ((),()))))
noncomputable def s223_L0 (x:Ta353):=q223_L0 x.1.2.1 x.1.2.2.1 x.2.1
noncomputable def a223:Nat→Option LoopAnn:=fun c=>bif Nat.beq c 0 then some (.fix h223_L0 e223_L0 s223_L0) else none
noncomputable def g223 (x0:Ta339):Option ((Bool×Unit)×Unit) :=
bif (!(f97 (x0.2.2.2.2.2.2.2.2.2.2.1.len:Int) (1:Int) (16:Int))) then some ((false,()),()) else (fixO s223_L0 (((),((0:Int),((0:Int),()))),(x0,()))).bind fun d2=>match d2 with | .inl y1=>some ((y1.1.1,()),()) | .inr (.inl y1)=>some ((true,()),()) | .inr (.inr e)=>nomatch e
noncomputable def c223:Ctr:={ ins:=[.v Ty379],out:=[.bool],F:=fun x=>g223 x.1 }
noncomputable def l223:List (Nat×Code):=loopsIn (Tryz.f223.body.getD .skip) 0
theorem w223_L0:LW t223 a223 l223 0 0 h223_L0 e223_L0 s223_L0:=fun x=>by kernel_rfl
theorem o223:Holds Tryz.prog 223 c223:=fh t223 a223 Tryz.func223 [(0,lg l223 0)] ⟨fun x d h=>(w223_L0 x).trans h,trivial⟩ (tc o97 tn)
noncomputable def t127:Tbl:=[(220,[],c220),(221,[],c221),(222,[],c222),(223,[],c223)]
noncomputable def g127 (x0:Ta339):Option ((Bool×Unit)×Unit) :=
(g220 x0).bind fun y1=>bif y1.1.1 then (g221 x0).bind fun y2=>bif y2.1.1 then (g222 x0).bind fun y3=>bif y3.1.1 then (g223 x0).bind fun y4=>some ((y4.1.1,()),()) else some ((false,()),()) else some ((false,()),()) else some ((false,()),())
noncomputable def c127:Ctr:={ ins:=[.v Ty379],out:=[.bool],F:=fun x=>g127 x.1 }
theorem o127:Holds Tryz.prog 127 c127:=f0 t127 Tryz.func127 (tc o220 (tc o221 (tc o222 (tc o223 tn))))
noncomputable def t128:Tbl:=[(97,[],c97)]
abbrev h128_L0:Shape:={ slots:=[(1,.v (.int .i64)),(2,.v (.sl (.sl (.int .u8)))),(3,.bx 3 0),(7,.v (.int .i64))],boxes:=[(3,.typ Ty379)] }
abbrev e128_L0:List (XT×Shape):=[(.ret,{ slots:=[(6,.v .bool)],boxes:=[] }),(.exit 0,{ slots:=[],boxes:=[] })]
noncomputable def q128_L0 (t1:Int) (t2:(L (L Int))) (t7:Int) (b3:Ta339):Option (((Int×Ta35)×Ta344)⊕(((Bool×Unit)×Unit)⊕((Unit×Unit)⊕Empty))) :=
bif (decide (t7 < (t2.len:Int))) then bif (decide (0≤t7)&&decide (t7 < (t2.len:Int))) then bif (decide (0≤t1)&&decide (t1 < (b3.2.2.2.2.2.2.2.1.len:Int))) then bif (decide (0≤t7)&&decide (t7 < ((L.get b3.2.2.2.2.2.2.2.1 t1.toNat).2.2.2.1.len:Int))) then bif (((L.get t2 t7.toNat).len:Int) != (L.get (L.get b3.2.2.2.2.2.2.2.1 t1.toNat).2.2.2.1 t7.toNat).2.1) then some (.inr (.inl ((false,()),()))) else some (.inl ((t1,(t2,((),((wI (t7 + (1:Int))),())))),(b3,()))) else none else none else none else some (.inr (.inr (.inl ((),()))))
noncomputable def s128_L0 (x:((Int×Ta35)×Ta344)):=q128_L0 x.1.1 x.1.2.1 x.1.2.2.2.1 x.2.1
noncomputable def a128:Nat→Option LoopAnn:=fun c=>bif Nat.beq c 0 then some (.fix h128_L0 e128_L0 s128_L0) else none
noncomputable def g128 (x0:Ta339) (x1:Int) (x2:(L (L Int))):Option ((Bool×Unit)×Unit) :=
bif (!(f97 x1 (0:Int) (wI ((x0.2.2.2.2.2.2.2.1.len:Int) - (1:Int))))) then some ((false,()),()) else bif (decide (0≤x1)&&decide (x1 < (x0.2.2.2.2.2.2.2.1.len:Int))) then bif ((x2.len:Int) != ((L.get x0.2.2.2.2.2.2.2.1 x1.toNat).2.2.2.1.len:Int)) then some ((false,()),()) else ((fixO s128_L0 ((x1,(x2,((),((0:Int),())))),(x0,()))).bind fun d2=>match d2 with | .inl y1=>some ((y1.1.1,()),()) | .inr (.inl y1)=>some ((true,()),()) | .inr (.inr e)=>nomatch e) else none
noncomputable def c128:Ctr:={ ins:=[.v Ty379,.v (.int .i64),.v (.sl (.sl (.int .u8)))],out:=[.bool],F:=fun x=>g128 x.1 x.2.1 x.2.2.1 }
noncomputable def l128:List (Nat×Code):=loopsIn (Tryz.f128.body.getD .skip) 0
theorem w128_L0:LW t128 a128 l128 0 0 h128_L0 e128_L0 s128_L0:=fun x=>by kernel_rfl
theorem o128:Holds Tryz.prog 128 c128:=fh t128 a128 Tryz.func128 [(0,lg l128 0)] ⟨fun x d h=>(w128_L0 x).trans h,trivial⟩ (tc o97 tn)
noncomputable def t45:Tbl:=[(127,[],c127),(128,[],c128)]
noncomputable def g45 (x0:Ta339) (x1:Int) (x2:(L (L Int))):Option ((Bool×Unit)×Unit) :=
(g127 x0).bind fun y1=>bif y1.1.1 then (g128 x0 x1 x2).bind fun y2=>some ((y2.1.1,()),()) else some ((false,()),())
noncomputable def c45:Ctr:={ ins:=[.v Ty379,.v (.int .i64),.v (.sl (.sl (.int .u8)))],out:=[.bool],F:=fun x=>g45 x.1 x.2.1 x.2.2.1 }
theorem o45:Holds Tryz.prog 45 c45:=f0 t45 Tryz.func45 (tc o127 (tc o128 tn))
noncomputable def t309:Tbl:=[(308,[],c308),(343,[],c343)]
abbrev h309_L0:Shape:={ slots:=[(2,.bx 2 0),(3,.bx 3 0),(5,.v (.int .i64))],boxes:=[(2,.typ Ty135),(3,.typ Ty135)] }
abbrev e309_L0:List (XT×Shape):=[(.ret,{ slots:=[(4,.v .bool)],boxes:=[] }),(.exit 0,{ slots:=[],boxes:=[] })]
noncomputable def q309_L0 (t5:Int) (b2:(Int×(Int×(Int×Unit)))) (b3:(Int×(Int×(Int×Unit)))):Option ((Ta4×((Int×(Int×(Int×Unit)))×Ta25))⊕(((Bool×Unit)×Unit)⊕((Unit×Unit)⊕Empty))) :=
bif (decide (t5 < (2048:Int))) then bif (f343 b2 t5) then bif (f343 b3 t5) then some (.inr (.inl ((false,()),()))) else some (.inl (((),((),((wI (t5 + (4:Int))),()))),(b2,(b3,())))) else some (.inl (((),((),((wI (t5 + (4:Int))),()))),(b2,(b3,())))) else some (.inr (.inr (.inl ((),()))))
noncomputable def s309_L0 (x:(Ta4×((Int×(Int×(Int×Unit)))×Ta25))):=q309_L0 x.1.2.2.1 x.2.1 x.2.2.1
noncomputable def a309:Nat→Option LoopAnn:=fun c=>bif Nat.beq c 0 then some (.fix h309_L0 e309_L0 s309_L0) else none
noncomputable def g309 (x0:(Int×(Int×(Int×Unit)))) (x1:(Int×(Int×(Int×Unit)))):Option ((Bool×Unit)×Unit) :=
bif (!(f308 x0)) then some ((false,()),()) else bif (!(f308 x1)) then some ((false,()),()) else (fixO s309_L0 (((),((),((0:Int),()))),(x0,(x1,())))).bind fun d2=>match d2 with | .inl y1=>some ((y1.1.1,()),()) | .inr (.inl y1)=>some ((true,()),()) | .inr (.inr e)=>nomatch e
noncomputable def c309:Ctr:={ ins:=[.v Ty135,.v Ty135],out:=[.bool],F:=fun x=>g309 x.1 x.2.1 }
noncomputable def l309:List (Nat×Code):=loopsIn (Tryz.f309.body.getD .skip) 0
theorem w309_L0:LW t309 a309 l309 0 0 h309_L0 e309_L0 s309_L0:=fun x=>by kernel_rfl
theorem o309:Holds Tryz.prog 309 c309:=fh t309 a309 Tryz.func309 [(0,lg l309 0)] ⟨fun x d h=>(w309_L0 x).trans h,trivial⟩ (tc o308 (tc o343 tn))
noncomputable def t248:Tbl:=[(308,[],c308),(309,[],c309)]
abbrev h248_L2:Shape:={ slots:=[(0,.v Ty145),(3,.v (.int .i64)),(4,.v (.int .i64))],boxes:=[] }
abbrev e248_L2:List (XT×Shape):=[(.ret,{ slots:=[(2,.v .bool)],boxes:=[] }),(.exit 2,{ slots:=[(0,.v Ty145),(3,.v (.int .i64))],boxes:=[] })]
noncomputable def q248_L2 (t0:Ta14) (t3:Int) (t4:Int):Option ((Ta82×Unit)⊕(((Bool×Unit)×Unit)⊕(Ta87⊕Empty))) :=
bif (decide (t4 < t3)) then bif (decide (0≤t4)&&decide (t4 < (t0.len:Int))) then bif (decide (0≤t3)&&decide (t3 < (t0.len:Int))) then (g309 (L.get t0 t4.toNat) (L.get t0 t3.toNat)).bind fun y1=>bif (!y1.1.1) then some (.inr (.inl ((false,()),()))) else some (.inl ((t0,(t3,((wI (t4 + (1:Int))),()))),())) else none else none else some (.inr (.inr (.inl ((t0,(t3,())),()))))
noncomputable def s248_L2 (x:(Ta82×Unit)):=q248_L2 x.1.1 x.1.2.1 x.1.2.2.1
abbrev h248_L0:Shape:={ slots:=[(0,.v Ty145),(3,.v (.int .i64))],boxes:=[] }
abbrev e248_L0:List (XT×Shape):=[(.ret,{ slots:=[(2,.v .bool)],boxes:=[] }),(.exit 0,{ slots:=[],boxes:=[] })]
noncomputable def q248_L0 (t0:Ta14) (t3:Int):Option (Ta87⊕(((Bool×Unit)×Unit)⊕((Unit×Unit)⊕Empty))) :=
bif (decide (t3 < (t0.len:Int))) then bif (decide (0≤t3)&&decide (t3 < (t0.len:Int))) then bif (!(f308 (L.get t0 t3.toNat))) then some (.inr (.inl ((false,()),()))) else ((fixO s248_L2 ((t0,(t3,((0:Int),()))),())).bind fun d3=>match d3 with | .inl y2=>some (.inr (.inl y2)) | .inr (.inl y2)=>some (.inl ((y2.1.1,((wI (y2.1.2.1 + (1:Int))),())),())) | .inr (.inr e)=>nomatch e) else none else some (.inr (.inr (.inl ((),()))))
noncomputable def s248_L0 (x:Ta87):=q248_L0 x.1.1 x.1.2.1
noncomputable def a248:Nat→Option LoopAnn:=fun c=>bif Nat.beq c 2 then some (.fix h248_L2 e248_L2 s248_L2) else bif Nat.beq c 0 then some (.fix h248_L0 e248_L0 s248_L0) else none
noncomputable def g248 (x0:Ta14):Option ((Bool×Unit)×Unit) :=
bif (decide ((x0.len:Int) > (4:Int))) then some ((false,()),()) else (fixO s248_L0 ((x0,((0:Int),())),())).bind fun d5=>match d5 with | .inl y4=>some ((y4.1.1,()),()) | .inr (.inl y4)=>some ((true,()),()) | .inr (.inr e)=>nomatch e
noncomputable def c248:Ctr:={ ins:=[.v Ty145],out:=[.bool],F:=fun x=>g248 x.1 }
noncomputable def l248:List (Nat×Code):=loopsIn (Tryz.f248.body.getD .skip) 0
theorem w248_L2:LW t248 a248 l248 1 2 h248_L2 e248_L2 s248_L2:=fun x=>by kernel_rfl
theorem w248_L0:LW t248 a248 l248 0 0 h248_L0 e248_L0 s248_L0:=fun x=>by kernel_rfl
theorem o248:Holds Tryz.prog 248 c248:=fh t248 a248 Tryz.func248 [(0,lg l248 0),(2,lg l248 1)] ⟨fun x d h=>(w248_L0 x).trans h,fun x d h=>(w248_L2 x).trans h,trivial⟩ (tc o308 (tc o309 tn))
noncomputable def t172:Tbl:=[(248,[],c248)]
abbrev h172_L0:Shape:={ slots:=[(0,.v Ty145),(3,.bx 3 0),(5,.v (.int .i64))],boxes:=[(3,.typ Ty162)] }
abbrev e172_L0:List (XT×Shape):=[(.ret,{ slots:=[(4,.v .bool)],boxes:=[] }),(.exit 0,{ slots:=[],boxes:=[] })]
noncomputable def q172_L0 (t0:Ta14) (t5:Int) (b3:Ta46):Option ((Ta86×Ta71)⊕(((Bool×Unit)×Unit)⊕((Unit×Unit)⊕Empty))) :=
bif (decide (t5 < (t0.len:Int))) then bif (decide (0≤t5)&&decide (t5 < (b3.2.2.1.len:Int))) then bif (decide (0≤t5)&&decide (t5 < (t0.len:Int))) then bif (((L.get b3.2.2.1 t5.toNat).len:Int) != (L.get t0 t5.toNat).2.1) then some (.inr (.inl ((false,()),()))) else some (.inl ((t0,((),((wI (t5 + (1:Int))),()))),(b3,()))) else none else none else some (.inr (.inr (.inl ((),()))))
noncomputable def s172_L0 (x:(Ta86×Ta71)):=q172_L0 x.1.1 x.1.2.2.1 x.2.1
noncomputable def a172:Nat→Option LoopAnn:=fun c=>bif Nat.beq c 0 then some (.fix h172_L0 e172_L0 s172_L0) else none
noncomputable def g172 (x0:Ta14) (x1:Ta46):Option ((Bool×Unit)×Unit) :=
(g248 x0).bind fun y1=>bif (!y1.1.1) then some ((false,()),()) else bif ((x1.1.len:Int) != (16:Int)) then some ((false,()),()) else bif (decide ((0:Int) < (x1.1.len:Int))) then bif ((L.get x1.1 (0:Int).toNat) != (0:Int)) then some ((false,()),()) else bif ((x1.2.2.1.len:Int) != (x0.len:Int)) then some ((false,()),()) else ((fixO s172_L0 ((x0,((),((0:Int),()))),(x1,()))).bind fun d3=>match d3 with | .inl y2=>some ((y2.1.1,()),()) | .inr (.inl y2)=>some ((true,()),()) | .inr (.inr e)=>nomatch e) else none
noncomputable def c172:Ctr:={ ins:=[.v Ty145,.v Ty162],out:=[.bool],F:=fun x=>g172 x.1 x.2.1 }
noncomputable def l172:List (Nat×Code):=loopsIn (Tryz.f172.body.getD .skip) 0
theorem w172_L0:LW t172 a172 l172 0 0 h172_L0 e172_L0 s172_L0:=fun x=>by kernel_rfl
theorem o172:Holds Tryz.prog 172 c172:=fh t172 a172 Tryz.func172 [(0,lg l172 0)] ⟨fun x d h=>(w172_L0 x).trans h,trivial⟩ (tc o248 tn)
noncomputable def t173:Tbl:=[(97,[],c97)]
noncomputable def g173 (x0:Ta24):Option ((Bool×Unit)×Unit) :=
bif (f97 x0.1 (0:Int) (1000000000:Int)) then bif (f97 x0.2.1 (0:Int) (1000000000:Int)) then some (((f97 x0.2.2.1 (0:Int) (9:Int)),()),()) else some ((false,()),()) else some ((false,()),())
noncomputable def f173 (x0:Ta24):Bool :=
bif (f97 x0.1 (0:Int) (1000000000:Int)) then bif (f97 x0.2.1 (0:Int) (1000000000:Int)) then (f97 x0.2.2.1 (0:Int) (9:Int)) else false else false
theorem n173 (x0:Ta24):g173 x0 = some ((f173 x0,()),()):=by simp only [g173,f173,pull1]
noncomputable def c173:Ctr:={ ins:=[.v Ty159],out:=[.bool],F:=fun x=>some ((f173 x.1,()),()) }
theorem o173:Holds Tryz.prog 173 c173:=f0T t173 (fun x=>g173 x.1) Tryz.func173 (tc o97 tn) (fun x=>n173 x.1)
noncomputable def t174:Tbl:=[(119,[],c119),(97,[],c97)]
abbrev h174_L4:Shape:={ slots:=[(1,.bx 1 0),(3,.v (.int .i64)),(4,.v Ty80),(5,.v (.int .i64)),(6,.v (.int .i64))],boxes:=[(1,.typ Ty234)] }
abbrev e174_L4:List (XT×Shape):=[(.ret,{ slots:=[(2,.v .bool)],boxes:=[] }),(.exit 4,{ slots:=[(1,.bx 1 0),(3,.v (.int .i64)),(4,.v Ty80),(5,.v (.int .i64))],boxes:=[(1,.typ Ty234)] })]
noncomputable def q174_L4 (t3:Int) (t4:(L (Int×(Bool×Unit)))) (t5:Int) (t6:Int) (b1:Ta122):Option (((Unit×Ta88)×Ta134)⊕(((Bool×Unit)×Unit)⊕(Ta204⊕Empty))) :=
bif (decide (t6 < t5)) then bif (decide (0≤t6)&&decide (t6 < (t4.len:Int))) then bif (decide (0≤t5)&&decide (t5 < (t4.len:Int))) then bif ((L.get t4 t6.toNat).1 == (L.get t4 t5.toNat).1) then some (.inr (.inl ((false,()),()))) else some (.inl (((),(t3,(t4,(t5,((wI (t6 + (1:Int))),()))))),(b1,()))) else none else none else some (.inr (.inr (.inl (((),(t3,(t4,(t5,())))),(b1,())))))
noncomputable def s174_L4 (x:((Unit×Ta88)×Ta134)):=q174_L4 x.1.2.1 x.1.2.2.1 x.1.2.2.2.1 x.1.2.2.2.2.1 x.2.1
abbrev h174_L2:Shape:={ slots:=[(1,.bx 1 0),(3,.v (.int .i64)),(4,.v Ty80),(5,.v (.int .i64))],boxes:=[(1,.typ Ty234)] }
abbrev e174_L2:List (XT×Shape):=[(.ret,{ slots:=[(2,.v .bool)],boxes:=[] }),(.exit 2,{ slots:=[(1,.bx 1 0),(3,.v (.int .i64))],boxes:=[(1,.typ Ty234)] })]
noncomputable def q174_L2 (t3:Int) (t4:(L (Int×(Bool×Unit)))) (t5:Int) (b1:Ta122):Option (Ta204⊕(((Bool×Unit)×Unit)⊕(Ta169⊕Empty))) :=
bif (decide (t5 < (t4.len:Int))) then bif (decide (0≤t5)&&decide (t5 < (t4.len:Int))) then bif (!(f97 (L.get t4 t5.toNat).1 (0:Int) (65535:Int))) then some (.inr (.inl ((false,()),()))) else ((fixO s174_L4 (((),(t3,(t4,(t5,((0:Int),()))))),(b1,()))).bind fun d2=>match d2 with | .inl y1=>some (.inr (.inl y1)) | .inr (.inl y1)=>some (.inl (((),(y1.1.2.1,(y1.1.2.2.1,((wI (y1.1.2.2.2.1 + (1:Int))),())))),y1.2)) | .inr (.inr e)=>nomatch e) else none else some (.inr (.inr (.inl (((),(t3,())),(b1,())))))
noncomputable def s174_L2 (x:Ta204):=q174_L2 x.1.2.1 x.1.2.2.1 x.1.2.2.2.1 x.2.1
abbrev h174_L0:Shape:={ slots:=[(1,.bx 1 0),(3,.v (.int .i64))],boxes:=[(1,.typ Ty234)] }
abbrev e174_L0:List (XT×Shape):=[(.ret,{ slots:=[(2,.v .bool)],boxes:=[] }),(.exit 0,{ slots:=[],boxes:=[] })]
noncomputable def q174_L0 (t3:Int) (b1:Ta122):Option (Ta169⊕(((Bool×Unit)×Unit)⊕((Unit×Unit)⊕Empty))) :=
bif (decide (t3 < (b1.2.1.len:Int))) then bif (decide (0≤t3)&&decide (t3 < (b1.2.1.len:Int))) then bif (decide (((L.get b1.2.1 t3.toNat).len:Int) > b1.1.2.1)) then some (.inr (.inl ((false,()),()))) else ((fixO s174_L2 (((),(t3,((L.get b1.2.1 t3.toNat),((0:Int),())))),(b1,()))).bind fun d4=>match d4 with | .inl y3=>some (.inr (.inl y3)) | .inr (.inl y3)=>some (.inl (((),((wI (y3.1.2.1 + (1:Int))),())),y3.2)) | .inr (.inr e)=>nomatch e) else none else some (.inr (.inr (.inl ((),()))))
noncomputable def s174_L0 (x:Ta169):=q174_L0 x.1.2.1 x.2.1
noncomputable def a174:Nat→Option LoopAnn:=fun c=>bif Nat.beq c 4 then some (.fix h174_L4 e174_L4 s174_L4) else bif Nat.beq c 2 then some (.fix h174_L2 e174_L2 s174_L2) else bif Nat.beq c 0 then some (.fix h174_L0 e174_L0 s174_L0) else none
noncomputable def g174 (x0:Ta122):Option ((Bool×Unit)×Unit) :=
bif (!(f119 x0.1)) then some ((false,()),()) else bif ((x0.2.1.len:Int) != x0.1.1) then some ((false,()),()) else (fixO s174_L0 (((),((0:Int),())),(x0,()))).bind fun d6=>match d6 with | .inl y5=>some ((y5.1.1,()),()) | .inr (.inl y5)=>some ((true,()),()) | .inr (.inr e)=>nomatch e
noncomputable def c174:Ctr:={ ins:=[.v Ty234],out:=[.bool],F:=fun x=>g174 x.1 }
noncomputable def l174:List (Nat×Code):=loopsIn (Tryz.f174.body.getD .skip) 0
theorem w174_L4:LW t174 a174 l174 2 4 h174_L4 e174_L4 s174_L4:=fun x=>by kernel_rfl
theorem w174_L2:LW t174 a174 l174 1 2 h174_L2 e174_L2 s174_L2:=fun x=>by kernel_rfl
theorem w174_L0:LW t174 a174 l174 0 0 h174_L0 e174_L0 s174_L0:=fun x=>by kernel_rfl
theorem o174:Holds Tryz.prog 174 c174:=fh t174 a174 Tryz.func174 [(0,lg l174 0),(2,lg l174 1),(4,lg l174 2)] ⟨fun x d h=>(w174_L0 x).trans h,fun x d h=>(w174_L2 x).trans h,fun x d h=>(w174_L4 x).trans h,trivial⟩ (tc o119 (tc o97 tn))
noncomputable def t175:Tbl:=[(97,[],c97)]
abbrev h175_L2:Shape:={ slots:=[(1,.bx 1 0),(3,.v (.int .i64)),(4,.v (.int .i64))],boxes:=[(1,.typ Ty103)] }
abbrev e175_L2:List (XT×Shape):=[(.ret,{ slots:=[(2,.v .bool)],boxes:=[] }),(.exit 2,{ slots:=[(1,.bx 1 0),(3,.v (.int .i64))],boxes:=[(1,.typ Ty103)] })]
noncomputable def q175_L2 (t3:Int) (t4:Int) (b1:(Int×((L Int)×Unit))):Option (((Unit×(Int×(Int×Unit)))×Ta17)⊕(((Bool×Unit)×Unit)⊕(Ta93⊕Empty))) :=
bif (decide (t4 < t3)) then bif (decide (0≤t4)&&decide (t4 < (b1.2.1.len:Int))) then bif (decide (0≤t3)&&decide (t3 < (b1.2.1.len:Int))) then bif ((L.get b1.2.1 t4.toNat) == (L.get b1.2.1 t3.toNat)) then some (.inr (.inl ((false,()),()))) else some (.inl (((),(t3,((wI (t4 + (1:Int))),()))),(b1,()))) else none else none else some (.inr (.inr (.inl (((),(t3,())),(b1,())))))
noncomputable def s175_L2 (x:((Unit×(Int×(Int×Unit)))×Ta17)):=q175_L2 x.1.2.1 x.1.2.2.1 x.2.1
abbrev h175_L0:Shape:={ slots:=[(1,.bx 1 0),(3,.v (.int .i64))],boxes:=[(1,.typ Ty103)] }
abbrev e175_L0:List (XT×Shape):=[(.ret,{ slots:=[(2,.v .bool)],boxes:=[] }),(.exit 0,{ slots:=[],boxes:=[] })]
noncomputable def q175_L0 (t3:Int) (b1:(Int×((L Int)×Unit))):Option (Ta93⊕(((Bool×Unit)×Unit)⊕((Unit×Unit)⊕Empty))) :=
bif (decide (t3 < (b1.2.1.len:Int))) then bif (decide (0≤t3)&&decide (t3 < (b1.2.1.len:Int))) then bif (!(f97 (L.get b1.2.1 t3.toNat) (0:Int) (1023:Int))) then some (.inr (.inl ((false,()),()))) else ((fixO s175_L2 (((),(t3,((0:Int),()))),(b1,()))).bind fun d2=>match d2 with | .inl y1=>some (.inr (.inl y1)) | .inr (.inl y1)=>some (.inl (((),((wI (y1.1.2.1 + (1:Int))),())),y1.2)) | .inr (.inr e)=>nomatch e) else none else some (.inr (.inr (.inl ((),()))))
noncomputable def s175_L0 (x:Ta93):=q175_L0 x.1.2.1 x.2.1
noncomputable def a175:Nat→Option LoopAnn:=fun c=>bif Nat.beq c 2 then some (.fix h175_L2 e175_L2 s175_L2) else bif Nat.beq c 0 then some (.fix h175_L0 e175_L0 s175_L0) else none
noncomputable def g175 (x0:(Int×((L Int)×Unit))):Option ((Bool×Unit)×Unit) :=
bif (!(f97 x0.1 (1:Int) (8:Int))) then some ((false,()),()) else bif (decide ((x0.2.1.len:Int) > x0.1)) then some ((false,()),()) else (fixO s175_L0 (((),((0:Int),())),(x0,()))).bind fun d4=>match d4 with | .inl y3=>some ((y3.1.1,()),()) | .inr (.inl y3)=>some ((true,()),()) | .inr (.inr e)=>nomatch e
noncomputable def c175:Ctr:={ ins:=[.v Ty103],out:=[.bool],F:=fun x=>g175 x.1 }
noncomputable def l175:List (Nat×Code):=loopsIn (Tryz.f175.body.getD .skip) 0
theorem w175_L2:LW t175 a175 l175 1 2 h175_L2 e175_L2 s175_L2:=fun x=>by kernel_rfl
theorem w175_L0:LW t175 a175 l175 0 0 h175_L0 e175_L0 s175_L0:=fun x=>by kernel_rfl
theorem o175:Holds Tryz.prog 175 c175:=fh t175 a175 Tryz.func175 [(0,lg l175 0),(2,lg l175 1)] ⟨fun x d h=>(w175_L0 x).trans h,fun x d h=>(w175_L2 x).trans h,trivial⟩ (tc o97 tn)
noncomputable def t249:Tbl:=[(297,[],c297),(97,[],c97)]
noncomputable def g249 (x0:Ta19) (x1:(Int×((L Int)×Unit))):Option ((Bool×Unit)×Unit) :=
bif (!(f297 x0)) then some ((false,()),()) else bif (x0.1 == (0:Int)) then bif (x1.1 == (0:Int)) then some (((decide ((x1.2.1.len:Int)≤(1:Int))),()),()) else some ((false,()),()) else bif (f97 x1.1 (0:Int) x0.2.2.2.1) then some (((decide ((wI (x1.1 + (x1.2.1.len:Int)))≤x0.2.2.2.1)),()),()) else some ((false,()),())
noncomputable def f249 (x0:Ta19) (x1:(Int×((L Int)×Unit))):Bool :=
bif (!(f297 x0)) then false else bif (x0.1 == (0:Int)) then bif (x1.1 == (0:Int)) then (decide ((x1.2.1.len:Int)≤(1:Int))) else false else bif (f97 x1.1 (0:Int) x0.2.2.2.1) then (decide ((wI (x1.1 + (x1.2.1.len:Int)))≤x0.2.2.2.1)) else false
theorem n249 (x0:Ta19) (x1:(Int×((L Int)×Unit))):g249 x0 x1 = some ((f249 x0 x1,()),()):=by simp only [g249,f249,pull1]
noncomputable def c249:Ctr:={ ins:=[.v Ty172,.v Ty100],out:=[.bool],F:=fun x=>some ((f249 x.1 x.2.1,()),()) }
theorem o249:Holds Tryz.prog 249 c249:=f0T t249 (fun x=>g249 x.1 x.2.1) Tryz.func249 (tc o297 (tc o97 tn)) (fun x=>n249 x.1 x.2.1)
noncomputable def t250:Tbl:=[(297,[],c297)]
noncomputable def g250 (x0:Ta19) (x1:((L Int)×Unit)):Option ((Bool×Unit)×Unit) :=
bif (!(f297 x0)) then some ((false,()),()) else bif (x0.1 == (0:Int)) then some (((decide ((x1.1.len:Int)≤(1:Int))),()),()) else some (((decide ((x1.1.len:Int)≤x0.2.2.2.1)),()),())
noncomputable def f250 (x0:Ta19) (x1:((L Int)×Unit)):Bool :=
bif (!(f297 x0)) then false else bif (x0.1 == (0:Int)) then (decide ((x1.1.len:Int)≤(1:Int))) else (decide ((x1.1.len:Int)≤x0.2.2.2.1))
theorem n250 (x0:Ta19) (x1:((L Int)×Unit)):g250 x0 x1 = some ((f250 x0 x1,()),()):=by simp only [g250,f250,pull1]
noncomputable def c250:Ctr:={ ins:=[.v Ty172,.v Ty33],out:=[.bool],F:=fun x=>some ((f250 x.1 x.2.1,()),()) }
theorem o250:Holds Tryz.prog 250 c250:=f0T t250 (fun x=>g250 x.1 x.2.1) Tryz.func250 (tc o297 tn) (fun x=>n250 x.1 x.2.1)
noncomputable def t180:Tbl:=[]
noncomputable def g180 (x0:Ta2):Option ((Bool×Unit)×Unit) :=
bif (decide ((x0.1.len:Int)≤(8:Int))) then some (((decide ((x0.2.1.len:Int)≤(8:Int))),()),()) else some ((false,()),())
noncomputable def f180 (x0:Ta2):Bool :=
bif (decide ((x0.1.len:Int)≤(8:Int))) then (decide ((x0.2.1.len:Int)≤(8:Int))) else false
theorem n180 (x0:Ta2):g180 x0 = some ((f180 x0,()),()):=by simp only [g180,f180,pull1]
noncomputable def c180:Ctr:={ ins:=[.v Ty121],out:=[.bool],F:=fun x=>some ((f180 x.1,()),()) }
theorem o180:Holds Tryz.prog 180 c180:=f0T t180 (fun x=>g180 x.1) Tryz.func180 tn (fun x=>n180 x.1)
noncomputable def t176:Tbl:=[(249,[],c249),(250,[],c250),(180,[],c180)]
abbrev h176_L0:Shape:={ slots:=[(1,.v (.int .i64)),(3,.bx 3 0),(5,.bx 5 0),(7,.v (.int .i64))],boxes:=[(3,.typ Ty379),(5,.typ Ty380)] }
abbrev e176_L0:List (XT×Shape):=[(.ret,{ slots:=[(6,.v .bool)],boxes:=[] }),(.exit 0,{ slots:=[(1,.v (.int .i64)),(3,.bx 3 0),(5,.bx 5 0)],boxes:=[(3,.typ Ty379),(5,.typ Ty380)] })]
noncomputable def q176_L0 (t1:Int) (t7:Int) (b3:Ta339) (b5:Ta357):Option (Ta372⊕(((Bool×Unit)×Unit)⊕(((Int×(Unit×(Unit×Unit)))×Ta370)⊕Empty))) :=
bif (decide (t7 < (b3.2.2.2.2.2.2.2.2.2.1.len:Int))) then bif (decide (0≤t7)&&decide (t7 < (b3.2.2.2.2.2.2.2.2.2.1.len:Int))) then bif ((L.get b3.2.2.2.2.2.2.2.2.2.1 t7.toNat).2.1 == t1) then bif (decide (0≤t7)&&decide (t7 < (b5.2.2.2.2.2.2.2.2.1.len:Int))) then bif (!(f249 (L.get b3.2.2.2.2.2.2.2.2.2.1 t7.toNat) (L.get b5.2.2.2.2.2.2.2.2.1 t7.toNat))) then some (.inr (.inl ((false,()),()))) else bif ((L.get b3.2.2.2.2.2.2.2.2.2.1 t7.toNat).2.2.1 == t1) then bif (decide (0≤t7)&&decide (t7 < (b5.2.2.2.2.2.2.2.2.2.1.len:Int))) then bif (!(f250 (L.get b3.2.2.2.2.2.2.2.2.2.1 t7.toNat) (L.get b5.2.2.2.2.2.2.2.2.2.1 t7.toNat))) then some (.inr (.inl ((false,()),()))) else some (.inl ((t1,((),((),((wI (t7 + (1:Int))),())))),(b3,(b5,())))) else none else bif (decide (0≤t7)&&decide (t7 < (b5.2.2.2.2.2.2.2.2.2.1.len:Int))) then bif (((L.get b5.2.2.2.2.2.2.2.2.2.1 t7.toNat).1.len:Int) != (0:Int)) then some (.inr (.inl ((false,()),()))) else some (.inl ((t1,((),((),((wI (t7 + (1:Int))),())))),(b3,(b5,())))) else none else none else bif (decide (0≤t7)&&decide (t7 < (b5.2.2.2.2.2.2.2.2.1.len:Int))) then bif ((L.get b5.2.2.2.2.2.2.2.2.1 t7.toNat).1 != (0:Int)) then some (.inr (.inl ((false,()),()))) else bif (decide (0≤t7)&&decide (t7 < (b5.2.2.2.2.2.2.2.2.1.len:Int))) then bif (((L.get b5.2.2.2.2.2.2.2.2.1 t7.toNat).2.1.len:Int) != (0:Int)) then some (.inr (.inl ((false,()),()))) else bif ((L.get b3.2.2.2.2.2.2.2.2.2.1 t7.toNat).2.2.1 == t1) then bif (decide (0≤t7)&&decide (t7 < (b5.2.2.2.2.2.2.2.2.2.1.len:Int))) then bif (!(f250 (L.get b3.2.2.2.2.2.2.2.2.2.1 t7.toNat) (L.get b5.2.2.2.2.2.2.2.2.2.1 t7.toNat))) then some (.inr (.inl ((false,()),()))) else some (.inl ((t1,((),((),((wI (t7 + (1:Int))),())))),(b3,(b5,())))) else none else bif (decide (0≤t7)&&decide (t7 < (b5.2.2.2.2.2.2.2.2.2.1.len:Int))) then bif (((L.get b5.2.2.2.2.2.2.2.2.2.1 t7.toNat).1.len:Int) != (0:Int)) then some (.inr (.inl ((false,()),()))) else some (.inl ((t1,((),((),((wI (t7 + (1:Int))),())))),(b3,(b5,())))) else none else none else none else none else some (.inr (.inr (.inl ((t1,((),((),()))),(b3,(b5,()))))))
noncomputable def s176_L0 (x:Ta372):=q176_L0 x.1.1 x.1.2.2.2.1 x.2.1 x.2.2.1
abbrev h176_L2:Shape:={ slots:=[(1,.v (.int .i64)),(3,.bx 3 0),(5,.bx 5 0),(9,.v (.int .i64))],boxes:=[(3,.typ Ty379),(5,.typ Ty380)] }
abbrev e176_L2:List (XT×Shape):=[(.ret,{ slots:=[(6,.v .bool)],boxes:=[] }),(.exit 2,{ slots:=[],boxes:=[] })]
noncomputable def q176_L2 (t1:Int) (t9:Int) (b3:Ta339) (b5:Ta357):Option (Ta372⊕(((Bool×Unit)×Unit)⊕((Unit×Unit)⊕Empty))) :=
bif (decide (t9 < (b3.2.2.2.2.2.2.2.2.1.len:Int))) then bif (decide (0≤t9)&&decide (t9 < (b3.2.2.2.2.2.2.2.2.1.len:Int))) then bif ((L.get b3.2.2.2.2.2.2.2.2.1 t9.toNat) == t1) then bif (decide (0≤t9)&&decide (t9 < (b5.2.2.2.2.2.2.2.2.2.2.1.len:Int))) then bif (!(f180 (L.get b5.2.2.2.2.2.2.2.2.2.2.1 t9.toNat))) then some (.inr (.inl ((false,()),()))) else some (.inl ((t1,((),((),((wI (t9 + (1:Int))),())))),(b3,(b5,())))) else none else bif (decide (0≤t9)&&decide (t9 < (b5.2.2.2.2.2.2.2.2.2.2.1.len:Int))) then bif (((L.get b5.2.2.2.2.2.2.2.2.2.2.1 t9.toNat).1.len:Int) != (0:Int)) then some (.inr (.inl ((false,()),()))) else bif (decide (0≤t9)&&decide (t9 < (b5.2.2.2.2.2.2.2.2.2.2.1.len:Int))) then bif (((L.get b5.2.2.2.2.2.2.2.2.2.2.1 t9.toNat).2.1.len:Int) != (0:Int)) then some (.inr (.inl ((false,()),()))) else some (.inl ((t1,((),((),((wI (t9 + (1:Int))),())))),(b3,(b5,())))) else none else none else none else some (.inr (.inr (.inl ((),()))))
noncomputable def s176_L2 (x:Ta372):=q176_L2 x.1.1 x.1.2.2.2.1 x.2.1 x.2.2.1
noncomputable def a176:Nat→Option LoopAnn:=fun c=>bif Nat.beq c 0 then some (.fix h176_L0 e176_L0 s176_L0) else bif Nat.beq c 2 then some (.fix h176_L2 e176_L2 s176_L2) else none
noncomputable def g176 (x0:Ta339) (x1:Int) (x2:Ta357):Option ((Bool×Unit)×Unit) :=
bif ((x2.2.2.2.2.2.2.2.2.1.len:Int) != (x0.2.2.2.2.2.2.2.2.2.1.len:Int)) then some ((false,()),()) else bif ((x2.2.2.2.2.2.2.2.2.2.1.len:Int) != (x0.2.2.2.2.2.2.2.2.2.1.len:Int)) then some ((false,()),()) else bif ((x2.2.2.2.2.2.2.2.2.2.2.1.len:Int) != (x0.2.2.2.2.2.2.2.2.1.len:Int)) then some ((false,()),()) else (fixO s176_L0 ((x1,((),((),((0:Int),())))),(x0,(x2,())))).bind fun d4=>match d4 with | .inl y1=>some ((y1.1.1,()),()) | .inr (.inl y1)=>((fixO s176_L2 ((y1.1.1,((),((),((0:Int),())))),y1.2)).bind fun d3=>match d3 with | .inl y2=>some ((y2.1.1,()),()) | .inr (.inl y2)=>some ((true,()),()) | .inr (.inr e)=>nomatch e) | .inr (.inr e)=>nomatch e
noncomputable def c176:Ctr:={ ins:=[.v Ty379,.v (.int .i64),.v Ty380],out:=[.bool],F:=fun x=>g176 x.1 x.2.1 x.2.2.1 }
noncomputable def l176:List (Nat×Code):=loopsIn (Tryz.f176.body.getD .skip) 0
theorem w176_L0:LW t176 a176 l176 0 0 h176_L0 e176_L0 s176_L0:=fun x=>by kernel_rfl
theorem w176_L2:LW t176 a176 l176 1 2 h176_L2 e176_L2 s176_L2:=fun x=>by kernel_rfl
theorem o176:Holds Tryz.prog 176 c176:=fh t176 a176 Tryz.func176 [(0,lg l176 0),(2,lg l176 1)] ⟨fun x d h=>(w176_L0 x).trans h,fun x d h=>(w176_L2 x).trans h,trivial⟩ (tc o249 (tc o250 (tc o180 tn)))
noncomputable def t96:Tbl:=[(45,[],c45),(172,[],c172),(173,[],c173),(174,[],c174),(175,[],c175),(97,[],c97),(176,[],c176)]
noncomputable def g96 (x0:Ta339) (x1:Int) (x2:Ta357):Option ((Bool×Unit)×Unit) :=
(g45 x0 x1 x2.2.2.2.2.2.2.2.1).bind fun y1=>bif (!y1.1.1) then some ((false,()),()) else bif (decide (0≤x1)&&decide (x1 < (x0.2.2.2.2.2.2.2.1.len:Int))) then (g172 (L.get x0.2.2.2.2.2.2.2.1 x1.toNat).2.2.2.1 x2.1).bind fun y2=>bif (!y2.1.1) then some ((false,()),()) else bif (!(f173 x2.2.2.1)) then some ((false,()),()) else (g174 x2.2.2.2.1).bind fun y3=>bif (!y3.1.1) then some ((false,()),()) else bif (!((x2.2.2.2.1.1.1 == x0.2.1.1)&&((x2.2.2.2.1.1.2.1 == x0.2.1.2.1)&&((x2.2.2.2.1.1.2.2.1 == x0.2.1.2.2.1)&&true)))) then some ((false,()),()) else (g175 x2.2.2.2.2.1).bind fun y4=>bif (!y4.1.1) then some ((false,()),()) else bif (x2.2.2.2.2.1.1 != x0.2.2.1) then some ((false,()),()) else bif (f97 x2.2.2.2.2.2.1 (0:Int) (100000:Int)) then (g176 x0 x1 x2).bind fun y5=>some ((y5.1.1,()),()) else some ((false,()),()) else none
noncomputable def c96:Ctr:={ ins:=[.v Ty379,.v (.int .i64),.v Ty380],out:=[.bool],F:=fun x=>g96 x.1 x.2.1 x.2.2.1 }
theorem o96:Holds Tryz.prog 96 c96:=f0 t96 Tryz.func96 (tc o45 (tc o172 (tc o173 (tc o174 (tc o175 (tc o97 (tc o176 tn)))))))
noncomputable def t130r:Tbl:=[]
abbrev h130r_L0:Shape:={ slots:=[(0,.v (.sl (.sl (.int .u8)))),(3,.ms 5),(4,.v (.int .i64))],boxes:=[(5,.row (.sl (.int .u8)))] }
abbrev e130r_L0:List (XT×Shape):=[(.exit 0,{ slots:=[(3,.ms 5)],boxes:=[(5,.row (.sl (.int .u8)))] })]
noncomputable def q130r_L0 (t0:(L (L Int))) (t4:Int) (r5:(L (L Int))):Option (Ta109⊕(Ta41⊕Empty)) :=
bif (decide (t4 < (t0.len:Int))) then bif (decide (0≤t4)&&decide (t4 < (t0.len:Int))) then bif (decide ((L.of (Ty.zero (.int .u8)) []).len + (L.get t0 t4.toNat).len≤most)) then bif (decide (r5.len + (L.of (Ty.zero (.sl (.int .u8))) [(L.app (L.of (Ty.zero (.int .u8)) []) (L.get t0 t4.toNat))]).len≤most)) then some (.inl ((t0,((),((wI (t4 + (1:Int))),()))),((L.app r5 (L.of (Ty.zero (.sl (.int .u8))) [(L.app (L.of (Ty.zero (.int .u8)) []) (L.get t0 t4.toNat))])),()))) else none else none else none else some (.inr (.inl (((),()),(r5,()))))
noncomputable def s130r_L0 (x:Ta109):=q130r_L0 x.1.1 x.1.2.2.1 x.2.1
noncomputable def a130r:Nat→Option LoopAnn:=fun c=>bif Nat.beq c 0 then some (.fix h130r_L0 e130r_L0 s130r_L0) else none
noncomputable def g130r (x0:(L (L Int))):Option Ta9 :=
(fixO s130r_L0 ((x0,((),((0:Int),()))),((L.of (Ty.zero (.sl (.int .u8))) []),()))).bind fun d2=>match d2 with | .inl y1=>some ((y1.2.1,()),()) | .inr e=>nomatch e
noncomputable def c130r:Ctr:={ ins:=[.v (.sl (.sl (.int .u8)))],out:=[(.sl (.sl (.int .u8)))],F:=fun x=>g130r x.1,fr:=1 }
noncomputable def l130r:List (Nat×Code):=loopsIn (Tryz.f130.body.getD .skip) 0
theorem w130r_L0:LW t130r a130r l130r 0 0 h130r_L0 e130r_L0 s130r_L0:=fun x=>by kernel_rfl
theorem o130r:Holds Tryz.prog 130 c130r:=fh t130r a130r Tryz.func130 [(0,lg l130r 0)] ⟨fun x d h=>(w130r_L0 x).trans h,trivial⟩ tn
noncomputable def t177r:Tbl:=[(130,[],c130r)]
noncomputable def g177r (x0:Ta46):Option Ta95 :=
bif (decide ((L.of (Ty.zero (.int .u32)) []).len + x0.1.len≤most)) then (g130r x0.2.2.1).bind fun y1=>some ((((L.app (L.of (Ty.zero (.int .u32)) []) x0.1),(x0.2.1,y1.1)),()),()) else none
noncomputable def c177r:Ctr:={ ins:=[.v Ty162],out:=[Ty162],F:=fun x=>g177r x.1,fr:=1 }
theorem o177r:Holds Tryz.prog 177 c177r:=f0 t177r Tryz.func177 (tc o130r tn)
noncomputable def t178r:Tbl:=[]
noncomputable def g178r (x0:(L Int)):Option (((L Int)×Unit)×Unit) :=
bif (decide ((L.of (Ty.zero (.int .u32)) []).len + x0.len≤most)) then some (((L.app (L.of (Ty.zero (.int .u32)) []) x0),()),()) else none
noncomputable def c178r:Ctr:={ ins:=[.v (.sl (.int .u32))],out:=[(.sl (.int .u32))],F:=fun x=>g178r x.1,fr:=1 }
theorem o178r:Holds Tryz.prog 178 c178r:=f0 t178r Tryz.func178 tn
noncomputable def t179r:Tbl:=[(178,[],c178r)]
noncomputable def g179r (x0:Ta2):Option Ta59 :=
(g178r x0.1).bind fun y1=>(g178r x0.2.1).bind fun y2=>some (((y1.1.1,y2.1),()),())
noncomputable def c179r:Ctr:={ ins:=[.v Ty121],out:=[Ty121],F:=fun x=>g179r x.1,fr:=1 }
theorem o179r:Holds Tryz.prog 179 c179r:=f0 t179r Tryz.func179 (tc o178r tn)
noncomputable def t98r:Tbl:=[(177,[],c177r),(130,[],c130r),(178,[],c178r),(179,[],c179r)]
abbrev h98r_L0:Shape:={ slots:=[(1,.bx 1 0),(2,.bx 2 0),(3,.bx 3 0),(4,.v (.int .i64))],boxes:=[(1,.typ Ty380),(2,.cells [.row (.int .u32) 60128,.v (.int .u32),.row (.sl (.int .u8)) 60130,.v .bool,.v (.int .u32),.v (.int .u32),.v (.int .u32),.v (.int .u32),.v .bool,.v .bool,.v (.int .u32),.v (.int .i64),.v (.int .i64),.v (.int .i64),.v .bool,.v (.int .i64),.v (.int .i64),.v (.int .i64),.row Ty80 60146,.v (.int .i64),.row (.int .i64) 60148,.v (.int .i64),.v .bool,.row (.sl (.int .u8)) 60151,.row Ty100 60152,.row Ty33 60153,.row Ty121 60154]),(3,.cells [.ms 1000704,.v (.int .u32),.ms 1000705,.v .bool,.v (.int .u32),.v (.int .u32),.v (.int .u32),.v (.int .u32),.v .bool,.v .bool,.v (.int .u32),.v (.int .i64),.v (.int .i64),.v (.int .i64),.v .bool,.v (.int .i64),.v (.int .i64),.v (.int .i64),.row Ty80 60210,.v (.int .i64),.v (.sl (.int .i64)),.v (.int .i64),.v .bool,.v (.sl (.sl (.int .u8))),.v Ty123,.v Ty54,.v Ty131]),(1000704,.row (.int .u32)),(1000705,.row (.sl (.int .u8)))] }
abbrev e98r_L0:List (XT×Shape):=[(.exit 0,{ slots:=[(1,.bx 1 0),(2,.bx 2 0),(3,.bx 3 0)],boxes:=[(1,.typ Ty380),(2,.cells [.ms 60128,.v (.int .u32),.ms 60130,.v .bool,.v (.int .u32),.v (.int .u32),.v (.int .u32),.v (.int .u32),.v .bool,.v .bool,.v (.int .u32),.v (.int .i64),.v (.int .i64),.v (.int .i64),.v .bool,.v (.int .i64),.v (.int .i64),.v (.int .i64),.ms 60146,.v (.int .i64),.ms 60148,.v (.int .i64),.v .bool,.ms 60151,.ms 60152,.ms 60153,.ms 60154]),(3,.cells [.ms 1000704,.v (.int .u32),.ms 1000705,.v .bool,.v (.int .u32),.v (.int .u32),.v (.int .u32),.v (.int .u32),.v .bool,.v .bool,.v (.int .u32),.v (.int .i64),.v (.int .i64),.v (.int .i64),.v .bool,.v (.int .i64),.v (.int .i64),.v (.int .i64),.ms 60210,.v (.int .i64),.v (.sl (.int .i64)),.v (.int .i64),.v .bool,.v (.sl (.sl (.int .u8))),.v Ty123,.v Ty54,.v Ty131]),(60128,.row (.int .u32)),(60130,.row (.sl (.int .u8))),(60146,.row Ty80),(60148,.row (.int .i64)),(60151,.row (.sl (.int .u8))),(60152,.row Ty100),(60153,.row Ty33),(60154,.row Ty121),(1000704,.row (.int .u32)),(1000705,.row (.sl (.int .u8))),(60210,.row Ty80)] })]
noncomputable def q98r_L0 (t4:Int) (b1:Ta357) (b2_0:(L Int)) (b2_1:Int) (b2_2:(L (L Int))) (b2_3:Bool) (b2_4:Int) (b2_5:Int) (b2_6:Int) (b2_7:Int) (b2_8:Bool) (b2_9:Bool) (b2_10:Int) (b2_11:Int) (b2_12:Int) (b2_13:Int) (b2_14:Bool) (b2_15:Int) (b2_16:Int) (b2_17:Int) (b2_18:Ta7) (b2_19:Int) (b2_20:(L Int)) (b2_21:Int) (b2_22:Bool) (b2_23:(L (L Int))) (b2_24:Ta1) (b2_25:(L ((L Int)×Unit))) (b2_26:Ta20) (b3_1:Int) (b3_3:Bool) (b3_4:Int) (b3_5:Int) (b3_6:Int) (b3_7:Int) (b3_8:Bool) (b3_9:Bool) (b3_10:Int) (b3_11:Int) (b3_12:Int) (b3_13:Int) (b3_14:Bool) (b3_15:Int) (b3_16:Int) (b3_17:Int) (b3_18:Ta7) (b3_19:Int) (b3_20:(L Int)) (b3_21:Int) (b3_22:Bool) (b3_23:(L (L Int))) (b3_24:Ta1) (b3_25:(L ((L Int)×Unit))) (b3_26:Ta20) (r1000704:(L Int)) (r1000705:(L (L Int))):Option ((Ta38×(Ta357×(Ta347×((Unit×(Int×(Unit×Ta334)))×Ta23))))⊕((Ta12×(Ta357×(Ta279×((Unit×(Int×(Unit×(Bool×(Int×(Int×(Int×(Int×(Bool×(Bool×(Int×(Int×(Int×(Int×(Bool×(Int×(Int×(Int×(Unit×Ta218)))))))))))))))))))×((L Int)×((L (L Int))×(Ta7×((L Int)×((L (L Int))×(Ta1×((L ((L Int)×Unit))×(Ta20×((L Int)×((L (L Int))×Ta40))))))))))))))⊕Empty)) :=
bif (decide (t4 < (b1.2.2.2.1.2.1.len:Int))) then bif (decide (0≤t4)&&decide (t4 < (b1.2.2.2.1.2.1.len:Int))) then bif (decide ((L.of (Ty.zero Ty61) []).len + (L.get b1.2.2.2.1.2.1 t4.toNat).len≤most)) then bif (decide (b3_18.len + (L.of (Ty.zero Ty80) [(L.app (L.of (Ty.zero Ty61) []) (L.get b1.2.2.2.1.2.1 t4.toNat))]).len≤most)) then some (.inl (((),((),((),((wI (t4 + (1:Int))),())))),(b1,((b2_0,(b2_1,(b2_2,(b2_3,(b2_4,(b2_5,(b2_6,(b2_7,(b2_8,(b2_9,(b2_10,(b2_11,(b2_12,(b2_13,(b2_14,(b2_15,(b2_16,(b2_17,(b2_18,(b2_19,(b2_20,(b2_21,(b2_22,(b2_23,(b2_24,(b2_25,(b2_26,()))))))))))))))))))))))))))),(((),(b3_1,((),(b3_3,(b3_4,(b3_5,(b3_6,(b3_7,(b3_8,(b3_9,(b3_10,(b3_11,(b3_12,(b3_13,(b3_14,(b3_15,(b3_16,(b3_17,((L.app b3_18 (L.of (Ty.zero Ty80) [(L.app (L.of (Ty.zero Ty61) []) (L.get b1.2.2.2.1.2.1 t4.toNat))])),(b3_19,(b3_20,(b3_21,(b3_22,(b3_23,(b3_24,(b3_25,(b3_26,()))))))))))))))))))))))))))),(r1000704,(r1000705,()))))))) else none else none else none else some (.inr (.inl (((),((),((),()))),(b1,(((),(b2_1,((),(b2_3,(b2_4,(b2_5,(b2_6,(b2_7,(b2_8,(b2_9,(b2_10,(b2_11,(b2_12,(b2_13,(b2_14,(b2_15,(b2_16,(b2_17,((),(b2_19,((),(b2_21,(b2_22,((),((),((),((),()))))))))))))))))))))))))))),(((),(b3_1,((),(b3_3,(b3_4,(b3_5,(b3_6,(b3_7,(b3_8,(b3_9,(b3_10,(b3_11,(b3_12,(b3_13,(b3_14,(b3_15,(b3_16,(b3_17,((),(b3_19,(b3_20,(b3_21,(b3_22,(b3_23,(b3_24,(b3_25,(b3_26,()))))))))))))))))))))))))))),(b2_0,(b2_2,(b2_18,(b2_20,(b2_23,(b2_24,(b2_25,(b2_26,(r1000704,(r1000705,(b3_18,())))))))))))))))))
noncomputable def s98r_L0 (x:(Ta38×(Ta357×(Ta347×((Unit×(Int×(Unit×Ta334)))×Ta23))))):=q98r_L0 x.1.2.2.2.1 x.2.1 x.2.2.1.1 x.2.2.1.2.1 x.2.2.1.2.2.1 x.2.2.1.2.2.2.1 x.2.2.1.2.2.2.2.1 x.2.2.1.2.2.2.2.2.1 x.2.2.1.2.2.2.2.2.2.1 x.2.2.1.2.2.2.2.2.2.2.1 x.2.2.1.2.2.2.2.2.2.2.2.1 x.2.2.1.2.2.2.2.2.2.2.2.2.1 x.2.2.1.2.2.2.2.2.2.2.2.2.2.1 x.2.2.1.2.2.2.2.2.2.2.2.2.2.2.1 x.2.2.1.2.2.2.2.2.2.2.2.2.2.2.2.1 x.2.2.1.2.2.2.2.2.2.2.2.2.2.2.2.2.1 x.2.2.1.2.2.2.2.2.2.2.2.2.2.2.2.2.2.1 x.2.2.1.2.2.2.2.2.2.2.2.2.2.2.2.2.2.2.1 x.2.2.1.2.2.2.2.2.2.2.2.2.2.2.2.2.2.2.2.1 x.2.2.1.2.2.2.2.2.2.2.2.2.2.2.2.2.2.2.2.2.1 x.2.2.1.2.2.2.2.2.2.2.2.2.2.2.2.2.2.2.2.2.2.1 x.2.2.1.2.2.2.2.2.2.2.2.2.2.2.2.2.2.2.2.2.2.2.1 x.2.2.1.2.2.2.2.2.2.2.2.2.2.2.2.2.2.2.2.2.2.2.2.1 x.2.2.1.2.2.2.2.2.2.2.2.2.2.2.2.2.2.2.2.2.2.2.2.2.1 x.2.2.1.2.2.2.2.2.2.2.2.2.2.2.2.2.2.2.2.2.2.2.2.2.2.1 x.2.2.1.2.2.2.2.2.2.2.2.2.2.2.2.2.2.2.2.2.2.2.2.2.2.2.1 x.2.2.1.2.2.2.2.2.2.2.2.2.2.2.2.2.2.2.2.2.2.2.2.2.2.2.2.1 x.2.2.1.2.2.2.2.2.2.2.2.2.2.2.2.2.2.2.2.2.2.2.2.2.2.2.2.2.1 x.2.2.1.2.2.2.2.2.2.2.2.2.2.2.2.2.2.2.2.2.2.2.2.2.2.2.2.2.2.1 x.2.2.2.1.2.1 x.2.2.2.1.2.2.2.1 x.2.2.2.1.2.2.2.2.1 x.2.2.2.1.2.2.2.2.2.1 x.2.2.2.1.2.2.2.2.2.2.1 x.2.2.2.1.2.2.2.2.2.2.2.1 x.2.2.2.1.2.2.2.2.2.2.2.2.1 x.2.2.2.1.2.2.2.2.2.2.2.2.2.1 x.2.2.2.1.2.2.2.2.2.2.2.2.2.2.1 x.2.2.2.1.2.2.2.2.2.2.2.2.2.2.2.1 x.2.2.2.1.2.2.2.2.2.2.2.2.2.2.2.2.1 x.2.2.2.1.2.2.2.2.2.2.2.2.2.2.2.2.2.1 x.2.2.2.1.2.2.2.2.2.2.2.2.2.2.2.2.2.2.1 x.2.2.2.1.2.2.2.2.2.2.2.2.2.2.2.2.2.2.2.1 x.2.2.2.1.2.2.2.2.2.2.2.2.2.2.2.2.2.2.2.2.1 x.2.2.2.1.2.2.2.2.2.2.2.2.2.2.2.2.2.2.2.2.2.1 x.2.2.2.1.2.2.2.2.2.2.2.2.2.2.2.2.2.2.2.2.2.2.1 x.2.2.2.1.2.2.2.2.2.2.2.2.2.2.2.2.2.2.2.2.2.2.2.1 x.2.2.2.1.2.2.2.2.2.2.2.2.2.2.2.2.2.2.2.2.2.2.2.2.1 x.2.2.2.1.2.2.2.2.2.2.2.2.2.2.2.2.2.2.2.2.2.2.2.2.2.1 x.2.2.2.1.2.2.2.2.2.2.2.2.2.2.2.2.2.2.2.2.2.2.2.2.2.2.1 x.2.2.2.1.2.2.2.2.2.2.2.2.2.2.2.2.2.2.2.2.2.2.2.2.2.2.2.1 x.2.2.2.1.2.2.2.2.2.2.2.2.2.2.2.2.2.2.2.2.2.2.2.2.2.2.2.2.1 x.2.2.2.1.2.2.2.2.2.2.2.2.2.2.2.2.2.2.2.2.2.2.2.2.2.2.2.2.2.1 x.2.2.2.1.2.2.2.2.2.2.2.2.2.2.2.2.2.2.2.2.2.2.2.2.2.2.2.2.2.2.1 x.2.2.2.2.1 x.2.2.2.2.2.1
abbrev h98r_L2:Shape:={ slots:=[(1,.bx 1 0),(2,.bx 2 0),(3,.bx 3 0),(5,.v (.int .i64))],boxes:=[(1,.typ Ty380),(2,.cells [.ms 60128,.v (.int .u32),.ms 60130,.v .bool,.v (.int .u32),.v (.int .u32),.v (.int .u32),.v (.int .u32),.v .bool,.v .bool,.v (.int .u32),.v (.int .i64),.v (.int .i64),.v (.int .i64),.v .bool,.v (.int .i64),.v (.int .i64),.v (.int .i64),.ms 60146,.v (.int .i64),.ms 60148,.v (.int .i64),.v .bool,.ms 60151,.ms 60152,.ms 60153,.ms 60154]),(3,.cells [.ms 1000704,.v (.int .u32),.ms 1000705,.v .bool,.v (.int .u32),.v (.int .u32),.v (.int .u32),.v (.int .u32),.v .bool,.v .bool,.v (.int .u32),.v (.int .i64),.v (.int .i64),.v (.int .i64),.v .bool,.v (.int .i64),.v (.int .i64),.v (.int .i64),.ms 60210,.v (.int .i64),.ms 41,.v (.int .i64),.v .bool,.ms 1003200,.ms 52,.v Ty54,.v Ty131]),(60128,.row (.int .u32)),(60130,.row (.sl (.int .u8))),(60146,.row Ty80),(60148,.row (.int .i64)),(60151,.row (.sl (.int .u8))),(60152,.row Ty100),(60153,.row Ty33),(60154,.row Ty121),(1000704,.row (.int .u32)),(1000705,.row (.sl (.int .u8))),(60210,.row Ty80),(41,.row (.int .i64)),(1003200,.row (.sl (.int .u8))),(52,.row Ty100)] }
abbrev e98r_L2:List (XT×Shape):=[(.exit 2,{ slots:=[(1,.bx 1 0),(2,.bx 2 0),(3,.bx 3 0)],boxes:=[(1,.typ Ty380),(2,.cells [.ms 60128,.v (.int .u32),.ms 60130,.v .bool,.v (.int .u32),.v (.int .u32),.v (.int .u32),.v (.int .u32),.v .bool,.v .bool,.v (.int .u32),.v (.int .i64),.v (.int .i64),.v (.int .i64),.v .bool,.v (.int .i64),.v (.int .i64),.v (.int .i64),.ms 60146,.v (.int .i64),.ms 60148,.v (.int .i64),.v .bool,.ms 60151,.ms 60152,.ms 60153,.ms 60154]),(3,.cells [.ms 1000704,.v (.int .u32),.ms 1000705,.v .bool,.v (.int .u32),.v (.int .u32),.v (.int .u32),.v (.int .u32),.v .bool,.v .bool,.v (.int .u32),.v (.int .i64),.v (.int .i64),.v (.int .i64),.v .bool,.v (.int .i64),.v (.int .i64),.v (.int .i64),.ms 60210,.v (.int .i64),.ms 41,.v (.int .i64),.v .bool,.ms 1003200,.ms 52,.v Ty54,.v Ty131]),(60128,.row (.int .u32)),(60130,.row (.sl (.int .u8))),(60146,.row Ty80),(60148,.row (.int .i64)),(60151,.row (.sl (.int .u8))),(60152,.row Ty100),(60153,.row Ty33),(60154,.row Ty121),(1000704,.row (.int .u32)),(1000705,.row (.sl (.int .u8))),(60210,.row Ty80),(41,.row (.int .i64)),(1003200,.row (.sl (.int .u8))),(52,.row Ty100)] })]
noncomputable def q98r_L2 (t5:Int) (b1:Ta357) (b2_1:Int) (b2_3:Bool) (b2_4:Int) (b2_5:Int) (b2_6:Int) (b2_7:Int) (b2_8:Bool) (b2_9:Bool) (b2_10:Int) (b2_11:Int) (b2_12:Int) (b2_13:Int) (b2_14:Bool) (b2_15:Int) (b2_16:Int) (b2_17:Int) (b2_19:Int) (b2_21:Int) (b2_22:Bool) (b3_1:Int) (b3_3:Bool) (b3_4:Int) (b3_5:Int) (b3_6:Int) (b3_7:Int) (b3_8:Bool) (b3_9:Bool) (b3_10:Int) (b3_11:Int) (b3_12:Int) (b3_13:Int) (b3_14:Bool) (b3_15:Int) (b3_16:Int) (b3_17:Int) (b3_19:Int) (b3_21:Int) (b3_22:Bool) (b3_25:(L ((L Int)×Unit))) (b3_26:Ta20) (r60128:(L Int)) (r60130:(L (L Int))) (r60146:Ta7) (r60148:(L Int)) (r60151:(L (L Int))) (r60152:Ta1) (r60153:(L ((L Int)×Unit))) (r60154:Ta20) (r1000704:(L Int)) (r1000705:(L (L Int))) (r60210:Ta7) (r41:(L Int)) (r1003200:(L (L Int))) (r52:Ta1):Option ((Ta38×Ta381)⊕((Ta12×Ta381)⊕Empty)) :=
bif (decide (t5 < (b1.2.2.2.2.2.2.2.2.1.len:Int))) then bif (decide (0≤t5)&&decide (t5 < (b1.2.2.2.2.2.2.2.2.1.len:Int))) then bif (decide (0≤t5)&&decide (t5 < (b1.2.2.2.2.2.2.2.2.1.len:Int))) then (g178r (L.get b1.2.2.2.2.2.2.2.2.1 t5.toNat).2.1).bind fun y4=>bif (decide (r52.len + (L.of (Ty.zero Ty100) [((L.get b1.2.2.2.2.2.2.2.2.1 t5.toNat).1,y4.1)]).len≤most)) then some (.inl (((),((),((),((wI (t5 + (1:Int))),())))),(b1,(((),(b2_1,((),(b2_3,(b2_4,(b2_5,(b2_6,(b2_7,(b2_8,(b2_9,(b2_10,(b2_11,(b2_12,(b2_13,(b2_14,(b2_15,(b2_16,(b2_17,((),(b2_19,((),(b2_21,(b2_22,((),((),((),((),()))))))))))))))))))))))))))),(((),(b3_1,((),(b3_3,(b3_4,(b3_5,(b3_6,(b3_7,(b3_8,(b3_9,(b3_10,(b3_11,(b3_12,(b3_13,(b3_14,(b3_15,(b3_16,(b3_17,((),(b3_19,((),(b3_21,(b3_22,((),((),(b3_25,(b3_26,()))))))))))))))))))))))))))),(r60128,(r60130,(r60146,(r60148,(r60151,(r60152,(r60153,(r60154,(r1000704,(r1000705,(r60210,(r41,(r1003200,((L.app r52 (L.of (Ty.zero Ty100) [((L.get b1.2.2.2.2.2.2.2.2.1 t5.toNat).1,y4.1)])),()))))))))))))))))))) else none else none else none else some (.inr (.inl (((),((),((),()))),(b1,(((),(b2_1,((),(b2_3,(b2_4,(b2_5,(b2_6,(b2_7,(b2_8,(b2_9,(b2_10,(b2_11,(b2_12,(b2_13,(b2_14,(b2_15,(b2_16,(b2_17,((),(b2_19,((),(b2_21,(b2_22,((),((),((),((),()))))))))))))))))))))))))))),(((),(b3_1,((),(b3_3,(b3_4,(b3_5,(b3_6,(b3_7,(b3_8,(b3_9,(b3_10,(b3_11,(b3_12,(b3_13,(b3_14,(b3_15,(b3_16,(b3_17,((),(b3_19,((),(b3_21,(b3_22,((),((),(b3_25,(b3_26,()))))))))))))))))))))))))))),(r60128,(r60130,(r60146,(r60148,(r60151,(r60152,(r60153,(r60154,(r1000704,(r1000705,(r60210,(r41,(r1003200,(r52,()))))))))))))))))))))
noncomputable def s98r_L2 (x:(Ta38×Ta381)):=q98r_L2 x.1.2.2.2.1 x.2.1 x.2.2.1.2.1 x.2.2.1.2.2.2.1 x.2.2.1.2.2.2.2.1 x.2.2.1.2.2.2.2.2.1 x.2.2.1.2.2.2.2.2.2.1 x.2.2.1.2.2.2.2.2.2.2.1 x.2.2.1.2.2.2.2.2.2.2.2.1 x.2.2.1.2.2.2.2.2.2.2.2.2.1 x.2.2.1.2.2.2.2.2.2.2.2.2.2.1 x.2.2.1.2.2.2.2.2.2.2.2.2.2.2.1 x.2.2.1.2.2.2.2.2.2.2.2.2.2.2.2.1 x.2.2.1.2.2.2.2.2.2.2.2.2.2.2.2.2.1 x.2.2.1.2.2.2.2.2.2.2.2.2.2.2.2.2.2.1 x.2.2.1.2.2.2.2.2.2.2.2.2.2.2.2.2.2.2.1 x.2.2.1.2.2.2.2.2.2.2.2.2.2.2.2.2.2.2.2.1 x.2.2.1.2.2.2.2.2.2.2.2.2.2.2.2.2.2.2.2.2.1 x.2.2.1.2.2.2.2.2.2.2.2.2.2.2.2.2.2.2.2.2.2.2.1 x.2.2.1.2.2.2.2.2.2.2.2.2.2.2.2.2.2.2.2.2.2.2.2.2.1 x.2.2.1.2.2.2.2.2.2.2.2.2.2.2.2.2.2.2.2.2.2.2.2.2.2.1 x.2.2.2.1.2.1 x.2.2.2.1.2.2.2.1 x.2.2.2.1.2.2.2.2.1 x.2.2.2.1.2.2.2.2.2.1 x.2.2.2.1.2.2.2.2.2.2.1 x.2.2.2.1.2.2.2.2.2.2.2.1 x.2.2.2.1.2.2.2.2.2.2.2.2.1 x.2.2.2.1.2.2.2.2.2.2.2.2.2.1 x.2.2.2.1.2.2.2.2.2.2.2.2.2.2.1 x.2.2.2.1.2.2.2.2.2.2.2.2.2.2.2.1 x.2.2.2.1.2.2.2.2.2.2.2.2.2.2.2.2.1 x.2.2.2.1.2.2.2.2.2.2.2.2.2.2.2.2.2.1 x.2.2.2.1.2.2.2.2.2.2.2.2.2.2.2.2.2.2.1 x.2.2.2.1.2.2.2.2.2.2.2.2.2.2.2.2.2.2.2.1 x.2.2.2.1.2.2.2.2.2.2.2.2.2.2.2.2.2.2.2.2.1 x.2.2.2.1.2.2.2.2.2.2.2.2.2.2.2.2.2.2.2.2.2.1 x.2.2.2.1.2.2.2.2.2.2.2.2.2.2.2.2.2.2.2.2.2.2.2.1 x.2.2.2.1.2.2.2.2.2.2.2.2.2.2.2.2.2.2.2.2.2.2.2.2.2.1 x.2.2.2.1.2.2.2.2.2.2.2.2.2.2.2.2.2.2.2.2.2.2.2.2.2.2.1 x.2.2.2.1.2.2.2.2.2.2.2.2.2.2.2.2.2.2.2.2.2.2.2.2.2.2.2.2.2.1 x.2.2.2.1.2.2.2.2.2.2.2.2.2.2.2.2.2.2.2.2.2.2.2.2.2.2.2.2.2.2.1 x.2.2.2.2.1 x.2.2.2.2.2.1 x.2.2.2.2.2.2.1 x.2.2.2.2.2.2.2.1 x.2.2.2.2.2.2.2.2.1 x.2.2.2.2.2.2.2.2.2.1 x.2.2.2.2.2.2.2.2.2.2.1 x.2.2.2.2.2.2.2.2.2.2.2.1 x.2.2.2.2.2.2.2.2.2.2.2.2.1 x.2.2.2.2.2.2.2.2.2.2.2.2.2.1 x.2.2.2.2.2.2.2.2.2.2.2.2.2.2.1 x.2.2.2.2.2.2.2.2.2.2.2.2.2.2.2.1 x.2.2.2.2.2.2.2.2.2.2.2.2.2.2.2.2.1 x.2.2.2.2.2.2.2.2.2.2.2.2.2.2.2.2.2.1
abbrev h98r_L4:Shape:={ slots:=[(1,.bx 1 0),(2,.bx 2 0),(3,.bx 3 0),(6,.v (.int .i64))],boxes:=[(1,.typ Ty380),(2,.cells [.ms 60128,.v (.int .u32),.ms 60130,.v .bool,.v (.int .u32),.v (.int .u32),.v (.int .u32),.v (.int .u32),.v .bool,.v .bool,.v (.int .u32),.v (.int .i64),.v (.int .i64),.v (.int .i64),.v .bool,.v (.int .i64),.v (.int .i64),.v (.int .i64),.ms 60146,.v (.int .i64),.ms 60148,.v (.int .i64),.v .bool,.ms 60151,.ms 60152,.ms 60153,.ms 60154]),(3,.cells [.ms 1000704,.v (.int .u32),.ms 1000705,.v .bool,.v (.int .u32),.v (.int .u32),.v (.int .u32),.v (.int .u32),.v .bool,.v .bool,.v (.int .u32),.v (.int .i64),.v (.int .i64),.v (.int .i64),.v .bool,.v (.int .i64),.v (.int .i64),.v (.int .i64),.ms 60210,.v (.int .i64),.ms 41,.v (.int .i64),.v .bool,.ms 1003200,.ms 52,.ms 80,.v Ty131]),(60128,.row (.int .u32)),(60130,.row (.sl (.int .u8))),(60146,.row Ty80),(60148,.row (.int .i64)),(60151,.row (.sl (.int .u8))),(60152,.row Ty100),(60153,.row Ty33),(60154,.row Ty121),(1000704,.row (.int .u32)),(1000705,.row (.sl (.int .u8))),(60210,.row Ty80),(41,.row (.int .i64)),(1003200,.row (.sl (.int .u8))),(52,.row Ty100),(80,.row Ty33)] }
abbrev e98r_L4:List (XT×Shape):=[(.exit 4,{ slots:=[(1,.bx 1 0),(2,.bx 2 0),(3,.bx 3 0)],boxes:=[(1,.typ Ty380),(2,.cells [.ms 60128,.v (.int .u32),.ms 60130,.v .bool,.v (.int .u32),.v (.int .u32),.v (.int .u32),.v (.int .u32),.v .bool,.v .bool,.v (.int .u32),.v (.int .i64),.v (.int .i64),.v (.int .i64),.v .bool,.v (.int .i64),.v (.int .i64),.v (.int .i64),.ms 60146,.v (.int .i64),.ms 60148,.v (.int .i64),.v .bool,.ms 60151,.ms 60152,.ms 60153,.ms 60154]),(3,.cells [.ms 1000704,.v (.int .u32),.ms 1000705,.v .bool,.v (.int .u32),.v (.int .u32),.v (.int .u32),.v (.int .u32),.v .bool,.v .bool,.v (.int .u32),.v (.int .i64),.v (.int .i64),.v (.int .i64),.v .bool,.v (.int .i64),.v (.int .i64),.v (.int .i64),.ms 60210,.v (.int .i64),.ms 41,.v (.int .i64),.v .bool,.ms 1003200,.ms 52,.ms 80,.v Ty131]),(60128,.row (.int .u32)),(60130,.row (.sl (.int .u8))),(60146,.row Ty80),(60148,.row (.int .i64)),(60151,.row (.sl (.int .u8))),(60152,.row Ty100),(60153,.row Ty33),(60154,.row Ty121),(1000704,.row (.int .u32)),(1000705,.row (.sl (.int .u8))),(60210,.row Ty80),(41,.row (.int .i64)),(1003200,.row (.sl (.int .u8))),(52,.row Ty100),(80,.row Ty33)] })]
noncomputable def q98r_L4 (t6:Int) (b1:Ta357) (b2_1:Int) (b2_3:Bool) (b2_4:Int) (b2_5:Int) (b2_6:Int) (b2_7:Int) (b2_8:Bool) (b2_9:Bool) (b2_10:Int) (b2_11:Int) (b2_12:Int) (b2_13:Int) (b2_14:Bool) (b2_15:Int) (b2_16:Int) (b2_17:Int) (b2_19:Int) (b2_21:Int) (b2_22:Bool) (b3_1:Int) (b3_3:Bool) (b3_4:Int) (b3_5:Int) (b3_6:Int) (b3_7:Int) (b3_8:Bool) (b3_9:Bool) (b3_10:Int) (b3_11:Int) (b3_12:Int) (b3_13:Int) (b3_14:Bool) (b3_15:Int) (b3_16:Int) (b3_17:Int) (b3_19:Int) (b3_21:Int) (b3_22:Bool) (b3_26:Ta20) (r60128:(L Int)) (r60130:(L (L Int))) (r60146:Ta7) (r60148:(L Int)) (r60151:(L (L Int))) (r60152:Ta1) (r60153:(L ((L Int)×Unit))) (r60154:Ta20) (r1000704:(L Int)) (r1000705:(L (L Int))) (r60210:Ta7) (r41:(L Int)) (r1003200:(L (L Int))) (r52:Ta1) (r80:(L ((L Int)×Unit))):Option ((Ta38×Ta382)⊕((Ta12×Ta382)⊕Empty)) :=
bif (decide (t6 < (b1.2.2.2.2.2.2.2.2.2.1.len:Int))) then bif (decide (0≤t6)&&decide (t6 < (b1.2.2.2.2.2.2.2.2.2.1.len:Int))) then (g178r (L.get b1.2.2.2.2.2.2.2.2.2.1 t6.toNat).1).bind fun y6=>bif (decide (r80.len + (L.of (Ty.zero Ty33) [y6.1]).len≤most)) then some (.inl (((),((),((),((wI (t6 + (1:Int))),())))),(b1,(((),(b2_1,((),(b2_3,(b2_4,(b2_5,(b2_6,(b2_7,(b2_8,(b2_9,(b2_10,(b2_11,(b2_12,(b2_13,(b2_14,(b2_15,(b2_16,(b2_17,((),(b2_19,((),(b2_21,(b2_22,((),((),((),((),()))))))))))))))))))))))))))),(((),(b3_1,((),(b3_3,(b3_4,(b3_5,(b3_6,(b3_7,(b3_8,(b3_9,(b3_10,(b3_11,(b3_12,(b3_13,(b3_14,(b3_15,(b3_16,(b3_17,((),(b3_19,((),(b3_21,(b3_22,((),((),((),(b3_26,()))))))))))))))))))))))))))),(r60128,(r60130,(r60146,(r60148,(r60151,(r60152,(r60153,(r60154,(r1000704,(r1000705,(r60210,(r41,(r1003200,(r52,((L.app r80 (L.of (Ty.zero Ty33) [y6.1])),())))))))))))))))))))) else none else none else some (.inr (.inl (((),((),((),()))),(b1,(((),(b2_1,((),(b2_3,(b2_4,(b2_5,(b2_6,(b2_7,(b2_8,(b2_9,(b2_10,(b2_11,(b2_12,(b2_13,(b2_14,(b2_15,(b2_16,(b2_17,((),(b2_19,((),(b2_21,(b2_22,((),((),((),((),()))))))))))))))))))))))))))),(((),(b3_1,((),(b3_3,(b3_4,(b3_5,(b3_6,(b3_7,(b3_8,(b3_9,(b3_10,(b3_11,(b3_12,(b3_13,(b3_14,(b3_15,(b3_16,(b3_17,((),(b3_19,((),(b3_21,(b3_22,((),((),((),(b3_26,()))))))))))))))))))))))))))),(r60128,(r60130,(r60146,(r60148,(r60151,(r60152,(r60153,(r60154,(r1000704,(r1000705,(r60210,(r41,(r1003200,(r52,(r80,())))))))))))))))))))))
noncomputable def s98r_L4 (x:(Ta38×Ta382)):=q98r_L4 x.1.2.2.2.1 x.2.1 x.2.2.1.2.1 x.2.2.1.2.2.2.1 x.2.2.1.2.2.2.2.1 x.2.2.1.2.2.2.2.2.1 x.2.2.1.2.2.2.2.2.2.1 x.2.2.1.2.2.2.2.2.2.2.1 x.2.2.1.2.2.2.2.2.2.2.2.1 x.2.2.1.2.2.2.2.2.2.2.2.2.1 x.2.2.1.2.2.2.2.2.2.2.2.2.2.1 x.2.2.1.2.2.2.2.2.2.2.2.2.2.2.1 x.2.2.1.2.2.2.2.2.2.2.2.2.2.2.2.1 x.2.2.1.2.2.2.2.2.2.2.2.2.2.2.2.2.1 x.2.2.1.2.2.2.2.2.2.2.2.2.2.2.2.2.2.1 x.2.2.1.2.2.2.2.2.2.2.2.2.2.2.2.2.2.2.1 x.2.2.1.2.2.2.2.2.2.2.2.2.2.2.2.2.2.2.2.1 x.2.2.1.2.2.2.2.2.2.2.2.2.2.2.2.2.2.2.2.2.1 x.2.2.1.2.2.2.2.2.2.2.2.2.2.2.2.2.2.2.2.2.2.2.1 x.2.2.1.2.2.2.2.2.2.2.2.2.2.2.2.2.2.2.2.2.2.2.2.2.1 x.2.2.1.2.2.2.2.2.2.2.2.2.2.2.2.2.2.2.2.2.2.2.2.2.2.1 x.2.2.2.1.2.1 x.2.2.2.1.2.2.2.1 x.2.2.2.1.2.2.2.2.1 x.2.2.2.1.2.2.2.2.2.1 x.2.2.2.1.2.2.2.2.2.2.1 x.2.2.2.1.2.2.2.2.2.2.2.1 x.2.2.2.1.2.2.2.2.2.2.2.2.1 x.2.2.2.1.2.2.2.2.2.2.2.2.2.1 x.2.2.2.1.2.2.2.2.2.2.2.2.2.2.1 x.2.2.2.1.2.2.2.2.2.2.2.2.2.2.2.1 x.2.2.2.1.2.2.2.2.2.2.2.2.2.2.2.2.1 x.2.2.2.1.2.2.2.2.2.2.2.2.2.2.2.2.2.1 x.2.2.2.1.2.2.2.2.2.2.2.2.2.2.2.2.2.2.1 x.2.2.2.1.2.2.2.2.2.2.2.2.2.2.2.2.2.2.2.1 x.2.2.2.1.2.2.2.2.2.2.2.2.2.2.2.2.2.2.2.2.1 x.2.2.2.1.2.2.2.2.2.2.2.2.2.2.2.2.2.2.2.2.2.1 x.2.2.2.1.2.2.2.2.2.2.2.2.2.2.2.2.2.2.2.2.2.2.2.1 x.2.2.2.1.2.2.2.2.2.2.2.2.2.2.2.2.2.2.2.2.2.2.2.2.2.1 x.2.2.2.1.2.2.2.2.2.2.2.2.2.2.2.2.2.2.2.2.2.2.2.2.2.2.1 x.2.2.2.1.2.2.2.2.2.2.2.2.2.2.2.2.2.2.2.2.2.2.2.2.2.2.2.2.2.2.1 x.2.2.2.2.1 x.2.2.2.2.2.1 x.2.2.2.2.2.2.1 x.2.2.2.2.2.2.2.1 x.2.2.2.2.2.2.2.2.1 x.2.2.2.2.2.2.2.2.2.1 x.2.2.2.2.2.2.2.2.2.2.1 x.2.2.2.2.2.2.2.2.2.2.2.1 x.2.2.2.2.2.2.2.2.2.2.2.2.1 x.2.2.2.2.2.2.2.2.2.2.2.2.2.1 x.2.2.2.2.2.2.2.2.2.2.2.2.2.2.1 x.2.2.2.2.2.2.2.2.2.2.2.2.2.2.2.1 x.2.2.2.2.2.2.2.2.2.2.2.2.2.2.2.2.1 x.2.2.2.2.2.2.2.2.2.2.2.2.2.2.2.2.2.1 x.2.2.2.2.2.2.2.2.2.2.2.2.2.2.2.2.2.2.1
abbrev h98r_L6:Shape:={ slots:=[(1,.bx 1 0),(2,.bx 2 0),(3,.bx 3 0),(7,.v (.int .i64))],boxes:=[(1,.typ Ty380),(2,.cells [.ms 60128,.v (.int .u32),.ms 60130,.v .bool,.v (.int .u32),.v (.int .u32),.v (.int .u32),.v (.int .u32),.v .bool,.v .bool,.v (.int .u32),.v (.int .i64),.v (.int .i64),.v (.int .i64),.v .bool,.v (.int .i64),.v (.int .i64),.v (.int .i64),.ms 60146,.v (.int .i64),.ms 60148,.v (.int .i64),.v .bool,.ms 60151,.ms 60152,.ms 60153,.ms 60154]),(3,.cells [.ms 1000704,.v (.int .u32),.ms 1000705,.v .bool,.v (.int .u32),.v (.int .u32),.v (.int .u32),.v (.int .u32),.v .bool,.v .bool,.v (.int .u32),.v (.int .i64),.v (.int .i64),.v (.int .i64),.v .bool,.v (.int .i64),.v (.int .i64),.v (.int .i64),.ms 60210,.v (.int .i64),.ms 41,.v (.int .i64),.v .bool,.ms 1003200,.ms 52,.ms 80,.ms 102]),(60128,.row (.int .u32)),(60130,.row (.sl (.int .u8))),(60146,.row Ty80),(60148,.row (.int .i64)),(60151,.row (.sl (.int .u8))),(60152,.row Ty100),(60153,.row Ty33),(60154,.row Ty121),(1000704,.row (.int .u32)),(1000705,.row (.sl (.int .u8))),(60210,.row Ty80),(41,.row (.int .i64)),(1003200,.row (.sl (.int .u8))),(52,.row Ty100),(80,.row Ty33),(102,.row Ty121)] }
abbrev e98r_L6:List (XT×Shape):=[(.exit 6,{ slots:=[(2,.bx 2 0),(3,.bx 3 0)],boxes:=[(2,.cells [.ms 60128,.v (.int .u32),.ms 60130,.v .bool,.v (.int .u32),.v (.int .u32),.v (.int .u32),.v (.int .u32),.v .bool,.v .bool,.v (.int .u32),.v (.int .i64),.v (.int .i64),.v (.int .i64),.v .bool,.v (.int .i64),.v (.int .i64),.v (.int .i64),.ms 60146,.v (.int .i64),.ms 60148,.v (.int .i64),.v .bool,.ms 60151,.ms 60152,.ms 60153,.ms 60154]),(3,.cells [.ms 1000704,.v (.int .u32),.ms 1000705,.v .bool,.v (.int .u32),.v (.int .u32),.v (.int .u32),.v (.int .u32),.v .bool,.v .bool,.v (.int .u32),.v (.int .i64),.v (.int .i64),.v (.int .i64),.v .bool,.v (.int .i64),.v (.int .i64),.v (.int .i64),.ms 60210,.v (.int .i64),.ms 41,.v (.int .i64),.v .bool,.ms 1003200,.ms 52,.ms 80,.ms 102]),(60128,.row (.int .u32)),(60130,.row (.sl (.int .u8))),(60146,.row Ty80),(60148,.row (.int .i64)),(60151,.row (.sl (.int .u8))),(60152,.row Ty100),(60153,.row Ty33),(60154,.row Ty121),(1000704,.row (.int .u32)),(1000705,.row (.sl (.int .u8))),(60210,.row Ty80),(41,.row (.int .i64)),(1003200,.row (.sl (.int .u8))),(52,.row Ty100),(80,.row Ty33),(102,.row Ty121)] })]
noncomputable def q98r_L6 (t7:Int) (b1:Ta357) (b2_1:Int) (b2_3:Bool) (b2_4:Int) (b2_5:Int) (b2_6:Int) (b2_7:Int) (b2_8:Bool) (b2_9:Bool) (b2_10:Int) (b2_11:Int) (b2_12:Int) (b2_13:Int) (b2_14:Bool) (b2_15:Int) (b2_16:Int) (b2_17:Int) (b2_19:Int) (b2_21:Int) (b2_22:Bool) (b3_1:Int) (b3_3:Bool) (b3_4:Int) (b3_5:Int) (b3_6:Int) (b3_7:Int) (b3_8:Bool) (b3_9:Bool) (b3_10:Int) (b3_11:Int) (b3_12:Int) (b3_13:Int) (b3_14:Bool) (b3_15:Int) (b3_16:Int) (b3_17:Int) (b3_19:Int) (b3_21:Int) (b3_22:Bool) (r60128:(L Int)) (r60130:(L (L Int))) (r60146:Ta7) (r60148:(L Int)) (r60151:(L (L Int))) (r60152:Ta1) (r60153:(L ((L Int)×Unit))) (r60154:Ta20) (r1000704:(L Int)) (r1000705:(L (L Int))) (r60210:Ta7) (r41:(L Int)) (r1003200:(L (L Int))) (r52:Ta1) (r80:(L ((L Int)×Unit))) (r102:Ta20):Option ((Ta38×(Ta357×Ta376))⊕(((Unit×(Unit×Unit))×Ta376)⊕Empty)) :=
bif (decide (t7 < (b1.2.2.2.2.2.2.2.2.2.2.1.len:Int))) then bif (decide (0≤t7)&&decide (t7 < (b1.2.2.2.2.2.2.2.2.2.2.1.len:Int))) then (g179r (L.get b1.2.2.2.2.2.2.2.2.2.2.1 t7.toNat)).bind fun y8=>bif (decide (r102.len + (L.of (Ty.zero Ty121) [y8.1.1]).len≤most)) then some (.inl (((),((),((),((wI (t7 + (1:Int))),())))),(b1,(((),(b2_1,((),(b2_3,(b2_4,(b2_5,(b2_6,(b2_7,(b2_8,(b2_9,(b2_10,(b2_11,(b2_12,(b2_13,(b2_14,(b2_15,(b2_16,(b2_17,((),(b2_19,((),(b2_21,(b2_22,((),((),((),((),()))))))))))))))))))))))))))),(((),(b3_1,((),(b3_3,(b3_4,(b3_5,(b3_6,(b3_7,(b3_8,(b3_9,(b3_10,(b3_11,(b3_12,(b3_13,(b3_14,(b3_15,(b3_16,(b3_17,((),(b3_19,((),(b3_21,(b3_22,((),((),((),((),()))))))))))))))))))))))))))),(r60128,(r60130,(r60146,(r60148,(r60151,(r60152,(r60153,(r60154,(r1000704,(r1000705,(r60210,(r41,(r1003200,(r52,(r80,((L.app r102 (L.of (Ty.zero Ty121) [y8.1.1])),()))))))))))))))))))))) else none else none else some (.inr (.inl (((),((),())),(((),(b2_1,((),(b2_3,(b2_4,(b2_5,(b2_6,(b2_7,(b2_8,(b2_9,(b2_10,(b2_11,(b2_12,(b2_13,(b2_14,(b2_15,(b2_16,(b2_17,((),(b2_19,((),(b2_21,(b2_22,((),((),((),((),()))))))))))))))))))))))))))),(((),(b3_1,((),(b3_3,(b3_4,(b3_5,(b3_6,(b3_7,(b3_8,(b3_9,(b3_10,(b3_11,(b3_12,(b3_13,(b3_14,(b3_15,(b3_16,(b3_17,((),(b3_19,((),(b3_21,(b3_22,((),((),((),((),()))))))))))))))))))))))))))),(r60128,(r60130,(r60146,(r60148,(r60151,(r60152,(r60153,(r60154,(r1000704,(r1000705,(r60210,(r41,(r1003200,(r52,(r80,(r102,())))))))))))))))))))))
noncomputable def s98r_L6 (x:(Ta38×(Ta357×Ta376))):=q98r_L6 x.1.2.2.2.1 x.2.1 x.2.2.1.2.1 x.2.2.1.2.2.2.1 x.2.2.1.2.2.2.2.1 x.2.2.1.2.2.2.2.2.1 x.2.2.1.2.2.2.2.2.2.1 x.2.2.1.2.2.2.2.2.2.2.1 x.2.2.1.2.2.2.2.2.2.2.2.1 x.2.2.1.2.2.2.2.2.2.2.2.2.1 x.2.2.1.2.2.2.2.2.2.2.2.2.2.1 x.2.2.1.2.2.2.2.2.2.2.2.2.2.2.1 x.2.2.1.2.2.2.2.2.2.2.2.2.2.2.2.1 x.2.2.1.2.2.2.2.2.2.2.2.2.2.2.2.2.1 x.2.2.1.2.2.2.2.2.2.2.2.2.2.2.2.2.2.1 x.2.2.1.2.2.2.2.2.2.2.2.2.2.2.2.2.2.2.1 x.2.2.1.2.2.2.2.2.2.2.2.2.2.2.2.2.2.2.2.1 x.2.2.1.2.2.2.2.2.2.2.2.2.2.2.2.2.2.2.2.2.1 x.2.2.1.2.2.2.2.2.2.2.2.2.2.2.2.2.2.2.2.2.2.2.1 x.2.2.1.2.2.2.2.2.2.2.2.2.2.2.2.2.2.2.2.2.2.2.2.2.1 x.2.2.1.2.2.2.2.2.2.2.2.2.2.2.2.2.2.2.2.2.2.2.2.2.2.1 x.2.2.2.1.2.1 x.2.2.2.1.2.2.2.1 x.2.2.2.1.2.2.2.2.1 x.2.2.2.1.2.2.2.2.2.1 x.2.2.2.1.2.2.2.2.2.2.1 x.2.2.2.1.2.2.2.2.2.2.2.1 x.2.2.2.1.2.2.2.2.2.2.2.2.1 x.2.2.2.1.2.2.2.2.2.2.2.2.2.1 x.2.2.2.1.2.2.2.2.2.2.2.2.2.2.1 x.2.2.2.1.2.2.2.2.2.2.2.2.2.2.2.1 x.2.2.2.1.2.2.2.2.2.2.2.2.2.2.2.2.1 x.2.2.2.1.2.2.2.2.2.2.2.2.2.2.2.2.2.1 x.2.2.2.1.2.2.2.2.2.2.2.2.2.2.2.2.2.2.1 x.2.2.2.1.2.2.2.2.2.2.2.2.2.2.2.2.2.2.2.1 x.2.2.2.1.2.2.2.2.2.2.2.2.2.2.2.2.2.2.2.2.1 x.2.2.2.1.2.2.2.2.2.2.2.2.2.2.2.2.2.2.2.2.2.1 x.2.2.2.1.2.2.2.2.2.2.2.2.2.2.2.2.2.2.2.2.2.2.2.1 x.2.2.2.1.2.2.2.2.2.2.2.2.2.2.2.2.2.2.2.2.2.2.2.2.2.1 x.2.2.2.1.2.2.2.2.2.2.2.2.2.2.2.2.2.2.2.2.2.2.2.2.2.2.1 x.2.2.2.2.1 x.2.2.2.2.2.1 x.2.2.2.2.2.2.1 x.2.2.2.2.2.2.2.1 x.2.2.2.2.2.2.2.2.1 x.2.2.2.2.2.2.2.2.2.1 x.2.2.2.2.2.2.2.2.2.2.1 x.2.2.2.2.2.2.2.2.2.2.2.1 x.2.2.2.2.2.2.2.2.2.2.2.2.1 x.2.2.2.2.2.2.2.2.2.2.2.2.2.1 x.2.2.2.2.2.2.2.2.2.2.2.2.2.2.1 x.2.2.2.2.2.2.2.2.2.2.2.2.2.2.2.1 x.2.2.2.2.2.2.2.2.2.2.2.2.2.2.2.2.1 x.2.2.2.2.2.2.2.2.2.2.2.2.2.2.2.2.2.1 x.2.2.2.2.2.2.2.2.2.2.2.2.2.2.2.2.2.2.1 x.2.2.2.2.2.2.2.2.2.2.2.2.2.2.2.2.2.2.2.1
noncomputable def a98r:Nat→Option LoopAnn:=fun c=>bif Nat.beq c 0 then some (.fix h98r_L0 e98r_L0 s98r_L0) else bif Nat.beq c 2 then some (.fix h98r_L2 e98r_L2 s98r_L2) else bif Nat.beq c 4 then some (.fix h98r_L4 e98r_L4 s98r_L4) else bif Nat.beq c 6 then some (.fix h98r_L6 e98r_L6 s98r_L6) else none
noncomputable def g98r (x0:Ta357):Option Ta359 :=
(g177r x0.1).bind fun y1=>(fixO s98r_L0 (((),((),((),((0:Int),())))),(x0,(((nilL (.int .u32)),((0:Int),((nilL (.sl (.int .u8))),(false,((0:Int),((0:Int),((0:Int),((0:Int),(false,(false,((0:Int),((0:Int),((0:Int),((0:Int),(false,((0:Int),((0:Int),((0:Int),((nilL Ty80),((0:Int),((nilL (.int .i64)),((0:Int),(false,((nilL (.sl (.int .u8))),((nilL Ty100),((nilL Ty33),((nilL Ty121),()))))))))))))))))))))))))))),(((),(y1.1.1.2.1,((),(x0.2.1.1,(x0.2.1.2.1,(x0.2.1.2.2.1,(x0.2.1.2.2.2.1,(x0.2.1.2.2.2.2.1,(x0.2.1.2.2.2.2.2.1,(x0.2.1.2.2.2.2.2.2.1,(x0.2.1.2.2.2.2.2.2.2.1,(x0.2.2.1.1,(x0.2.2.1.2.1,(x0.2.2.1.2.2.1,(x0.2.2.1.2.2.2.1,(x0.2.2.2.1.1.1,(x0.2.2.2.1.1.2.1,(x0.2.2.2.1.1.2.2.1,((nilL Ty80),(x0.2.2.2.2.1.1,(x0.2.2.2.2.1.2.1,x0.2.2.2.2.2))))))))))))))))))))),(y1.1.1.1,y1.1.1.2.2)))))).bind fun d13=>match d13 with | .inl y2=>bif (decide ((L.of (Ty.zero (.int .i64)) []).len + y2.2.1.2.2.2.2.1.2.1.len≤most)) then (g130r y2.2.1.2.2.2.2.2.2.2.1).bind fun y3=>((fixO s98r_L2 (((),((),((),((0:Int),())))),(y2.2.1,(((),(y2.2.2.1.2.1,((),(y2.2.2.1.2.2.2.1,(y2.2.2.1.2.2.2.2.1,(y2.2.2.1.2.2.2.2.2.1,(y2.2.2.1.2.2.2.2.2.2.1,(y2.2.2.1.2.2.2.2.2.2.2.1,(y2.2.2.1.2.2.2.2.2.2.2.2.1,(y2.2.2.1.2.2.2.2.2.2.2.2.2.1,(y2.2.2.1.2.2.2.2.2.2.2.2.2.2.1,(y2.2.2.1.2.2.2.2.2.2.2.2.2.2.2.1,(y2.2.2.1.2.2.2.2.2.2.2.2.2.2.2.2.1,(y2.2.2.1.2.2.2.2.2.2.2.2.2.2.2.2.2.1,(y2.2.2.1.2.2.2.2.2.2.2.2.2.2.2.2.2.2.1,(y2.2.2.1.2.2.2.2.2.2.2.2.2.2.2.2.2.2.2.1,(y2.2.2.1.2.2.2.2.2.2.2.2.2.2.2.2.2.2.2.2.1,(y2.2.2.1.2.2.2.2.2.2.2.2.2.2.2.2.2.2.2.2.2.1,((),(y2.2.2.1.2.2.2.2.2.2.2.2.2.2.2.2.2.2.2.2.2.2.2.1,((),(y2.2.2.1.2.2.2.2.2.2.2.2.2.2.2.2.2.2.2.2.2.2.2.2.2.1,(y2.2.2.1.2.2.2.2.2.2.2.2.2.2.2.2.2.2.2.2.2.2.2.2.2.2.1,((),((),((),((),()))))))))))))))))))))))))))),(((),(y2.2.2.2.1.2.1,((),(y2.2.2.2.1.2.2.2.1,(y2.2.2.2.1.2.2.2.2.1,(y2.2.2.2.1.2.2.2.2.2.1,(y2.2.2.2.1.2.2.2.2.2.2.1,(y2.2.2.2.1.2.2.2.2.2.2.2.1,(y2.2.2.2.1.2.2.2.2.2.2.2.2.1,(y2.2.2.2.1.2.2.2.2.2.2.2.2.2.1,(y2.2.2.2.1.2.2.2.2.2.2.2.2.2.2.1,(y2.2.2.2.1.2.2.2.2.2.2.2.2.2.2.2.1,(y2.2.2.2.1.2.2.2.2.2.2.2.2.2.2.2.2.1,(y2.2.2.2.1.2.2.2.2.2.2.2.2.2.2.2.2.2.1,(y2.2.2.2.1.2.2.2.2.2.2.2.2.2.2.2.2.2.2.1,(y2.2.2.2.1.2.2.2.2.2.2.2.2.2.2.2.2.2.2.2.1,(y2.2.2.2.1.2.2.2.2.2.2.2.2.2.2.2.2.2.2.2.2.1,(y2.2.2.2.1.2.2.2.2.2.2.2.2.2.2.2.2.2.2.2.2.2.1,((),(y2.2.2.2.1.2.2.2.2.2.2.2.2.2.2.2.2.2.2.2.2.2.2.2.1,((),(y2.2.2.2.1.2.2.2.2.2.2.2.2.2.2.2.2.2.2.2.2.2.2.2.2.2.1,(y2.2.2.2.1.2.2.2.2.2.2.2.2.2.2.2.2.2.2.2.2.2.2.2.2.2.2.1,((),((),y2.2.2.2.1.2.2.2.2.2.2.2.2.2.2.2.2.2.2.2.2.2.2.2.2.2.2.2.2.2))))))))))))))))))))))))),(y2.2.2.2.2.1,(y2.2.2.2.2.2.1,(y2.2.2.2.2.2.2.1,(y2.2.2.2.2.2.2.2.1,(y2.2.2.2.2.2.2.2.2.1,(y2.2.2.2.2.2.2.2.2.2.1,(y2.2.2.2.2.2.2.2.2.2.2.1,(y2.2.2.2.2.2.2.2.2.2.2.2.1,(y2.2.2.2.2.2.2.2.2.2.2.2.2.1,(y2.2.2.2.2.2.2.2.2.2.2.2.2.2.1,(y2.2.2.2.2.2.2.2.2.2.2.2.2.2.2.1,((L.app (L.of (Ty.zero (.int .i64)) []) y2.2.1.2.2.2.2.1.2.1),(y3.1.1,((L.of (Ty.zero Ty100) []),()))))))))))))))))))).bind fun d12=>match d12 with | .inl y5=>((fixO s98r_L4 (((),((),((),((0:Int),())))),(y5.2.1,(((),(y5.2.2.1.2.1,((),(y5.2.2.1.2.2.2.1,(y5.2.2.1.2.2.2.2.1,(y5.2.2.1.2.2.2.2.2.1,(y5.2.2.1.2.2.2.2.2.2.1,(y5.2.2.1.2.2.2.2.2.2.2.1,(y5.2.2.1.2.2.2.2.2.2.2.2.1,(y5.2.2.1.2.2.2.2.2.2.2.2.2.1,(y5.2.2.1.2.2.2.2.2.2.2.2.2.2.1,(y5.2.2.1.2.2.2.2.2.2.2.2.2.2.2.1,(y5.2.2.1.2.2.2.2.2.2.2.2.2.2.2.2.1,(y5.2.2.1.2.2.2.2.2.2.2.2.2.2.2.2.2.1,(y5.2.2.1.2.2.2.2.2.2.2.2.2.2.2.2.2.2.1,(y5.2.2.1.2.2.2.2.2.2.2.2.2.2.2.2.2.2.2.1,(y5.2.2.1.2.2.2.2.2.2.2.2.2.2.2.2.2.2.2.2.1,(y5.2.2.1.2.2.2.2.2.2.2.2.2.2.2.2.2.2.2.2.2.1,((),(y5.2.2.1.2.2.2.2.2.2.2.2.2.2.2.2.2.2.2.2.2.2.2.1,((),(y5.2.2.1.2.2.2.2.2.2.2.2.2.2.2.2.2.2.2.2.2.2.2.2.2.1,(y5.2.2.1.2.2.2.2.2.2.2.2.2.2.2.2.2.2.2.2.2.2.2.2.2.2.1,((),((),((),((),()))))))))))))))))))))))))))),(((),(y5.2.2.2.1.2.1,((),(y5.2.2.2.1.2.2.2.1,(y5.2.2.2.1.2.2.2.2.1,(y5.2.2.2.1.2.2.2.2.2.1,(y5.2.2.2.1.2.2.2.2.2.2.1,(y5.2.2.2.1.2.2.2.2.2.2.2.1,(y5.2.2.2.1.2.2.2.2.2.2.2.2.1,(y5.2.2.2.1.2.2.2.2.2.2.2.2.2.1,(y5.2.2.2.1.2.2.2.2.2.2.2.2.2.2.1,(y5.2.2.2.1.2.2.2.2.2.2.2.2.2.2.2.1,(y5.2.2.2.1.2.2.2.2.2.2.2.2.2.2.2.2.1,(y5.2.2.2.1.2.2.2.2.2.2.2.2.2.2.2.2.2.1,(y5.2.2.2.1.2.2.2.2.2.2.2.2.2.2.2.2.2.2.1,(y5.2.2.2.1.2.2.2.2.2.2.2.2.2.2.2.2.2.2.2.1,(y5.2.2.2.1.2.2.2.2.2.2.2.2.2.2.2.2.2.2.2.2.1,(y5.2.2.2.1.2.2.2.2.2.2.2.2.2.2.2.2.2.2.2.2.2.1,((),(y5.2.2.2.1.2.2.2.2.2.2.2.2.2.2.2.2.2.2.2.2.2.2.2.1,((),(y5.2.2.2.1.2.2.2.2.2.2.2.2.2.2.2.2.2.2.2.2.2.2.2.2.2.1,(y5.2.2.2.1.2.2.2.2.2.2.2.2.2.2.2.2.2.2.2.2.2.2.2.2.2.2.1,((),((),((),y5.2.2.2.1.2.2.2.2.2.2.2.2.2.2.2.2.2.2.2.2.2.2.2.2.2.2.2.2.2.2)))))))))))))))))))))))))),(y5.2.2.2.2.1,(y5.2.2.2.2.2.1,(y5.2.2.2.2.2.2.1,(y5.2.2.2.2.2.2.2.1,(y5.2.2.2.2.2.2.2.2.1,(y5.2.2.2.2.2.2.2.2.2.1,(y5.2.2.2.2.2.2.2.2.2.2.1,(y5.2.2.2.2.2.2.2.2.2.2.2.1,(y5.2.2.2.2.2.2.2.2.2.2.2.2.1,(y5.2.2.2.2.2.2.2.2.2.2.2.2.2.1,(y5.2.2.2.2.2.2.2.2.2.2.2.2.2.2.1,(y5.2.2.2.2.2.2.2.2.2.2.2.2.2.2.2.1,(y5.2.2.2.2.2.2.2.2.2.2.2.2.2.2.2.2.1,(y5.2.2.2.2.2.2.2.2.2.2.2.2.2.2.2.2.2.1,((L.of (Ty.zero Ty33) []),())))))))))))))))))))).bind fun d11=>match d11 with | .inl y7=>((fixO s98r_L6 (((),((),((),((0:Int),())))),(y7.2.1,(((),(y7.2.2.1.2.1,((),(y7.2.2.1.2.2.2.1,(y7.2.2.1.2.2.2.2.1,(y7.2.2.1.2.2.2.2.2.1,(y7.2.2.1.2.2.2.2.2.2.1,(y7.2.2.1.2.2.2.2.2.2.2.1,(y7.2.2.1.2.2.2.2.2.2.2.2.1,(y7.2.2.1.2.2.2.2.2.2.2.2.2.1,(y7.2.2.1.2.2.2.2.2.2.2.2.2.2.1,(y7.2.2.1.2.2.2.2.2.2.2.2.2.2.2.1,(y7.2.2.1.2.2.2.2.2.2.2.2.2.2.2.2.1,(y7.2.2.1.2.2.2.2.2.2.2.2.2.2.2.2.2.1,(y7.2.2.1.2.2.2.2.2.2.2.2.2.2.2.2.2.2.1,(y7.2.2.1.2.2.2.2.2.2.2.2.2.2.2.2.2.2.2.1,(y7.2.2.1.2.2.2.2.2.2.2.2.2.2.2.2.2.2.2.2.1,(y7.2.2.1.2.2.2.2.2.2.2.2.2.2.2.2.2.2.2.2.2.1,((),(y7.2.2.1.2.2.2.2.2.2.2.2.2.2.2.2.2.2.2.2.2.2.2.1,((),(y7.2.2.1.2.2.2.2.2.2.2.2.2.2.2.2.2.2.2.2.2.2.2.2.2.1,(y7.2.2.1.2.2.2.2.2.2.2.2.2.2.2.2.2.2.2.2.2.2.2.2.2.2.1,((),((),((),((),()))))))))))))))))))))))))))),(((),(y7.2.2.2.1.2.1,((),(y7.2.2.2.1.2.2.2.1,(y7.2.2.2.1.2.2.2.2.1,(y7.2.2.2.1.2.2.2.2.2.1,(y7.2.2.2.1.2.2.2.2.2.2.1,(y7.2.2.2.1.2.2.2.2.2.2.2.1,(y7.2.2.2.1.2.2.2.2.2.2.2.2.1,(y7.2.2.2.1.2.2.2.2.2.2.2.2.2.1,(y7.2.2.2.1.2.2.2.2.2.2.2.2.2.2.1,(y7.2.2.2.1.2.2.2.2.2.2.2.2.2.2.2.1,(y7.2.2.2.1.2.2.2.2.2.2.2.2.2.2.2.2.1,(y7.2.2.2.1.2.2.2.2.2.2.2.2.2.2.2.2.2.1,(y7.2.2.2.1.2.2.2.2.2.2.2.2.2.2.2.2.2.2.1,(y7.2.2.2.1.2.2.2.2.2.2.2.2.2.2.2.2.2.2.2.1,(y7.2.2.2.1.2.2.2.2.2.2.2.2.2.2.2.2.2.2.2.2.1,(y7.2.2.2.1.2.2.2.2.2.2.2.2.2.2.2.2.2.2.2.2.2.1,((),(y7.2.2.2.1.2.2.2.2.2.2.2.2.2.2.2.2.2.2.2.2.2.2.2.1,((),(y7.2.2.2.1.2.2.2.2.2.2.2.2.2.2.2.2.2.2.2.2.2.2.2.2.2.1,(y7.2.2.2.1.2.2.2.2.2.2.2.2.2.2.2.2.2.2.2.2.2.2.2.2.2.2.1,((),((),((),((),()))))))))))))))))))))))))))),(y7.2.2.2.2.1,(y7.2.2.2.2.2.1,(y7.2.2.2.2.2.2.1,(y7.2.2.2.2.2.2.2.1,(y7.2.2.2.2.2.2.2.2.1,(y7.2.2.2.2.2.2.2.2.2.1,(y7.2.2.2.2.2.2.2.2.2.2.1,(y7.2.2.2.2.2.2.2.2.2.2.2.1,(y7.2.2.2.2.2.2.2.2.2.2.2.2.1,(y7.2.2.2.2.2.2.2.2.2.2.2.2.2.1,(y7.2.2.2.2.2.2.2.2.2.2.2.2.2.2.1,(y7.2.2.2.2.2.2.2.2.2.2.2.2.2.2.2.1,(y7.2.2.2.2.2.2.2.2.2.2.2.2.2.2.2.2.1,(y7.2.2.2.2.2.2.2.2.2.2.2.2.2.2.2.2.2.1,(y7.2.2.2.2.2.2.2.2.2.2.2.2.2.2.2.2.2.2.1,((L.of (Ty.zero Ty121) []),()))))))))))))))))))))).bind fun d10=>match d10 with | .inl y9=>some ((((y9.2.2.2.2.2.2.2.2.2.2.2.1,(y9.2.2.1.2.1,(y9.2.2.2.2.2.2.2.2.2.2.2.2.1,()))),((y9.2.2.1.2.2.2.1,(y9.2.2.1.2.2.2.2.1,(y9.2.2.1.2.2.2.2.2.1,(y9.2.2.1.2.2.2.2.2.2.1,(y9.2.2.1.2.2.2.2.2.2.2.1,(y9.2.2.1.2.2.2.2.2.2.2.2.1,(y9.2.2.1.2.2.2.2.2.2.2.2.2.1,(y9.2.2.1.2.2.2.2.2.2.2.2.2.2.1,())))))))),((y9.2.2.1.2.2.2.2.2.2.2.2.2.2.2.1,(y9.2.2.1.2.2.2.2.2.2.2.2.2.2.2.2.1,(y9.2.2.1.2.2.2.2.2.2.2.2.2.2.2.2.2.1,(y9.2.2.1.2.2.2.2.2.2.2.2.2.2.2.2.2.2.1,())))),(((y9.2.2.1.2.2.2.2.2.2.2.2.2.2.2.2.2.2.2.1,(y9.2.2.1.2.2.2.2.2.2.2.2.2.2.2.2.2.2.2.2.1,(y9.2.2.1.2.2.2.2.2.2.2.2.2.2.2.2.2.2.2.2.2.1,()))),(y9.2.2.2.2.2.2.2.2.2.2.2.2.2.1,())),((y9.2.2.1.2.2.2.2.2.2.2.2.2.2.2.2.2.2.2.2.2.2.2.1,(y9.2.2.2.2.2.2.2.2.2.2.2.2.2.2.1,())),(y9.2.2.1.2.2.2.2.2.2.2.2.2.2.2.2.2.2.2.2.2.2.2.2.2.1,(y9.2.2.1.2.2.2.2.2.2.2.2.2.2.2.2.2.2.2.2.2.2.2.2.2.2.1,y9.2.2.2.2.2.2.2.2.2.2.2.2.2.2.2))))))),()),()) | .inr e=>nomatch e) | .inr e=>nomatch e) | .inr e=>nomatch e) else none | .inr e=>nomatch e
noncomputable def c98r:Ctr:={ ins:=[.v Ty380],out:=[Ty380],F:=fun x=>g98r x.1,fr:=1 }
noncomputable def l98r:List (Nat×Code):=loopsIn (Tryz.f98.body.getD .skip) 0
theorem w98r_L0:LW t98r a98r l98r 0 0 h98r_L0 e98r_L0 s98r_L0:=fun x=>by kernel_rfl
theorem w98r_L2:LW t98r a98r l98r 1 2 h98r_L2 e98r_L2 s98r_L2:=fun x=>by kernel_rfl
theorem w98r_L4:LW t98r a98r l98r 2 4 h98r_L4 e98r_L4 s98r_L4:=fun x=>by kernel_rfl
theorem w98r_L6:LW t98r a98r l98r 3 6 h98r_L6 e98r_L6 s98r_L6:=fun x=>by kernel_rfl
theorem o98r:Holds Tryz.prog 98 c98r:=fh t98r a98r Tryz.func98 [(0,lg l98r 0),(2,lg l98r 1),(4,lg l98r 2),(6,lg l98r 3)] ⟨fun x d h=>(w98r_L0 x).trans h,fun x d h=>(w98r_L2 x).trans h,fun x d h=>(w98r_L4 x).trans h,fun x d h=>(w98r_L6 x).trans h,trivial⟩ (tc o177r (tc o130r (tc o178r (tc o179r tn))))
noncomputable def t34r:Tbl:=[(119,[],c119)]
abbrev h34r_L0:Shape:={ slots:=[(1,.bx 1 0),(2,.bx 2 0),(3,.bx 3 0),(4,.v (.int .i64))],boxes:=[(1,.typ Ty135),(2,.cells [.v (.int .i64),.v (.int .i64),.v (.int .i64),.row Ty80 60131]),(3,.cells [.v (.int .i64),.v (.int .i64),.v (.int .i64),.row Ty80 60195])] }
abbrev e34r_L0:List (XT×Shape):=[(.exit 0,{ slots:=[(2,.bx 2 0),(3,.bx 3 0)],boxes:=[(2,.cells [.v (.int .i64),.v (.int .i64),.v (.int .i64),.ms 60131]),(3,.cells [.v (.int .i64),.v (.int .i64),.v (.int .i64),.ms 60195]),(60131,.row Ty80),(60195,.row Ty80)] })]
noncomputable def q34r_L0 (t4:Int) (b1:(Int×(Int×(Int×Unit)))) (b2_0:Int) (b2_1:Int) (b2_2:Int) (b2_3:Ta7) (b3_0:Int) (b3_1:Int) (b3_2:Int) (b3_3:Ta7):Option ((Ta38×((Int×(Int×(Int×Unit)))×Ta201))⊕(((Unit×(Unit×Unit))×(Ta26×(Ta26×(Ta7×Ta40))))⊕Empty)) :=
bif (decide (t4 < b1.1)) then bif (decide (b3_3.len + (L.of (Ty.zero Ty80) [(L.of (Ty.zero Ty61) [])]).len≤most)) then some (.inl (((),((),((),((wI (t4 + (1:Int))),())))),(b1,((b2_0,(b2_1,(b2_2,(b2_3,())))),((b3_0,(b3_1,(b3_2,((L.app b3_3 (L.of (Ty.zero Ty80) [(L.of (Ty.zero Ty61) [])])),())))),()))))) else none else some (.inr (.inl (((),((),())),((b2_0,(b2_1,(b2_2,((),())))),((b3_0,(b3_1,(b3_2,((),())))),(b2_3,(b3_3,())))))))
noncomputable def s34r_L0 (x:(Ta38×((Int×(Int×(Int×Unit)))×Ta201))):=q34r_L0 x.1.2.2.2.1 x.2.1 x.2.2.1.1 x.2.2.1.2.1 x.2.2.1.2.2.1 x.2.2.1.2.2.2.1 x.2.2.2.1.1 x.2.2.2.1.2.1 x.2.2.2.1.2.2.1 x.2.2.2.1.2.2.2.1
noncomputable def a34r:Nat→Option LoopAnn:=fun c=>bif Nat.beq c 0 then some (.fix h34r_L0 e34r_L0 s34r_L0) else none
noncomputable def g34r (x0:(Int×(Int×(Int×Unit)))):Option Ta146 :=
bif (!(f119 x0)) then some (((((0:Int),((0:Int),((0:Int),()))),((nilL Ty80),())),()),()) else (fixO s34r_L0 (((),((),((),((0:Int),())))),(x0,(((0:Int),((0:Int),((0:Int),((nilL Ty80),())))),((x0.1,(x0.2.1,(x0.2.2.1,((nilL Ty80),())))),()))))).bind fun d2=>match d2 with | .inl y1=>some ((((y1.2.2.1.1,(y1.2.2.1.2.1,(y1.2.2.1.2.2.1,()))),y1.2.2.2.2),()),()) | .inr e=>nomatch e
noncomputable def c34r:Ctr:={ ins:=[.v Ty135],out:=[Ty234],F:=fun x=>g34r x.1,fr:=1 }
noncomputable def l34r:List (Nat×Code):=loopsIn (Tryz.f34.body.getD .skip) 0
theorem w34r_L0:LW t34r a34r l34r 0 0 h34r_L0 e34r_L0 s34r_L0:=fun x=>by kernel_rfl
theorem o34r:Holds Tryz.prog 34 c34r:=fh t34r a34r Tryz.func34 [(0,lg l34r 0)] ⟨fun x d h=>(w34r_L0 x).trans h,trivial⟩ (tc o119 tn)
noncomputable def t35r:Tbl:=[(97,[],c97)]
noncomputable def g35r (x0:Int):Option Ta47 :=
bif (!(f97 x0 (1:Int) (8:Int))) then some ((((0:Int),((nilL (.int .i64)),())),()),()) else some (((x0,((nilL (.int .i64)),())),()),())
noncomputable def f35r (x0:Int):(Int×((L Int)×Unit)) :=
bif (!(f97 x0 (1:Int) (8:Int))) then ((0:Int),((nilL (.int .i64)),())) else (x0,((nilL (.int .i64)),()))
theorem n35r (x0:Int):g35r x0 = some ((f35r x0,()),()):=by simp only [g35r,f35r,pull1]
noncomputable def c35r:Ctr:={ ins:=[.v (.int .i64)],out:=[Ty103],F:=fun x=>some ((f35r x.1,()),()),fr:=1 }
theorem o35r:Holds Tryz.prog 35 c35r:=f0T t35r (fun x=>g35r x.1) Tryz.func35 (tc o97 tn) (fun x=>n35r x.1)
noncomputable def t203r:Tbl:=[(180,[],c180),(179,[],c179r),(178,[],c178r)]
abbrev h203r_L0:Shape:={ slots:=[(2,.bx 2 0),(4,.bx 4 0),(5,.v .bool)],boxes:=[(2,.cells [.row (.int .u32) 60128,.row (.int .u32) 60129]),(4,.cells [.row (.int .u32) 60256,.ms 1000705]),(1000705,.row (.int .u32))] }
abbrev e203r_L0:List (XT×Shape):=[(.exit 0,{ slots:=[(2,.bx 2 0),(4,.bx 4 0),(5,.v .bool)],boxes:=[(2,.cells [.ms 60128,.ms 60129]),(4,.cells [.ms 60256,.ms 1000705]),(60128,.row (.int .u32)),(60129,.row (.int .u32)),(60256,.row (.int .u32)),(1000705,.row (.int .u32))] })]
noncomputable def q203r_L0 (t5:Bool) (b2_0:(L Int)) (b2_1:(L Int)) (b4_0:(L Int)) (r1000705:(L Int)):Option ((Ta13×(Ta2×(((L Int)×(Unit×Unit))×((L Int)×Unit))))⊕((Ta13×((Unit×(Unit×Unit))×((Unit×(Unit×Unit))×((L Int)×((L Int)×Ta2)))))⊕Empty)) :=
bif (decide ((r1000705.len:Int) < (8:Int))) then bif (decide ((b4_0.len:Int) > (0:Int))) then bif (decide ((0:Int) < (b4_0.len:Int))) then bif (decide (r1000705.len + (L.of (Ty.zero (.int .u32)) [(L.get b4_0 (0:Int).toNat)]).len≤most)) then bif (decide (0≤(1:Int))&&(decide ((1:Int)≤(b4_0.len:Int))&&decide ((b4_0.len:Int)≤(b4_0.len:Int)))) then (g178r (L.cut b4_0 (1:Int).toNat (b4_0.len:Int).toNat)).bind fun y2=>some (.inl (((),((),(true,()))),((b2_0,(b2_1,())),((y2.1.1,((),())),((L.app r1000705 (L.of (Ty.zero (.int .u32)) [(L.get b4_0 (0:Int).toNat)])),()))))) else none else none else none else some (.inr (.inl (((),((),(t5,()))),(((),((),())),(((),((),())),(b2_0,(b2_1,(b4_0,(r1000705,()))))))))) else some (.inr (.inl (((),((),(t5,()))),(((),((),())),(((),((),())),(b2_0,(b2_1,(b4_0,(r1000705,())))))))))
noncomputable def s203r_L0 (x:(Ta13×(Ta2×(((L Int)×(Unit×Unit))×((L Int)×Unit))))):=q203r_L0 x.1.2.2.1 x.2.1.1 x.2.1.2.1 x.2.2.1.1 x.2.2.2.1
noncomputable def a203r:Nat→Option LoopAnn:=fun c=>bif Nat.beq c 0 then some (.fix h203r_L0 e203r_L0 s203r_L0) else none
noncomputable def g203r (x0:Ta2):Option ((Ta2×(Bool×Unit))×Unit) :=
bif (!(f180 x0)) then some ((((nilL (.int .u32)),((nilL (.int .u32)),())),false,()),()) else (g179r x0).bind fun y1=>(fixO s203r_L0 (((),((),(false,()))),(((nilL (.int .u32)),((nilL (.int .u32)),())),((y1.1.1.1,((),())),y1.1.1.2)))).bind fun d4=>match d4 with | .inl y3=>some ((y3.2.2.2.2.2,y3.1.2.2.1,()),()) | .inr e=>nomatch e
noncomputable def c203r:Ctr:={ ins:=[.v Ty121],out:=[Ty121,.bool],F:=fun x=>g203r x.1,fr:=1 }
noncomputable def l203r:List (Nat×Code):=loopsIn (Tryz.f203.body.getD .skip) 0
theorem w203r_L0:LW t203r a203r l203r 0 0 h203r_L0 e203r_L0 s203r_L0:=fun x=>by kernel_rfl
theorem o203r:Holds Tryz.prog 203 c203r:=fh t203r a203r Tryz.func203 [(0,lg l203r 0)] ⟨fun x d h=>(w203r_L0 x).trans h,trivial⟩ (tc o180 (tc o179r (tc o178r tn)))
noncomputable def t260:Tbl:=[]
noncomputable def g260 (x0:Int) (x1:Int):Option ((Int×Unit)×Unit) :=
bif (decide (0≤(IntKind.wrap .u64 (x1)))) then some (((andOf .i64 (wI ((shrOf .u32 x0 (IntKind.wrap .u64 (x1))))) (1:Int)),()),()) else none
noncomputable def c260:Ctr:={ ins:=[.v (.int .u32),.v (.int .i64)],out:=[(.int .i64)],F:=fun x=>g260 x.1 x.2.1 }
theorem o260:Holds Tryz.prog 260 c260:=f0 t260 Tryz.func260 tn
noncomputable def t204:Tbl:=[(97,[],c97),(260,[],c260)]
noncomputable def g204 (x0:Ta116) (x1:Int):Option Ta141 :=
bif (f97 x1 (0:Int) (31:Int)) then (g260 x0.2.2.2.2.2.2.2.1 x1).bind fun y1=>bif (y1.1.1 == (0:Int)) then bif (decide (0≤(IntKind.wrap .u64 (x1)))) then some (((x0.1,(x0.2.1,(x0.2.2.1,(x0.2.2.2.1,(x0.2.2.2.2.1,(x0.2.2.2.2.2.1,(x0.2.2.2.2.2.2.1,((IntKind.wrap .u32 (x0.2.2.2.2.2.2.2.1 + (shlOf .u32 (1:Int) (IntKind.wrap .u64 (x1))))),())))))))),()),()) else none else some ((x0,()),()) else some ((x0,()),())
noncomputable def c204:Ctr:={ ins:=[.v Ty242,.v (.int .i64)],out:=[Ty242],F:=fun x=>g204 x.1 x.2.1 }
theorem o204:Holds Tryz.prog 204 c204:=f0 t204 Tryz.func204 (tc o97 (tc o260 tn))
noncomputable def t114p:Tbl:=[(34,[],c34r),(35,[],c35r),(203,[],c203r),(204,[],c204)]
abbrev h114p_L0:Shape:={ slots:=[(1,.v (.int .i64)),(2,.bx 100000128 0),(4,.bx 4 0),(8,.v (.int .i64))],boxes:=[(100000128,.cells [.ms 100000129,.v (.int .u32),.ms 100000130,.v .bool,.v (.int .u32),.v (.int .u32),.v (.int .u32),.v (.int .u32),.v .bool,.v .bool,.v (.int .u32),.v (.int .i64),.v (.int .i64),.v (.int .i64),.v .bool,.v (.int .i64),.v (.int .i64),.v (.int .i64),.ms 1000896,.v (.int .i64),.ms 1001280,.v (.int .i64),.v .bool,.ms 100000133,.ms 100000134,.ms 100000135,.ms 100000136]),(4,.typ Ty379),(100000129,.row (.int .u32)),(100000130,.row (.sl (.int .u8))),(1000896,.row Ty80),(1001280,.row (.int .i64)),(100000133,.row (.sl (.int .u8))),(100000134,.row Ty100),(100000135,.row Ty33),(100000136,.row Ty121)] }
abbrev e114p_L0:List (XT×Shape):=[(.exit 0,{ slots:=[],boxes:=[(100000128,.cells [.ms 100000129,.v (.int .u32),.ms 100000130,.v .bool,.v (.int .u32),.v (.int .u32),.v (.int .u32),.v (.int .u32),.v .bool,.v .bool,.v (.int .u32),.v (.int .i64),.v (.int .i64),.v (.int .i64),.v .bool,.v (.int .i64),.v (.int .i64),.v (.int .i64),.ms 1000896,.v (.int .i64),.ms 1001280,.v (.int .i64),.v .bool,.ms 100000133,.ms 100000134,.ms 100000135,.ms 100000136]),(100000129,.row (.int .u32)),(100000130,.row (.sl (.int .u8))),(1000896,.row Ty80),(1001280,.row (.int .i64)),(100000133,.row (.sl (.int .u8))),(100000134,.row Ty100),(100000135,.row Ty33),(100000136,.row Ty121)] })]
noncomputable def q114p_L0 (t1:Int) (t8:Int) (b100000128_1:Int) (b100000128_3:Bool) (b100000128_4:Int) (b100000128_5:Int) (b100000128_6:Int) (b100000128_7:Int) (b100000128_8:Bool) (b100000128_9:Bool) (b100000128_10:Int) (b100000128_11:Int) (b100000128_12:Int) (b100000128_13:Int) (b100000128_14:Bool) (b100000128_15:Int) (b100000128_16:Int) (b100000128_17:Int) (b100000128_19:Int) (b100000128_21:Int) (b100000128_22:Bool) (b4:Ta339) (r100000129:(L Int)) (r100000130:(L (L Int))) (r1000896:Ta7) (r1001280:(L Int)) (r100000133:(L (L Int))) (r100000134:Ta1) (r100000135:(L ((L Int)×Unit))) (r100000136:Ta20):Option ((Ta30×(Ta279×(Ta339×Ta257)))⊕((Unit×(Ta279×Ta257))⊕Empty)) :=
bif (decide (t8 < (b4.2.2.2.2.2.2.2.2.1.len:Int))) then bif (!b100000128_14) then bif (decide (0≤t8)&&decide (t8 < (b4.2.2.2.2.2.2.2.2.1.len:Int))) then bif ((L.get b4.2.2.2.2.2.2.2.2.1 t8.toNat) == t1) then bif (decide (0≤t8)&&decide (t8 < (r100000136.len:Int))) then (g203r ((L.get r100000136 t8.toNat).1,((L.get r100000136 t8.toNat).2.1,()))).bind fun y2=>bif (decide (0≤t8)&&decide (t8 < (r100000136.len:Int))) then bif y2.1.2.1 then (g204 (b100000128_3,(b100000128_4,(b100000128_5,(b100000128_6,(b100000128_7,(b100000128_8,(b100000128_9,(b100000128_10,())))))))) t8).bind fun y3=>some (.inl ((t1,((),((),((wI (t8 + (1:Int))),())))),(((),(b100000128_1,((),(y3.1.1.1,(y3.1.1.2.1,(y3.1.1.2.2.1,(y3.1.1.2.2.2.1,(y3.1.1.2.2.2.2.1,(y3.1.1.2.2.2.2.2.1,(y3.1.1.2.2.2.2.2.2.1,(y3.1.1.2.2.2.2.2.2.2.1,(b100000128_11,(b100000128_12,(b100000128_13,(b100000128_14,(b100000128_15,(b100000128_16,(b100000128_17,((),(b100000128_19,((),(b100000128_21,(b100000128_22,((),((),((),((),()))))))))))))))))))))))))))),(b4,(r100000129,(r100000130,(r1000896,(r1001280,(r100000133,(r100000134,(r100000135,((L.set r100000136 t8.toNat y2.1.1),())))))))))))) else some (.inl ((t1,((),((),((wI (t8 + (1:Int))),())))),(((),(b100000128_1,((),(b100000128_3,(b100000128_4,(b100000128_5,(b100000128_6,(b100000128_7,(b100000128_8,(b100000128_9,(b100000128_10,(b100000128_11,(b100000128_12,(b100000128_13,(b100000128_14,(b100000128_15,(b100000128_16,(b100000128_17,((),(b100000128_19,((),(b100000128_21,(b100000128_22,((),((),((),((),()))))))))))))))))))))))))))),(b4,(r100000129,(r100000130,(r1000896,(r1001280,(r100000133,(r100000134,(r100000135,((L.set r100000136 t8.toNat y2.1.1),())))))))))))) else none else none else some (.inl ((t1,((),((),((wI (t8 + (1:Int))),())))),(((),(b100000128_1,((),(b100000128_3,(b100000128_4,(b100000128_5,(b100000128_6,(b100000128_7,(b100000128_8,(b100000128_9,(b100000128_10,(b100000128_11,(b100000128_12,(b100000128_13,(b100000128_14,(b100000128_15,(b100000128_16,(b100000128_17,((),(b100000128_19,((),(b100000128_21,(b100000128_22,((),((),((),((),()))))))))))))))))))))))))))),(b4,(r100000129,(r100000130,(r1000896,(r1001280,(r100000133,(r100000134,(r100000135,(r100000136,())))))))))))) else none else some (.inr (.inl ((),(((),(b100000128_1,((),(b100000128_3,(b100000128_4,(b100000128_5,(b100000128_6,(b100000128_7,(b100000128_8,(b100000128_9,(b100000128_10,(b100000128_11,(b100000128_12,(b100000128_13,(b100000128_14,(b100000128_15,(b100000128_16,(b100000128_17,((),(b100000128_19,((),(b100000128_21,(b100000128_22,((),((),((),((),()))))))))))))))))))))))))))),(r100000129,(r100000130,(r1000896,(r1001280,(r100000133,(r100000134,(r100000135,(r100000136,())))))))))))) else some (.inr (.inl ((),(((),(b100000128_1,((),(b100000128_3,(b100000128_4,(b100000128_5,(b100000128_6,(b100000128_7,(b100000128_8,(b100000128_9,(b100000128_10,(b100000128_11,(b100000128_12,(b100000128_13,(b100000128_14,(b100000128_15,(b100000128_16,(b100000128_17,((),(b100000128_19,((),(b100000128_21,(b100000128_22,((),((),((),((),()))))))))))))))))))))))))))),(r100000129,(r100000130,(r1000896,(r1001280,(r100000133,(r100000134,(r100000135,(r100000136,()))))))))))))
noncomputable def s114p_L0 (x:(Ta30×(Ta279×(Ta339×Ta257)))):=q114p_L0 x.1.1 x.1.2.2.2.1 x.2.1.2.1 x.2.1.2.2.2.1 x.2.1.2.2.2.2.1 x.2.1.2.2.2.2.2.1 x.2.1.2.2.2.2.2.2.1 x.2.1.2.2.2.2.2.2.2.1 x.2.1.2.2.2.2.2.2.2.2.1 x.2.1.2.2.2.2.2.2.2.2.2.1 x.2.1.2.2.2.2.2.2.2.2.2.2.1 x.2.1.2.2.2.2.2.2.2.2.2.2.2.1 x.2.1.2.2.2.2.2.2.2.2.2.2.2.2.1 x.2.1.2.2.2.2.2.2.2.2.2.2.2.2.2.1 x.2.1.2.2.2.2.2.2.2.2.2.2.2.2.2.2.1 x.2.1.2.2.2.2.2.2.2.2.2.2.2.2.2.2.2.1 x.2.1.2.2.2.2.2.2.2.2.2.2.2.2.2.2.2.2.1 x.2.1.2.2.2.2.2.2.2.2.2.2.2.2.2.2.2.2.2.1 x.2.1.2.2.2.2.2.2.2.2.2.2.2.2.2.2.2.2.2.2.2.1 x.2.1.2.2.2.2.2.2.2.2.2.2.2.2.2.2.2.2.2.2.2.2.2.1 x.2.1.2.2.2.2.2.2.2.2.2.2.2.2.2.2.2.2.2.2.2.2.2.2.1 x.2.2.1 x.2.2.2.1 x.2.2.2.2.1 x.2.2.2.2.2.1 x.2.2.2.2.2.2.1 x.2.2.2.2.2.2.2.1 x.2.2.2.2.2.2.2.2.1 x.2.2.2.2.2.2.2.2.2.1 x.2.2.2.2.2.2.2.2.2.2.1
noncomputable def a114p:Nat→Option LoopAnn:=fun c=>bif Nat.beq c 0 then some (.fix h114p_L0 e114p_L0 s114p_L0) else none
noncomputable def g114p (x0:Ta339) (x1:Int) (x2:Ta357) (x3:Int):Option (Unit×Ta358) :=
(g34r x0.2.1).bind fun y1=>(fixO s114p_L0 ((x1,((),((),((0:Int),())))),(((),(x2.1.2.1,((),(x2.2.1.1,(x2.2.1.2.1,(x2.2.1.2.2.1,(x2.2.1.2.2.2.1,(x2.2.1.2.2.2.2.1,(x2.2.1.2.2.2.2.2.1,(x2.2.1.2.2.2.2.2.2.1,(x2.2.1.2.2.2.2.2.2.2.1,(x2.2.2.1.1,(x2.2.2.1.2.1,(x2.2.2.1.2.2.1,(x2.2.2.1.2.2.2.1,(y1.1.1.1.1,(y1.1.1.1.2.1,(y1.1.1.1.2.2.1,((),((f35r x0.2.2.1).1,((),((wI (x3 + x0.2.2.2.2.1)),(false,((),((),((),((),()))))))))))))))))))))))))))),(x0,(x2.1.1,(x2.1.2.2.1,(y1.1.1.2.1,((f35r x0.2.2.1).2.1,x2.2.2.2.2.2.2.2)))))))).bind fun d5=>match d5 with | .inl y4=>some ((),(((y4.2.2.1,(y4.2.1.2.1,(y4.2.2.2.1,()))),((y4.2.1.2.2.2.1,(y4.2.1.2.2.2.2.1,(y4.2.1.2.2.2.2.2.1,(y4.2.1.2.2.2.2.2.2.1,(y4.2.1.2.2.2.2.2.2.2.1,(y4.2.1.2.2.2.2.2.2.2.2.1,(y4.2.1.2.2.2.2.2.2.2.2.2.1,(y4.2.1.2.2.2.2.2.2.2.2.2.2.1,())))))))),((y4.2.1.2.2.2.2.2.2.2.2.2.2.2.1,(y4.2.1.2.2.2.2.2.2.2.2.2.2.2.2.1,(y4.2.1.2.2.2.2.2.2.2.2.2.2.2.2.2.1,(y4.2.1.2.2.2.2.2.2.2.2.2.2.2.2.2.2.1,())))),(((y4.2.1.2.2.2.2.2.2.2.2.2.2.2.2.2.2.2.1,(y4.2.1.2.2.2.2.2.2.2.2.2.2.2.2.2.2.2.2.1,(y4.2.1.2.2.2.2.2.2.2.2.2.2.2.2.2.2.2.2.2.1,()))),(y4.2.2.2.2.1,())),((y4.2.1.2.2.2.2.2.2.2.2.2.2.2.2.2.2.2.2.2.2.2.1,(y4.2.2.2.2.2.1,())),(y4.2.1.2.2.2.2.2.2.2.2.2.2.2.2.2.2.2.2.2.2.2.2.2.1,(y4.2.1.2.2.2.2.2.2.2.2.2.2.2.2.2.2.2.2.2.2.2.2.2.2.1,y4.2.2.2.2.2.2))))))),())) | .inr e=>nomatch e
noncomputable def c114p:Ctr:={ ins:=[.v Ty379,.v (.int .i64),.pt Ty380,.v (.int .i64)],out:=[],F:=fun x=>g114p x.1 x.2.1 x.2.2.1 x.2.2.2.1 }
noncomputable def l114p:List (Nat×Code):=loopsIn (Tryz.f114.body.getD .skip) 0
theorem w114p_L0:LW t114p a114p l114p 0 0 h114p_L0 e114p_L0 s114p_L0:=fun x=>by kernel_rfl
theorem o114p:Holds Tryz.prog 114 c114p:=fh t114p a114p Tryz.func114 [(0,lg l114p 0)] ⟨fun x d h=>(w114p_L0 x).trans h,trivial⟩ (tc o34r (tc o35r (tc o203r (tc o204 tn))))
noncomputable def t28r:Tbl:=[(96,[],c96),(97,[],c97),(98,[],c98r),(114,[],c114p)]
noncomputable def g28r (x0:Ta339) (x1:Int) (x2:Ta357) (x3:Int):Option ((Ta357×(Bool×Unit))×Unit) :=
(g96 x0 x1 x2).bind fun y1=>bif (!y1.1.1) then some (((((nilL (.int .u32)),((0:Int),((nilL (.sl (.int .u8))),()))),((false,((0:Int),((0:Int),((0:Int),((0:Int),(false,(false,((0:Int),())))))))),(((0:Int),((0:Int),((0:Int),(false,())))),((((0:Int),((0:Int),((0:Int),()))),((nilL Ty80),())),(((0:Int),((nilL (.int .i64)),())),((0:Int),(false,((nilL (.sl (.int .u8))),((nilL Ty100),((nilL Ty33),((nilL Ty121),()))))))))))),false,()),()) else bif (!(f97 x3 (0:Int) (50000:Int))) then some (((((nilL (.int .u32)),((0:Int),((nilL (.sl (.int .u8))),()))),((false,((0:Int),((0:Int),((0:Int),((0:Int),(false,(false,((0:Int),())))))))),(((0:Int),((0:Int),((0:Int),(false,())))),((((0:Int),((0:Int),((0:Int),()))),((nilL Ty80),())),(((0:Int),((nilL (.int .i64)),())),((0:Int),(false,((nilL (.sl (.int .u8))),((nilL Ty100),((nilL Ty33),((nilL Ty121),()))))))))))),false,()),()) else (g98r x2).bind fun y2=>(g114p x0 x1 ((y2.1.1.1.1,(y2.1.1.1.2.1,y2.1.1.1.2.2)),(y2.1.1.2.1,(y2.1.1.2.2.1,((y2.1.1.2.2.2.1.1,y2.1.1.2.2.2.1.2),((y2.1.1.2.2.2.2.1.1,y2.1.1.2.2.2.2.1.2),(y2.1.1.2.2.2.2.2.1,(y2.1.1.2.2.2.2.2.2.1,y2.1.1.2.2.2.2.2.2.2))))))) x3).bind fun y3=>some ((((y3.2.1.1.1,(y3.2.1.1.2.1,y3.2.1.1.2.2)),(y3.2.1.2.1,(y3.2.1.2.2.1,((y3.2.1.2.2.2.1.1,y3.2.1.2.2.2.1.2),((y3.2.1.2.2.2.2.1.1,y3.2.1.2.2.2.2.1.2),(y3.2.1.2.2.2.2.2.1,(y3.2.1.2.2.2.2.2.2.1,y3.2.1.2.2.2.2.2.2.2))))))),true,()),())
noncomputable def c28r:Ctr:={ ins:=[.v Ty379,.v (.int .i64),.v Ty380,.v (.int .i64)],out:=[Ty380,.bool],F:=fun x=>g28r x.1 x.2.1 x.2.2.1 x.2.2.2.1,fr:=1 }
theorem o28r:Holds Tryz.prog 28 c28r:=f0 t28r Tryz.func28 (tc o96 (tc o97 (tc o98r (tc o114p tn))))
noncomputable def t136:Tbl:=[]
noncomputable def g136 (x0:Int) (x1:Int) (x2:Int):Option ((Bool×Unit)×Unit) :=
bif (decide (x0 ≥ x1)) then some (((decide (x0≤x2)),()),()) else some ((false,()),())
noncomputable def f136 (x0:Int) (x1:Int) (x2:Int):Bool :=
bif (decide (x0 ≥ x1)) then (decide (x0≤x2)) else false
theorem n136 (x0:Int) (x1:Int) (x2:Int):g136 x0 x1 x2 = some ((f136 x0 x1 x2,()),()):=by simp only [g136,f136,pull1]
noncomputable def c136:Ctr:={ ins:=[.v (.int .i64),.v (.int .i64),.v (.int .i64)],out:=[.bool],F:=fun x=>some ((f136 x.1 x.2.1 x.2.2.1,()),()) }
theorem o136:Holds Tryz.prog 136 c136:=f0T t136 (fun x=>g136 x.1 x.2.1 x.2.2.1) Tryz.func136 tn (fun x=>n136 x.1 x.2.1 x.2.2.1)
noncomputable def t134:Tbl:=[(136,[],c136)]
noncomputable def g134 (x0:Int):Option ((Bool×Unit)×Unit) :=
bif (f136 x0 (64:Int) (2048:Int)) then some ((((Int.tmod x0 (4:Int)) == (0:Int)),()),()) else some ((false,()),())
noncomputable def f134 (x0:Int):Bool :=
bif (f136 x0 (64:Int) (2048:Int)) then ((Int.tmod x0 (4:Int)) == (0:Int)) else false
theorem n134 (x0:Int):g134 x0 = some ((f134 x0,()),()):=by simp only [g134,f134,pull1]
noncomputable def c134:Ctr:={ ins:=[.v (.int .i64)],out:=[.bool],F:=fun x=>some ((f134 x.1,()),()) }
theorem o134:Holds Tryz.prog 134 c134:=f0T t134 (fun x=>g134 x.1) Tryz.func134 (tc o136 tn) (fun x=>n134 x.1)
noncomputable def t226:Tbl:=[]
noncomputable def g226 (x0:Int):Option ((Bool×Unit)×Unit) :=
bif (decide (x0 > (0:Int))) then some ((((andOf .i64 x0 (wI (x0 - (1:Int)))) == (0:Int)),()),()) else some ((false,()),())
noncomputable def f226 (x0:Int):Bool :=
bif (decide (x0 > (0:Int))) then ((andOf .i64 x0 (wI (x0 - (1:Int)))) == (0:Int)) else false
theorem n226 (x0:Int):g226 x0 = some ((f226 x0,()),()):=by simp only [g226,f226,pull1]
noncomputable def c226:Ctr:={ ins:=[.v (.int .i64)],out:=[.bool],F:=fun x=>some ((f226 x.1,()),()) }
theorem o226:Holds Tryz.prog 226 c226:=f0T t226 (fun x=>g226 x.1) Tryz.func226 tn (fun x=>n226 x.1)
noncomputable def t135:Tbl:=[(136,[],c136),(226,[],c226)]
noncomputable def g135 (x0:(Int×(Int×(Int×Unit)))):Option ((Bool×Unit)×Unit) :=
bif (f136 x0.1 (1:Int) (16:Int)) then bif (f226 x0.1) then bif (f136 x0.2.1 (1:Int) (4:Int)) then bif (f136 x0.2.2.1 (4:Int) (32:Int)) then some (((f226 x0.2.2.1),()),()) else some ((false,()),()) else some ((false,()),()) else some ((false,()),()) else some ((false,()),())
noncomputable def f135 (x0:(Int×(Int×(Int×Unit)))):Bool :=
bif (f136 x0.1 (1:Int) (16:Int)) then bif (f226 x0.1) then bif (f136 x0.2.1 (1:Int) (4:Int)) then bif (f136 x0.2.2.1 (4:Int) (32:Int)) then (f226 x0.2.2.1) else false else false else false else false
theorem n135 (x0:(Int×(Int×(Int×Unit)))):g135 x0 = some ((f135 x0,()),()):=by simp only [g135,f135,pull1]
noncomputable def c135:Ctr:={ ins:=[.v Ty135],out:=[.bool],F:=fun x=>some ((f135 x.1,()),()) }
theorem o135:Holds Tryz.prog 135 c135:=f0T t135 (fun x=>g135 x.1) Tryz.func135 (tc o136 (tc o226 tn)) (fun x=>n135 x.1)
noncomputable def t137:Tbl:=[(136,[],c136)]
noncomputable def a137:Nat→Option LoopAnn:=fun c=>bif Nat.beq c 0 then some (.unroll 7 [1,17,18] [1]) else none
noncomputable def g137 (x0:Ta85):Option ((Bool×Unit)×Unit) :=
bif (!(f136 x0.2.1 (0:Int) (50:Int))) then some ((false,()),()) else bif (!(f136 x0.2.2.1 (0:Int) (50:Int))) then some ((false,()),()) else bif (!(f136 x0.2.2.2.1 (0:Int) (50:Int))) then some ((false,()),()) else bif (!(f136 x0.2.2.2.2.1 (0:Int) (50:Int))) then some ((false,()),()) else bif (!(f136 x0.2.2.2.2.2.1 (0:Int) (50:Int))) then some ((false,()),()) else bif (!(f136 x0.2.2.2.2.2.2.1 (0:Int) (50:Int))) then some ((false,()),()) else some (((f136 x0.1 (1:Int) (20:Int)),()),())
noncomputable def f137 (x0:Ta85):Bool :=
bif (!(f136 x0.2.1 (0:Int) (50:Int))) then false else bif (!(f136 x0.2.2.1 (0:Int) (50:Int))) then false else bif (!(f136 x0.2.2.2.1 (0:Int) (50:Int))) then false else bif (!(f136 x0.2.2.2.2.1 (0:Int) (50:Int))) then false else bif (!(f136 x0.2.2.2.2.2.1 (0:Int) (50:Int))) then false else bif (!(f136 x0.2.2.2.2.2.2.1 (0:Int) (50:Int))) then false else (f136 x0.1 (1:Int) (20:Int))
theorem n137 (x0:Ta85):g137 x0 = some ((f137 x0,()),()):=by simp only [g137,f137,pull1]
noncomputable def c137:Ctr:={ ins:=[.v Ty238],out:=[.bool],F:=fun x=>some ((f137 x.1,()),()) }
noncomputable def l137:List (Nat×Code):=loopsIn (Tryz.f137.body.getD .skip) 0
theorem o137:Holds Tryz.prog 137 c137:=fhT t137 a137 (fun x=>g137 x.1) Tryz.func137 [(0,lg l137 0)] ⟨trivial,trivial⟩ (tc o136 tn) (fun x=>n137 x.1)
noncomputable def t138:Tbl:=[(136,[],c136)]
noncomputable def g138 (x0:Int):Option ((Bool×Unit)×Unit) :=
some (((f136 x0 (1:Int) (5000:Int)),()),())
noncomputable def f138 (x0:Int):Bool :=
(f136 x0 (1:Int) (5000:Int))
theorem n138 (x0:Int):g138 x0 = some ((f138 x0,()),()):=by simp only [g138,f138,pull1]
noncomputable def c138:Ctr:={ ins:=[.v (.int .i64)],out:=[.bool],F:=fun x=>some ((f138 x.1,()),()) }
theorem o138:Holds Tryz.prog 138 c138:=f0T t138 (fun x=>g138 x.1) Tryz.func138 (tc o136 tn) (fun x=>n138 x.1)
noncomputable def t299:Tbl:=[(136,[],c136)]
noncomputable def g299 (x0:Ta85) (x1:Int):Option ((Int×Unit)×Unit) :=
bif (x1 == (9:Int)) then some (((wI (x0.1 + x0.2.1)),()),()) else bif (x1 == (10:Int)) then some (((wI (x0.1 + x0.2.1)),()),()) else bif (f136 x1 (15:Int) (18:Int)) then some (((wI (x0.1 + x0.2.2.1)),()),()) else bif (decide (x1 ≥ (25:Int))) then some (((wI (x0.1 + x0.2.2.2.2.2.1)),()),()) else some ((x0.1,()),())
noncomputable def f299 (x0:Ta85) (x1:Int):Int :=
bif (x1 == (9:Int)) then (wI (x0.1 + x0.2.1)) else bif (x1 == (10:Int)) then (wI (x0.1 + x0.2.1)) else bif (f136 x1 (15:Int) (18:Int)) then (wI (x0.1 + x0.2.2.1)) else bif (decide (x1 ≥ (25:Int))) then (wI (x0.1 + x0.2.2.2.2.2.1)) else x0.1
theorem n299 (x0:Ta85) (x1:Int):g299 x0 x1 = some ((f299 x0 x1,()),()):=by simp only [g299,f299,pull1]
noncomputable def c299:Ctr:={ ins:=[.v Ty238,.v (.int .i64)],out:=[(.int .i64)],F:=fun x=>some ((f299 x.1 x.2.1,()),()) }
theorem o299:Holds Tryz.prog 299 c299:=f0T t299 (fun x=>g299 x.1 x.2.1) Tryz.func299 (tc o136 tn) (fun x=>n299 x.1 x.2.1)
noncomputable def t300:Tbl:=[]
noncomputable def g300 (x0:Ta85) (x1:Ta11):Option ((Int×Unit)×Unit) :=
bif (!x1.1) then bif (!x1.2.1) then bif x1.2.2.1 then some (((wI ((wI ((wI ((0:Int) + x0.2.2.2.1)) + x0.2.2.2.2.1)) + x0.2.2.2.2.2.2.1)),()),()) else some (((wI ((wI ((0:Int) + x0.2.2.2.1)) + x0.2.2.2.2.1)),()),()) else bif x1.2.2.1 then some (((wI ((wI ((0:Int) + x0.2.2.2.1)) + x0.2.2.2.2.2.2.1)),()),()) else some (((wI ((0:Int) + x0.2.2.2.1)),()),()) else bif (!x1.2.1) then bif x1.2.2.1 then some (((wI ((wI ((0:Int) + x0.2.2.2.2.1)) + x0.2.2.2.2.2.2.1)),()),()) else some (((wI ((0:Int) + x0.2.2.2.2.1)),()),()) else bif x1.2.2.1 then some (((wI ((0:Int) + x0.2.2.2.2.2.2.1)),()),()) else some (((0:Int),()),())
noncomputable def f300 (x0:Ta85) (x1:Ta11):Int :=
bif (!x1.1) then bif (!x1.2.1) then bif x1.2.2.1 then (wI ((wI ((wI ((0:Int) + x0.2.2.2.1)) + x0.2.2.2.2.1)) + x0.2.2.2.2.2.2.1)) else (wI ((wI ((0:Int) + x0.2.2.2.1)) + x0.2.2.2.2.1)) else bif x1.2.2.1 then (wI ((wI ((0:Int) + x0.2.2.2.1)) + x0.2.2.2.2.2.2.1)) else (wI ((0:Int) + x0.2.2.2.1)) else bif (!x1.2.1) then bif x1.2.2.1 then (wI ((wI ((0:Int) + x0.2.2.2.2.1)) + x0.2.2.2.2.2.2.1)) else (wI ((0:Int) + x0.2.2.2.2.1)) else bif x1.2.2.1 then (wI ((0:Int) + x0.2.2.2.2.2.2.1)) else (0:Int)
theorem n300 (x0:Ta85) (x1:Ta11):g300 x0 x1 = some ((f300 x0 x1,()),()):=by simp only [g300,f300,pull1]
noncomputable def c300:Ctr:={ ins:=[.v Ty238,.v (.pair .bool (.pair .bool (.pair .bool .unit)))],out:=[(.int .i64)],F:=fun x=>some ((f300 x.1 x.2.1,()),()) }
theorem o300:Holds Tryz.prog 300 c300:=f0T t300 (fun x=>g300 x.1 x.2.1) Tryz.func300 tn (fun x=>n300 x.1 x.2.1)
noncomputable def t227:Tbl:=[(137,[],c137),(299,[],c299),(300,[],c300)]
abbrev h227_L0:Shape:={ slots:=[(1,.bx 1 0),(3,.v (.int .i64)),(8,.v (.int .i64))],boxes:=[(1,.typ Ty238)] }
abbrev e227_L0:List (XT×Shape):=[(.exit 0,{ slots:=[(1,.bx 1 0),(3,.v (.int .i64))],boxes:=[(1,.typ Ty238)] })]
noncomputable def q227_L0 (t3:Int) (t8:Int) (b1:Ta85):Option (Ta160⊕(((Unit×(Int×Unit))×Ta113)⊕Empty)) :=
bif (decide (t8 < (33:Int))) then some (.inl (((),((if (f299 b1 t8) > t3 then (f299 b1 t8) else t3),((wI (t8 + (1:Int))),()))),(b1,()))) else some (.inr (.inl (((),(t3,())),(b1,()))))
noncomputable def s227_L0 (x:Ta160):=q227_L0 x.1.2.1 x.1.2.2.1 x.2.1
noncomputable def a227:Nat→Option LoopAnn:=fun c=>bif Nat.beq c 0 then some (.fix h227_L0 e227_L0 s227_L0) else none
noncomputable def g227 (x0:Ta85):Option ((Int×Unit)×Unit) :=
bif (!(f137 x0)) then some (((-1:Int),()),()) else (fixO s227_L0 (((),((0:Int),((0:Int),()))),(x0,()))).bind fun d2=>match d2 with | .inl y1=>some (((wI ((wI (y1.1.2.1 + (wI ((2:Int) * (f300 y1.2.1 (false,(false,(true,())))))))) + y1.2.1.2.2.2.2.2.1)),()),()) | .inr e=>nomatch e
noncomputable def c227:Ctr:={ ins:=[.v Ty238],out:=[(.int .i64)],F:=fun x=>g227 x.1 }
noncomputable def l227:List (Nat×Code):=loopsIn (Tryz.f227.body.getD .skip) 0
theorem w227_L0:LW t227 a227 l227 0 0 h227_L0 e227_L0 s227_L0:=fun x=>by kernel_rfl
theorem o227:Holds Tryz.prog 227 c227:=fh t227 a227 Tryz.func227 [(0,lg l227 0)] ⟨fun x d h=>(w227_L0 x).trans h,trivial⟩ (tc o137 (tc o299 (tc o300 tn)))
noncomputable def t139:Tbl:=[(227,[],c227)]
noncomputable def g139 (x0:Ta85):Option ((Int×Unit)×Unit) :=
(g227 x0).bind fun y1=>some ((y1.1.1,()),())
noncomputable def c139:Ctr:={ ins:=[.v Ty238],out:=[(.int .i64)],F:=fun x=>g139 x.1 }
theorem o139:Holds Tryz.prog 139 c139:=f0 t139 Tryz.func139 (tc o227 tn)
noncomputable def t301:Tbl:=[(136,[],c136)]
abbrev h301_L0:Shape:={ slots:=[(0,.v .str),(5,.v (.int .i64)),(6,.v (.int .i64))],boxes:=[] }
abbrev e301_L0:List (XT×Shape):=[(.ret,{ slots:=[(2,.v .bool)],boxes:=[] }),(.exit 0,{ slots:=[(0,.v .str)],boxes:=[] })]
noncomputable def q301_L0 (t0:ByteArray) (t5:Int) (t6:Int):Option (((ByteArray×(Int×(Int×Unit)))×Unit)⊕(((Bool×Unit)×Unit)⊕(((ByteArray×Unit)×Unit)⊕Empty))) :=
bif (decide (t6 < t5)) then bif (decide (0≤t6)&&decide (t6 < t0.size)) then bif (decide ((bt t0 t6) < (97:Int))) then some (.inr (.inl ((false,()),()))) else bif (decide (0≤t6)&&decide (t6 < t0.size)) then bif (decide ((bt t0 t6) > (122:Int))) then some (.inr (.inl ((false,()),()))) else some (.inl ((t0,(t5,((wI (t6 + (1:Int))),()))),())) else none else none else some (.inr (.inr (.inl ((t0,()),()))))
noncomputable def s301_L0 (x:((ByteArray×(Int×(Int×Unit)))×Unit)):=q301_L0 x.1.1 x.1.2.1 x.1.2.2.1
noncomputable def a301:Nat→Option LoopAnn:=fun c=>bif Nat.beq c 0 then some (.fix h301_L0 e301_L0 s301_L0) else none
noncomputable def g301 (x0:ByteArray):Option ((Bool×Unit)×Unit) :=
(fixO s301_L0 ((x0,((x0.size:Int),((0:Int),()))),())).bind fun d2=>match d2 with | .inl y1=>some ((y1.1.1,()),()) | .inr (.inl y1)=>some (((f136 (y1.1.1.size:Int) (1:Int) (12:Int)),()),()) | .inr (.inr e)=>nomatch e
noncomputable def c301:Ctr:={ ins:=[.v .str],out:=[.bool],F:=fun x=>g301 x.1 }
noncomputable def l301:List (Nat×Code):=loopsIn (Tryz.f301.body.getD .skip) 0
theorem w301_L0:LW t301 a301 l301 0 0 h301_L0 e301_L0 s301_L0:=fun x=>by kernel_rfl
theorem o301:Holds Tryz.prog 301 c301:=fh t301 a301 Tryz.func301 [(0,lg l301 0)] ⟨fun x d h=>(w301_L0 x).trans h,trivial⟩ (tc o136 tn)
noncomputable def t228:Tbl:=[(301,[],c301)]
noncomputable def g228 (x0:ByteArray):Option ((Bool×Unit)×Unit) :=
(g301 x0).bind fun y1=>bif y1.1.1 then some (((decide ((x0.size:Int)≤(8:Int))),()),()) else some ((false,()),())
noncomputable def c228:Ctr:={ ins:=[.v .str],out:=[.bool],F:=fun x=>g228 x.1 }
theorem o228:Holds Tryz.prog 228 c228:=f0 t228 Tryz.func228 (tc o301 tn)
noncomputable def t303:Tbl:=[]
noncomputable def g303 (x0:Ta143) (x1:ByteArray):Option ((Bool×Unit)×Unit) :=
some (((strEq x0.1 x1),()),())
noncomputable def f303 (x0:Ta143) (x1:ByteArray):Bool :=
(strEq x0.1 x1)
theorem n303 (x0:Ta143) (x1:ByteArray):g303 x0 x1 = some ((f303 x0 x1,()),()):=by simp only [g303,f303,pull1]
noncomputable def c303:Ctr:={ ins:=[.v Ty268,.rf .str],out:=[.bool],F:=fun x=>some ((f303 x.1 x.2.1,()),()) }
theorem o303:Holds Tryz.prog 303 c303:=f0T t303 (fun x=>g303 x.1 x.2.1) Tryz.func303 tn (fun x=>n303 x.1 x.2.1)
noncomputable def t302_303:Tbl:=[(303,[],c303)]
abbrev h302_303_L0:Shape:={ slots:=[(0,.v Ty276),(1,.clo 303 [.str]),(7,.v (.int .i64)),(8,.v (.int .i64))],boxes:=[] }
abbrev e302_303_L0:List (XT×Shape):=[(.ret,{ slots:=[(4,.v (.int .i64))],boxes:=[] }),(.exit 0,{ slots:=[],boxes:=[] })]
noncomputable def q302_303_L0 (t0:Ta149) (t1:(ByteArray×Unit)) (t7:Int) (t8:Int):Option (((Ta149×((ByteArray×Unit)×(Int×(Int×Unit))))×Unit)⊕(((Int×Unit)×Unit)⊕((Unit×Unit)⊕Empty))) :=
bif (decide (t8 < t7)) then bif (decide (0≤t8)&&decide (t8 < (t0.len:Int))) then bif (f303 (L.get t0 t8.toNat) t1.1) then some (.inr (.inl ((t8,()),()))) else some (.inl ((t0,(t1,(t7,((wI (t8 + (1:Int))),())))),())) else none else some (.inr (.inr (.inl ((),()))))
noncomputable def s302_303_L0 (x:((Ta149×((ByteArray×Unit)×(Int×(Int×Unit))))×Unit)):=q302_303_L0 x.1.1 x.1.2.1 x.1.2.2.1 x.1.2.2.2.1
noncomputable def a302_303:Nat→Option LoopAnn:=fun c=>bif Nat.beq c 0 then some (.fix h302_303_L0 e302_303_L0 s302_303_L0) else none
noncomputable def g302_303 (x0:Ta149) (x1:(ByteArray×Unit)):Option ((Int×Unit)×Unit) :=
(fixO s302_303_L0 ((x0,(x1,((x0.len:Int),((0:Int),())))),())).bind fun d2=>match d2 with | .inl y1=>some ((y1.1.1,()),()) | .inr (.inl y1)=>some (((-1:Int),()),()) | .inr (.inr e)=>nomatch e
noncomputable def c302_303:Ctr:={ ins:=[.v Ty276,.clo 303 [.str]],out:=[(.int .i64)],F:=fun x=>g302_303 x.1 x.2.1 }
noncomputable def l302_303:List (Nat×Code):=loopsIn (Tryz.f302.body.getD .skip) 0
theorem w302_303_L0:LW t302_303 a302_303 l302_303 0 0 h302_303_L0 e302_303_L0 s302_303_L0:=fun x=>by kernel_rfl
theorem o302_303:Holds Tryz.prog 302 c302_303:=fh t302_303 a302_303 Tryz.func302 [(0,lg l302_303 0)] ⟨fun x d h=>(w302_303_L0 x).trans h,trivial⟩ (tc o303 tn)
noncomputable def t229:Tbl:=[(302,[303],c302_303)]
noncomputable def g229 (x0:Ta339) (x1:ByteArray):Option ((Int×Unit)×Unit) :=
(g302_303 x0.2.2.2.2.2.2.2.1 (x1,())).bind fun y1=>some ((y1.1.1,()),())
noncomputable def c229:Ctr:={ ins:=[.v Ty379,.v .str],out:=[(.int .i64)],F:=fun x=>g229 x.1 x.2.1 }
theorem o229:Holds Tryz.prog 229 c229:=f0 t229 Tryz.func229 (tc o302_303 tn)
noncomputable def t230:Tbl:=[(136,[],c136)]
noncomputable def g230 (x0:(Int×(Int×Unit))):Option ((Bool×Unit)×Unit) :=
bif (x0.1 == (1:Int)) then some (((f136 x0.2.1 (0:Int) (100:Int)),()),()) else bif (x0.1 == (0:Int)) then some (((x0.2.1 == (0:Int)),()),()) else bif (x0.1 == (2:Int)) then some (((x0.2.1 == (0:Int)),()),()) else some ((false,()),())
noncomputable def f230 (x0:(Int×(Int×Unit))):Bool :=
bif (x0.1 == (1:Int)) then (f136 x0.2.1 (0:Int) (100:Int)) else bif (x0.1 == (0:Int)) then (x0.2.1 == (0:Int)) else bif (x0.1 == (2:Int)) then (x0.2.1 == (0:Int)) else false
theorem n230 (x0:(Int×(Int×Unit))):g230 x0 = some ((f230 x0,()),()):=by simp only [g230,f230,pull1]
noncomputable def c230:Ctr:={ ins:=[.v Ty81],out:=[.bool],F:=fun x=>some ((f230 x.1,()),()) }
theorem o230:Holds Tryz.prog 230 c230:=f0T t230 (fun x=>g230 x.1) Tryz.func230 (tc o136 tn) (fun x=>n230 x.1)
noncomputable def t231:Tbl:=[(136,[],c136)]
noncomputable def g231 (x0:(Int×(Int×(Int×Unit)))):Option ((Bool×Unit)×Unit) :=
bif (f136 x0.2.1 (4:Int) (2048:Int)) then bif ((Int.tmod x0.2.1 (4:Int)) == (0:Int)) then bif (f136 x0.1 (0:Int) (wI ((2048:Int) - x0.2.1))) then bif ((Int.tmod x0.1 (4:Int)) == (0:Int)) then some (((f136 x0.2.2.1 (1:Int) (7:Int)),()),()) else some ((false,()),()) else some ((false,()),()) else some ((false,()),()) else some ((false,()),())
noncomputable def f231 (x0:(Int×(Int×(Int×Unit)))):Bool :=
bif (f136 x0.2.1 (4:Int) (2048:Int)) then bif ((Int.tmod x0.2.1 (4:Int)) == (0:Int)) then bif (f136 x0.1 (0:Int) (wI ((2048:Int) - x0.2.1))) then bif ((Int.tmod x0.1 (4:Int)) == (0:Int)) then (f136 x0.2.2.1 (1:Int) (7:Int)) else false else false else false else false
theorem n231 (x0:(Int×(Int×(Int×Unit)))):g231 x0 = some ((f231 x0,()),()):=by simp only [g231,f231,pull1]
noncomputable def c231:Ctr:={ ins:=[.v Ty135],out:=[.bool],F:=fun x=>some ((f231 x.1,()),()) }
theorem o231:Holds Tryz.prog 231 c231:=f0T t231 (fun x=>g231 x.1) Tryz.func231 (tc o136 tn) (fun x=>n231 x.1)
noncomputable def t234:Tbl:=[]
noncomputable def g234 (x0:(Int×(Int×(Int×Unit)))) (x1:(Int×(Int×(Int×Unit)))):Option ((Bool×Unit)×Unit) :=
bif (decide ((wI (x0.1 + x0.2.1))≤x1.1)) then some ((true,()),()) else some (((decide ((wI (x1.1 + x1.2.1))≤x0.1)),()),())
noncomputable def f234 (x0:(Int×(Int×(Int×Unit)))) (x1:(Int×(Int×(Int×Unit)))):Bool :=
bif (decide ((wI (x0.1 + x0.2.1))≤x1.1)) then true else (decide ((wI (x1.1 + x1.2.1))≤x0.1))
theorem n234 (x0:(Int×(Int×(Int×Unit)))) (x1:(Int×(Int×(Int×Unit)))):g234 x0 x1 = some ((f234 x0 x1,()),()):=by simp only [g234,f234,pull1]
noncomputable def c234:Ctr:={ ins:=[.v Ty135,.v Ty135],out:=[.bool],F:=fun x=>some ((f234 x.1 x.2.1,()),()) }
theorem o234:Holds Tryz.prog 234 c234:=f0T t234 (fun x=>g234 x.1 x.2.1) Tryz.func234 tn (fun x=>n234 x.1 x.2.1)
noncomputable def t233:Tbl:=[(234,[],c234)]
noncomputable def g233 (x0:(Int×(Int×(Int×Unit)))) (x1:(Int×(Int×(Int×Unit)))):Option ((Bool×Unit)×Unit) :=
some (((!(f234 x0 x1)),()),())
noncomputable def f233 (x0:(Int×(Int×(Int×Unit)))) (x1:(Int×(Int×(Int×Unit)))):Bool :=
(!(f234 x0 x1))
theorem n233 (x0:(Int×(Int×(Int×Unit)))) (x1:(Int×(Int×(Int×Unit)))):g233 x0 x1 = some ((f233 x0 x1,()),()):=by simp only [g233,f233,pull1]
noncomputable def c233:Ctr:={ ins:=[.v Ty135,.rf Ty135],out:=[.bool],F:=fun x=>some ((f233 x.1 x.2.1,()),()) }
theorem o233:Holds Tryz.prog 233 c233:=f0T t233 (fun x=>g233 x.1 x.2.1) Tryz.func233 (tc o234 tn) (fun x=>n233 x.1 x.2.1)
noncomputable def t304_233:Tbl:=[(233,[],c233)]
abbrev h304_233_L0:Shape:={ slots:=[(0,.v Ty145),(1,.clo 233 [Ty135]),(7,.v (.int .i64)),(8,.v (.int .i64))],boxes:=[] }
abbrev e304_233_L0:List (XT×Shape):=[(.ret,{ slots:=[(4,.v (.int .i64))],boxes:=[] }),(.exit 0,{ slots:=[],boxes:=[] })]
noncomputable def q304_233_L0 (t0:Ta14) (t1:Ta25) (t7:Int) (t8:Int):Option (Ta170⊕(((Int×Unit)×Unit)⊕((Unit×Unit)⊕Empty))) :=
bif (decide (t8 < t7)) then bif (decide (0≤t8)&&decide (t8 < (t0.len:Int))) then bif (f233 (L.get t0 t8.toNat) t1.1) then some (.inr (.inl ((t8,()),()))) else some (.inl ((t0,(t1,(t7,((wI (t8 + (1:Int))),())))),())) else none else some (.inr (.inr (.inl ((),()))))
noncomputable def s304_233_L0 (x:Ta170):=q304_233_L0 x.1.1 x.1.2.1 x.1.2.2.1 x.1.2.2.2.1
noncomputable def a304_233:Nat→Option LoopAnn:=fun c=>bif Nat.beq c 0 then some (.fix h304_233_L0 e304_233_L0 s304_233_L0) else none
noncomputable def g304_233 (x0:Ta14) (x1:Ta25):Option ((Int×Unit)×Unit) :=
(fixO s304_233_L0 ((x0,(x1,((x0.len:Int),((0:Int),())))),())).bind fun d2=>match d2 with | .inl y1=>some ((y1.1.1,()),()) | .inr (.inl y1)=>some (((-1:Int),()),()) | .inr (.inr e)=>nomatch e
noncomputable def c304_233:Ctr:={ ins:=[.v Ty145,.clo 233 [Ty135]],out:=[(.int .i64)],F:=fun x=>g304_233 x.1 x.2.1 }
noncomputable def l304_233:List (Nat×Code):=loopsIn (Tryz.f304.body.getD .skip) 0
theorem w304_233_L0:LW t304_233 a304_233 l304_233 0 0 h304_233_L0 e304_233_L0 s304_233_L0:=fun x=>by kernel_rfl
theorem o304_233:Holds Tryz.prog 304 c304_233:=fh t304_233 a304_233 Tryz.func304 [(0,lg l304_233 0)] ⟨fun x d h=>(w304_233_L0 x).trans h,trivial⟩ (tc o233 tn)
noncomputable def t232_233:Tbl:=[(304,[233],c304_233)]
noncomputable def g232_233 (x0:Ta14) (x1:Ta25):Option ((Bool×Unit)×Unit) :=
(g304_233 x0 x1).bind fun y1=>some (((decide (y1.1.1 ≥ (0:Int))),()),())
noncomputable def c232_233:Ctr:={ ins:=[.v Ty145,.clo 233 [Ty135]],out:=[.bool],F:=fun x=>g232_233 x.1 x.2.1 }
theorem o232_233:Holds Tryz.prog 232 c232_233:=f0 t232_233 Tryz.func232 (tc o304_233 tn)
noncomputable def t344:Tbl:=[]
noncomputable def g344 (x0:(Int×(Int×(Int×Unit)))) (x1:Int):Option ((Bool×Unit)×Unit) :=
bif (decide (x0.1≤x1)) then some (((decide (x1 < (wI (x0.1 + x0.2.1)))),()),()) else some ((false,()),())
noncomputable def f344 (x0:(Int×(Int×(Int×Unit)))) (x1:Int):Bool :=
bif (decide (x0.1≤x1)) then (decide (x1 < (wI (x0.1 + x0.2.1)))) else false
theorem n344 (x0:(Int×(Int×(Int×Unit)))) (x1:Int):g344 x0 x1 = some ((f344 x0 x1,()),()):=by simp only [g344,f344,pull1]
noncomputable def c344:Ctr:={ ins:=[.v Ty135,.rf (.int .i64)],out:=[.bool],F:=fun x=>some ((f344 x.1 x.2.1,()),()) }
theorem o344:Holds Tryz.prog 344 c344:=f0T t344 (fun x=>g344 x.1 x.2.1) Tryz.func344 tn (fun x=>n344 x.1 x.2.1)
noncomputable def t304_344:Tbl:=[(344,[],c344)]
abbrev h304_344_L0:Shape:={ slots:=[(0,.v Ty145),(1,.clo 344 [(.int .i64)]),(7,.v (.int .i64)),(8,.v (.int .i64))],boxes:=[] }
abbrev e304_344_L0:List (XT×Shape):=[(.ret,{ slots:=[(4,.v (.int .i64))],boxes:=[] }),(.exit 0,{ slots:=[],boxes:=[] })]
noncomputable def q304_344_L0 (t0:Ta14) (t1:(Int×Unit)) (t7:Int) (t8:Int):Option (((Ta14×Ta27)×Unit)⊕(((Int×Unit)×Unit)⊕((Unit×Unit)⊕Empty))) :=
bif (decide (t8 < t7)) then bif (decide (0≤t8)&&decide (t8 < (t0.len:Int))) then bif (f344 (L.get t0 t8.toNat) t1.1) then some (.inr (.inl ((t8,()),()))) else some (.inl ((t0,(t1,(t7,((wI (t8 + (1:Int))),())))),())) else none else some (.inr (.inr (.inl ((),()))))
noncomputable def s304_344_L0 (x:((Ta14×Ta27)×Unit)):=q304_344_L0 x.1.1 x.1.2.1 x.1.2.2.1 x.1.2.2.2.1
noncomputable def a304_344:Nat→Option LoopAnn:=fun c=>bif Nat.beq c 0 then some (.fix h304_344_L0 e304_344_L0 s304_344_L0) else none
noncomputable def g304_344 (x0:Ta14) (x1:(Int×Unit)):Option ((Int×Unit)×Unit) :=
(fixO s304_344_L0 ((x0,(x1,((x0.len:Int),((0:Int),())))),())).bind fun d2=>match d2 with | .inl y1=>some ((y1.1.1,()),()) | .inr (.inl y1)=>some (((-1:Int),()),()) | .inr (.inr e)=>nomatch e
noncomputable def c304_344:Ctr:={ ins:=[.v Ty145,.clo 344 [(.int .i64)]],out:=[(.int .i64)],F:=fun x=>g304_344 x.1 x.2.1 }
noncomputable def l304_344:List (Nat×Code):=loopsIn (Tryz.f304.body.getD .skip) 0
theorem w304_344_L0:LW t304_344 a304_344 l304_344 0 0 h304_344_L0 e304_344_L0 s304_344_L0:=fun x=>by kernel_rfl
theorem o304_344:Holds Tryz.prog 304 c304_344:=fh t304_344 a304_344 Tryz.func304 [(0,lg l304_344 0)] ⟨fun x d h=>(w304_344_L0 x).trans h,trivial⟩ (tc o344 tn)
noncomputable def t305:Tbl:=[(304,[344],c304_344)]
noncomputable def g305 (x0:Ta14) (x1:Int):Option ((Int×Unit)×Unit) :=
(g304_344 x0 (x1,())).bind fun y1=>some ((y1.1.1,()),())
noncomputable def c305:Ctr:={ ins:=[.v Ty145,.v (.int .i64)],out:=[(.int .i64)],F:=fun x=>g305 x.1 x.2.1 }
theorem o305:Holds Tryz.prog 305 c305:=f0 t305 Tryz.func305 (tc o304_344 tn)
noncomputable def t235:Tbl:=[(305,[],c305)]
noncomputable def g235 (x0:Ta143) (x1:Int):Option ((Bool×Unit)×Unit) :=
(g305 x0.2.2.2.1 x1).bind fun y1=>bif (decide (y1.1.1 ≥ (0:Int))) then bif (decide (0≤y1.1.1)&&decide (y1.1.1 < (x0.2.2.2.1.len:Int))) then some ((((andOf .i64 (L.get x0.2.2.2.1 y1.1.1.toNat).2.2.1 (4:Int)) != (0:Int)),()),()) else none else some ((false,()),())
noncomputable def c235:Ctr:={ ins:=[.v Ty268,.v (.int .i64)],out:=[.bool],F:=fun x=>g235 x.1 x.2.1 }
theorem o235:Holds Tryz.prog 235 c235:=f0 t235 Tryz.func235 (tc o305 tn)
noncomputable def t140:Tbl:=[(228,[],c228),(229,[],c229),(230,[],c230),(136,[],c136),(231,[],c231),(232,[233],c232_233),(235,[],c235)]
abbrev h140_L2:Shape:={ slots:=[(1,.bx 1 0),(3,.ms 50003),(5,.bx 5 0),(9,.v Ty276),(10,.v (.int .i64)),(11,.v (.int .i64)),(42,.v Ty145),(43,.v (.int .i64)),(44,.v (.int .i64))],boxes:=[(1,.typ Ty379),(50003,.row Ty135),(5,.typ Ty268)] }
abbrev e140_L2:List (XT×Shape):=[(.ret,{ slots:=[(2,.v .bool)],boxes:=[] }),(.exit 2,{ slots:=[(1,.bx 1 0),(3,.ms 50003),(5,.bx 5 0),(9,.v Ty276),(10,.v (.int .i64)),(11,.v (.int .i64))],boxes:=[(1,.typ Ty379),(50003,.row Ty135),(5,.typ Ty268)] })]
noncomputable def q140_L2 (t9:Ta149) (t10:Int) (t11:Int) (t42:Ta14) (t43:Int) (t44:Int) (b1:Ta339) (r50003:Ta14) (b5:Ta143):Option (((Unit×(Unit×(Unit×(Ta149×(Int×Ta104)))))×Ta360)⊕(((Bool×Unit)×Unit)⊕(((Unit×(Unit×(Unit×Ta178)))×Ta360)⊕Empty))) :=
bif (decide (t44 < t43)) then bif (decide (0≤t44)&&decide (t44 < (t42.len:Int))) then bif (!(f231 (L.get t42 t44.toNat))) then some (.inr (.inl ((false,()),()))) else bif (decide ((wI ((L.get t42 t44.toNat).1 + (L.get t42 t44.toNat).2.1)) > b1.1)) then some (.inr (.inl ((false,()),()))) else (g232_233 r50003 ((L.get t42 t44.toNat),())).bind fun y3=>bif y3.1.1 then some (.inr (.inl ((false,()),()))) else bif (decide (r50003.len + (L.of (Ty.zero Ty135) [(L.get t42 t44.toNat)]).len≤most)) then some (.inl (((),((),((),(t9,(t10,(t11,(t42,(t43,((wI (t44 + (1:Int))),()))))))))),(b1,((L.app r50003 (L.of (Ty.zero Ty135) [(L.get t42 t44.toNat)])),(b5,()))))) else none else none else some (.inr (.inr (.inl (((),((),((),(t9,(t10,(t11,())))))),(b1,(r50003,(b5,())))))))
noncomputable def s140_L2 (x:((Unit×(Unit×(Unit×(Ta149×(Int×Ta104)))))×Ta360)):=q140_L2 x.1.2.2.2.1 x.1.2.2.2.2.1 x.1.2.2.2.2.2.1 x.1.2.2.2.2.2.2.1 x.1.2.2.2.2.2.2.2.1 x.1.2.2.2.2.2.2.2.2.1 x.2.1 x.2.2.1 x.2.2.2.1
abbrev h140_L0:Shape:={ slots:=[(1,.bx 1 0),(3,.row Ty135 50003),(9,.v Ty276),(10,.v (.int .i64)),(11,.v (.int .i64))],boxes:=[(1,.typ Ty379)] }
abbrev e140_L0:List (XT×Shape):=[(.ret,{ slots:=[(2,.v .bool)],boxes:=[] }),(.exit 0,{ slots:=[],boxes:=[] })]
noncomputable def q140_L0 (t3:Ta14) (t9:Ta149) (t10:Int) (t11:Int) (b1:Ta339):Option (((Unit×(Ta14×Ta178))×Ta344)⊕(((Bool×Unit)×Unit)⊕((Unit×Unit)⊕Empty))) :=
bif (decide (t11 < t10)) then bif (decide (0≤t11)&&decide (t11 < (t9.len:Int))) then (g228 (L.get t9 t11.toNat).1).bind fun y1=>bif (!y1.1.1) then some (.inr (.inl ((false,()),()))) else (g229 b1 (L.get t9 t11.toNat).1).bind fun y2=>bif (decide (y2.1.1 < t11)) then some (.inr (.inl ((false,()),()))) else bif (!(f230 (L.get t9 t11.toNat).2.2.1)) then some (.inr (.inl ((false,()),()))) else bif (!(f136 ((L.get t9 t11.toNat).2.2.2.1.len:Int) (1:Int) (4:Int))) then some (.inr (.inl ((false,()),()))) else ((fixO s140_L2 (((),((),((),(t9,(t10,(t11,((L.get t9 t11.toNat).2.2.2.1,(((L.get t9 t11.toNat).2.2.2.1.len:Int),((0:Int),()))))))))),(b1,(t3,((L.get t9 t11.toNat),()))))).bind fun d6=>match d6 with | .inl y4=>some (.inr (.inl y4)) | .inr (.inl y4)=>bif ((Int.tmod y4.2.2.2.1.2.1 (4:Int)) != (0:Int)) then some (.inr (.inl ((false,()),()))) else (g235 y4.2.2.2.1 y4.2.2.2.1.2.1).bind fun y5=>bif (!y5.1.1) then some (.inr (.inl ((false,()),()))) else some (.inl (((),(y4.2.2.1,(y4.1.2.2.2.1,(y4.1.2.2.2.2.1,((wI (y4.1.2.2.2.2.2.1 + (1:Int))),()))))),(y4.2.1,()))) | .inr (.inr e)=>nomatch e) else none else some (.inr (.inr (.inl ((),()))))
noncomputable def s140_L0 (x:((Unit×(Ta14×Ta178))×Ta344)):=q140_L0 x.1.2.1 x.1.2.2.1 x.1.2.2.2.1 x.1.2.2.2.2.1 x.2.1
noncomputable def a140:Nat→Option LoopAnn:=fun c=>bif Nat.beq c 2 then some (.fix h140_L2 e140_L2 s140_L2) else bif Nat.beq c 0 then some (.fix h140_L0 e140_L0 s140_L0) else none
noncomputable def g140 (x0:Ta339):Option ((Bool×Unit)×Unit) :=
(fixO s140_L0 (((),((nilL Ty135),(x0.2.2.2.2.2.2.2.1,((x0.2.2.2.2.2.2.2.1.len:Int),((0:Int),()))))),(x0,()))).bind fun d8=>match d8 with | .inl y7=>some ((y7.1.1,()),()) | .inr (.inl y7)=>some ((true,()),()) | .inr (.inr e)=>nomatch e
noncomputable def c140:Ctr:={ ins:=[.v Ty379],out:=[.bool],F:=fun x=>g140 x.1 }
noncomputable def l140:List (Nat×Code):=loopsIn (Tryz.f140.body.getD .skip) 0
theorem w140_L2:LW t140 a140 l140 1 2 h140_L2 e140_L2 s140_L2:=fun x=>by kernel_rfl
theorem w140_L0:LW t140 a140 l140 0 0 h140_L0 e140_L0 s140_L0:=fun x=>by kernel_rfl
theorem o140:Holds Tryz.prog 140 c140:=fh t140 a140 Tryz.func140 [(0,lg l140 0),(2,lg l140 1)] ⟨fun x d h=>(w140_L0 x).trans h,fun x d h=>(w140_L2 x).trans h,trivial⟩ (tc o228 (tc o229 (tc o230 (tc o136 (tc o231 (tc o232_233 (tc o235 tn)))))))
noncomputable def t142:Tbl:=[(136,[],c136)]
noncomputable def g142 (x0:Int) (x1:Int):Option ((Bool×Unit)×Unit) :=
some (((!(f136 x0 (0:Int) (wI (x1 - (1:Int))))),()),())
noncomputable def f142 (x0:Int) (x1:Int):Bool :=
(!(f136 x0 (0:Int) (wI (x1 - (1:Int)))))
theorem n142 (x0:Int) (x1:Int):g142 x0 x1 = some ((f142 x0 x1,()),()):=by simp only [g142,f142,pull1]
noncomputable def c142:Ctr:={ ins:=[.v (.int .i64),.rf (.int .i64)],out:=[.bool],F:=fun x=>some ((f142 x.1 x.2.1,()),()) }
theorem o142:Holds Tryz.prog 142 c142:=f0T t142 (fun x=>g142 x.1 x.2.1) Tryz.func142 (tc o136 tn) (fun x=>n142 x.1 x.2.1)
noncomputable def t236_142:Tbl:=[(142,[],c142)]
abbrev h236_142_L0:Shape:={ slots:=[(0,.v (.sl (.int .i64))),(1,.clo 142 [(.int .i64)]),(7,.v (.int .i64)),(8,.v (.int .i64))],boxes:=[] }
abbrev e236_142_L0:List (XT×Shape):=[(.ret,{ slots:=[(4,.v (.int .i64))],boxes:=[] }),(.exit 0,{ slots:=[],boxes:=[] })]
noncomputable def q236_142_L0 (t0:(L Int)) (t1:(Int×Unit)) (t7:Int) (t8:Int):Option ((((L Int)×Ta27)×Unit)⊕(((Int×Unit)×Unit)⊕((Unit×Unit)⊕Empty))) :=
bif (decide (t8 < t7)) then bif (decide (0≤t8)&&decide (t8 < (t0.len:Int))) then bif (f142 (L.get t0 t8.toNat) t1.1) then some (.inr (.inl ((t8,()),()))) else some (.inl ((t0,(t1,(t7,((wI (t8 + (1:Int))),())))),())) else none else some (.inr (.inr (.inl ((),()))))
noncomputable def s236_142_L0 (x:(((L Int)×Ta27)×Unit)):=q236_142_L0 x.1.1 x.1.2.1 x.1.2.2.1 x.1.2.2.2.1
noncomputable def a236_142:Nat→Option LoopAnn:=fun c=>bif Nat.beq c 0 then some (.fix h236_142_L0 e236_142_L0 s236_142_L0) else none
noncomputable def g236_142 (x0:(L Int)) (x1:(Int×Unit)):Option ((Int×Unit)×Unit) :=
(fixO s236_142_L0 ((x0,(x1,((x0.len:Int),((0:Int),())))),())).bind fun d2=>match d2 with | .inl y1=>some ((y1.1.1,()),()) | .inr (.inl y1)=>some (((-1:Int),()),()) | .inr (.inr e)=>nomatch e
noncomputable def c236_142:Ctr:={ ins:=[.v (.sl (.int .i64)),.clo 142 [(.int .i64)]],out:=[(.int .i64)],F:=fun x=>g236_142 x.1 x.2.1 }
noncomputable def l236_142:List (Nat×Code):=loopsIn (Tryz.f236.body.getD .skip) 0
theorem w236_142_L0:LW t236_142 a236_142 l236_142 0 0 h236_142_L0 e236_142_L0 s236_142_L0:=fun x=>by kernel_rfl
theorem o236_142:Holds Tryz.prog 236 c236_142:=fh t236_142 a236_142 Tryz.func236 [(0,lg l236_142 0)] ⟨fun x d h=>(w236_142_L0 x).trans h,trivial⟩ (tc o142 tn)
noncomputable def t141_142:Tbl:=[(236,[142],c236_142)]
noncomputable def g141_142 (x0:(L Int)) (x1:(Int×Unit)):Option ((Bool×Unit)×Unit) :=
(g236_142 x0 x1).bind fun y1=>some (((decide (y1.1.1 ≥ (0:Int))),()),())
noncomputable def c141_142:Ctr:={ ins:=[.v (.sl (.int .i64)),.clo 142 [(.int .i64)]],out:=[.bool],F:=fun x=>g141_142 x.1 x.2.1 }
theorem o141_142:Holds Tryz.prog 141 c141_142:=f0 t141_142 Tryz.func141 (tc o236_142 tn)
noncomputable def t145:Tbl:=[(136,[],c136)]
noncomputable def g145 (x0:Ta19):Option ((Bool×Unit)×Unit) :=
bif (!(f136 x0.2.1 (0:Int) (5:Int))) then some ((false,()),()) else bif (!(f136 x0.2.2.1 (0:Int) (5:Int))) then some ((false,()),()) else bif (x0.2.1 == x0.2.2.1) then some ((false,()),()) else bif (x0.1 == (0:Int)) then bif (x0.2.2.2.1 == (0:Int)) then some ((true,()),()) else bif (x0.1 == (1:Int)) then some (((f136 x0.2.2.2.1 (1:Int) (8:Int)),()),()) else some ((false,()),()) else bif (x0.1 == (1:Int)) then some (((f136 x0.2.2.2.1 (1:Int) (8:Int)),()),()) else some ((false,()),())
noncomputable def f145 (x0:Ta19):Bool :=
bif (!(f136 x0.2.1 (0:Int) (5:Int))) then false else bif (!(f136 x0.2.2.1 (0:Int) (5:Int))) then false else bif (x0.2.1 == x0.2.2.1) then false else bif (x0.1 == (0:Int)) then bif (x0.2.2.2.1 == (0:Int)) then true else bif (x0.1 == (1:Int)) then (f136 x0.2.2.2.1 (1:Int) (8:Int)) else false else bif (x0.1 == (1:Int)) then (f136 x0.2.2.2.1 (1:Int) (8:Int)) else false
theorem n145 (x0:Ta19):g145 x0 = some ((f145 x0,()),()):=by simp only [g145,f145,pull1]
noncomputable def c145:Ctr:={ ins:=[.v Ty172],out:=[.bool],F:=fun x=>some ((f145 x.1,()),()) }
theorem o145:Holds Tryz.prog 145 c145:=f0T t145 (fun x=>g145 x.1) Tryz.func145 (tc o136 tn) (fun x=>n145 x.1)
noncomputable def t144:Tbl:=[(145,[],c145)]
noncomputable def g144 (x0:Ta19) (x1:Int):Option ((Bool×Unit)×Unit) :=
bif (!(f145 x0)) then some ((true,()),()) else bif (decide (x0.2.1 ≥ x1)) then some ((true,()),()) else some (((decide (x0.2.2.1 ≥ x1)),()),())
noncomputable def f144 (x0:Ta19) (x1:Int):Bool :=
bif (!(f145 x0)) then true else bif (decide (x0.2.1 ≥ x1)) then true else (decide (x0.2.2.1 ≥ x1))
theorem n144 (x0:Ta19) (x1:Int):g144 x0 x1 = some ((f144 x0 x1,()),()):=by simp only [g144,f144,pull1]
noncomputable def c144:Ctr:={ ins:=[.v Ty172,.rf (.int .i64)],out:=[.bool],F:=fun x=>some ((f144 x.1 x.2.1,()),()) }
theorem o144:Holds Tryz.prog 144 c144:=f0T t144 (fun x=>g144 x.1 x.2.1) Tryz.func144 (tc o145 tn) (fun x=>n144 x.1 x.2.1)
noncomputable def t237_144:Tbl:=[(144,[],c144)]
abbrev h237_144_L0:Shape:={ slots:=[(0,.v Ty177),(1,.clo 144 [(.int .i64)]),(7,.v (.int .i64)),(8,.v (.int .i64))],boxes:=[] }
abbrev e237_144_L0:List (XT×Shape):=[(.ret,{ slots:=[(4,.v (.int .i64))],boxes:=[] }),(.exit 0,{ slots:=[],boxes:=[] })]
noncomputable def q237_144_L0 (t0:Ta39) (t1:(Int×Unit)) (t7:Int) (t8:Int):Option (((Ta39×Ta27)×Unit)⊕(((Int×Unit)×Unit)⊕((Unit×Unit)⊕Empty))) :=
bif (decide (t8 < t7)) then bif (decide (0≤t8)&&decide (t8 < (t0.len:Int))) then bif (f144 (L.get t0 t8.toNat) t1.1) then some (.inr (.inl ((t8,()),()))) else some (.inl ((t0,(t1,(t7,((wI (t8 + (1:Int))),())))),())) else none else some (.inr (.inr (.inl ((),()))))
noncomputable def s237_144_L0 (x:((Ta39×Ta27)×Unit)):=q237_144_L0 x.1.1 x.1.2.1 x.1.2.2.1 x.1.2.2.2.1
noncomputable def a237_144:Nat→Option LoopAnn:=fun c=>bif Nat.beq c 0 then some (.fix h237_144_L0 e237_144_L0 s237_144_L0) else none
noncomputable def g237_144 (x0:Ta39) (x1:(Int×Unit)):Option ((Int×Unit)×Unit) :=
(fixO s237_144_L0 ((x0,(x1,((x0.len:Int),((0:Int),())))),())).bind fun d2=>match d2 with | .inl y1=>some ((y1.1.1,()),()) | .inr (.inl y1)=>some (((-1:Int),()),()) | .inr (.inr e)=>nomatch e
noncomputable def c237_144:Ctr:={ ins:=[.v Ty177,.clo 144 [(.int .i64)]],out:=[(.int .i64)],F:=fun x=>g237_144 x.1 x.2.1 }
noncomputable def l237_144:List (Nat×Code):=loopsIn (Tryz.f237.body.getD .skip) 0
theorem w237_144_L0:LW t237_144 a237_144 l237_144 0 0 h237_144_L0 e237_144_L0 s237_144_L0:=fun x=>by kernel_rfl
theorem o237_144:Holds Tryz.prog 237 c237_144:=fh t237_144 a237_144 Tryz.func237 [(0,lg l237_144 0)] ⟨fun x d h=>(w237_144_L0 x).trans h,trivial⟩ (tc o144 tn)
noncomputable def t143_144:Tbl:=[(237,[144],c237_144)]
noncomputable def g143_144 (x0:Ta39) (x1:(Int×Unit)):Option ((Bool×Unit)×Unit) :=
(g237_144 x0 x1).bind fun y1=>some (((decide (y1.1.1 ≥ (0:Int))),()),())
noncomputable def c143_144:Ctr:={ ins:=[.v Ty177,.clo 144 [(.int .i64)]],out:=[.bool],F:=fun x=>g143_144 x.1 x.2.1 }
theorem o143_144:Holds Tryz.prog 143 c143_144:=f0 t143_144 Tryz.func143 (tc o237_144 tn)
noncomputable def t238:Tbl:=[]
noncomputable def g238 (x0:Ta19):Option ((Int×Unit)×Unit) :=
some (((if x0.2.2.2.1 > (1:Int) then x0.2.2.2.1 else (1:Int)),()),())
noncomputable def f238 (x0:Ta19):Int :=
(if x0.2.2.2.1 > (1:Int) then x0.2.2.2.1 else (1:Int))
theorem n238 (x0:Ta19):g238 x0 = some ((f238 x0,()),()):=by simp only [g238,f238,pull1]
noncomputable def c238:Ctr:={ ins:=[.v Ty172],out:=[(.int .i64)],F:=fun x=>some ((f238 x.1,()),()) }
theorem o238:Holds Tryz.prog 238 c238:=f0T t238 (fun x=>g238 x.1) Tryz.func238 tn (fun x=>n238 x.1)
noncomputable def t146:Tbl:=[(238,[],c238)]
abbrev h146_L0:Shape:={ slots:=[(3,.bx 3 0),(7,.v (.int .i64)),(22,.v Ty177),(23,.v (.int .i64)),(24,.v (.int .i64))],boxes:=[(3,.typ Ty238)] }
abbrev e146_L0:List (XT×Shape):=[(.exit 0,{ slots:=[(7,.v (.int .i64))],boxes:=[] })]
noncomputable def q146_L0 (t7:Int) (t22:Ta39) (t23:Int) (t24:Int) (b3:Ta85):Option (((Unit×(Int×Ta105))×Ta113)⊕(((Int×Unit)×Unit)⊕Empty)) :=
bif (decide (t24 < t23)) then bif (decide (0≤t24)&&decide (t24 < (t22.len:Int))) then some (.inl (((),((wI (t7 + (wI (b3.1 * (f238 (L.get t22 t24.toNat)))))),(t22,(t23,((wI (t24 + (1:Int))),()))))),(b3,()))) else none else some (.inr (.inl ((t7,()),())))
noncomputable def s146_L0 (x:((Unit×(Int×Ta105))×Ta113)):=q146_L0 x.1.2.1 x.1.2.2.1 x.1.2.2.2.1 x.1.2.2.2.2.1 x.2.1
noncomputable def a146:Nat→Option LoopAnn:=fun c=>bif Nat.beq c 0 then some (.fix h146_L0 e146_L0 s146_L0) else none
noncomputable def g146 (x0:Ta85) (x1:(Int×(Int×(Int×Unit)))) (x2:Ta39):Option ((Int×Unit)×Unit) :=
(fixO s146_L0 (((),((wI ((wI ((16:Int) * x0.1)) + (wI ((wI (x1.1 * x1.2.1)) * x0.2.2.2.2.2.2.1)))),(x2,((x2.len:Int),((0:Int),()))))),(x0,()))).bind fun d2=>match d2 with | .inl y1=>some ((y1.1.1,()),()) | .inr e=>nomatch e
noncomputable def c146:Ctr:={ ins:=[.v Ty238,.v Ty135,.v Ty177],out:=[(.int .i64)],F:=fun x=>g146 x.1 x.2.1 x.2.2.1 }
noncomputable def l146:List (Nat×Code):=loopsIn (Tryz.f146.body.getD .skip) 0
theorem w146_L0:LW t146 a146 l146 0 0 h146_L0 e146_L0 s146_L0:=fun x=>by kernel_rfl
theorem o146:Holds Tryz.prog 146 c146:=fh t146 a146 Tryz.func146 [(0,lg l146 0)] ⟨fun x d h=>(w146_L0 x).trans h,trivial⟩ (tc o238 tn)
noncomputable def t239:Tbl:=[]
noncomputable def g239 (x0:Ta339) (x1:(Int×(Int×(Int×Unit)))) (x2:Int):Option ((Bool×Unit)×Unit) :=
bif (decide (x1.2.2.1 > (wI (x0.2.2.2.2.1 + x0.2.2.2.2.2.1)))) then bif (decide (x1.2.2.1≤x0.2.2.2.2.2.2.1)) then bif (decide (x1.2.1 ≥ x2)) then some (((decide (x1.2.1≤(wI (x0.2.2.2.2.2.2.1 - x1.2.2.1)))),()),()) else some ((false,()),()) else some ((false,()),()) else some ((false,()),())
noncomputable def f239 (x0:Ta339) (x1:(Int×(Int×(Int×Unit)))) (x2:Int):Bool :=
bif (decide (x1.2.2.1 > (wI (x0.2.2.2.2.1 + x0.2.2.2.2.2.1)))) then bif (decide (x1.2.2.1≤x0.2.2.2.2.2.2.1)) then bif (decide (x1.2.1 ≥ x2)) then (decide (x1.2.1≤(wI (x0.2.2.2.2.2.2.1 - x1.2.2.1)))) else false else false else false
theorem n239 (x0:Ta339) (x1:(Int×(Int×(Int×Unit)))) (x2:Int):g239 x0 x1 x2 = some ((f239 x0 x1 x2,()),()):=by simp only [g239,f239,pull1]
noncomputable def c239:Ctr:={ ins:=[.v Ty379,.v Ty135,.v (.int .i64)],out:=[.bool],F:=fun x=>some ((f239 x.1 x.2.1 x.2.2.1,()),()) }
theorem o239:Holds Tryz.prog 239 c239:=f0T t239 (fun x=>g239 x.1 x.2.1 x.2.2.1) Tryz.func239 tn (fun x=>n239 x.1 x.2.1 x.2.2.1)
noncomputable def t147:Tbl:=[(136,[],c136),(239,[],c239)]
abbrev h147_L0:Shape:={ slots:=[(1,.bx 1 0),(3,.v (.int .i64)),(7,.v Ty145),(8,.v (.int .i64)),(9,.v (.int .i64))],boxes:=[(1,.typ Ty379)] }
abbrev e147_L0:List (XT×Shape):=[(.ret,{ slots:=[(2,.v .bool)],boxes:=[] }),(.exit 0,{ slots:=[(1,.bx 1 0)],boxes:=[(1,.typ Ty379)] })]
noncomputable def q147_L0 (t3:Int) (t7:Ta14) (t8:Int) (t9:Int) (b1:Ta339):Option (((Unit×Ta104)×Ta344)⊕(((Bool×Unit)×Unit)⊕(Ta348⊕Empty))) :=
bif (decide (t9 < t8)) then bif (decide (0≤t9)&&decide (t9 < (t7.len:Int))) then bif (!(f136 (L.get t7 t9.toNat).1 (0:Int) (wI ((b1.2.2.2.2.2.2.2.1.len:Int) - (1:Int))))) then some (.inr (.inl ((false,()),()))) else bif (!(f239 b1 (L.get t7 t9.toNat) t3)) then some (.inr (.inl ((false,()),()))) else some (.inl (((),((wI ((L.get t7 t9.toNat).2.1 + (L.get t7 t9.toNat).2.2.1)),(t7,(t8,((wI (t9 + (1:Int))),()))))),(b1,()))) else none else some (.inr (.inr (.inl (((),()),(b1,())))))
noncomputable def s147_L0 (x:((Unit×Ta104)×Ta344)):=q147_L0 x.1.2.1 x.1.2.2.1 x.1.2.2.2.1 x.1.2.2.2.2.1 x.2.1
noncomputable def a147:Nat→Option LoopAnn:=fun c=>bif Nat.beq c 0 then some (.fix h147_L0 e147_L0 s147_L0) else none
noncomputable def g147 (x0:Ta339):Option ((Bool×Unit)×Unit) :=
(fixO s147_L0 (((),((0:Int),(x0.2.2.2.2.2.2.2.2.2.2.1,((x0.2.2.2.2.2.2.2.2.2.2.1.len:Int),((0:Int),()))))),(x0,()))).bind fun d2=>match d2 with | .inl y1=>some ((y1.1.1,()),()) | .inr (.inl y1)=>some (((f136 (y1.2.1.2.2.2.2.2.2.2.2.2.2.1.len:Int) (1:Int) (16:Int)),()),()) | .inr (.inr e)=>nomatch e
noncomputable def c147:Ctr:={ ins:=[.v Ty379],out:=[.bool],F:=fun x=>g147 x.1 }
noncomputable def l147:List (Nat×Code):=loopsIn (Tryz.f147.body.getD .skip) 0
theorem w147_L0:LW t147 a147 l147 0 0 h147_L0 e147_L0 s147_L0:=fun x=>by kernel_rfl
theorem o147:Holds Tryz.prog 147 c147:=fh t147 a147 Tryz.func147 [(0,lg l147 0)] ⟨fun x d h=>(w147_L0 x).trans h,trivial⟩ (tc o136 (tc o239 tn))
noncomputable def t54:Tbl:=[(134,[],c134),(135,[],c135),(136,[],c136),(137,[],c137),(138,[],c138),(139,[],c139),(140,[],c140),(141,[142],c141_142),(143,[144],c143_144),(146,[],c146),(147,[],c147)]
noncomputable def g54 (x0:Ta339):Option ((Bool×Unit)×Unit) :=
bif (!(f134 x0.1)) then some ((false,()),()) else bif (!(f135 x0.2.1)) then some ((false,()),()) else bif (!(f136 x0.2.2.1 (1:Int) (8:Int))) then some ((false,()),()) else bif (!(f137 x0.2.2.2.1)) then some ((false,()),()) else bif (!(f138 x0.2.2.2.2.1)) then some ((false,()),()) else bif (!(f138 x0.2.2.2.2.2.1)) then some ((false,()),()) else bif (!(f138 x0.2.2.2.2.2.2.1)) then some ((false,()),()) else (g139 x0.2.2.2.1).bind fun y1=>bif (decide (x0.2.2.2.2.2.1 < y1.1.1)) then some ((false,()),()) else bif (!(f136 (x0.2.2.2.2.2.2.2.1.len:Int) (1:Int) (6:Int))) then some ((false,()),()) else (g140 x0).bind fun y2=>bif (!y2.1.1) then some ((false,()),()) else bif (decide ((x0.2.2.2.2.2.2.2.2.1.len:Int) > (8:Int))) then some ((false,()),()) else (g141_142 x0.2.2.2.2.2.2.2.2.1 ((x0.2.2.2.2.2.2.2.1.len:Int),())).bind fun y3=>bif y3.1.1 then some ((false,()),()) else bif (decide ((x0.2.2.2.2.2.2.2.2.2.1.len:Int) > (8:Int))) then some ((false,()),()) else (g143_144 x0.2.2.2.2.2.2.2.2.2.1 ((x0.2.2.2.2.2.2.2.1.len:Int),())).bind fun y4=>bif y4.1.1 then some ((false,()),()) else (g146 x0.2.2.2.1 x0.2.1 x0.2.2.2.2.2.2.2.2.2.1).bind fun y5=>bif (decide (x0.2.2.2.2.1 < y5.1.1)) then some ((false,()),()) else (g147 x0).bind fun y6=>some ((y6.1.1,()),())
noncomputable def c54:Ctr:={ ins:=[.v Ty379],out:=[.bool],F:=fun x=>g54 x.1 }
theorem o54:Holds Tryz.prog 54 c54:=f0 t54 Tryz.func54 (tc o134 (tc o135 (tc o136 (tc o137 (tc o138 (tc o139 (tc o140 (tc o141_142 (tc o143_144 (tc o146 (tc o147 tn)))))))))))
noncomputable def t55:Tbl:=[(136,[],c136)]
abbrev h55_L0:Shape:={ slots:=[(2,.v (.sl (.sl (.int .u8)))),(33,.v Ty145),(34,.v (.int .i64)),(35,.v (.int .i64))],boxes:=[] }
abbrev e55_L0:List (XT×Shape):=[(.ret,{ slots:=[(6,.v .bool)],boxes:=[] }),(.exit 0,{ slots:=[],boxes:=[] })]
noncomputable def q55_L0 (t2:(L (L Int))) (t33:Ta14) (t34:Int) (t35:Int):Option ((((L (L Int))×Ta82)×Unit)⊕(((Bool×Unit)×Unit)⊕((Unit×Unit)⊕Empty))) :=
bif (decide (t35 < t34)) then bif (decide (0≤t35)&&decide (t35 < (t33.len:Int))) then bif (decide (0≤t35)&&decide (t35 < (t2.len:Int))) then bif (((L.get t2 t35.toNat).len:Int) != (L.get t33 t35.toNat).2.1) then some (.inr (.inl ((false,()),()))) else some (.inl ((t2,(t33,(t34,((wI (t35 + (1:Int))),())))),())) else none else none else some (.inr (.inr (.inl ((),()))))
noncomputable def s55_L0 (x:(((L (L Int))×Ta82)×Unit)):=q55_L0 x.1.1 x.1.2.1 x.1.2.2.1 x.1.2.2.2.1
noncomputable def a55:Nat→Option LoopAnn:=fun c=>bif Nat.beq c 0 then some (.fix h55_L0 e55_L0 s55_L0) else none
noncomputable def g55 (x0:Ta339) (x1:Int) (x2:(L (L Int))):Option ((Bool×Unit)×Unit) :=
bif (!(f136 x1 (0:Int) (wI ((x0.2.2.2.2.2.2.2.1.len:Int) - (1:Int))))) then some ((false,()),()) else bif (decide (0≤x1)&&decide (x1 < (x0.2.2.2.2.2.2.2.1.len:Int))) then bif ((x2.len:Int) != ((L.get x0.2.2.2.2.2.2.2.1 x1.toNat).2.2.2.1.len:Int)) then some ((false,()),()) else bif (decide (0≤x1)&&decide (x1 < (x0.2.2.2.2.2.2.2.1.len:Int))) then ((fixO s55_L0 ((x2,((L.get x0.2.2.2.2.2.2.2.1 x1.toNat).2.2.2.1,(((L.get x0.2.2.2.2.2.2.2.1 x1.toNat).2.2.2.1.len:Int),((0:Int),())))),())).bind fun d2=>match d2 with | .inl y1=>some ((y1.1.1,()),()) | .inr (.inl y1)=>some ((true,()),()) | .inr (.inr e)=>nomatch e) else none else none
noncomputable def c55:Ctr:={ ins:=[.v Ty379,.v (.int .i64),.v (.sl (.sl (.int .u8)))],out:=[.bool],F:=fun x=>g55 x.1 x.2.1 x.2.2.1 }
noncomputable def l55:List (Nat×Code):=loopsIn (Tryz.f55.body.getD .skip) 0
theorem w55_L0:LW t55 a55 l55 0 0 h55_L0 e55_L0 s55_L0:=fun x=>by kernel_rfl
theorem o55:Holds Tryz.prog 55 c55:=fh t55 a55 Tryz.func55 [(0,lg l55 0)] ⟨fun x d h=>(w55_L0 x).trans h,trivial⟩ (tc o136 tn)
noncomputable def t311:Tbl:=[(234,[],c234)]
noncomputable def g311 (x0:(Int×(Int×(Int×Unit)))) (x1:(Int×(Int×(Int×Unit)))):Option ((Bool×Unit)×Unit) :=
some (((!(f234 x0 x1)),()),())
noncomputable def f311 (x0:(Int×(Int×(Int×Unit)))) (x1:(Int×(Int×(Int×Unit)))):Bool :=
(!(f234 x0 x1))
theorem n311 (x0:(Int×(Int×(Int×Unit)))) (x1:(Int×(Int×(Int×Unit)))):g311 x0 x1 = some ((f311 x0 x1,()),()):=by simp only [g311,f311,pull1]
noncomputable def c311:Ctr:={ ins:=[.v Ty135,.rf Ty135],out:=[.bool],F:=fun x=>some ((f311 x.1 x.2.1,()),()) }
theorem o311:Holds Tryz.prog 311 c311:=f0T t311 (fun x=>g311 x.1 x.2.1) Tryz.func311 (tc o234 tn) (fun x=>n311 x.1 x.2.1)
noncomputable def t304_311:Tbl:=[(311,[],c311)]
abbrev h304_311_L0:Shape:={ slots:=[(0,.v Ty145),(1,.clo 311 [Ty135]),(7,.v (.int .i64)),(8,.v (.int .i64))],boxes:=[] }
abbrev e304_311_L0:List (XT×Shape):=[(.ret,{ slots:=[(4,.v (.int .i64))],boxes:=[] }),(.exit 0,{ slots:=[],boxes:=[] })]
noncomputable def q304_311_L0 (t0:Ta14) (t1:Ta25) (t7:Int) (t8:Int):Option (Ta170⊕(((Int×Unit)×Unit)⊕((Unit×Unit)⊕Empty))) :=
bif (decide (t8 < t7)) then bif (decide (0≤t8)&&decide (t8 < (t0.len:Int))) then bif (f311 (L.get t0 t8.toNat) t1.1) then some (.inr (.inl ((t8,()),()))) else some (.inl ((t0,(t1,(t7,((wI (t8 + (1:Int))),())))),())) else none else some (.inr (.inr (.inl ((),()))))
noncomputable def s304_311_L0 (x:Ta170):=q304_311_L0 x.1.1 x.1.2.1 x.1.2.2.1 x.1.2.2.2.1
noncomputable def a304_311:Nat→Option LoopAnn:=fun c=>bif Nat.beq c 0 then some (.fix h304_311_L0 e304_311_L0 s304_311_L0) else none
noncomputable def g304_311 (x0:Ta14) (x1:Ta25):Option ((Int×Unit)×Unit) :=
(fixO s304_311_L0 ((x0,(x1,((x0.len:Int),((0:Int),())))),())).bind fun d2=>match d2 with | .inl y1=>some ((y1.1.1,()),()) | .inr (.inl y1)=>some (((-1:Int),()),()) | .inr (.inr e)=>nomatch e
noncomputable def c304_311:Ctr:={ ins:=[.v Ty145,.clo 311 [Ty135]],out:=[(.int .i64)],F:=fun x=>g304_311 x.1 x.2.1 }
noncomputable def l304_311:List (Nat×Code):=loopsIn (Tryz.f304.body.getD .skip) 0
theorem w304_311_L0:LW t304_311 a304_311 l304_311 0 0 h304_311_L0 e304_311_L0 s304_311_L0:=fun x=>by kernel_rfl
theorem o304_311:Holds Tryz.prog 304 c304_311:=fh t304_311 a304_311 Tryz.func304 [(0,lg l304_311 0)] ⟨fun x d h=>(w304_311_L0 x).trans h,trivial⟩ (tc o311 tn)
noncomputable def t232_311:Tbl:=[(304,[311],c304_311)]
noncomputable def g232_311 (x0:Ta14) (x1:Ta25):Option ((Bool×Unit)×Unit) :=
(g304_311 x0 x1).bind fun y1=>some (((decide (y1.1.1 ≥ (0:Int))),()),())
noncomputable def c232_311:Ctr:={ ins:=[.v Ty145,.clo 311 [Ty135]],out:=[.bool],F:=fun x=>g232_311 x.1 x.2.1 }
theorem o232_311:Holds Tryz.prog 232 c232_311:=f0 t232_311 Tryz.func232 (tc o304_311 tn)
noncomputable def t252:Tbl:=[(231,[],c231),(232,[311],c232_311)]
abbrev h252_L0:Shape:={ slots:=[(0,.v Ty145),(8,.v Ty145),(9,.v (.int .i64)),(10,.v (.int .i64))],boxes:=[] }
abbrev e252_L0:List (XT×Shape):=[(.ret,{ slots:=[(2,.v .bool)],boxes:=[] }),(.exit 0,{ slots:=[],boxes:=[] })]
noncomputable def q252_L0 (t0:Ta14) (t8:Ta14) (t9:Int) (t10:Int):Option (((Ta14×Ta82)×Unit)⊕(((Bool×Unit)×Unit)⊕((Unit×Unit)⊕Empty))) :=
bif (decide (t10 < t9)) then bif (decide (0≤t10)&&decide (t10 < (t8.len:Int))) then bif (!(f231 (L.get t8 t10.toNat))) then some (.inr (.inl ((false,()),()))) else bif (decide (0≤(0:Int))&&(decide ((0:Int)≤t10)&&decide (t10≤(t0.len:Int)))) then (g232_311 (L.cut t0 (0:Int).toNat t10.toNat) ((L.get t8 t10.toNat),())).bind fun y1=>bif y1.1.1 then some (.inr (.inl ((false,()),()))) else some (.inl ((t0,(t8,(t9,((wI (t10 + (1:Int))),())))),())) else none else none else some (.inr (.inr (.inl ((),()))))
noncomputable def s252_L0 (x:((Ta14×Ta82)×Unit)):=q252_L0 x.1.1 x.1.2.1 x.1.2.2.1 x.1.2.2.2.1
noncomputable def a252:Nat→Option LoopAnn:=fun c=>bif Nat.beq c 0 then some (.fix h252_L0 e252_L0 s252_L0) else none
noncomputable def g252 (x0:Ta14):Option ((Bool×Unit)×Unit) :=
bif (decide ((x0.len:Int) > (4:Int))) then some ((false,()),()) else (fixO s252_L0 ((x0,(x0,((x0.len:Int),((0:Int),())))),())).bind fun d3=>match d3 with | .inl y2=>some ((y2.1.1,()),()) | .inr (.inl y2)=>some ((true,()),()) | .inr (.inr e)=>nomatch e
noncomputable def c252:Ctr:={ ins:=[.v Ty145],out:=[.bool],F:=fun x=>g252 x.1 }
noncomputable def l252:List (Nat×Code):=loopsIn (Tryz.f252.body.getD .skip) 0
theorem w252_L0:LW t252 a252 l252 0 0 h252_L0 e252_L0 s252_L0:=fun x=>by kernel_rfl
theorem o252:Holds Tryz.prog 252 c252:=fh t252 a252 Tryz.func252 [(0,lg l252 0)] ⟨fun x d h=>(w252_L0 x).trans h,trivial⟩ (tc o231 (tc o232_311 tn))
noncomputable def t186:Tbl:=[(252,[],c252)]
abbrev h186_L0:Shape:={ slots:=[(3,.bx 3 0),(31,.v Ty145),(32,.v (.int .i64)),(33,.v (.int .i64))],boxes:=[(3,.typ Ty162)] }
abbrev e186_L0:List (XT×Shape):=[(.ret,{ slots:=[(4,.v .bool)],boxes:=[] }),(.exit 0,{ slots:=[],boxes:=[] })]
noncomputable def q186_L0 (t31:Ta14) (t32:Int) (t33:Int) (b3:Ta46):Option (((Unit×Ta82)×Ta71)⊕(((Bool×Unit)×Unit)⊕((Unit×Unit)⊕Empty))) :=
bif (decide (t33 < t32)) then bif (decide (0≤t33)&&decide (t33 < (t31.len:Int))) then bif (decide (0≤t33)&&decide (t33 < (b3.2.2.1.len:Int))) then bif (((L.get b3.2.2.1 t33.toNat).len:Int) != (L.get t31 t33.toNat).2.1) then some (.inr (.inl ((false,()),()))) else some (.inl (((),(t31,(t32,((wI (t33 + (1:Int))),())))),(b3,()))) else none else none else some (.inr (.inr (.inl ((),()))))
noncomputable def s186_L0 (x:((Unit×Ta82)×Ta71)):=q186_L0 x.1.2.1 x.1.2.2.1 x.1.2.2.2.1 x.2.1
noncomputable def a186:Nat→Option LoopAnn:=fun c=>bif Nat.beq c 0 then some (.fix h186_L0 e186_L0 s186_L0) else none
noncomputable def g186 (x0:Ta14) (x1:Ta46):Option ((Bool×Unit)×Unit) :=
(g252 x0).bind fun y1=>bif (!y1.1.1) then some ((false,()),()) else bif ((x1.1.len:Int) != (16:Int)) then some ((false,()),()) else bif (decide ((0:Int) < (x1.1.len:Int))) then bif ((L.get x1.1 (0:Int).toNat) != (0:Int)) then some ((false,()),()) else bif ((x1.2.2.1.len:Int) != (x0.len:Int)) then some ((false,()),()) else ((fixO s186_L0 (((),(x0,((x0.len:Int),((0:Int),())))),(x1,()))).bind fun d3=>match d3 with | .inl y2=>some ((y2.1.1,()),()) | .inr (.inl y2)=>some ((true,()),()) | .inr (.inr e)=>nomatch e) else none
noncomputable def c186:Ctr:={ ins:=[.v Ty145,.v Ty162],out:=[.bool],F:=fun x=>g186 x.1 x.2.1 }
noncomputable def l186:List (Nat×Code):=loopsIn (Tryz.f186.body.getD .skip) 0
theorem w186_L0:LW t186 a186 l186 0 0 h186_L0 e186_L0 s186_L0:=fun x=>by kernel_rfl
theorem o186:Holds Tryz.prog 186 c186:=fh t186 a186 Tryz.func186 [(0,lg l186 0)] ⟨fun x d h=>(w186_L0 x).trans h,trivial⟩ (tc o252 tn)
noncomputable def t187:Tbl:=[(136,[],c136)]
noncomputable def g187 (x0:Ta24):Option ((Bool×Unit)×Unit) :=
bif (f136 x0.1 (0:Int) (1000000000:Int)) then bif (f136 x0.2.1 (0:Int) (1000000000:Int)) then some (((f136 x0.2.2.1 (0:Int) (9:Int)),()),()) else some ((false,()),()) else some ((false,()),())
noncomputable def f187 (x0:Ta24):Bool :=
bif (f136 x0.1 (0:Int) (1000000000:Int)) then bif (f136 x0.2.1 (0:Int) (1000000000:Int)) then (f136 x0.2.2.1 (0:Int) (9:Int)) else false else false
theorem n187 (x0:Ta24):g187 x0 = some ((f187 x0,()),()):=by simp only [g187,f187,pull1]
noncomputable def c187:Ctr:={ ins:=[.v Ty159],out:=[.bool],F:=fun x=>some ((f187 x.1,()),()) }
theorem o187:Holds Tryz.prog 187 c187:=f0T t187 (fun x=>g187 x.1) Tryz.func187 (tc o136 tn) (fun x=>n187 x.1)
noncomputable def t215:Tbl:=[(136,[],c136)]
noncomputable def g215 (x0:Int):Option ((Bool×Unit)×Unit) :=
some (((f136 x0 (0:Int) (65535:Int)),()),())
noncomputable def f215 (x0:Int):Bool :=
(f136 x0 (0:Int) (65535:Int))
theorem n215 (x0:Int):g215 x0 = some ((f215 x0,()),()):=by simp only [g215,f215,pull1]
noncomputable def c215:Ctr:={ ins:=[.v (.int .i64)],out:=[.bool],F:=fun x=>some ((f215 x.1,()),()) }
theorem o215:Holds Tryz.prog 215 c215:=f0T t215 (fun x=>g215 x.1) Tryz.func215 (tc o136 tn) (fun x=>n215 x.1)
noncomputable def t282:Tbl:=[]
noncomputable def g282 (x0:(Int×(Bool×Unit))) (x1:Int):Option ((Bool×Unit)×Unit) :=
some (((x0.1 == x1),()),())
noncomputable def f282 (x0:(Int×(Bool×Unit))) (x1:Int):Bool :=
(x0.1 == x1)
theorem n282 (x0:(Int×(Bool×Unit))) (x1:Int):g282 x0 x1 = some ((f282 x0 x1,()),()):=by simp only [g282,f282,pull1]
noncomputable def c282:Ctr:={ ins:=[.v Ty61,.rf (.int .i64)],out:=[.bool],F:=fun x=>some ((f282 x.1 x.2.1,()),()) }
theorem o282:Holds Tryz.prog 282 c282:=f0T t282 (fun x=>g282 x.1 x.2.1) Tryz.func282 tn (fun x=>n282 x.1 x.2.1)
noncomputable def t281_282:Tbl:=[(282,[],c282)]
abbrev h281_282_L0:Shape:={ slots:=[(0,.v Ty80),(1,.clo 282 [(.int .i64)]),(7,.v (.int .i64)),(8,.v (.int .i64))],boxes:=[] }
abbrev e281_282_L0:List (XT×Shape):=[(.ret,{ slots:=[(4,.v (.int .i64))],boxes:=[] }),(.exit 0,{ slots:=[],boxes:=[] })]
noncomputable def q281_282_L0 (t0:(L (Int×(Bool×Unit)))) (t1:(Int×Unit)) (t7:Int) (t8:Int):Option ((((L (Int×(Bool×Unit)))×Ta27)×Unit)⊕(((Int×Unit)×Unit)⊕((Unit×Unit)⊕Empty))) :=
bif (decide (t8 < t7)) then bif (decide (0≤t8)&&decide (t8 < (t0.len:Int))) then bif (f282 (L.get t0 t8.toNat) t1.1) then some (.inr (.inl ((t8,()),()))) else some (.inl ((t0,(t1,(t7,((wI (t8 + (1:Int))),())))),())) else none else some (.inr (.inr (.inl ((),()))))
noncomputable def s281_282_L0 (x:(((L (Int×(Bool×Unit)))×Ta27)×Unit)):=q281_282_L0 x.1.1 x.1.2.1 x.1.2.2.1 x.1.2.2.2.1
noncomputable def a281_282:Nat→Option LoopAnn:=fun c=>bif Nat.beq c 0 then some (.fix h281_282_L0 e281_282_L0 s281_282_L0) else none
noncomputable def g281_282 (x0:(L (Int×(Bool×Unit)))) (x1:(Int×Unit)):Option ((Int×Unit)×Unit) :=
(fixO s281_282_L0 ((x0,(x1,((x0.len:Int),((0:Int),())))),())).bind fun d2=>match d2 with | .inl y1=>some ((y1.1.1,()),()) | .inr (.inl y1)=>some (((-1:Int),()),()) | .inr (.inr e)=>nomatch e
noncomputable def c281_282:Ctr:={ ins:=[.v Ty80,.clo 282 [(.int .i64)]],out:=[(.int .i64)],F:=fun x=>g281_282 x.1 x.2.1 }
noncomputable def l281_282:List (Nat×Code):=loopsIn (Tryz.f281.body.getD .skip) 0
theorem w281_282_L0:LW t281_282 a281_282 l281_282 0 0 h281_282_L0 e281_282_L0 s281_282_L0:=fun x=>by kernel_rfl
theorem o281_282:Holds Tryz.prog 281 c281_282:=fh t281_282 a281_282 Tryz.func281 [(0,lg l281_282 0)] ⟨fun x d h=>(w281_282_L0 x).trans h,trivial⟩ (tc o282 tn)
noncomputable def t216:Tbl:=[(281,[282],c281_282)]
noncomputable def g216 (x0:(L (Int×(Bool×Unit)))) (x1:Int):Option ((Int×Unit)×Unit) :=
(g281_282 x0 (x1,())).bind fun y1=>some ((y1.1.1,()),())
noncomputable def c216:Ctr:={ ins:=[.v Ty80,.v (.int .i64)],out:=[(.int .i64)],F:=fun x=>g216 x.1 x.2.1 }
theorem o216:Holds Tryz.prog 216 c216:=f0 t216 Tryz.func216 (tc o281_282 tn)
noncomputable def t124:Tbl:=[(135,[],c135),(215,[],c215),(216,[],c216)]
abbrev h124_L2:Shape:={ slots:=[(1,.bx 1 0),(4,.v Ty80),(21,.v Ty101),(22,.v (.int .i64)),(23,.v (.int .i64)),(33,.v Ty80),(34,.v (.int .i64)),(35,.v (.int .i64))],boxes:=[(1,.typ Ty234)] }
abbrev e124_L2:List (XT×Shape):=[(.ret,{ slots:=[(2,.v .bool)],boxes:=[] }),(.exit 2,{ slots:=[(1,.bx 1 0),(21,.v Ty101),(22,.v (.int .i64)),(23,.v (.int .i64))],boxes:=[(1,.typ Ty234)] })]
noncomputable def q124_L2 (t4:(L (Int×(Bool×Unit)))) (t21:Ta7) (t22:Int) (t23:Int) (t33:(L (Int×(Bool×Unit)))) (t34:Int) (t35:Int) (b1:Ta122):Option (((Unit×((L (Int×(Bool×Unit)))×(Ta7×(Int×Ta88))))×Ta134)⊕(((Bool×Unit)×Unit)⊕(Ta210⊕Empty))) :=
bif (decide (t35 < t34)) then bif (decide (0≤t35)&&decide (t35 < (t33.len:Int))) then bif (!(f215 (L.get t33 t35.toNat).1)) then some (.inr (.inl ((false,()),()))) else (g216 t4 (L.get t33 t35.toNat).1).bind fun y1=>bif (decide (y1.1.1 < t35)) then some (.inr (.inl ((false,()),()))) else some (.inl (((),(t4,(t21,(t22,(t23,(t33,(t34,((wI (t35 + (1:Int))),())))))))),(b1,()))) else none else some (.inr (.inr (.inl (((),(t21,(t22,(t23,())))),(b1,())))))
noncomputable def s124_L2 (x:((Unit×((L (Int×(Bool×Unit)))×(Ta7×(Int×Ta88))))×Ta134)):=q124_L2 x.1.2.1 x.1.2.2.1 x.1.2.2.2.1 x.1.2.2.2.2.1 x.1.2.2.2.2.2.1 x.1.2.2.2.2.2.2.1 x.1.2.2.2.2.2.2.2.1 x.2.1
abbrev h124_L0:Shape:={ slots:=[(1,.bx 1 0),(21,.v Ty101),(22,.v (.int .i64)),(23,.v (.int .i64))],boxes:=[(1,.typ Ty234)] }
abbrev e124_L0:List (XT×Shape):=[(.ret,{ slots:=[(2,.v .bool)],boxes:=[] }),(.exit 0,{ slots:=[],boxes:=[] })]
noncomputable def q124_L0 (t21:Ta7) (t22:Int) (t23:Int) (b1:Ta122):Option (Ta210⊕(((Bool×Unit)×Unit)⊕((Unit×Unit)⊕Empty))) :=
bif (decide (t23 < t22)) then bif (decide (0≤t23)&&decide (t23 < (t21.len:Int))) then bif (decide (((L.get t21 t23.toNat).len:Int) > b1.1.2.1)) then some (.inr (.inl ((false,()),()))) else ((fixO s124_L2 (((),((L.get t21 t23.toNat),(t21,(t22,(t23,((L.get t21 t23.toNat),(((L.get t21 t23.toNat).len:Int),((0:Int),())))))))),(b1,()))).bind fun d3=>match d3 with | .inl y2=>some (.inr (.inl y2)) | .inr (.inl y2)=>some (.inl (((),(y2.1.2.1,(y2.1.2.2.1,((wI (y2.1.2.2.2.1 + (1:Int))),())))),y2.2)) | .inr (.inr e)=>nomatch e) else none else some (.inr (.inr (.inl ((),()))))
noncomputable def s124_L0 (x:Ta210):=q124_L0 x.1.2.1 x.1.2.2.1 x.1.2.2.2.1 x.2.1
noncomputable def a124:Nat→Option LoopAnn:=fun c=>bif Nat.beq c 2 then some (.fix h124_L2 e124_L2 s124_L2) else bif Nat.beq c 0 then some (.fix h124_L0 e124_L0 s124_L0) else none
noncomputable def g124 (x0:Ta122):Option ((Bool×Unit)×Unit) :=
bif (!(f135 x0.1)) then some ((false,()),()) else bif ((x0.2.1.len:Int) != x0.1.1) then some ((false,()),()) else (fixO s124_L0 (((),(x0.2.1,((x0.2.1.len:Int),((0:Int),())))),(x0,()))).bind fun d5=>match d5 with | .inl y4=>some ((y4.1.1,()),()) | .inr (.inl y4)=>some ((true,()),()) | .inr (.inr e)=>nomatch e
noncomputable def c124:Ctr:={ ins:=[.v Ty234],out:=[.bool],F:=fun x=>g124 x.1 }
noncomputable def l124:List (Nat×Code):=loopsIn (Tryz.f124.body.getD .skip) 0
theorem w124_L2:LW t124 a124 l124 1 2 h124_L2 e124_L2 s124_L2:=fun x=>by kernel_rfl
theorem w124_L0:LW t124 a124 l124 0 0 h124_L0 e124_L0 s124_L0:=fun x=>by kernel_rfl
theorem o124:Holds Tryz.prog 124 c124:=fh t124 a124 Tryz.func124 [(0,lg l124 0),(2,lg l124 1)] ⟨fun x d h=>(w124_L0 x).trans h,fun x d h=>(w124_L2 x).trans h,trivial⟩ (tc o135 (tc o215 (tc o216 tn)))
noncomputable def t312:Tbl:=[]
abbrev h312_L0:Shape:={ slots:=[(0,.v (.sl (.int .i64))),(1,.v (.int .i64)),(7,.v (.int .i64)),(8,.v (.int .i64))],boxes:=[] }
abbrev e312_L0:List (XT×Shape):=[(.ret,{ slots:=[(4,.v (.int .i64))],boxes:=[] }),(.exit 0,{ slots:=[],boxes:=[] })]
noncomputable def q312_L0 (t0:(L Int)) (t1:Int) (t7:Int) (t8:Int):Option ((((L Int)×(Int×(Int×(Int×Unit))))×Unit)⊕(((Int×Unit)×Unit)⊕((Unit×Unit)⊕Empty))) :=
bif (decide (t8 < t7)) then bif (decide (0≤t8)&&decide (t8 < (t0.len:Int))) then bif (t1 == (L.get t0 t8.toNat)) then some (.inr (.inl ((t8,()),()))) else some (.inl ((t0,(t1,(t7,((wI (t8 + (1:Int))),())))),())) else none else some (.inr (.inr (.inl ((),()))))
noncomputable def s312_L0 (x:(((L Int)×(Int×(Int×(Int×Unit))))×Unit)):=q312_L0 x.1.1 x.1.2.1 x.1.2.2.1 x.1.2.2.2.1
noncomputable def a312:Nat→Option LoopAnn:=fun c=>bif Nat.beq c 0 then some (.fix h312_L0 e312_L0 s312_L0) else none
noncomputable def g312 (x0:(L Int)) (x1:Int):Option ((Int×Unit)×Unit) :=
(fixO s312_L0 ((x0,(x1,((x0.len:Int),((0:Int),())))),())).bind fun d2=>match d2 with | .inl y1=>some ((y1.1.1,()),()) | .inr (.inl y1)=>some (((-1:Int),()),()) | .inr (.inr e)=>nomatch e
noncomputable def c312:Ctr:={ ins:=[.v (.sl (.int .i64)),.v (.int .i64)],out:=[(.int .i64)],F:=fun x=>g312 x.1 x.2.1 }
noncomputable def l312:List (Nat×Code):=loopsIn (Tryz.f312.body.getD .skip) 0
theorem w312_L0:LW t312 a312 l312 0 0 h312_L0 e312_L0 s312_L0:=fun x=>by kernel_rfl
theorem o312:Holds Tryz.prog 312 c312:=fh t312 a312 Tryz.func312 [(0,lg l312 0)] ⟨fun x d h=>(w312_L0 x).trans h,trivial⟩ tn
noncomputable def t253:Tbl:=[(312,[],c312)]
noncomputable def g253 (x0:(L Int)) (x1:Int):Option ((Bool×Unit)×Unit) :=
(g312 x0 x1).bind fun y1=>some (((decide (y1.1.1 ≥ (0:Int))),()),())
noncomputable def c253:Ctr:={ ins:=[.v (.sl (.int .i64)),.v (.int .i64)],out:=[.bool],F:=fun x=>g253 x.1 x.2.1 }
theorem o253:Holds Tryz.prog 253 c253:=f0 t253 Tryz.func253 (tc o312 tn)
noncomputable def t188:Tbl:=[(136,[],c136),(253,[],c253)]
abbrev h188_L0:Shape:={ slots:=[(1,.bx 1 0),(18,.v (.sl (.int .i64))),(19,.v (.int .i64)),(20,.v (.int .i64))],boxes:=[(1,.typ Ty103)] }
abbrev e188_L0:List (XT×Shape):=[(.ret,{ slots:=[(2,.v .bool)],boxes:=[] }),(.exit 0,{ slots:=[],boxes:=[] })]
noncomputable def q188_L0 (t18:(L Int)) (t19:Int) (t20:Int) (b1:(Int×((L Int)×Unit))):Option (((Unit×Ta15)×Ta17)⊕(((Bool×Unit)×Unit)⊕((Unit×Unit)⊕Empty))) :=
bif (decide (t20 < t19)) then bif (decide (0≤t20)&&decide (t20 < (t18.len:Int))) then bif (!(f136 (L.get t18 t20.toNat) (0:Int) (1023:Int))) then some (.inr (.inl ((false,()),()))) else bif (decide (0≤(0:Int))&&(decide ((0:Int)≤t20)&&decide (t20≤(b1.2.1.len:Int)))) then (g253 (L.cut b1.2.1 (0:Int).toNat t20.toNat) (L.get t18 t20.toNat)).bind fun y1=>bif y1.1.1 then some (.inr (.inl ((false,()),()))) else some (.inl (((),(t18,(t19,((wI (t20 + (1:Int))),())))),(b1,()))) else none else none else some (.inr (.inr (.inl ((),()))))
noncomputable def s188_L0 (x:((Unit×Ta15)×Ta17)):=q188_L0 x.1.2.1 x.1.2.2.1 x.1.2.2.2.1 x.2.1
noncomputable def a188:Nat→Option LoopAnn:=fun c=>bif Nat.beq c 0 then some (.fix h188_L0 e188_L0 s188_L0) else none
noncomputable def g188 (x0:(Int×((L Int)×Unit))):Option ((Bool×Unit)×Unit) :=
bif (!(f136 x0.1 (1:Int) (8:Int))) then some ((false,()),()) else bif (decide ((x0.2.1.len:Int) > x0.1)) then some ((false,()),()) else (fixO s188_L0 (((),(x0.2.1,((x0.2.1.len:Int),((0:Int),())))),(x0,()))).bind fun d3=>match d3 with | .inl y2=>some ((y2.1.1,()),()) | .inr (.inl y2)=>some ((true,()),()) | .inr (.inr e)=>nomatch e
noncomputable def c188:Ctr:={ ins:=[.v Ty103],out:=[.bool],F:=fun x=>g188 x.1 }
noncomputable def l188:List (Nat×Code):=loopsIn (Tryz.f188.body.getD .skip) 0
theorem w188_L0:LW t188 a188 l188 0 0 h188_L0 e188_L0 s188_L0:=fun x=>by kernel_rfl
theorem o188:Holds Tryz.prog 188 c188:=fh t188 a188 Tryz.func188 [(0,lg l188 0)] ⟨fun x d h=>(w188_L0 x).trans h,trivial⟩ (tc o136 (tc o253 tn))
noncomputable def t254:Tbl:=[(136,[],c136)]
noncomputable def g254 (x0:Ta339) (x1:Int) (x2:Int):Option ((Bool×Unit)×Unit) :=
bif (f136 x2 (0:Int) (wI ((x0.2.2.2.2.2.2.2.2.2.1.len:Int) - (1:Int)))) then bif (decide (0≤x2)&&decide (x2 < (x0.2.2.2.2.2.2.2.2.2.1.len:Int))) then some ((((L.get x0.2.2.2.2.2.2.2.2.2.1 x2.toNat).2.1 == x1),()),()) else none else some ((false,()),())
noncomputable def c254:Ctr:={ ins:=[.v Ty379,.v (.int .i64),.v (.int .i64)],out:=[.bool],F:=fun x=>g254 x.1 x.2.1 x.2.2.1 }
theorem o254:Holds Tryz.prog 254 c254:=f0 t254 Tryz.func254 (tc o136 tn)
noncomputable def t255:Tbl:=[(145,[],c145),(238,[],c238),(136,[],c136)]
noncomputable def g255 (x0:Ta19) (x1:(Int×((L Int)×Unit))):Option ((Bool×Unit)×Unit) :=
bif (!(f145 x0)) then some ((false,()),()) else bif (decide ((x1.2.1.len:Int) > (f238 x0))) then some ((false,()),()) else bif (f136 x1.1 (0:Int) x0.2.2.2.1) then bif (x0.1 == (0:Int)) then some ((true,()),()) else some (((decide (x1.1≤(wI (x0.2.2.2.1 - (x1.2.1.len:Int))))),()),()) else some ((false,()),())
noncomputable def f255 (x0:Ta19) (x1:(Int×((L Int)×Unit))):Bool :=
bif (!(f145 x0)) then false else bif (decide ((x1.2.1.len:Int) > (f238 x0))) then false else bif (f136 x1.1 (0:Int) x0.2.2.2.1) then bif (x0.1 == (0:Int)) then true else (decide (x1.1≤(wI (x0.2.2.2.1 - (x1.2.1.len:Int))))) else false
theorem n255 (x0:Ta19) (x1:(Int×((L Int)×Unit))):g255 x0 x1 = some ((f255 x0 x1,()),()):=by simp only [g255,f255,pull1]
noncomputable def c255:Ctr:={ ins:=[.v Ty172,.v Ty100],out:=[.bool],F:=fun x=>some ((f255 x.1 x.2.1,()),()) }
theorem o255:Holds Tryz.prog 255 c255:=f0T t255 (fun x=>g255 x.1 x.2.1) Tryz.func255 (tc o145 (tc o238 (tc o136 tn))) (fun x=>n255 x.1 x.2.1)
noncomputable def t256:Tbl:=[(136,[],c136)]
noncomputable def g256 (x0:Ta339) (x1:Int) (x2:Int):Option ((Bool×Unit)×Unit) :=
bif (f136 x2 (0:Int) (wI ((x0.2.2.2.2.2.2.2.2.2.1.len:Int) - (1:Int)))) then bif (decide (0≤x2)&&decide (x2 < (x0.2.2.2.2.2.2.2.2.2.1.len:Int))) then some ((((L.get x0.2.2.2.2.2.2.2.2.2.1 x2.toNat).2.2.1 == x1),()),()) else none else some ((false,()),())
noncomputable def c256:Ctr:={ ins:=[.v Ty379,.v (.int .i64),.v (.int .i64)],out:=[.bool],F:=fun x=>g256 x.1 x.2.1 x.2.2.1 }
theorem o256:Holds Tryz.prog 256 c256:=f0 t256 Tryz.func256 (tc o136 tn)
noncomputable def t257:Tbl:=[(145,[],c145),(238,[],c238)]
noncomputable def g257 (x0:Ta19) (x1:((L Int)×Unit)):Option ((Bool×Unit)×Unit) :=
bif (f145 x0) then some (((decide ((x1.1.len:Int)≤(f238 x0))),()),()) else some ((false,()),())
noncomputable def f257 (x0:Ta19) (x1:((L Int)×Unit)):Bool :=
bif (f145 x0) then (decide ((x1.1.len:Int)≤(f238 x0))) else false
theorem n257 (x0:Ta19) (x1:((L Int)×Unit)):g257 x0 x1 = some ((f257 x0 x1,()),()):=by simp only [g257,f257,pull1]
noncomputable def c257:Ctr:={ ins:=[.v Ty172,.v Ty33],out:=[.bool],F:=fun x=>some ((f257 x.1 x.2.1,()),()) }
theorem o257:Holds Tryz.prog 257 c257:=f0T t257 (fun x=>g257 x.1 x.2.1) Tryz.func257 (tc o145 (tc o238 tn)) (fun x=>n257 x.1 x.2.1)
noncomputable def t109:Tbl:=[(136,[],c136)]
noncomputable def g109 (x0:Ta339) (x1:Int) (x2:Int):Option ((Bool×Unit)×Unit) :=
bif (f136 x2 (0:Int) (wI ((x0.2.2.2.2.2.2.2.2.1.len:Int) - (1:Int)))) then bif (decide (0≤x2)&&decide (x2 < (x0.2.2.2.2.2.2.2.2.1.len:Int))) then some ((((L.get x0.2.2.2.2.2.2.2.2.1 x2.toNat) == x1),()),()) else none else some ((false,()),())
noncomputable def c109:Ctr:={ ins:=[.v Ty379,.v (.int .i64),.v (.int .i64)],out:=[.bool],F:=fun x=>g109 x.1 x.2.1 x.2.2.1 }
theorem o109:Holds Tryz.prog 109 c109:=f0 t109 Tryz.func109 (tc o136 tn)
noncomputable def t258:Tbl:=[]
noncomputable def g258 (x0:Ta2):Option ((Bool×Unit)×Unit) :=
bif (decide ((x0.1.len:Int)≤(8:Int))) then some (((decide ((x0.2.1.len:Int)≤(8:Int))),()),()) else some ((false,()),())
noncomputable def f258 (x0:Ta2):Bool :=
bif (decide ((x0.1.len:Int)≤(8:Int))) then (decide ((x0.2.1.len:Int)≤(8:Int))) else false
theorem n258 (x0:Ta2):g258 x0 = some ((f258 x0,()),()):=by simp only [g258,f258,pull1]
noncomputable def c258:Ctr:={ ins:=[.v Ty121],out:=[.bool],F:=fun x=>some ((f258 x.1,()),()) }
theorem o258:Holds Tryz.prog 258 c258:=f0T t258 (fun x=>g258 x.1) Tryz.func258 tn (fun x=>n258 x.1)
end Go.VE.VFnExactPartSlot
