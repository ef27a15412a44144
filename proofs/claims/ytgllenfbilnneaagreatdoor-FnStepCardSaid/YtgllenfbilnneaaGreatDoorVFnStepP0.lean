import Derived.Shelf.RegionOpenPlain
import Derived.WalkKit
import Derived.Lib.Walk
import Derived.Lib.SliceRun
import Derived.Lib.JoinLaws
import Derived.Lib.AppendZeros
import Derived.Lib.AppendZerosOnto
import Derived.Lib.Overlaps
import Derived.Laws.Externs
import Derived.Laws.IdiomCopy
import Derived.Shelf.Spec.SlicesInsert
import Derived.Deep.RegionLaw
import Derived.Deep.LoopGhost
import Derived.Sort.WalkB12
import Derived.Laws.NewBlocks
import Derived.Shelf.Spec.TrailingZeros
import Derived.Test.YtgllenfbilnneaaGreatDoorVk9
import Derived.Test.YtgllenfbilnneaaGreatDoorProg
/- What the functions do that laws.FnStep reaches,as plain functions,and that they do it. -/
set_option linter.unusedVariables false
set_option linter.unusedSimpArgs false
namespace Go.VE.VFnStep
open Go.Proofs Go.VE
abbrev Ta0:Type:=(Unit×(Unit×(Int×Unit)))
abbrev Ta1:Type:=(Int×(Unit×(Unit×Unit)))
abbrev Ta2:Type:=((Int×(Bool×Unit))×Unit)
abbrev Ta3:Type:=(Unit×(Int×(Unit×Unit)))
abbrev Ta4:Type:=(Int×((L (L Int))×Unit))
abbrev Ta5:Type:=(L (Int×((L Int)×Unit)))
abbrev Ta6:Type:=((L Int)×((L Int)×Unit))
abbrev Ta7:Type:=(Bool×(Bool×(Int×Unit)))
abbrev Ta8:Type:=(Int×(Bool×(Bool×Unit)))
abbrev Ty9:Ty:=(.pair (.int .i64) .unit)
abbrev Ta10:Type:=(Bool×(Bool×(Bool×Unit)))
abbrev Ta11:Type:=(Unit×(Unit×(Unit×Unit)))
abbrev Ta12:Type:=(L (L (Int×(Bool×Unit))))
abbrev Ty13:Ty:=(.pair (.int .u32) .unit)
abbrev Ta14:Type:=(Unit×(Unit×(Bool×Unit)))
abbrev Ta15:Type:=((L Int)×(Int×(Int×Unit)))
abbrev Ta16:Type:=(L (Int×(Int×(Int×Unit))))
abbrev Ta17:Type:=((Int×((L Int)×Unit))×Unit)
abbrev Ta18:Type:=(Int×(Int×(Int×(Int×Unit))))
abbrev Ta19:Type:=((L (L Int))×((L Int)×Unit))
abbrev Ta20:Type:=((L Int)×((L (L Int))×Unit))
abbrev Ta21:Type:=(L Ta6)
abbrev Ta22:Type:=(Int×(Int×(Unit×(Int×Unit))))
abbrev Ta23:Type:=(Int×(Int×(Int×(Unit×Unit))))
abbrev Ta24:Type:=(Int×(Int×(Int×(Bool×Unit))))
abbrev Ta25:Type:=(Unit×(Int×(Int×(Int×Unit))))
abbrev Ta26:Type:=(Int×(Unit×(Int×(Int×Unit))))
abbrev Ta27:Type:=((Int×(Int×(Int×Unit)))×Unit)
abbrev Ta28:Type:=((Int×Unit)×(Int×(Int×Unit)))
abbrev Ta29:Type:=(Unit×(Unit×(Int×(Int×Unit))))
abbrev Ta30:Type:=(Int×Ta0)
abbrev Ta31:Type:=(Unit×(Int×(Unit×(Int×Unit))))
abbrev Ta32:Type:=(Int×Ta7)
abbrev Ta33:Type:=(Int×Ta8)
abbrev Ta34:Type:=((L (L Int))×(Int×(Int×Unit)))
abbrev Ty35:Ty:=(.pair (.sl (.int .u32)) .unit)
abbrev Ta36:Type:=(Unit×Ta0)
abbrev Ty37:Ty:=(.pair (.sl (.int .i64)) .unit)
abbrev Ta38:Type:=(Ta6×Unit)
abbrev Ta39:Type:=(Unit×Ta4)
abbrev Ta40:Type:=(L Ta18)
abbrev Ta41:Type:=(Unit×Ta11)
abbrev Ta42:Type:=(Ta12×Unit)
abbrev Ta43:Type:=(Ta15×Unit)
abbrev Ty44:Ty:=(.pair .bool (.pair .bool .unit))
abbrev Ta45:Type:=(Ta16×Unit)
abbrev Ta46:Type:=(Int×Ta18)
abbrev Ta47:Type:=((L Int)×Ta4)
abbrev Ta48:Type:=(Ta18×Unit)
abbrev Ta49:Type:=(Ta21×Unit)
abbrev Ta50:Type:=(Int×Ta25)
abbrev Ta51:Type:=(Int×Ta29)
abbrev Ta52:Type:=(Unit×Ta22)
abbrev Ta53:Type:=(Int×Ta30)
abbrev Ty54:Ty:=(.pair (.sl (.sl (.int .u8))) .unit)
abbrev Ta55:Type:=(Int×Ta32)
abbrev Ta56:Type:=(Int×Ta33)
abbrev Ta57:Type:=(Unit×Ta26)
abbrev Ta58:Type:=(Unit×Ta30)
abbrev Ty59:Ty:=(.sl Ty35)
abbrev Ta60:Type:=(Unit×Ta31)
abbrev Ta61:Type:=(Unit×Ta29)
abbrev Ta62:Type:=(Int×Ta41)
abbrev Ta63:Type:=(Int×Ta42)
abbrev Ty64:Ty:=(.pair (.int .i64) (.pair .bool .unit))
abbrev Ta65:Type:=(Bool×Ta41)
abbrev Ty66:Ty:=(.pair .bool Ty13)
abbrev Ta67:Type:=(Int×Ta46)
abbrev Ta68:Type:=(Ta46×Unit)
abbrev Ta69:Type:=(Ta47×Unit)
abbrev Ta70:Type:=((L (L Int))×Ta20)
abbrev Ta71:Type:=(Int×Ta55)
abbrev Ta72:Type:=(Ta24×(Int×Unit))
abbrev Ta73:Type:=(Ta15×((L Int)×Unit))
abbrev Ta74:Type:=(Unit×Ta51)
abbrev Ta75:Type:=((L Int)×Ta43)
abbrev Ta76:Type:=(Unit×Ta53)
abbrev Ta77:Type:=(Unit×Ta57)
abbrev Ta78:Type:=(Int×Ta62)
abbrev Ta79:Type:=(Int×Ta63)
abbrev Ta80:Type:=(Unit×Ta60)
abbrev Ta81:Type:=(Ta12×(Int×(Int×Unit)))
abbrev Ta82:Type:=(Unit×Ta61)
abbrev Ty83:Ty:=(.pair (.int .i64) Ty9)
abbrev Ty84:Ty:=(.sl Ty64)
abbrev Ta85:Type:=(Int×Ta65)
abbrev Ta86:Type:=(Ta16×(Int×(Int×Unit)))
abbrev Ty87:Ty:=(.pair (.int .i64) Ty13)
abbrev Ta88:Type:=((Int×Unit)×Ta43)
abbrev Ta89:Type:=(Int×Ta67)
abbrev Ta90:Type:=((Bool×Unit)×Ta43)
abbrev Ta91:Type:=(Ta21×(Int×(Int×Unit)))
abbrev Ta92:Type:=(Ta69×Unit)
abbrev Ta93:Type:=(Int×Ta71)
abbrev Ta94:Type:=(Ta46×(Bool×Unit))
abbrev Ta95:Type:=(Unit×Ta69)
abbrev Ta96:Type:=(Ta27×(Int×(Int×Unit)))
abbrev Ta97:Type:=(Ta39×((L Int)×Unit))
abbrev Ta98:Type:=(Ta72×Unit)
abbrev Ta99:Type:=(Int×Ta78)
abbrev Ta100:Type:=(((L Int)×Unit)×Ta43)
abbrev Ta101:Type:=(Int×Ta79)
abbrev Ta102:Type:=(Unit×Ta77)
abbrev Ty103:Ty:=(.pair (.int .i64) Ty35)
abbrev Ty104:Ty:=(.sl Ty84)
abbrev Ty105:Ty:=(.pair (.int .i64) Ty37)
abbrev Ta106:Type:=(Int×Ta86)
abbrev Ta107:Type:=(Ta40×(Int×(Int×Unit)))
abbrev Ta108:Type:=(Unit×Ta81)
abbrev Ta109:Type:=(Unit×Ta82)
abbrev Ta110:Type:=((Int×(Int×Unit))×Ta45)
abbrev Ta111:Type:=((L Int)×Ta70)
abbrev Ta112:Type:=(Unit×Ta85)
abbrev Ta113:Type:=(Unit×Ta86)
abbrev Ta114:Type:=(Ta89×Unit)
abbrev Ty115:Ty:=(.pair .bool Ty66)
abbrev Ty116:Ty:=(.pair (.int .i64) Ty44)
abbrev Ta117:Type:=(Unit×Ta91)
abbrev Ta118:Type:=(Bool×Ta93)
abbrev Ta119:Type:=(Ta94×Unit)
abbrev Ta120:Type:=(Int×Ta99)
abbrev Ty121:Ty:=(.pair (.int .u32) Ty54)
abbrev Ta122:Type:=((L ((L Int)×Unit))×Ta49)
abbrev Ta123:Type:=(Ta12×Ta20)
abbrev Ty124:Ty:=(.pair (.sl (.int .u32)) Ty35)
abbrev Ta125:Type:=((Unit×Unit)×Ta75)
abbrev Ta126:Type:=(Ta101×Unit)
abbrev Ta127:Type:=((Int×(Int×(Int×Unit)))×Ta42)
abbrev Ty128:Ty:=(.sl Ty103)
abbrev Ta129:Type:=(Int×Ta110)
abbrev Ta130:Type:=(Int×Ta112)
abbrev Ta131:Type:=(Unit×Ta107)
abbrev Ta132:Type:=(Unit×Ta109)
abbrev Ty133:Ty:=(.pair (.int .i64) Ty64)
abbrev Ta134:Type:=(Ta12×Ta42)
abbrev Ta135:Type:=((L Int)×Ta102)
abbrev Ta136:Type:=(Int×Ta117)
abbrev Ta137:Type:=(Int×Ta120)
abbrev Ta138:Type:=(Ta118×Unit)
abbrev Ty139:Ty:=(.sl Ty124)
abbrev Ta140:Type:=(Ta127×Unit)
abbrev Ty141:Ty:=(.pair (.int .i64) Ty83)
abbrev Ty142:Ty:=(.pair Ty104 .unit)
abbrev Ta143:Type:=(Unit×Ta130)
abbrev Ty144:Ty:=(.pair (.int .i64) Ty87)
abbrev Ta145:Type:=(Unit×Ta131)
abbrev Ta146:Type:=(Unit×Ta135)
abbrev Ta147:Type:=(Ta40×Ta45)
abbrev Ta148:Type:=(Int×Ta137)
abbrev Ty149:Ty:=(.pair (.sl (.int .u8)) Ty83)
abbrev Ta150:Type:=(ByteArray×Ta129)
abbrev Ta151:Type:=((L (L Int))×Ta123)
abbrev Ty152:Ty:=(.sl Ty141)
abbrev Ta153:Type:=(Int×Ta143)
abbrev Ta154:Type:=(Int×Ta145)
abbrev Ty155:Ty:=(.pair (.int .u32) Ty115)
abbrev Ta156:Type:=(Ta47×Ta56)
abbrev Ty157:Ty:=(.pair (.int .i64) Ty116)
abbrev Ta158:Type:=(L Ta150)
abbrev Ta159:Type:=(Int×Ta148)
abbrev Ta160:Type:=(Ta68×Ta43)
abbrev Ta161:Type:=(Int×Ta153)
abbrev Ty162:Ty:=(.pair Ty139 .unit)
abbrev Ta163:Type:=(Ta16×Ta96)
abbrev Ta164:Type:=(Ta150×Unit)
abbrev Ta165:Type:=((L Int)×Ta147)
abbrev Ta166:Type:=((Unit×(Int×(Int×Unit)))×Ta114)
abbrev Ta167:Type:=(Ta3×Ta111)
abbrev Ty168:Ty:=(.pair (.int .i64) Ty133)
abbrev Ta169:Type:=(Int×Ta159)
abbrev Ta170:Type:=((L Int)×Ta151)
abbrev Ta171:Type:=(Ta156×Unit)
abbrev Ta172:Type:=(Ta52×Ta73)
abbrev Ty173:Ty:=(.pair (.sl (.int .u32)) Ty121)
abbrev Ta174:Type:=(Ta5×Ta122)
abbrev Ta175:Type:=(Int×Ta161)
abbrev Ta176:Type:=((L (Int×(Bool×Unit)))×Ta134)
abbrev Ta177:Type:=(Ta163×Unit)
abbrev Ty178:Ty:=(.pair (.int .i64) Ty141)
abbrev Ty179:Ty:=(.pair Ty152 .unit)
abbrev Ty180:Ty:=(.pair (.int .i64) Ty144)
abbrev Ta181:Type:=(Ta47×Ta97)
abbrev Ta182:Type:=(Int×Ta169)
abbrev Ta183:Type:=(Ta171×Unit)
abbrev Ta184:Type:=(Unit×Ta174)
abbrev Ta185:Type:=(Bool×Ta175)
abbrev Ty186:Ty:=(.sl Ty178)
abbrev Ta187:Type:=(Int×Ta182)
abbrev Ta188:Type:=(Ta23×Ta134)
abbrev Ty189:Ty:=(.pair (.int .u32) Ty155)
abbrev Ty190:Ty:=(.pair (.int .i64) Ty157)
abbrev Ta191:Type:=(Ta158×(Int×(Int×Unit)))
abbrev Ta192:Type:=((Int×Unit)×Ta171)
abbrev Ta193:Type:=(Int×Ta185)
abbrev Ta194:Type:=((L (L Int))×Ta174)
abbrev Ta195:Type:=(Bool×Ta184)
abbrev Ta196:Type:=(Int×Ta187)
abbrev Ta197:Type:=(Int×Ta193)
abbrev Ta198:Type:=(Int×Ta195)
abbrev Ta199:Type:=(Int×Ta196)
abbrev Ta200:Type:=(Bool×Ta194)
abbrev Ta201:Type:=((Int×(Bool×Unit))×Ta176)
abbrev Ty202:Ty:=(.pair (.int .i64) Ty178)
abbrev Ty203:Ty:=(.pair (.int .u32) Ty180)
abbrev Ta204:Type:=(Ta3×Ta167)
abbrev Ta205:Type:=(Ta16×Ta164)
abbrev Ta206:Type:=((L Int)×Ta194)
abbrev Ta207:Type:=(Int×Ta197)
abbrev Ta208:Type:=(Int×Ta199)
abbrev Ta209:Type:=(Ta101×Ta126)
abbrev Ta210:Type:=(Int×Ta200)
abbrev Ta211:Type:=(Unit×Ta198)
abbrev Ty212:Ty:=(.pair (.int .u32) Ty189)
abbrev Ta213:Type:=(Int×Ta207)
abbrev Ta214:Type:=(Int×Ta208)
abbrev Ta215:Type:=(Int×Ta211)
abbrev Ta216:Type:=(Ta108×Ta140)
abbrev Ta217:Type:=((L Int)×Ta210)
abbrev Ta218:Type:=(Bool×Ta213)
abbrev Ta219:Type:=(Int×Ta214)
abbrev Ta220:Type:=(Unit×Ta215)
abbrev Ty221:Ty:=(.pair Ty59 Ty162)
abbrev Ta222:Type:=(Ta23×Ta188)
abbrev Ty223:Ty:=(.pair (.int .i64) Ty202)
abbrev Ty224:Ty:=(.pair (.int .i64) Ty203)
abbrev Ta225:Type:=(Int×Ta217)
abbrev Ta226:Type:=((Unit×(Unit×Unit))×Ta204)
abbrev Ta227:Type:=(Bool×Ta218)
abbrev Ta228:Type:=(Int×Ta220)
abbrev Ta229:Type:=((Int×((L Int)×Unit))×Ta210)
abbrev Ty230:Ty:=(.pair (.int .u32) Ty212)
abbrev Ta231:Type:=(Int×Ta227)
abbrev Ta232:Type:=(Int×Ta228)
abbrev Ta233:Type:=(Ta12×Ta206)
abbrev Ta234:Type:=(Ta23×Ta201)
abbrev Ty235:Ty:=(.pair Ty83 Ty179)
abbrev Ty236:Ty:=(.pair Ty141 Ty142)
abbrev Ta237:Type:=(Int×Ta231)
abbrev Ta238:Type:=(Int×Ta232)
abbrev Ty239:Ty:=(.pair (.int .i64) Ty223)
abbrev Ty240:Ty:=(.pair (.int .i64) Ty224)
abbrev Ta241:Type:=(Int×Ta237)
abbrev Ty242:Ty:=(.pair .bool Ty230)
abbrev Ta243:Type:=(Bool×Ta238)
abbrev Ta244:Type:=((L (L Int))×Ta233)
abbrev Ta245:Type:=(Int×Ta241)
abbrev Ta246:Type:=(Ta12×Ta225)
abbrev Ta247:Type:=(Int×Ta243)
abbrev Ta248:Type:=(Ta158×Ta165)
abbrev Ty249:Ty:=(.pair (.int .i64) Ty235)
abbrev Ta250:Type:=(Bool×Ta245)
abbrev Ta251:Type:=((L Int)×Ta244)
abbrev Ta252:Type:=(Int×Ta246)
abbrev Ta253:Type:=(Int×Ta247)
abbrev Ta254:Type:=(Int×Ta248)
abbrev Ta255:Type:=(Int×Ta252)
abbrev Ta256:Type:=(Int×Ta253)
abbrev Ta257:Type:=(Unit×Ta250)
abbrev Ta258:Type:=(Int×Ta254)
abbrev Ta259:Type:=(Ta23×Ta234)
abbrev Ty260:Ty:=(.pair .str Ty249)
abbrev Ta261:Type:=(Int×Ta255)
abbrev Ta262:Type:=(Int×Ta256)
abbrev Ta263:Type:=(Int×Ta257)
abbrev Ta264:Type:=(Int×Ta258)
abbrev Ta265:Type:=((L (L Int))×Ta251)
abbrev Ty266:Ty:=(.sl Ty260)
abbrev Ta267:Type:=(Int×Ta264)
abbrev Ta268:Type:=(Bool×Ta261)
abbrev Ta269:Type:=(Bool×Ta262)
abbrev Ta270:Type:=(Unit×Ta263)
abbrev Ta271:Type:=((L Int)×Ta265)
abbrev Ta272:Type:=(Ta16×Ta248)
abbrev Ty273:Ty:=(.pair Ty173 Ty190)
abbrev Ta274:Type:=(Int×Ta267)
abbrev Ty275:Ty:=(.pair Ty186 Ty179)
abbrev Ta276:Type:=(Int×Ta268)
abbrev Ta277:Type:=(Bool×Ta269)
abbrev Ty278:Ty:=(.pair Ty128 Ty221)
abbrev Ta279:Type:=(Ta21×Ta251)
abbrev Ta280:Type:=(Int×Ta274)
abbrev Ta281:Type:=(Int×Ta276)
abbrev Ta282:Type:=(Int×Ta277)
abbrev Ta283:Type:=(Ta127×Ta229)
abbrev Ta284:Type:=(Int×Ta280)
abbrev Ta285:Type:=(Int×Ta281)
abbrev Ta286:Type:=(Int×Ta282)
abbrev Ta287:Type:=(Int×Ta284)
abbrev Ta288:Type:=(Int×Ta285)
abbrev Ta289:Type:=(Int×Ta286)
abbrev Ta290:Type:=(Int×Ta287)
abbrev Ta291:Type:=(Bool×Ta288)
abbrev Ta292:Type:=(Int×Ta289)
abbrev Ty293:Ty:=(.pair (.sl (.int .i64)) Ty275)
abbrev Ta294:Type:=((L ((L Int)×Unit))×Ta279)
abbrev Ta295:Type:=(Ta12×Ta271)
abbrev Ta296:Type:=(Int×Ta290)
abbrev Ta297:Type:=(Bool×Ta291)
abbrev Ta298:Type:=(Bool×Ta292)
abbrev Ta299:Type:=(Ta40×Ta272)
abbrev Ty300:Ty:=(.pair (.sl (.sl (.int .u8))) Ty278)
abbrev Ta301:Type:=(Int×Ta296)
abbrev Ta302:Type:=(Ta89×Ta264)
abbrev Ta303:Type:=(Int×Ta297)
abbrev Ta304:Type:=(Unit×Ta298)
abbrev Ta305:Type:=(Ta24×Ta283)
abbrev Ta306:Type:=((L (L Int))×Ta295)
abbrev Ta307:Type:=(Int×Ta301)
abbrev Ta308:Type:=(Int×Ta302)
abbrev Ta309:Type:=(Ta127×Ta259)
abbrev Ta310:Type:=((L Int)×Ta299)
abbrev Ta311:Type:=(Int×Ta303)
abbrev Ta312:Type:=(Int×Ta304)
abbrev Ta313:Type:=(Int×Ta307)
abbrev Ty314:Ty:=(.pair .bool Ty300)
abbrev Ta315:Type:=(Int×Ta311)
abbrev Ta316:Type:=((L Int)×Ta306)
abbrev Ta317:Type:=(Unit×Ta312)
abbrev Ta318:Type:=(Ta5×Ta294)
abbrev Ta319:Type:=(Int×Ta313)
abbrev Ta320:Type:=(Int×Ta315)
abbrev Ta321:Type:=(Int×Ta319)
abbrev Ta322:Type:=(Bool×Ta320)
abbrev Ta323:Type:=((L (L Int))×Ta318)
abbrev Ta324:Type:=((Int×(Int×(Int×Unit)))×Ta308)
abbrev Ty325:Ty:=(.pair (.int .i64) Ty314)
abbrev Ta326:Type:=(Int×Ta324)
abbrev Ta327:Type:=((L (L Int))×Ta322)
abbrev Ta328:Type:=((L Int)×Ta323)
abbrev Ta329:Type:=(Ta326×Unit)
abbrev Ta330:Type:=(Int×Ta327)
abbrev Ta331:Type:=(Ta326×((L Int)×Unit))
abbrev Ta332:Type:=((L Int)×Ta330)
abbrev Ta333:Type:=(Ta326×((L (L Int))×Unit))
abbrev Ta334:Type:=(Ta118×Ta305)
abbrev Ta335:Type:=(Ta326×Ta19)
abbrev Ta336:Type:=(Ta12×Ta328)
abbrev Ta337:Type:=((L (L Int))×Ta336)
abbrev Ta338:Type:=(Ta15×Ta331)
abbrev Ta339:Type:=(Ta158×Ta310)
abbrev Ta340:Type:=(Ta15×Ta333)
abbrev Ta341:Type:=((L Int)×Ta337)
abbrev Ty342:Ty:=(.pair Ty105 Ty325)
abbrev Ta343:Type:=(Ta15×Ta335)
abbrev Ta344:Type:=(Ta47×Ta334)
abbrev Ta345:Type:=(Ta344×Unit)
abbrev Ta346:Type:=(Ta136×Ta329)
abbrev Ta347:Type:=(Ta344×(Int×Unit))
abbrev Ta348:Type:=(Unit×Ta345)
abbrev Ta349:Type:=(Int×Ta347)
abbrev Ta350:Type:=((Int×Unit)×Ta345)
abbrev Ta351:Type:=(Ta270×Ta251)
abbrev Ta352:Type:=(Ta16×Ta341)
abbrev Ta353:Type:=(Unit×Ta351)
abbrev Ta354:Type:=(Ta58×Ta340)
abbrev Ta355:Type:=(Ta76×Ta338)
abbrev Ta356:Type:=(Ta326×Ta205)
abbrev Ta357:Type:=(Ta344×Ta114)
abbrev Ta358:Type:=(Ta40×Ta352)
abbrev Ta359:Type:=(Ta114×Ta345)
abbrev Ta360:Type:=(Unit×Ta357)
abbrev Ta361:Type:=((L Int)×Ta358)
abbrev Ty362:Ty:=(.pair Ty266 Ty293)
abbrev Ty363:Ty:=(.pair (.int .i64) Ty362)
abbrev Ta364:Type:=(Ta219×Ta339)
abbrev Ty365:Ty:=(.pair (.int .i64) Ty363)
abbrev Ty366:Ty:=(.pair (.int .i64) Ty365)
abbrev Ty367:Ty:=(.pair Ty236 Ty342)
abbrev Ta368:Type:=(Ta158×Ta361)
abbrev Ta369:Type:=(Ta270×Ta341)
abbrev Ty370:Ty:=(.pair Ty168 Ty367)
abbrev Ta371:Type:=(Ta219×Ta364)
abbrev Ta372:Type:=(Ta15×Ta371)
abbrev Ta373:Type:=(Ta326×Ta345)
abbrev Ta374:Type:=(Ta326×Ta349)
abbrev Ty375:Ty:=(.pair Ty239 Ty366)
abbrev Ta376:Type:=(Ta1×Ta373)
abbrev Ta377:Type:=(Ta58×Ta372)
abbrev Ty378:Ty:=(.pair (.int .i64) Ty375)
abbrev Ta379:Type:=(Ta270×Ta368)
abbrev Ta380:Type:=(Ta154×Ta373)
abbrev Ta381:Type:=(Ta270×Ta369)
abbrev Ty382:Ty:=(.pair Ty141 Ty378)
abbrev Ty383:Ty:=(.pair Ty242 Ty370)
abbrev Ty384:Ty:=(.pair (.int .i64) Ty382)
abbrev Ty385:Ty:=(.pair Ty173 Ty383)
abbrev Ta386:Type:=(Ta326×Ta379)
abbrev Ta387:Type:=(Ta326×Ta381)
abbrev Ta388:Type:=(Ta270×Ta386)
abbrev Ta389:Type:=(Ta219×Ta388)
abbrev Ta390:Type:=(Ta15×Ta389)
def om {α β:Type} (f:α→β) (o:Option α):Option β:=match o with
 | some y=>some (f y)
 | none=>none
def ob {α β:Type} (o:Option α) (f:α→Option β):Option β:=match o with
 | some y=>f y
 | none=>none
def Γ:TypeId→Option Ty:=fun e=>bif Nat.beq e 3 then some (.int .i64) else bif Nat.beq e 5 then some (.int .u8) else bif Nat.beq e 9 then some .str else bif Nat.beq e 33 then some (.int .u32) else bif Nat.beq e 84 then some (.sl (.int .u8)) else bif Nat.beq e 92 then some Ty103 else bif Nat.beq e 95 then some Ty178 else bif Nat.beq e 97 then some Ty35 else bif Nat.beq e 99 then some Ty124 else bif Nat.beq e 204 then some Ty260 else bif Nat.beq e 209 then some Ty84 else bif Nat.beq e 233 then some Ty141 else bif Nat.beq e 278 then some Ty141 else bif Nat.beq e 297 then some Ty64 else none
theorem gs {e k:Nat} {a r:Option Ty} {ty:Ty} {P:Prop} (h:(bif Nat.beq e k then a else r) = some ty) (h1:Nat.beq e k = true→P) (h2:r = some ty→P):P:=by
 cases q:Nat.beq e k with
 | true=>exact h1 q
 | false=>rw [q] at h; exact h2 h
abbrev B0:BSlot:=.cells [.v (.int .i64),.v (.int .i64),.v (.int .i64),.v (.int .i64),.v (.int .i64),.v (.int .i64),.v (.int .i64),.v (.int .i64),.v (.int .i64),.v (.int .i64),.v (.int .i64),.v (.int .i64),.v (.int .i64),.v (.int .i64),.v (.int .i64),.row Ty260 60271,.row (.int .i64) 60272,.row Ty178 60273,.row Ty141 60274]
abbrev B1:BSlot:=.cells [.v (.int .i64),.v (.int .i64),.v (.int .i64),.v (.int .i64),.v (.int .i64),.v (.int .i64),.v (.int .i64),.v (.int .i64),.v (.int .i64),.v (.int .i64),.v (.int .i64),.v (.int .i64),.v (.int .i64),.v (.int .i64),.v (.int .i64),.ms 60271,.ms 60272,.ms 60273,.ms 60274]
abbrev B2:BSlot:=.cells [.v (.int .i64),.v (.int .i64),.v (.int .i64),.v (.int .i64),.v (.int .i64),.v (.int .i64),.v (.int .i64),.v (.int .i64),.v (.int .i64),.v (.int .i64),.v (.int .i64),.v (.int .i64),.v (.int .i64),.v (.int .i64),.v (.int .i64),.ms 60335,.ms 60336,.ms 60337,.ms 60338]
abbrev B3:BSlot:=.cells [.v (.int .i64),.v (.int .i64),.v (.int .i64),.row Ty84 60131]
abbrev B4:BSlot:=.cells [.v (.int .i64),.v (.int .i64),.v (.int .i64),.row Ty84 60195]
abbrev B5:BSlot:=.cells [.row (.int .u32) 60384,.v (.int .u32),.row (.sl (.int .u8)) 60386,.v .bool,.v (.int .u32),.v (.int .u32),.v (.int .u32),.v (.int .u32),.v .bool,.v .bool,.v (.int .u32),.v (.int .i64),.v (.int .i64),.v (.int .i64),.v .bool,.v (.int .i64),.v (.int .i64),.v (.int .i64),.row Ty84 60402,.v (.int .i64),.row (.int .i64) 60404,.v (.int .i64),.v .bool,.row (.sl (.int .u8)) 60407,.row Ty103 60408,.row Ty35 60409,.row Ty124 60410]
abbrev B6:BSlot:=.cells [.ms 60384,.v (.int .u32),.ms 60386,.v .bool,.v (.int .u32),.v (.int .u32),.v (.int .u32),.v (.int .u32),.v .bool,.v .bool,.v (.int .u32),.v (.int .i64),.v (.int .i64),.v (.int .i64),.v .bool,.v (.int .i64),.v (.int .i64),.v (.int .i64),.ms 60402,.v (.int .i64),.ms 60404,.v (.int .i64),.v .bool,.ms 60407,.ms 60408,.ms 60409,.ms 60410]
abbrev B7:BSlot:=.cells [.ms 1000832,.v (.int .u32),.ms 1000833,.v .bool,.v (.int .u32),.v (.int .u32),.v (.int .u32),.v (.int .u32),.v .bool,.v .bool,.v (.int .u32),.v (.int .i64),.v (.int .i64),.v (.int .i64),.v .bool,.v (.int .i64),.v (.int .i64),.v (.int .i64),.ms 1001024,.v (.int .i64),.ms 1001216,.v (.int .i64),.v .bool,.ms 1001344,.ms 60472,.ms 60473,.ms 60474]
abbrev B8:BSlot:=.cells [.ms 100000129,.v (.int .u32),.ms 100000130,.v .bool,.v (.int .u32),.v (.int .u32),.v (.int .u32),.v (.int .u32),.v .bool,.v .bool,.v (.int .u32),.v (.int .i64),.v (.int .i64),.v (.int .i64),.v .bool,.v (.int .i64),.v (.int .i64),.v (.int .i64),.ms 1000896,.v (.int .i64),.ms 1001280,.v (.int .i64),.v .bool,.ms 100000133,.ms 100000134,.ms 100000135,.ms 100000136]
abbrev B9:BSlot:=.cells [.v (.int .i64),.v (.int .i64),.v (.int .i64),.ms 60387]
abbrev B10:BSlot:=.cells [.v (.int .i64),.v (.int .i64),.v (.int .i64),.ms 60771]
abbrev B11:BSlot:=.cells [.ms 1000896,.v (.int .u32),.ms 1000897,.v .bool,.v (.int .u32),.v (.int .u32),.v (.int .u32),.v (.int .u32),.v .bool,.v .bool,.v (.int .u32),.v (.int .i64),.v (.int .i64),.v (.int .i64),.v .bool,.v (.int .i64),.v (.int .i64),.v (.int .i64),.ms 100000131,.v (.int .i64),.ms 100000132,.v (.int .i64),.v .bool,.ms 100000133,.ms 100000134,.ms 100000135,.ms 100000136]
abbrev B12:BSlot:=.cells [.ms 1002048,.v (.int .u32),.ms 1002049,.v .bool,.v (.int .u32),.v (.int .u32),.v (.int .u32),.v (.int .u32),.v .bool,.v .bool,.v (.int .u32),.v (.int .i64),.v (.int .i64),.v (.int .i64),.v .bool,.v (.int .i64),.v (.int .i64),.v (.int .i64),.ms 1002050,.v (.int .i64),.ms 1002051,.v (.int .i64),.v .bool,.ms 1002052,.ms 1002053,.ms 1002054,.ms 1002055]
abbrev B13:BSlot:=.cells [.ms 1000768,.v (.int .u32),.ms 1000769,.v .bool,.v (.int .u32),.v (.int .u32),.v (.int .u32),.v (.int .u32),.v .bool,.v .bool,.v (.int .u32),.v (.int .i64),.v (.int .i64),.v (.int .i64),.v .bool,.v (.int .i64),.v (.int .i64),.v (.int .i64),.ms 1000960,.v (.int .i64),.ms 1001600,.v (.int .i64),.v .bool,.ms 1001152,.v Ty128,.v Ty59,.v Ty139]
abbrev B14:BSlot:=.cells [.ms 60128,.v (.int .u32),.ms 60130,.v .bool,.v (.int .u32),.v (.int .u32),.v (.int .u32),.v (.int .u32),.v .bool,.v .bool,.v (.int .u32),.v (.int .i64),.v (.int .i64),.v (.int .i64),.v .bool,.v (.int .i64),.v (.int .i64),.v (.int .i64),.ms 60146,.v (.int .i64),.ms 60148,.v (.int .i64),.v .bool,.ms 60151,.ms 60152,.ms 60153,.ms 60154]
abbrev B15:BSlot:=.cells [.ms 1000960,.v (.int .u32),.ms 1000961,.v .bool,.v (.int .u32),.v (.int .u32),.v (.int .u32),.v (.int .u32),.v .bool,.v .bool,.v (.int .u32),.v (.int .i64),.v (.int .i64),.v (.int .i64),.v .bool,.v (.int .i64),.v (.int .i64),.v (.int .i64),.ms 100000003,.v (.int .i64),.ms 100000004,.v (.int .i64),.v .bool,.ms 100000005,.ms 100000006,.ms 100000007,.ms 100000008]
theorem gamOk:GamOk Tryz.prog Γ:=gamOk_of [3,5,9,33,84,92,95,97,99,204,209,233,278,297] (fun e ty h=>by
 simp only [Γ] at h
 repeat (refine gs h (fun q=>by simp [Nat.eq_of_beq_eq_true q]) fun h=>?_)
 cases h) (by kernel_rfl)
theorem mo:Tryz.prog.follows .mixedOrders = true:=by kernel_rfl
theorem tn:TblOk Tryz.prog []:=tblOk_nil
theorem tc {f:Nat} {gs:List Nat} {c:Ctr} {r:Tbl} (h:Holds Tryz.prog f c) (hr:TblOk Tryz.prog r):TblOk Tryz.prog ((f,gs,c)::r):=tblOk_cons h hr
noncomputable def a0:Nat→Option LoopAnn:=fun _=>none
noncomputable def lg (l:List (Nat×Code)) (j:Nat):Code:=(l.getD j (0,.skip)).2
abbrev LW (T:Tbl) (A:Nat→Option LoopAnn) (l:List (Nat×Code)) (j ctx:Nat) (h:Shape) (es:List (XT×Shape)) (s:h.T→Option (h.T⊕ExT es)):Prop:=∀ x:h.T,runK Tryz.prog Γ T A (lg l j) ctx (pkSh h x) (loopCls (sh:=h) (es:=es)) = (s x:Option _)
section
variable {k:Nat} {fn:Func} {c:Ctr}
theorem fhT (T:Tbl) (A:Nat→Option LoopAnn) (G:InsT c.ins→Option (TysT c.out×PtT c.ins)) (hf:Tryz.prog.funcs[k]? = some fn) (l:List (Nat×Code)) (hl:LoopsOk Tryz.prog Γ T A l) (hT:TblOk Tryz.prog T) (hn:∀ x,G x = c.F x) (hr:∀ x,fnK Tryz.prog Γ T A fn c x = G x:=by intro x; kernel_rfl) (he:loopsIn (fn.body.getD .skip) 0 = l:=by kernel_rfl) (h1:(fn.name == "runtime.NumGoroutine") = false:=by kernel_rfl) (h2:fn.body = some (fn.body.getD .skip):=by kernel_rfl)
 (h3:Nat.ble c.ins.length fn.ntmps = true:=by kernel_rfl) (h4:dstsOk fn.ntmps (fn.body.getD .skip) = true:=by kernel_rfl):Holds Tryz.prog k c :=
 fn_holds (code:=fn.body.getD .skip) mo gamOk hT hf h1 h2 h3 h4 (by rw [he]; exact hl) (fun x _ h=>(hr x).trans ((hn x).trans h))
theorem fh (T:Tbl) (A:Nat→Option LoopAnn) (hf:Tryz.prog.funcs[k]? = some fn) (l:List (Nat×Code)) (hl:LoopsOk Tryz.prog Γ T A l) (hT:TblOk Tryz.prog T) (hr:∀ x,fnK Tryz.prog Γ T A fn c x = c.F x:=by intro x; kernel_rfl) (he:loopsIn (fn.body.getD .skip) 0 = l:=by kernel_rfl) (h1:(fn.name == "runtime.NumGoroutine") = false:=by kernel_rfl) (h2:fn.body = some (fn.body.getD .skip):=by kernel_rfl)
 (h3:Nat.ble c.ins.length fn.ntmps = true:=by kernel_rfl) (h4:dstsOk fn.ntmps (fn.body.getD .skip) = true:=by kernel_rfl):Holds Tryz.prog k c:=fhT T A c.F hf l hl hT (fun _=>rfl) hr he h1 h2 h3 h4
theorem f0T (T:Tbl) (G:InsT c.ins→Option (TysT c.out×PtT c.ins)) (hf:Tryz.prog.funcs[k]? = some fn) (hT:TblOk Tryz.prog T) (hn:∀ x,G x = c.F x) (hr:∀ x,fnK Tryz.prog Γ T a0 fn c x = G x:=by intro x; kernel_rfl) (he:loopsIn (fn.body.getD .skip) 0 = []:=by kernel_rfl) (h1:(fn.name == "runtime.NumGoroutine") = false:=by kernel_rfl) (h2:fn.body = some (fn.body.getD .skip):=by kernel_rfl)
 (h3:Nat.ble c.ins.length fn.ntmps = true:=by kernel_rfl) (h4:dstsOk fn.ntmps (fn.body.getD .skip) = true:=by kernel_rfl):Holds Tryz.prog k c:=fhT T a0 G hf [] trivial hT hn hr he h1 h2 h3 h4
theorem f0 (T:Tbl) (hf:Tryz.prog.funcs[k]? = some fn) (hT:TblOk Tryz.prog T) (hr:∀ x,fnK Tryz.prog Γ T a0 fn c x = c.F x:=by intro x; kernel_rfl) (he:loopsIn (fn.body.getD .skip) 0 = []:=by kernel_rfl) (h1:(fn.name == "runtime.NumGoroutine") = false:=by kernel_rfl) (h2:fn.body = some (fn.body.getD .skip):=by kernel_rfl)
 (h3:Nat.ble c.ins.length fn.ntmps = true:=by kernel_rfl) (h4:dstsOk fn.ntmps (fn.body.getD .skip) = true:=by kernel_rfl):Holds Tryz.prog k c:=fhT T a0 c.F hf [] trivial hT (fun _=>rfl) hr he h1 h2 h3 h4
end
section
variable {P:Program}
theorem run_copyN (w:World) (dT sT ty elem:TypeId) (b o dLen dCap:Nat) (a:Addr) (sLen sCap sz:Nat) (cs:List Value)
 (hu:P.underlying dT = some (.slice elem)) (hs:∀ w,(Go.sizeOf elem).run P w = .ok sz w) (hn:cs.length = Nat.min sLen dLen * sz)
 (hsrc:∀ (j:Nat) (v:Value),cs[j]? = some v→w.cell? (a.add j) = some v) (hc:∀ j,j < cs.length→(w.cell? ⟨b,o + j,none⟩).isSome = true) (hf:∀ j,j < cs.length→w.frozen? ⟨b,o + j,none⟩ = false) (h1:∀ v ∈ cs,v.oneCell' = true) :
 (Builtin.copy_ #[dT,sT] ty #[.slice (some ⟨b,o,none⟩) dLen dCap,.slice (some a) sLen sCap]).run P w = .ok (goInt (Nat.min sLen dLen)) (w.setCells b o cs):=by
 have hl:=run_loadCells_list (P:=P) w a cs hsrc
 have hst:=run_storeCells_cells (P:=P) b o cs 0 w (by simpa using hc) (by simpa using hf) h1
 simp [Builtin.copy_,run_underlying hu,Builtin.lenOf,Builtin.firstCells,hs,← hn,hl,hst]
theorem run_clearN (w:World) (t e ty:TypeId) (z:Value) (ht:P.underlying t = some (.slice e)) (hv:∀ w,(zeroValue e).run P w = .ok z w) (h1:∀ v ∈ z.cells.toList,v.oneCell' = true) (b o c:Nat)
 (hc:∀ j,j < z.cells.size→(w.cell? ⟨b,o + j,none⟩).isSome = true) (hf:∀ j,j < z.cells.size→w.frozen? ⟨b,o + j,none⟩ = false) :
 (Builtin.clear_ #[t] ty #[.slice (some ⟨b,o,none⟩) 1 c]).run P w = .ok (.tuple #[]) (w.setCells b o z.cells.toList):=by
 have hzc:(Builtin.zeroCells z.cells 1).toList = z.cells.toList:=by
  simp only [Builtin.zeroCells,Nat.one_mul]
  apply List.ext_getElem
  · simp
  · intro i h1 h2
    have h2':i < z.cells.size:=by simpa using h2
    simp [Nat.mod_eq_of_lt h2',h2']
 have hst:=run_storeCells_cells (P:=P) b o z.cells.toList 0 w (by simpa using hc) (by simpa using hf) h1
 simp only [Nat.add_zero] at hst
 simp [Builtin.clear_,run_underlying ht,hv,hzc,hst]
end
section
open Go.Proofs Go.Shelf Go.RowKit Go.Lib Go.Sort
theorem isSome_setC (b:Nat) (vs:List Value) (o:Nat) (w:World) (h:∀ j,j < vs.length→(w.cell? ⟨b,o + j,none⟩).isSome = true) (k:Nat) (hk:(w.cell? ⟨b,k,none⟩).isSome = true):((w.setCells b o vs).cell? ⟨b,k,none⟩).isSome = true:=by
 rw [cell_setCells h]
 split
 · rename_i q; rw [List.getElem?_eq_getElem (by omega)]; rfl
 · exact hk
set_option maxHeartbeats 4000000 in
set_option maxRecDepth 1000000 in
theorem del_walk (b off n c i:Nat) (cs:List Value) (w:World) (hi:i < n) (hnc:n≤c) (hcl:cs.length = n * 2) (hcs:∀ (j:Nat) (v:Value),cs[j]? = some v→w.cell? ⟨b,off + j,none⟩ = some v)
 (hfz:∀ j,j < n * 2→w.frozen? ⟨b,off + j,none⟩ = false) (h1c:∀ v ∈ cs,v.oneCell' = true) :
 Calls Tryz.prog 377 #[.slice (some ⟨b,off,none⟩) n c,.int .i64 i,.int .i64 ((i + 1:Nat):Int)] w fun e w'=>e = .returned (.slice (some ⟨b,off,none⟩) (n - 1) c) ∧
  w' = (w.drew.setCells b (off + i * 2) (cs.drop ((i + 1) * 2))).setCells b (off + (n - 1) * 2) [.int .i64 0,.bool false]:=by
 have mixed:Tryz.prog.follows .mixedOrders = true:=by kernel_rfl
 have u209:=run_underlying Tryz.underlying209
 obtain ⟨i0,hi0,hz1⟩:∃ i0,Tryz.prog.info? 297 = some i0 ∧ i0.size = 2:=⟨_,rfl,by kernel_rfl⟩
 obtain ⟨A,hA,hsrc⟩:∃ A:Addr,(if c = i + 1 then some (⟨b,off,none⟩:Addr) else some ⟨b,off + (i + 1) * 2,none⟩) = some A ∧ Hid (∀ t u,(cs.drop ((i + 1) * 2))[t]? = some u→w.drew.cell? (A.add t) = some u):=by
  by_cases h:c = i + 1
  · refine ⟨⟨b,off,none⟩,by simp [h],fun t u hu=>?_⟩
    have h0:(cs.drop ((i + 1) * 2)).length = 0:=by rw [List.length_drop]; omega
    rw [List.length_eq_zero_iff.1 h0] at hu
    simp at hu
  · refine ⟨⟨b,off + (i + 1) * 2,none⟩,by simp [h],fun t u hu=>?_⟩
    rw [List.getElem?_drop] at hu
    rw [Addr.add_lit,Nat.add_assoc]
    exact hcs _ _ hu
 have hl:(cs.drop ((i + 1) * 2)).length = (n - (i + 1)) * 2:=by rw [List.length_drop,hcl,← Nat.sub_mul]
 have s1:Hid ((cs.drop ((i + 1) * 2)).length = (n - (i + 1)) * 2):=hl
 have s2:Hid (∀ u ∈ cs.drop ((i + 1) * 2),u.oneCell' = true):=fun u hu=>h1c u (List.mem_of_mem_drop hu)
 have hat:∀ t,t < n * 2→(w.cell? ⟨b,off + t,none⟩).isSome = true:=fun t ht=>by rw [hcs t _ (List.getElem?_eq_getElem (by omega))]; rfl
 have s3:Hid (∀ t,t < (cs.drop ((i + 1) * 2)).length→(w.drew.cell? ⟨b,off + i * 2 + t,none⟩).isSome = true ∧ w.drew.frozen? ⟨b,off + i * 2 + t,none⟩ = false):=fun t ht=>by
  rw [hl] at ht
  rw [Nat.add_assoc]
  exact ⟨hat _ (by omega),hfz _ (by omega)⟩
 obtain ⟨W1,hW1⟩:∃ W1,W1 = w.drew.setCells b (off + i * 2) (cs.drop ((i + 1) * 2)):=⟨_,rfl⟩
 have hm:i + (n - (i + 1)) = n - 1:=by omega
 have hm1:n - (i + (n - (i + 1))) = 1:=by omega
 have hm2:i + (n - (i + 1))≤c:=by omega
 have hm3:i + (n - (i + 1))≤n:=by omega
 have hm4:¬ (c = i + (n - (i + 1))):=by omega
 have hcl:∀ ty,(Builtin.clear_ #[209] ty #[.slice (some ⟨b,off + (n - 1) * 2,none⟩) (n - (n - 1)) (c - (n - 1))]).run Tryz.prog W1 = .ok (.tuple #[]) (W1.setCells b (off + (n - 1) * 2) [.int .i64 0,.bool false]):=fun ty=>by
  rw [show n - (n - 1) = 1 by omega]
  exact run_clearN W1 209 297 ty _ Tryz.underlying209 Tryz.zeroValue297 (by simp [Value.cells,Value.oneCell']) b (off + (n - 1) * 2) _ (fun j hj=>by
   rw [hW1,Nat.add_assoc]
   exact isSome_setC b _ _ _ (fun t ht=>(s3 t ht).1) _ (hat _ (by simp [Value.cells] at hj; omega))) (fun j hj=>by
   rw [hW1,World.frozen?_setCells,Nat.add_assoc]
   exact hfz _ (by simp [Value.cells] at hj; omega))
 have hW:Hid (W1 = w.drew.setCells b (off + i * 2) (cs.drop ((i + 1) * 2))):=hW1
 have hq1:(0:Int)≤(i:Int) + 1:=by omega
 have hq2:(i:Int) + 1≤(n:Int):=by omega
 have hic:i≤c:=by omega
 have hjc:i + 1≤c:=by omega
 rw [← hW1]
 clear hW1 hl hcs hfz h1c hat
 go_enter Tryz.func377,Tryz.ntmps377
 go_wp2_with fail
 go_region_law_o (refine step_append_room rfl (.tmp 22) (.tmp 25) 209 rfl 297 i0 2 Tryz.underlying209 hi0 hz1 b off i c (by simp [Act.eval,Act.put]) A (n - (i + 1)) (c - (i + 1)) (cs.drop ((i + 1) * 2)) (by simp [Act.eval,Act.put]) s1.out hsrc.out s2.out (by omega) s3.out ?_; rw [← hW.out,hm])
 go_wp2
 go_ret
 exact ⟨rfl,rfl⟩
end
section
open Go.Proofs Go.Shelf Go.RowKit Go.Lib Go.Sort
theorem shape_of {w:World} {b o:Nat} (h:(w.cell? ⟨b,o,none⟩).isSome = true):∃ t k,w.shape? b = some (t,k) ∧ k ≠ 0:=by
 unfold World.cell? at h
 unfold World.shape?
 cases hb:w.heap[b]? with
 | none=>simp [hb] at h
 | some ob =>
   cases ob with
   | cells c t z =>
     refine ⟨t,c.size,by simp,?_⟩
     simp [hb] at h
     omega
   | _=>simp [hb] at h
/-- slices.overlaps,the other row in memory of which nothing is frozen. -/
theorem run_overlapsU {P:Program} (w:World) (tS tR e:TypeId) (ht:P.underlying tS = some (.slice e)) (size:Nat) (hz:∀ w,(Go.sizeOf e).run P w = .ok size w) (a b:Addr) (la ca lb cb:Nat) (ka kb:Nat)
 (hsa:(w.cell? ⟨a.block,ka,none⟩).isSome = true) (hsb:(w.cell? ⟨b.block,kb,none⟩).isSome = true) (hsp:b.spot = none) (hf:∀ o,w.frozen? ⟨b.block,o,none⟩ = false) (hne:a.block = b.block→¬ (a.off < b.off + lb * size ∧ b.off < a.off + la * size)) :
 (Extern.SlicesOverlaps.overlaps #[tS,tS] #[tR] #[.slice (some a) la ca,.slice (some b) lb cb]).run P w = .ok (.bool false) w:=by
 obtain ⟨tA,kA,hA,hA0⟩:=shape_of hsa
 obtain ⟨tB,kB,hB,hB0⟩:=shape_of hsb
 have hfb:w.frozen? b = false:=by rw [show b = ⟨b.block,b.off,none⟩ by cases b; simp at hsp ⊢; exact hsp]; exact hf _
 change Sem.run P (α:=Value) (do
  let some t:=(#[tS,tS]:Array TypeId)[0]? | stuck "slices.overlaps: no parameter types"
  let .slice elem ← underlying t | stuck "slices.overlaps: slice type expected"
  let size ← sizeOf elem
  match (some a:Option Addr),(some b:Option Addr) with
  | some a,some b =>
    if la = 0 ∨ lb = 0 ∨ size = 0 then pure (Value.bool false)
    else if a.block != b.block&&(← frozen a)&&(← frozen b) then unsupported .addressObserved
    else do
     if a.block != b.block then do
      noView a; noView b
      if ← mayBeOne a b then return Value.bool ((← choose (.extern "sameAddr.stringBytes" 2)) == 1)
     pure (Value.bool (a.block == b.block&&a.off < b.off + lb * size&&b.off < a.off + la * size))
  | _,_=>pure (Value.bool false)) w = _
 by_cases h0:la = 0 ∨ lb = 0 ∨ size = 0
 · simp [run_underlying ht,hz,h0]
 · by_cases hab:a.block = b.block
   · have:=hne hab
     simp only [not_and] at this
     simp [run_underlying ht,hz,h0,hab]
     intro q
     have:=this q
     omega
   · have hnb:(a.block != b.block) = true:=by simpa using hab
     have hnb':(a.block == b.block) = false:=by simpa using hab
     obtain ⟨kA,rfl⟩:=Nat.exists_eq_succ_of_ne_zero hA0
     obtain ⟨kB,rfl⟩:=Nat.exists_eq_succ_of_ne_zero hB0
     cases hfa:w.frozen? a <;> cases hfe:w.frozen? ⟨a.block,kA + 1,none⟩ <;> simp [run_underlying ht,hz,h0,hnb,hnb',frozen,noView,viewAt,mayBeOne,stringish,shape,Sem.run,hA,hB,hfa,hfb,hf,hfe]
set_option maxHeartbeats 4000000 in
set_option maxRecDepth 1000000 in
/-- slices.Insert(s,0,x): there is room. -/
theorem ins_room (b off n c vb voff vc:Nat) (cs vs:List Value) (w:World) (hn:0 < n) (hroom:n + 1≤c) (hmost:n + 1≤most) (hcl:cs.length = n * 2) (hvl:vs.length = 2)
 (hcs:∀ (j:Nat) (v:Value),cs[j]? = some v→w.cell? ⟨b,off + j,none⟩ = some v) (hat:∀ j,j < c * 2→(w.cell? ⟨b,off + j,none⟩).isSome = true) (hfz:∀ o,w.frozen? ⟨b,o,none⟩ = false) (h1c:∀ v ∈ cs,v.oneCell' = true)
 (hvs:∀ (j:Nat) (v:Value),vs[j]? = some v→w.cell? ⟨vb,voff + j,none⟩ = some v) (h1v:∀ v ∈ vs,v.oneCell' = true) (hap:vb = b→voff + 2≤off ∨ off + c * 2≤voff) :
 Calls Tryz.prog 376 #[.slice (some ⟨b,off,none⟩) n c,.int .i64 0,.slice (some ⟨vb,voff,none⟩) 1 vc] w fun e w'=>e = .returned (.slice (some ⟨b,off,none⟩) (n + 1) c) ∧
  w' = (w.drew.setCells b (off + 2) cs).setCells b off vs:=by
 have mixed:Tryz.prog.follows .mixedOrders = true:=by kernel_rfl
 have u209:=run_underlying Tryz.underlying209
 unfold most at hmost
 have hw1:wrap64 ((n:Int) + 1) = (n:Int) + 1:=by unfold wrap64; omega
 have hq1:¬ ((c:Int) < (n:Int) + 1):=by omega
 have hq2:(0:Int)≤(n:Int) + 1:=by omega
 have hq3:(n:Int) + 1≤(c:Int):=by omega
 have hq4:(1:Int)≤(n:Int) + 1:=by omega
 have hq5:((n:Int) + 1).toNat = n + 1:=by omega
 have hc0:¬ (c = 1):=by omega
 have hc00:¬ (c = 0):=by omega
 have hn0:¬ ((0:Int) = (n:Int)):=by omega
 have hn1:((n:Int) == 0) = false:=by simp; omega
 have hn2:¬ (n = 0):=by omega
 have hw2:IntKind.i64.wrap 1 = 1:=by decide
 have hov:∀ cb,(callFunc 387 #[.slice (some ⟨vb,voff,none⟩) 1 vc,.slice (some ⟨b,off + 2,none⟩) n cb]).run Tryz.prog w = .ok (.value (.bool false)) w:=fun cb=>by
  rw [run_callFunc_extern Tryz.func387 (by kernel_rfl) (by kernel_rfl) (by kernel_rfl) (e:=Extern.SlicesOverlaps.overlaps #[209,209] #[4]) (by kernel_rfl),
   run_overlapsU w 209 4 297 Tryz.underlying209 2 Tryz.sizeOf297 ⟨vb,voff,none⟩ ⟨b,off + 2,none⟩ 1 vc n cb voff off (by have:=hvs 0 _ (List.getElem?_eq_getElem (by omega)); rw [Nat.add_zero] at this; rw [this]; rfl) (by have:=hat 0 (by omega); rwa [Nat.add_zero] at this) rfl hfz (fun q=>?_)]
  · rfl
  · have:=hap q
    simp only
    omega
 have hcp1:∀ ty dc sc,(Builtin.copy_ #[209,209] ty #[.slice (some ⟨b,off + 2,none⟩) n dc,.slice (some ⟨b,off,none⟩) (n + 1) sc]).run Tryz.prog w.drew = .ok (goInt n) (w.drew.setCells b (off + 2) cs):=fun ty dc sc=>by
  have:=run_copyN (P:=Tryz.prog) w.drew 209 209 ty 297 b (off + 2) n dc ⟨b,off,none⟩ (n + 1) sc 2 cs Tryz.underlying209 Tryz.sizeOf297 (by rw [hcl]; simp only [Nat.min_def]; split <;> omega)
   (fun j v hj=>by rw [Addr.add_lit]; exact hcs j v hj) (fun j hj=>by rw [Nat.add_assoc]; exact hat _ (by omega)) (fun j _=>hfz _) h1c
  rw [show Nat.min (n + 1) n = n by simp only [Nat.min_def]; split <;> omega] at this
  exact this
 obtain ⟨W1,hW1⟩:∃ W1,W1 = w.drew.setCells b (off + 2) cs:=⟨_,rfl⟩
 have hcp2:∀ ty dc,(Builtin.copy_ #[209,209] ty #[.slice (some ⟨b,off,none⟩) (n + 1) dc,.slice (some ⟨vb,voff,none⟩) 1 vc]).run Tryz.prog W1 = .ok (goInt 1) (W1.setCells b off vs):=fun ty dc=>by
  have:=run_copyN (P:=Tryz.prog) W1 209 209 ty 297 b off (n + 1) dc ⟨vb,voff,none⟩ 1 vc 2 vs Tryz.underlying209 Tryz.sizeOf297 (by rw [hvl]; simp only [Nat.min_def]; split <;> omega)
   (fun j v hj=>by
    have hj2:=(List.getElem?_eq_some_iff.mp hj).1
    rw [Addr.add_lit,hW1,World.cell?_setCells_out]
    · exact hvs j v hj
    · intro q _
      have:=hap q
      simp only
      omega) (fun j hj=>by rw [hW1]; exact isSome_setC b _ _ _ (fun t ht=>by rw [Nat.add_assoc]; exact hat _ (by omega)) _ (hat _ (by omega))) (fun j _=>by rw [hW1,World.frozen?_setCells]; exact hfz _) h1v
  rw [show Nat.min 1 (n + 1) = 1 by simp only [Nat.min_def]; split <;> omega] at this
  exact this
 rw [← hW1] at hcp1 ⊢
 clear hW1 hcs hat hfz h1c hvs h1v
 go_enter Tryz.func376,Tryz.ntmps376
 go_wp2_with (simp only [hov])
 go_region_law_o (refine step_copy_runI rfl _ _ 209 209 rfl _ _ (by simp [Act.eval,Act.put]) (by simp [Act.eval,Act.put]) (hcp1 _ _ _) ?_)
 go_wp2_with (at_builtin; refine wpList_copy_runI _ rfl _ _ 209 209 rfl _ _ rfl rfl (hcp2 _ _) ?_)
 go_ret
 exact ⟨rfl,rfl⟩
end
section
open Go.Proofs Go.Shelf Go.RowKit Go.Lib Go.Sort
set_option maxHeartbeats 4000000 in
set_option maxRecDepth 1000000 in
/-- slices.Insert(s,0,x),s empty. -/
theorem ins_end (base:Option Addr) (c vb voff vc:Nat) (v':Value) (w w2:World) (hrun:(Builtin.append_ #[209,209] 209 #[.slice base 0 c,.slice (some ⟨vb,voff,none⟩) 1 vc]).run Tryz.prog w = .ok v' w2) :
 Calls Tryz.prog 376 #[.slice base 0 c,.int .i64 0,.slice (some ⟨vb,voff,none⟩) 1 vc] w fun e w'=>e = .returned v' ∧ w' = w2:=by
 have mixed:Tryz.prog.follows .mixedOrders = true:=by kernel_rfl
 have u209:=run_underlying Tryz.underlying209
 have hc:¬ ((c:Int) < 0):=by omega
 go_enter Tryz.func376,Tryz.ntmps376
 cases base with
 | none =>
   go_wp2_with (at_builtin; refine Lib.wpList_append_run _ rfl _ _ _ _ rfl _ _ rfl rfl _ _ hrun ?_)
   go_ret
   exact ⟨rfl,rfl⟩
 | some a =>
   obtain ⟨ab,ao,asp⟩:=a
   go_wp2_with (at_builtin; refine Lib.wpList_append_run _ rfl _ _ _ _ rfl _ _ rfl rfl _ _ hrun ?_)
   all_goals (go_ret; exact ⟨rfl,rfl⟩)
set_option maxHeartbeats 4000000 in
set_option maxRecDepth 1000000 in
/-- slices.Insert(s,0,x): no room. -/
theorem ins_grow (b off n c vb voff vc G:Nat) (ROW:Array Value) (cs vs:List Value) (w:World) (hn:0 < n) (hnc:n≤c) (hroom:c < n + 1) (hmost:n + 1≤most) (hcl:cs.length = n * 2) (hvl:vs.length = 2) (hG:n + 1≤G) (hR:(n + 1) * 2≤ROW.size)
 (hcs:∀ (j:Nat) (v:Value),cs[j]? = some v→w.cell? ⟨b,off + j,none⟩ = some v) (h1c:∀ v ∈ cs,v.oneCell' = true)
 (hvs:∀ (j:Nat) (v:Value),vs[j]? = some v→w.cell? ⟨vb,voff + j,none⟩ = some v) (h1v:∀ v ∈ vs,v.oneCell' = true)
 (hrz:(Builtin.append_ #[209,3] 209 #[.slice (some ⟨b,off,none⟩) 0 c,.int .i64 ((n:Int) + 1)]).run Tryz.prog w = .ok (.slice (some ⟨w.heap.size,0,none⟩) (n + 1) G) (w.drew.alloc (.cells ROW 297))) :
 Calls Tryz.prog 376 #[.slice (some ⟨b,off,none⟩) n c,.int .i64 0,.slice (some ⟨vb,voff,none⟩) 1 vc] w fun e w'=>e = .returned (.slice (some ⟨w.heap.size,0,none⟩) (n + 1) G) ∧
  w' = ((w.alloc (.cells ROW 297)).drew.setCells w.heap.size 0 vs).drew.setCells w.heap.size 2 cs:=by
 have mixed:Tryz.prog.follows .mixedOrders = true:=by kernel_rfl
 have u209:=run_underlying Tryz.underlying209
 have hbw:b < w.heap.size:=by
  have h0:=hcs 0 _ (List.getElem?_eq_getElem (by omega))
  exact World.block_lt_of_cell? w _ h0
 have hvw:vb < w.heap.size:=by
  have h0:=hvs 0 _ (List.getElem?_eq_getElem (by omega))
  exact World.block_lt_of_cell? w _ h0
 unfold most at hmost
 have hw1:wrap64 ((n:Int) + 1) = (n:Int) + 1:=by unfold wrap64; omega
 have hw2:IntKind.i64.wrap 1 = 1:=by decide
 have hq1:(c:Int) < (n:Int) + 1:=by omega
 have hq2:(0:Int)≤(n:Int) + 1:=by omega
 have hq4:(1:Int)≤(n:Int) + 1:=by omega
 have hq5:((n:Int) + 1).toNat = n + 1:=by omega
 have hc00:¬ (c = 0):=by omega
 have hG1:¬ (G = 1):=by omega
 have hG0:¬ (G = 0):=by omega
 have hn0:¬ ((0:Int) = (n:Int)):=by omega
 have hn1:((n:Int) == 0) = false:=by simp; omega
 have hn2:¬ (n = 0):=by omega
 obtain ⟨W1,hW1⟩:∃ W1,W1 = w.drew.alloc (.cells ROW 297):=⟨_,rfl⟩
 have hN:∀ j,j < (n + 1) * 2→(W1.cell? ⟨w.heap.size,j,none⟩).isSome = true:=fun j hj=>by
  rw [hW1,World.cell?_alloc_at (w:=w.drew) ROW _ w.heap.size j rfl,Array.getElem?_eq_getElem (by omega)]; rfl
 have hNf:∀ j,W1.frozen? ⟨w.heap.size,j,none⟩ = false:=fun j=>by rw [hW1]; exact World.frozen?_alloc_at (w:=w.drew) ROW _ w.heap.size j rfl
 have hOb:∀ j v,w.cell? ⟨b,j,none⟩ = some v→W1.cell? ⟨b,j,none⟩ = some v:=fun j v h=>by rw [hW1,World.cell?_alloc_past (w:=w.drew) _ b j hbw]; exact h
 have hOv:∀ j v,w.cell? ⟨vb,j,none⟩ = some v→W1.cell? ⟨vb,j,none⟩ = some v:=fun j v h=>by rw [hW1,World.cell?_alloc_past (w:=w.drew) _ vb j hvw]; exact h
 have hcpA:∀ (W:World),(∀ x,W.cell? x = W1.cell? x)→(∀ x,W.frozen? x = W1.frozen? x)→∀ ty dc,(Builtin.copy_ #[209,209] ty #[.slice (some ⟨w.heap.size,0,none⟩) (n + 1) dc,.slice (some ⟨vb,voff,none⟩) 1 vc]).run Tryz.prog W = .ok (goInt 1) (W.setCells w.heap.size 0 vs):=fun W hWc hWf ty dc=>by
  have:=run_copyN (P:=Tryz.prog) W 209 209 ty 297 w.heap.size 0 (n + 1) dc ⟨vb,voff,none⟩ 1 vc 2 vs Tryz.underlying209 Tryz.sizeOf297 (by rw [hvl]; simp only [Nat.min_def]; split <;> omega)
   (fun j v hj=>by rw [Addr.add_lit,hWc]; exact hOv _ v (hvs j v hj)) (fun j hj=>by rw [hWc]; exact hN _ (by omega)) (fun j hj=>by rw [hWf]; exact hNf _) h1v
  rw [show Nat.min 1 (n + 1) = 1 by simp only [Nat.min_def]; split <;> omega] at this
  exact this
 have hcpB:∀ (W:World),(∀ x,W.cell? x = (W1.setCells w.heap.size 0 vs).cell? x)→(∀ x,W.frozen? x = (W1.setCells w.heap.size 0 vs).frozen? x)→∀ ty dc sc,(Builtin.copy_ #[209,209] ty #[.slice (some ⟨w.heap.size,2,none⟩) n dc,.slice (some ⟨b,off,none⟩) n sc]).run Tryz.prog W = .ok (goInt n) (W.setCells w.heap.size 2 cs):=fun W hWc hWf ty dc sc=>by
  have:=run_copyN (P:=Tryz.prog) W 209 209 ty 297 w.heap.size 2 n dc ⟨b,off,none⟩ n sc 2 cs Tryz.underlying209 Tryz.sizeOf297 (by rw [hcl,show Nat.min n n = n by simp only [Nat.min_def]; split <;> omega])
   (fun j v hj=>by rw [Addr.add_lit,hWc,World.cell?_setCells_out _ _ _ _ _ (fun h _=>absurd h (by simp only; omega))]; exact hOb _ v (hcs j v hj)) (fun j hj=>by rw [hWc]; exact isSome_setC _ _ _ _ (fun t ht=>hN _ (by omega)) _ (hN _ (by omega))) (fun j hj=>by rw [hWf,World.frozen?_setCells]; exact hNf _) h1c
  rw [show Nat.min n n = n by simp only [Nat.min_def]; split <;> omega] at this
  exact this
 subst hW1
 have hE1:∀ x,((w.alloc (.cells ROW 297)).drew).cell? x = (w.drew.alloc (.cells ROW 297)).cell? x:=fun x=>rfl
 have hE2:∀ x,((w.alloc (.cells ROW 297)).drew).frozen? x = (w.drew.alloc (.cells ROW 297)).frozen? x:=fun x=>rfl
 have hF1:∀ x,(((w.alloc (.cells ROW 297)).drew.setCells w.heap.size 0 vs).drew).cell? x = ((w.drew.alloc (.cells ROW 297)).setCells w.heap.size 0 vs).cell? x:=fun x=>rfl
 have hF2:∀ x,(((w.alloc (.cells ROW 297)).drew.setCells w.heap.size 0 vs).drew).frozen? x = ((w.drew.alloc (.cells ROW 297)).setCells w.heap.size 0 vs).frozen? x:=fun x=>rfl
 clear hN hNf hOb hOv hR hcs h1c hvs h1v
 go_enter Tryz.func376,Tryz.ntmps376
 go_wp2_with (first
  | (at_builtin; refine Lib.wpList_append_run _ rfl _ _ _ _ rfl _ _ rfl rfl _ _ hrz ?_)
  | (at_builtin; refine wpList_copy_runI _ rfl _ _ 209 209 rfl _ _ rfl rfl (hcpA _ hE1 hE2 _ _) ?_))
 go_region_law_o (refine step_copy_runI rfl _ _ 209 209 rfl (.slice (some ⟨w.heap.size,2,none⟩) n (G - 1)) (.slice (some ⟨b,off,none⟩) n c) (by simp [Act.eval,Act.put]) (by simp [Act.eval,Act.put]) (hcpB _ hF1 hF2 3 (G - 1) c) ?_)
 go_wp2
 go_ret
 exact ⟨rfl,rfl⟩
end
section
abbrev Way:Ty:=.pair (.int .i64) (.pair .bool .unit)
/-- A row of ways,cell by cell. -/
def cellV (x:L Way.T) (k:Nat):Value:=bif Nat.beq (k % 2) 0 then .int .i64 (x.get (k / 2)).1 else .bool (x.get (k / 2)).2.1
def waysC (x:L Way.T):List Value:=(List.range (x.len * 2)).map (cellV x)
theorem waysC_len (x:L Way.T):(waysC x).length = x.len * 2:=by simp [waysC]
theorem waysC_get (x:L Way.T) {k:Nat} (h:k < x.len * 2):(waysC x)[k]? = some (cellV x k):=by
 simp [waysC,h]
theorem waysC_one (x:L Way.T):∀ v ∈ waysC x,v.oneCell' = true:=by
 intro v hv
 obtain ⟨k,_,rfl⟩:=List.mem_map.mp hv
 unfold cellV
 cases Nat.beq (k % 2) 0 <;> rfl
theorem cellV_at (x:L Way.T) (i:Nat):cellV x (i * 2) = .int .i64 (x.get i).1 ∧ cellV x (i * 2 + 1) = .bool (x.get i).2.1:=by
 unfold cellV
 rw [show i * 2 % 2 = 0 by omega,show i * 2 / 2 = i by omega,show (i * 2 + 1) % 2 = 1 by omega,show (i * 2 + 1) / 2 = i by omega]
 exact ⟨rfl,rfl⟩
theorem cellV_of {x y:L Way.T} {i j:Nat} (h:x.get i = y.get j) {q:Nat} (hq:q < 2):cellV x (i * 2 + q) = cellV y (j * 2 + q):=by
 obtain ⟨a1,a2⟩:=cellV_at x i
 obtain ⟨b1,b2⟩:=cellV_at y j
 rcases Nat.lt_or_ge q 1 with h0 | h0
 · obtain rfl:q = 0:=by omega
   rw [Nat.add_zero,Nat.add_zero,a1,b1,h]
 · obtain rfl:q = 1:=by omega
   rw [a2,b2,h]
/-- What a row of ways is in memory. -/
theorem row_cells {c:Nat→Nat→Col} {w:World} {id:Nat} {x:L Way.T} {h:Hdr} (hr:RowC true c w id Way x h):HdrOf h x.len x.nil ∧ ∀ ad,h.1 = some ad→ad.spot = none ∧
 (∀ k,k < h.2.2 * 2→c ad.block (ad.off + k) = .bx id ∧ (∃ v,w.cell? ⟨ad.block,ad.off + k,none⟩ = some v) ∧ w.frozen? ⟨ad.block,ad.off + k,none⟩ = false) ∧
 ∀ (k:Nat) (v:Value),(waysC x)[k]? = some v→w.cell? ⟨ad.block,ad.off + k,none⟩ = some v:=by
 obtain ⟨nh,R,⟨h1,h2,h3⟩,hp⟩:=hr
 refine ⟨h1,fun ad had=>⟨(h2 ad had).1,fun k hk=>?_,fun k v hv=>?_⟩⟩
 · obtain ⟨q1,q2,q3⟩:=(h2 ad had).2 k hk
   exact ⟨(hp _ _ (by rw [q1]; simp)).1,q2,q3⟩
 · have hk:k < x.len * 2:=by have:=(List.getElem?_eq_some_iff.mp hv).1; rwa [waysC_len] at this
   rw [waysC_get x hk] at hv
   obtain ⟨us,u1,u2,u3⟩:=h3 (k / 2) (by omega)
   obtain ⟨v1,v2,rfl,e1,v3,v4,rfl,e2,e3⟩:=u2
   simp only [RepN] at e1 e2 e3
   subst e1 e2 e3
   obtain ⟨a1,a2⟩:=cellV_at x (k / 2)
   have:=u3 ad had (k % 2) v (by
    rcases Nat.mod_two_eq_zero_or_one k with q | q <;> rw [q]
    · rw [show k = k / 2 * 2 by omega] at hv
      rw [a1] at hv
      simpa using hv
    · rw [show k = k / 2 * 2 + 1 by omega] at hv
      rw [a2] at hv
      simpa using hv)
   rw [show ad.off + k / 2 * Way.size + k % 2 = ad.off + k by show ad.off + k / 2 * 2 + k % 2 = _; omega] at this
   exact this
open Classical in
noncomputable def colR (c:Nat→Nat→Col) (h:Hdr):Nat→Nat→Col:=fun b o=>if baseB h 2 b o then .bx oBase else c b o
/-- A row of ways laid anew goes out. -/
theorem row_behind {ins:List In} {F:InsT ins→Option (TysT [.sl Way]×PtT ins)} {n0:Nat→Nat→Nat→Hdr} {col:Nat→Nat→Col} {w w':World} {args:Array Value} {id:Nat} (hcol:ColOk { ins:=ins,out:=[.sl Way],F:=F,fr:=1 } col w) (hid:given id) {h h':Hdr} (hown:∀ b o,baseB h 2 b o→col b o = .bx id) {y:L Way.T} {z:PtT ins}
 (e1:HdrOf h' y.len y.nil)
 (e5:∀ ad,h'.1 = some ad→ad.spot = none ∧ (∀ k,k < y.len * 2→w'.cell? ⟨ad.block,ad.off + k,none⟩ = some (cellV y k)) ∧ ∀ k,k < h'.2.2 * 2→(∃ v,w'.cell? ⟨ad.block,ad.off + k,none⟩ = some v) ∧ w'.frozen? ⟨ad.block,ad.off + k,none⟩ = false)
 (e6:∀ b o,baseB h' 2 b o→w.heap.size≤b ∨ baseB h 2 b o) (e7:∀ b o v,w.cell? ⟨b,o,none⟩ = some v→¬ baseB h 2 b o→w'.cell? ⟨b,o,none⟩ = some v)
 (e8:(∀ b o,b < w.heap.size→w'.frozen? ⟨b,o,none⟩ = w.frozen? ⟨b,o,none⟩) ∧ ∀ b o,w.heap.size≤b→w'.frozen? ⟨b,o,none⟩ = false)
 (e9:∀ b ob,w.heap[b]? = some ob→(∀ o,¬ baseB h 2 b o)→w'.heap[b]? = some ob) (e10:∀ b o,b < w.heap.size→(w'.cell? ⟨b,o,none⟩).isSome = (w.cell? ⟨b,o,none⟩).isSome)
 (e11:w'.os = w.os ∧ w'.tape = w.tape ∧ w'.output = w.output ∧ w.heap.size≤w'.heap.size) (hpts:PtsRep n0 (colR col h') w' ins z 0 args.toList) :
 Behind { ins:=ins,out:=[.sl Way],F:=F,fr:=1 } n0 col w args ((y,()),z) (.returned (slV h')) w':=by
 have hnob:∀ {b},(∀ o id,col b o ≠ .bx id)→∀ o,¬ baseB h 2 b o:=fun hc o q=>hc o _ (hown _ _ q)
 refine ⟨slV h',colR col h',rfl,⟨e11.1,e11.2.1,e11.2.2.1,e11.2.2.2,fun b hb hc=>?_,fun b hb o hc=>?_,fun b hb o=>e8.1 b o hb,fun b hb o=>e10 b o hb,fun b hb o=>e8.2 b o hb,fun b o id q=>(hcol.1 b o id q).2,hcol.2⟩,fun b hb o=>?_,?_,hpts⟩
 · rw [Array.getElem?_eq_getElem hb]
   exact e9 b _ (Array.getElem?_eq_getElem hb) (hnob hc)
 · cases hw:w.cell? ⟨b,o,none⟩ with
   | none=>have:=e10 b o hb; rw [hw] at this; simpa using this
   | some v=>exact e7 b o v hw fun q=>hc _ (hown _ _ q)
 · unfold colR
   by_cases hq:baseB h' 2 b o
   · rw [if_pos hq]
     have hc:=hown b o ((e6 b o hq).resolve_left (by omega))
     refine ⟨⟨fun q=>(by cases q),fun q=>(by rw [hc] at q; cases q)⟩,fun m hm=>?_⟩
     cases hm
     exact ⟨fun q=>absurd q.1 (Nat.lt_irrefl _),fun _=>⟨id,hid,hc⟩⟩
   · rw [if_neg hq]
     refine ⟨Iff.rfl,fun m hm=>⟨fun _=>hm,fun q=>?_⟩⟩
     obtain ⟨⟨⟨h1,h2⟩,_⟩,_⟩:=hcol.1 b o m hm
     by_cases hg:given m
     · exact ⟨m,hg,hm⟩
     · exact absurd ⟨h2,stay_of h1 hg⟩ q
 · unfold OutIs
   rw [if_neg (by simp)]
   refine ⟨[slV h'],⟨slV h',[],rfl,⟨[slV h'],?_,rfl⟩,rfl⟩,rfl⟩
   show SlP (fun j u y h=>RowC true (colR col h') w' (oBase + j) u y h) (.sl Way) y [slV h'] 0
   refine ⟨h',rfl,fun _ _=>(none,0,0),open Classical in fun b o=>if baseB h' 2 b o then some none else none,⟨e1,fun ad had=>⟨(e5 ad had).1,fun k hk=>?_⟩,fun i hi=>?_⟩,fun b o hR=>?_⟩
   · exact ⟨if_pos ⟨ad,had,rfl,by omega,by show ad.off + k < ad.off + h'.2.2 * 2; have:k < h'.2.2 * 2:=hk; omega⟩,(e5 ad had).2.2 k hk⟩
   · obtain ⟨a1,a2⟩:=cellV_at y i
     refine ⟨[.int .i64 (y.get i).1,.bool (y.get i).2.1],rfl,⟨[.int .i64 (y.get i).1],[.bool (y.get i).2.1],rfl,rfl,[.bool (y.get i).2.1],[],rfl,rfl,rfl⟩,fun ad had q v hv=>?_⟩
     have hq:q < 2:=(List.getElem?_eq_some_iff.mp hv).1
     have:=(e5 ad had).2.1 (i * 2 + q) (by omega)
     rw [show ad.off + i * Way.size + q = ad.off + (i * 2 + q) by show ad.off + i * 2 + q = _; omega,this]
     rcases Nat.lt_or_ge q 1 with h0 | h0
     · obtain rfl:q = 0:=by omega
       rw [Nat.add_zero,a1]; simpa using hv
     · obtain rfl:q = 1:=by omega
       rw [a2]; simpa using hv
   · by_cases q:baseB h' 2 b o
     · refine ⟨if_pos q,?_⟩
       obtain ⟨ad,had,rfl,q2,q3⟩:=q
       have:=(e5 ad had).2.2 (o - ad.off) (by omega)
       rw [show ad.off + (o - ad.off) = o by omega] at this
       exact this
     · exact absurd (if_neg q) hR
end
section
open Go.Proofs
/-- Nothing turned but cells of one row. -/
structure InRow (b lo hi:Nat) (w w':World):Prop where
 cell:∀ b' o,¬ (b' = b ∧ lo≤o ∧ o < hi)→w'.cell? ⟨b',o,none⟩ = w.cell? ⟨b',o,none⟩
 some:∀ b' o,(w'.cell? ⟨b',o,none⟩).isSome = (w.cell? ⟨b',o,none⟩).isSome
 frz:∀ b' o,w'.frozen? ⟨b',o,none⟩ = w.frozen? ⟨b',o,none⟩
 blk:∀ b',b' ≠ b→w'.heap[b']? = w.heap[b']?
 os:w'.os = w.os ∧ w'.tape = w.tape ∧ w'.output = w.output ∧ w'.heap.size = w.heap.size
theorem InRow.drew {b lo hi:Nat} {w:World}:InRow b lo hi w w.drew:=⟨fun _ _ _=>rfl,fun _ _=>rfl,fun _ _=>rfl,fun _ _=>rfl,rfl,rfl,rfl,rfl⟩
theorem InRow.trans {b lo hi:Nat} {w w1 w2:World} (h:InRow b lo hi w w1) (k:InRow b lo hi w1 w2):InRow b lo hi w w2 :=
 ⟨fun b' o q=>(k.cell b' o q).trans (h.cell b' o q),fun b' o=>(k.some b' o).trans (h.some b' o),fun b' o=>(k.frz b' o).trans (h.frz b' o),fun b' q=>(k.blk b' q).trans (h.blk b' q),k.os.1.trans h.os.1,k.os.2.1.trans h.os.2.1,k.os.2.2.1.trans h.os.2.2.1,k.os.2.2.2.trans h.os.2.2.2⟩
theorem InRow.set {b lo hi:Nat} {w:World} {o:Nat} {vs:List Value} (h1:lo≤o) (h2:o + vs.length≤hi) (hc:∀ k,lo≤k→k < hi→(w.cell? ⟨b,k,none⟩).isSome = true):InRow b lo hi w (w.setCells b o vs):=by
 have hcs:=cell_setCells (w:=w) (b:=b) (o:=o) (vs:=vs) fun j hj=>hc _ (by omega) (by omega)
 refine ⟨fun b' o' q=>?_,fun b' o'=>?_,fun b' o'=>World.frozen?_setCells _ _ _ _ _,fun b' q=>heap_setCells _ _ q _ _ _,setCells_os _ _ _ _,setCells_tape _ _ _ _,setCells_output _ _ _ _,size_setCells _ _ _ _⟩
 · rw [hcs,if_neg]
   rintro ⟨q1,q2,q3⟩
   exact q ⟨q1,by omega,by omega⟩
 · rw [hcs]
   split
   · rename_i q
     obtain ⟨rfl,q1,q2⟩:=q
     rw [hc o' (by omega) (by omega),List.getElem?_eq_getElem (by omega)]; rfl
   · rfl
theorem given1:given (pN 0 + 1 + 0):=by unfold given; decide
def delL (x:L Way.T) (i:Nat):L Way.T:=(x.cut 0 i).app (x.cut (i + 1) x.len)
def insL (x v:L Way.T):L Way.T:=v.app x
theorem delL_len {x:L Way.T} {i:Nat} (h:i < x.len):(delL x i).len = x.len - 1:=by show i - 0 + (x.len - (i + 1)) = _; omega
theorem delL_lt {x:L Way.T} {i k:Nat} (h:k < i):(delL x i).get k = x.get k:=by
 show (bif Nat.blt k (i - 0) then x.get (0 + k) else _) = _
 rw [show Nat.blt k (i - 0) = true by simpa using h,Nat.zero_add]; rfl
theorem delL_ge {x:L Way.T} {i k:Nat} (h:i≤k):(delL x i).get k = x.get (k + 1):=by
 show (bif Nat.blt k (i - 0) then _ else x.get (i + 1 + (k - (i - 0)))) = _
 rw [show Nat.blt k (i - 0) = false by cases hq:Nat.blt k (i - 0) with | false=>rfl | true=>simp at hq; omega]
 show x.get _ = _
 congr 1; omega
theorem insL_len (x v:L Way.T) (h:v.len = 1):(insL x v).len = x.len + 1:=by show v.len + x.len = _; omega
theorem insL_0 {x v:L Way.T} (h:v.len = 1):(insL x v).get 0 = v.get 0:=by
 show (bif Nat.blt 0 v.len then _ else _) = _
 rw [h]; rfl
theorem insL_s {x v:L Way.T} (h:v.len = 1) (k:Nat):(insL x v).get (k + 1) = x.get k:=by
 show (bif Nat.blt (k + 1) v.len then _ else x.get (k + 1 - v.len)) = _
 rw [h,show Nat.blt (k + 1) 1 = false by cases hq:Nat.blt (k + 1) 1 with | false=>rfl | true=>simp at hq]
 rfl
noncomputable def gDe (x:L Way.T) (i j:Int):Option ((L Way.T×Unit)×Unit):=if 0≤i ∧ i.toNat < x.len ∧ j = i + 1 then some ((delL x i.toNat,()),()) else none
noncomputable def gIn (x:L Way.T) (i:Int) (v:L Way.T):Option ((L Way.T×Unit)×Unit):=if i = 0 ∧ v.len = 1 ∧ x.len + 1≤most then some ((insL x v,()),()) else none
noncomputable def cDe:Ctr:={ ins:=[.mv (.sl Way),.v (.int .i64),.v (.int .i64)],out:=[.sl Way],F:=fun x=>gDe x.1 x.2.1 x.2.2.1,fr:=1 }
noncomputable def cIn:Ctr:={ ins:=[.mv (.sl Way),.v (.int .i64),.v (.sl Way)],out:=[.sl Way],F:=fun x=>gIn x.1 x.2.1 x.2.2.1,fr:=1 }
/-- The row's own memory. -/
theorem base_own {c:Nat→Nat→Col} {w:World} {id b off n cap:Nat} (h:∀ k,k < cap * 2→c b (off + k) = .bx id ∧ (∃ v,w.cell? ⟨b,off + k,none⟩ = some v) ∧ w.frozen? ⟨b,off + k,none⟩ = false):∀ b' o,baseB (some ⟨b,off,none⟩,n,cap) 2 b' o→c b' o = .bx id:=by
 rintro b' o ⟨ad,had,rfl,q1,q2⟩
 cases had
 have:=(h (o - off) (by show _ < cap * 2; simp only at q1 q2; omega)).1
 simp only at q1
 rw [show off + (o - off) = o by omega] at this
 exact this
theorem base_iff {b off n n' cap b' o:Nat}:baseB (some ⟨b,off,none⟩,n,cap) 2 b' o ↔ b' = b ∧ off≤o ∧ o < off + cap * 2:=by
 refine ⟨?_,fun ⟨q1,q2,q3⟩=>⟨_,rfl,q1,q2,q3⟩⟩
 rintro ⟨ad,had,q⟩
 cases had
 exact q
/-- In place. -/
theorem inrow_behind {ins:List In} {F:InsT ins→Option (TysT [.sl Way]×PtT ins)} {n0:Nat→Nat→Nat→Hdr} {col:Nat→Nat→Col} {w w':World} {args:Array Value} {id:Nat} (hcol:ColOk { ins:=ins,out:=[.sl Way],F:=F,fr:=1 } col w) (hid:given id) {b off n n' cap:Nat}
 (hown:∀ k,k < cap * 2→col b (off + k) = .bx id ∧ (∃ v,w.cell? ⟨b,off + k,none⟩ = some v) ∧ w.frozen? ⟨b,off + k,none⟩ = false) (hpos:0 < cap) {y:L Way.T} {z:PtT ins} (e1:n' = y.len) (e2:n'≤cap) (e3:y.nil = false) (e4:∀ k,k < y.len * 2→w'.cell? ⟨b,off + k,none⟩ = some (cellV y k)) (hr:InRow b off (off + cap * 2) w w')
 (hpts:PtsRep n0 (colR col (some ⟨b,off,none⟩,n',cap)) w' ins z 0 args.toList):Behind { ins:=ins,out:=[.sl Way],F:=F,fr:=1 } n0 col w args ((y,()),z) (.returned (.slice (some ⟨b,off,none⟩) n' cap)) w':=by
 refine row_behind hcol hid (h:=(some ⟨b,off,none⟩,n,cap)) (h':=(some ⟨b,off,none⟩,n',cap)) (base_own hown) ⟨e1,by show y.len≤cap; omega,fun q=>(by cases q),by rw [e3]; simp⟩ (fun ad had=>?_) (fun b' o q=>.inr (by rw [base_iff (n':=n')] at q ⊢; exact q)) (fun b' o v hv q=>?_) ⟨fun b' o _=>hr.frz b' o,fun b' o hb=>(hr.frz b' o).trans (frozen_none hb o)⟩
  (fun b' ob hob q=>?_) (fun b' o _=>hr.some b' o) ⟨hr.os.1,hr.os.2.1,hr.os.2.2.1,by rw [hr.os.2.2.2]; exact Nat.le_refl _⟩ hpts
 · cases had
   refine ⟨rfl,e4,fun k hk=>⟨?_,(hr.frz _ _).trans (hown k hk).2.2⟩⟩
   have:=hr.some b (off + k)
   obtain ⟨v,hv⟩:=(hown k hk).2.1
   rw [hv] at this
   exact Option.isSome_iff_exists.mp this
 · rw [hr.cell b' o (fun q'=>q (base_iff (n':=n).mpr q')),hv]
 · rw [hr.blk b' (fun e=>q off (base_iff (n':=n).mpr ⟨e,Nat.le_refl _,by omega⟩)),hob]
theorem de_core {n0:Nat→Nat→Nat→Hdr} {col:Nat→Nat→Col} {w:World} {args:Array Value} (hcol:ColOk cDe col w) {x:L Way.T} {i:Nat} (hi:i < x.len) {h:Hdr} (hrow:RowC true col w (pN 0 + 1 + 0) Way x h) (e0:args.toList = [slV h,.int .i64 i,.int .i64 ((i + 1:Nat):Int)]) :
 Calls Tryz.prog 377 args w (Behind cDe n0 col w args ((delL x i,()),())):=by
 obtain ⟨⟨k1,k2,k3,k4⟩,k5⟩:=row_cells hrow
 obtain ⟨base,n,c⟩:=h
 simp only at k1 k2 k3 k4 k5
 subst k1
 cases base with
 | none=>have:=k3 rfl; omega
 | some ad =>
 obtain ⟨b,off,sp⟩:=ad
 obtain ⟨rfl,k6,k7⟩:=k5 _ rfl
 simp only at k6 k7
 have ea:args = #[.slice (some ⟨b,off,none⟩) x.len c,.int .i64 i,.int .i64 ((i + 1:Nat):Int)]:=by
  apply Array.ext'
  simpa [mkV,slV] using e0
 have hat:∀ k,off≤k→k < off + c * 2→(w.cell? ⟨b,k,none⟩).isSome = true:=fun k q1 q2=>by
  obtain ⟨v,hv⟩:=(k6 (k - off) (by omega)).2.1
  rw [show off + (k - off) = k by omega] at hv
  rw [hv]; rfl
 have hld:((waysC x).drop ((i + 1) * 2)).length = (x.len - (i + 1)) * 2:=by rw [List.length_drop,waysC_len,← Nat.sub_mul]
 have hR1:InRow b off (off + c * 2) w (w.drew.setCells b (off + i * 2) ((waysC x).drop ((i + 1) * 2))):=InRow.drew.trans (InRow.set (by omega) (by rw [hld]; omega) hat)
 have hat1:∀ k,off≤k→k < off + c * 2→((w.drew.setCells b (off + i * 2) ((waysC x).drop ((i + 1) * 2))).cell? ⟨b,k,none⟩).isSome = true:=fun k q1 q2=>(hR1.some b k).trans (hat k q1 q2)
 have hR2:=hR1.trans (InRow.set (o:=off + (x.len - 1) * 2) (vs:=[.int .i64 0,.bool false]) (by omega) (by simp; omega) hat1)
 have hw:=del_walk b off x.len c i (waysC x) w hi k2 (waysC_len x) k7 (fun j hj=>(k6 j (by omega)).2.2) (waysC_one x)
 rw [ea]
 refine hw.mono fun e w' hb=>?_
 obtain ⟨rfl,rfl⟩:=hb
 refine inrow_behind (n:=x.len) hcol given1 k6 (by omega) ((delL_len hi).symm) (by omega) ?_ (fun k hk=>?_) hR2 ?_
 · show (x.nil&&_) = false
   cases hx:x.nil with
   | false=>rfl
   | true=>cases k4.mp hx
 · have hk:k < (delL x i).len * 2:=hk
   show _ = some (cellV (delL x i) k)
   rw [delL_len hi] at hk
   have q1:=cell_setCells (w:=w.drew.setCells b (off + i * 2) ((waysC x).drop ((i + 1) * 2))) (b:=b) (o:=off + (x.len - 1) * 2) (vs:=[.int .i64 0,.bool false]) (fun j hj=>hat1 _ (by omega) (by simp at hj; omega)) b (off + k)
   have q2:=cell_setCells (w:=w.drew) (b:=b) (o:=off + i * 2) (vs:=(waysC x).drop ((i + 1) * 2)) (fun j hj=>hat _ (by omega) (by rw [hld] at hj; omega)) b (off + k)
   rw [q1,if_neg (by simp; omega),q2,hld]
   by_cases hq:i * 2≤k
   · rw [if_pos ⟨rfl,by omega,by omega⟩,List.getElem?_drop,waysC_get x (by omega)]
     have:=cellV_of (x:=delL x i) (y:=x) (i:=k / 2) (j:=k / 2 + 1) (delL_ge (by omega)) (q:=k % 2) (by omega)
     rw [show k / 2 * 2 + k % 2 = k by omega] at this
     rw [this]
     congr 2; omega
   · rw [if_neg (by omega)]
     show w.cell? _ = _
     rw [k7 k _ (waysC_get x (by omega))]
     have:=cellV_of (x:=delL x i) (y:=x) (i:=k / 2) (j:=k / 2) (delL_lt (by omega)) (q:=k % 2) (by omega)
     rw [show k / 2 * 2 + k % 2 = k by omega] at this
     rw [this]
 · exact ⟨_,_,rfl,trivial,_,_,rfl,trivial,_,_,rfl,trivial,trivial⟩
theorem oDe:Holds Tryz.prog 377 cDe:=by
 refine ⟨⟨Tryz.f377,Tryz.func377,by kernel_rfl,by kernel_rfl⟩,fun x y hxy=>⟨⟨rfl,by show 3 < 1000; decide⟩,fun n0 col w args hcol hargs=>?_⟩⟩
 obtain ⟨x,i,j,⟨⟩⟩:=x
 simp only [cDe,gDe] at hxy
 split at hxy
 · rename_i hh
   obtain ⟨h0,hi,rfl⟩:=hh
   cases hxy
   obtain ⟨i,rfl⟩:∃ m:Nat,i = m:=⟨i.toNat,(Int.toNat_of_nonneg h0).symm⟩
   obtain ⟨u0,r0,e0,⟨us0,rfl,h,rfl,hrow⟩,u1,r1,rfl,⟨us1,rfl,rfl⟩,u2,r2,rfl,⟨us2,rfl,rfl⟩,rfl⟩:=hargs
   exact de_core hcol hi hrow e0
 · cases hxy
end
section
open Go.Proofs Go.RowKit
set_option maxRecDepth 1000000 in
theorem info297:∃ (i0:TypeInfo) (z:Value),Tryz.prog.info? 297 = some i0 ∧ i0.zero = some z ∧ i0.size = 2 ∧ i0.bytes = 16 ∧ z.cells = #[.int .i64 0,.bool false]:=⟨_,_,rfl,rfl,by kernel_rfl,by kernel_rfl,by kernel_rfl⟩
theorem in_core {n0:Nat→Nat→Nat→Hdr} {col:Nat→Nat→Col} {w:World} {args:Array Value} (hcol:ColOk cIn col w) {x v:L Way.T} (hv1:v.len = 1) (hmost:x.len + 1≤most) {h:Hdr} (hrow:RowC true col w (pN 0 + 1 + 0) Way x h) {vv:Value} (hrep:RepT col w (.sl Way) v [vv]) (e0:args.toList = [slV h,.int .i64 0,vv]) :
 Calls Tryz.prog 376 args w (Behind cIn n0 col w args ((insL x v,()),())):=by
 obtain ⟨⟨k1,k2,k3,k4⟩,k5⟩:=row_cells hrow
 obtain ⟨base,n,c⟩:=h
 simp only at k1 k2 k3 k4 k5
 subst k1
 obtain ⟨va,vc,ev,v2,⟨v3,v4⟩,v5⟩:=hrep
 simp only [List.cons.injEq,and_true] at ev
 subst ev
 cases va with
 | none=>have:=v3 rfl; omega
 | some va =>
 obtain ⟨v6,v7⟩:=v5 _ rfl
 obtain ⟨vb,voff,vs⟩:=va
 obtain rfl:vs = none:=v6 (by omega)
 obtain ⟨us,u1,u2⟩:=v7 0 (by omega)
 have hvn:v.nil = false:=by
  cases hq:v.nil with
  | false=>rfl
  | true=>cases v4.mp hq
 have hus:us = waysC v:=by
  obtain ⟨w1,w2,rfl,e1,w3,w4,rfl,e2,e3⟩:=u1
  simp only [RepT] at e1 e2 e3
  subst e1 e2 e3
  obtain ⟨a1,a2⟩:=cellV_at v 0
  unfold waysC
  rw [hv1]
  simp only [Nat.zero_mul,Nat.zero_add] at a1 a2
  show _ = [cellV v 0,cellV v 1]
  rw [a1,a2]; rfl
 subst hus
 have hvl:(waysC v).length = 2:=by rw [waysC_len,hv1]
 have hvc:∀ (j:Nat) (u:Value),(waysC v)[j]? = some u→col vb (voff + j) = .st ∧ w.cell? ⟨vb,voff + j,none⟩ = some u:=fun j u hj=>by
  have:=u2 j u hj
  simpa using this
 have ea:args = #[.slice base x.len c,.int .i64 0,.slice (some ⟨vb,voff,none⟩) 1 vc]:=by
  apply Array.ext'
  rw [e0,hv1]; rfl
 rw [ea]
 have hpts:∀ colX wX,PtsRep n0 colX wX cIn.ins () 0 [.slice base x.len c,.int .i64 0,.slice (some ⟨vb,voff,none⟩) 1 vc]:=fun _ _=>⟨_,_,rfl,trivial,_,_,rfl,trivial,_,_,rfl,trivial,trivial⟩
 obtain ⟨i0,z,hi0,hz0,hsz,hby,hzc⟩:=info297
 have hyn:(insL x v).nil = false:=by show (v.nil&&_) = false; rw [hvn]; rfl
 have hyl:=insL_len x v hv1
 have hy0:∀ k,k < 2→cellV (insL x v) k = cellV v k:=fun k hk=>by
  have:=cellV_of (x:=insL x v) (y:=v) (i:=0) (j:=0) (insL_0 hv1) hk
  simpa using this
 have hys:∀ k,cellV (insL x v) (k + 2) = cellV x k:=fun k=>by
  have:=cellV_of (x:=insL x v) (y:=x) (i:=k / 2 + 1) (j:=k / 2) (insL_s hv1 _) (q:=k % 2) (by omega)
  rw [show (k / 2 + 1) * 2 + k % 2 = k + 2 by omega,show k / 2 * 2 + k % 2 = k by omega] at this
  exact this
 by_cases hx0:x.len = 0
 · -- at the end
   obtain ⟨h',w',hrun,r1,r2,r3,r4,r5,r6,r7,r8,r9,r10,r11⟩:=app_run (P:=Tryz.prog) (w:=w) (t:=209) (u:=209) (ty0:=209) (e:=297) (i:=i0) (z:=z) (ty:=Way) Tryz.underlying209 Tryz.underlying209 hi0 hz0 hsz (by rw [hzc]; rfl) (by omega) (h1:=(base,0,c)) (olds:=[]) (by simp) (Nat.zero_le _) k3
    (fun ad had=>⟨(k5 ad had).1,fun j v hj=>by simp at hj,fun k hk=>((k5 ad had).2.1 k hk).2⟩) (a2:=some ⟨vb,voff,none⟩) (n:=1) (c:=vc) (news:=waysC v) hvl (waysC_one v) (fun ad had=>by cases had; exact ⟨fun _=>rfl,fun j u hj=>(hvc j u hj).2⟩) (fun q=>by cases q) (by show 0 + 1≤2 ^ 32; decide)
   rw [hx0]
   rw [hx0] at hpts
   refine (ins_end base c vb voff vc (slV h') w w' hrun).mono fun e w2 hb=>?_
   obtain ⟨rfl,rfl⟩:=hb
   refine row_behind hcol given1 (h:=(base,0,c)) (fun b o q=>?_) ⟨by rw [r1,hyl,hx0],by rw [hyl,hx0]; omega,r3,?_⟩ (fun ad had=>⟨(r5 ad had).1,fun k hk=>?_,(r5 ad had).2.2⟩) r6 r7 r8 r9 r10 r11 (hpts _ _)
   · obtain ⟨ad,had,rfl,q1,q2⟩:=q
     have:=((k5 ad had).2.1 (o - ad.off) (by simp only at q2; omega)).1
     rw [show ad.off + (o - ad.off) = o by omega] at this
     exact this
   · rw [hyn,r4]; simp
   · have hk2:k < 2:=by rw [hyl,hx0] at hk; omega
     rw [hy0 k hk2]
     exact (r5 ad had).2.1 k _ (by rw [List.nil_append]; exact waysC_get v (by omega))
 · cases base with
   | none=>have:=k3 rfl; omega
   | some ad =>
   obtain ⟨b,off,sp⟩:=ad
   obtain ⟨rfl,k6,k7⟩:=k5 _ rfl
   simp only at k6 k7
   have hat:∀ k,off≤k→k < off + c * 2→(w.cell? ⟨b,k,none⟩).isSome = true:=fun k q1 q2=>by
    obtain ⟨v,hv⟩:=(k6 (k - off) (by omega)).2.1
    rw [show off + (k - off) = k by omega] at hv
    rw [hv]; rfl
   have hb0:col b off = .bx (pN 0 + 1 + 0):=by have:=(k6 0 (by omega)).1; simpa using this
   by_cases hroom:x.len + 1≤c
   · have hap:vb = b→voff + 2≤off ∨ off + c * 2≤voff:=fun e=>by
      subst e
      have c0:=(hvc 0 _ (waysC_get v (by omega))).1
      have c1:=(hvc 1 _ (waysC_get v (by omega))).1
      rw [Nat.add_zero] at c0
      rcases Nat.lt_or_ge voff off with q | q
      · rcases Nat.lt_or_ge (voff + 1) off with q2 | q2
        · omega
        · rw [show voff + 1 = off by omega,hb0] at c1; cases c1
      · rcases Nat.lt_or_ge voff (off + c * 2) with q2 | q2
        · have:=(k6 (voff - off) (by omega)).1
          rw [show off + (voff - off) = voff by omega,c0] at this; cases this
        · omega
     have hR1:InRow b off (off + c * 2) w (w.drew.setCells b (off + 2) (waysC x)):=InRow.drew.trans (InRow.set (by omega) (by rw [waysC_len]; omega) hat)
     have hat1:∀ k,off≤k→k < off + c * 2→((w.drew.setCells b (off + 2) (waysC x)).cell? ⟨b,k,none⟩).isSome = true:=fun k q1 q2=>(hR1.some b k).trans (hat k q1 q2)
     have hR2:=hR1.trans (InRow.set (o:=off) (vs:=waysC v) (by omega) (by rw [hvl]; omega) hat1)
     refine (ins_room b off x.len c vb voff vc (waysC x) (waysC v) w (by omega) hroom hmost (waysC_len x) hvl k7 (fun j hj=>hat _ (by omega) (by omega)) ((hcol.1 b off _ hb0).2) (waysC_one x) (fun j u hj=>(hvc j u hj).2) (waysC_one v) hap).mono fun e w' hb=>?_
     obtain ⟨rfl,rfl⟩:=hb
     refine inrow_behind (n:=x.len) hcol given1 k6 (by omega) hyl.symm hroom hyn (fun k hk=>?_) hR2 (hpts _ _)
     rw [hyl] at hk
     have q1:=cell_setCells (w:=w.drew.setCells b (off + 2) (waysC x)) (b:=b) (o:=off) (vs:=waysC v) (fun j hj=>hat1 _ (by omega) (by omega)) b (off + k)
     have q2:=cell_setCells (w:=w.drew) (b:=b) (o:=off + 2) (vs:=waysC x) (fun j hj=>hat _ (by omega) (by rw [waysC_len] at hj; omega)) b (off + k)
     rw [q1]
     by_cases hk2:k < 2
     · rw [if_pos ⟨rfl,by omega,by omega⟩,show off + k - off = k by omega,waysC_get v (by omega),hy0 k hk2]
     · rw [if_neg (by omega),q2,if_pos ⟨rfl,by omega,by rw [waysC_len]; omega⟩,show off + k - (off + 2) = k - 2 by omega,waysC_get x (by omega)]
       have:=hys (k - 2)
       rw [show k - 2 + 2 = k by omega] at this
       rw [this]
   · have hrz:=Lib.run_append_grow_zeros (P:=Tryz.prog) w 209 3 209 297 i0 z .i64 .i64 Tryz.underlying209 Tryz.underlying3 hi0 hz0 (some ⟨b,off,none⟩) 0 c [] (by rw [hsz]; exact run_firstCells_some (P:=Tryz.prog) w.drew 2 0 ⟨b,off,none⟩ 0 c [] (by simp) (fun j v hj=>by simp at hj)) (x.len + 1) (by omega) (by omega) (by omega) (by unfold most at hmost; omega) (by rw [hby]; unfold most at hmost; omega)
      (growslice_fits (by omega) (by rw [hby]; unfold most at hmost; omega))
     have hcapge:x.len + 1≤grownCap w (0 + (x.len + 1)) c 297:=by have:=grownCap_ge w (0 + (x.len + 1)) c 297; omega
     generalize grownCap w (0 + (x.len + 1)) c 297 = G at hrz hcapge
     have hl1:=zeroCells_len z.cells (x.len + 1)
     have hl2:=zeroCells_len z.cells (G - (0 + (x.len + 1)))
     have hzs:z.cells.size = 2:=by rw [hzc]; rfl
     rw [hzs] at hl1 hl2
     have hRs:(([]:List Value).toArray ++ Builtin.zeroCells z.cells (x.len + 1) ++ Builtin.zeroCells z.cells (G - (0 + (x.len + 1)))).size = G * 2:=by
      rw [← Array.length_toList,Array.toList_append,Array.toList_append,List.length_append,List.length_append,hl1,hl2]; simp; omega
     generalize ([]:List Value).toArray ++ Builtin.zeroCells z.cells (x.len + 1) ++ Builtin.zeroCells z.cells (G - (0 + (x.len + 1))) = ROW at hrz hRs
     rw [Nat.zero_add] at hrz
     refine (ins_grow b off x.len c vb voff vc G ROW (waysC x) (waysC v) w (by omega) k2 (by omega) hmost (waysC_len x) hvl hcapge (by omega) k7 (waysC_one x) (fun j u hj=>(hvc j u hj).2) (waysC_one v) (by simpa using hrz)).mono fun e w' hb=>?_
     obtain ⟨rfl,rfl⟩:=hb
     have hnew:∀ k,0≤k→k < 0 + G * 2→((w.alloc (.cells ROW 297)).drew.cell? ⟨w.heap.size,k,none⟩).isSome = true:=fun k _ hk=>by
      show ((w.alloc (.cells ROW 297)).cell? ⟨w.heap.size,k,none⟩).isSome = true
      rw [World.cell?_alloc_new,Array.getElem?_eq_getElem (by omega)]; rfl
     have hR1:InRow w.heap.size 0 (0 + G * 2) (w.alloc (.cells ROW 297)) ((w.alloc (.cells ROW 297)).drew.setCells w.heap.size 0 (waysC v)):=InRow.drew.trans (InRow.set (by omega) (by rw [hvl]; omega) hnew)
     have hnew1:∀ k,0≤k→k < 0 + G * 2→(((w.alloc (.cells ROW 297)).drew.setCells w.heap.size 0 (waysC v)).drew.cell? ⟨w.heap.size,k,none⟩).isSome = true:=fun k q1 q2=>(hR1.some _ k).trans (hnew k q1 q2)
     have hR2:=(hR1.trans InRow.drew).trans (InRow.set (o:=2) (vs:=waysC x) (by omega) (by rw [waysC_len]; omega) hnew1)
     have hblt:∀ b' o v,w.cell? ⟨b',o,none⟩ = some v→b' < w.heap.size:=fun b' o v hv=>World.block_lt_of_cell? w ⟨b',o,none⟩ hv
     have hca:∀ b' o,b' < w.heap.size→(w.alloc (.cells ROW 297)).cell? ⟨b',o,none⟩ = w.cell? ⟨b',o,none⟩:=fun b' o hb'=>World.cell?_alloc_lt w _ ⟨b',o,none⟩ hb'
     have hcell:∀ b' o,b' < w.heap.size→(((w.alloc (.cells ROW 297)).drew.setCells w.heap.size 0 (waysC v)).drew.setCells w.heap.size 2 (waysC x)).cell? ⟨b',o,none⟩ = w.cell? ⟨b',o,none⟩:=fun b' o hb'=>(hR2.cell b' o (fun q=>by omega)).trans (hca b' o hb')
     refine row_behind hcol given1 (h:=(some ⟨b,off,none⟩,x.len,c)) (h':=(some ⟨w.heap.size,0,none⟩,x.len + 1,G)) (base_own k6) ⟨hyl.symm,by rw [hyl]; exact hcapge,fun q=>(by cases q),by rw [hyn]; simp⟩ (fun ad had=>?_) (fun b' o q=>.inl ?_) (fun b' o v hv _=>?_) ⟨fun b' o hb'=>?_,fun b' o hb'=>?_⟩ (fun b' ob hob _=>?_) (fun b' o hb'=>by rw [hcell b' o hb']) ⟨hR2.os.1,hR2.os.2.1,hR2.os.2.2.1,?_⟩ (hpts _ _)
     · cases had
       refine ⟨rfl,fun k hk=>?_,fun k hk=>⟨?_,?_⟩⟩
       · rw [hyl] at hk
         have q2:=cell_setCells (w:=(w.alloc (.cells ROW 297)).drew) (b:=w.heap.size) (o:=0) (vs:=waysC v) (fun j hj=>hnew _ (by omega) (by omega)) w.heap.size (0 + k)
         have q1:=cell_setCells (w:=((w.alloc (.cells ROW 297)).drew.setCells w.heap.size 0 (waysC v)).drew) (b:=w.heap.size) (o:=2) (vs:=waysC x) (fun j hj=>hnew1 _ (by omega) (by rw [waysC_len] at hj; omega)) w.heap.size (0 + k)
         simp only
         rw [q1]
         by_cases hk2:k < 2
         · rw [if_neg (by omega)]
           show ((w.alloc (.cells ROW 297)).drew.setCells w.heap.size 0 (waysC v)).cell? _ = _
           rw [q2,if_pos ⟨rfl,by omega,by omega⟩,show 0 + k - 0 = k by omega,waysC_get v (by omega),hy0 k hk2]
         · rw [if_pos ⟨rfl,by omega,by rw [waysC_len]; omega⟩,show 0 + k - 2 = k - 2 by omega,waysC_get x (by omega)]
           have:=hys (k - 2)
           rw [show k - 2 + 2 = k by omega] at this
           rw [this]
       · have:=(hR2.some w.heap.size (0 + k)).trans (hnew (0 + k) (by omega) (by simp only at hk; omega))
         exact Option.isSome_iff_exists.mp this
       · exact (hR2.frz _ _).trans (World.frozen?_alloc_new ..)
     · obtain ⟨ad,had,rfl,_⟩:=q
       cases had
       exact Nat.le_refl _
     · rw [hcell b' o (hblt b' o v hv),hv]
     · rw [hR2.frz,World.frozen?_alloc_past _ _ _ hb']
     · rw [hR2.frz]; exact frozen_new hb' o
     · rw [hR2.blk b' (Nat.ne_of_lt (heap_lt hob)),Below.heap_alloc w _ b' (heap_lt hob),hob]
     · rw [hR2.os.2.2.2]; simp
theorem oIn:Holds Tryz.prog 376 cIn:=by
 refine ⟨⟨Tryz.f376,Tryz.func376,by kernel_rfl,by kernel_rfl⟩,fun x y hxy=>⟨⟨rfl,by show 3 < 1000; decide⟩,fun n0 col w args hcol hargs=>?_⟩⟩
 obtain ⟨x,i,v,⟨⟩⟩:=x
 simp only [cIn,gIn] at hxy
 split at hxy
 · rename_i hh
   obtain ⟨rfl,hv,hm⟩:=hh
   cases hxy
   obtain ⟨u0,r0,e0,⟨us0,rfl,h,rfl,hrow⟩,u1,r1,rfl,⟨us1,rfl,rfl⟩,u2,r2,rfl,⟨us2,hrep,rfl⟩,rfl⟩:=hargs
   obtain ⟨va,vc,ev,_⟩:=id hrep
   subst ev
   exact in_core hcol hv hm hrow hrep e0
 · cases hxy
end
section
open Go.Proofs
def tzRen:Go.Shelf.Ren:=⟨fun _=>276,fun x=>match x with | 25=>269 | 27=>33 | 53=>382 | n=>n,fun n=>n⟩
theorem tzLays:Lays7.n28 Tryz.prog tzRen:={
 mixed:=by kernel_rfl,f28:=Tryz.func276.trans (congrArg some (by kernel_rfl)),
 t0:=Tryz.underlying0,a0:=Tryz.isAgg0,z0:=Tryz.sizeOf0,v0:=Tryz.zeroValue0,i0:=by kernel_rfl,
 t3:=Tryz.underlying3,a3:=Tryz.isAgg3,z3:=Tryz.sizeOf3,v3:=Tryz.zeroValue3,i3:=by kernel_rfl,
 t4:=Tryz.underlying4,a4:=Tryz.isAgg4,z4:=Tryz.sizeOf4,v4:=Tryz.zeroValue4,i4:=by kernel_rfl,
 t5:=Tryz.underlying5,a5:=Tryz.isAgg5,z5:=Tryz.sizeOf5,v5:=Tryz.zeroValue5,i5:=by kernel_rfl,
 t25:=Tryz.underlying269,a25:=Tryz.isAgg269,z25:=Tryz.sizeOf269,v25:=Tryz.zeroValue269,i25:=by kernel_rfl,
 t27:=Tryz.underlying33,a27:=Tryz.isAgg33,z27:=Tryz.sizeOf33,v27:=Tryz.zeroValue33,i27:=by kernel_rfl,
 t53:=Tryz.underlying382,a53:=Tryz.isAgg382,z53:=Tryz.sizeOf382,v53:=Tryz.zeroValue382,i53:=by kernel_rfl,
 g0:=by kernel_rfl }
noncomputable def gTz (x:Int):Option ((Int×Unit)×Unit):=if 0≤x ∧ x < 4294967296 then some (((Lib.ctz 32 x.toNat:Nat),()),()) else none
noncomputable def cTz:Ctr:={ ins:=[.v (.int .u32)],out:=[.int .i64],F:=fun x=>gTz x.1 }
theorem oTz:Holds Tryz.prog 276 cTz:=by
 refine ⟨⟨Tryz.f276,Tryz.func276,by kernel_rfl,by kernel_rfl⟩,fun x y hxy=>⟨⟨rfl,by show 1 < 1000; decide⟩,fun n0 col w args hcol hargs=>?_⟩⟩
 obtain ⟨x,⟨⟩⟩:=x
 simp only [cTz,gTz] at hxy
 split at hxy
 · rename_i hh
   obtain ⟨h0,h1⟩:=hh
   cases hxy
   obtain ⟨x,rfl⟩:∃ m:Nat,x = m:=⟨x.toNat,(Int.toNat_of_nonneg h0).symm⟩
   obtain ⟨u0,r0,e0,⟨us0,rfl,rfl⟩,rfl⟩:=hargs
   have ea:args = #[.int .u32 x]:=by
    apply Array.ext'
    simpa [mkV] using e0
   subst ea
   refine (Any7.bits_TrailingZeros32 tzLays x (Int.ofNat_lt.mp h1) w (fun _ j hj=>hcol.2.1 j hj)).mono fun e w' hb=>?_
   obtain ⟨rfl,rfl⟩:=hb
   refine ⟨_,col,rfl,Keep.refl col w' (fun b o id h=>(hcol.1 b o id h).2) hcol.2,fun b hb o=>⟨Iff.rfl,fun m hm=>⟨fun _=>hm,fun q=>?_⟩⟩,?_,⟨_,_,rfl,trivial,trivial⟩⟩
   · obtain ⟨⟨⟨h1,h2⟩,_⟩,_⟩:=hcol.1 b o m hm
     by_cases hg:given m
     · exact ⟨m,hg,hm⟩
     · exact absurd ⟨h2,stay_of h1 hg⟩ q
   · unfold OutIs
     rw [if_neg (by simp [cTz])]
     exact ⟨_,⟨_,[],rfl,⟨_,rfl,rfl⟩,rfl⟩,rfl⟩
 · cases hxy
end
noncomputable def t19:Tbl:=[]
noncomputable def g19 (x0:(L Int)):Option ((Bool×Unit)×Unit) :=
some (((decide ((x0.len:Int) > 1048576)),()),())
noncomputable def f19 (x0:(L Int)):Bool :=
(decide ((x0.len:Int) > 1048576))
theorem n19 (x0:(L Int)):g19 x0 = some ((f19 x0,()),()):=by simp only [g19,f19,pull1]
noncomputable def c19:Ctr:={ ins:=[.v (.sl (.int .u8))],out:=[.bool],F:=fun x=>some ((f19 x.1,()),()) }
theorem o19:Holds Tryz.prog 19 c19:=f0T t19 (fun x=>g19 x.1) Tryz.func19 tn (fun x=>n19 x.1)
noncomputable def t98:Tbl:=[]
abbrev h98_L0:Shape:={ slots:=[(0,.v (.sl (.int .u8))),(3,.v (.int .i64)),(4,.v (.int .i64))],boxes:=[] }
abbrev e98_L0:List (XT×Shape):=[(.exit 0,{ slots:=[(0,.v (.sl (.int .u8))),(3,.v (.int .i64))],boxes:=[] })]
noncomputable def q98_L0 (t0:(L Int)) (t3 t4:Int):Option (Ta43⊕((((L Int)×(Int×Unit))×Unit)⊕Empty)) :=
bif (decide (t4 < (t0.len:Int))) then bif (decide (t4 < 4000)) then bif (decide (0≤t4)&&decide (t4 < (t0.len:Int))) then some (.inl ((t0,((andOf .i64 (wI ((wI ((wI (t3 * 131)) + (wI ((L.get t0 t4.toNat))))) + 7)) 1073741823),((wI (t4 + 1)),()))),())) else none else some (.inr (.inl ((t0,(t3,())),()))) else some (.inr (.inl ((t0,(t3,())),())))
noncomputable def s98_L0 (x:Ta43):=q98_L0 x.1.1 x.1.2.1 x.1.2.2.1
noncomputable def a98:Nat→Option LoopAnn:=fun c=>bif Nat.beq c 0 then some (.fix h98_L0 e98_L0 s98_L0) else none
noncomputable def g98 (x0:(L Int)):Option (Ta43×Unit) :=
(fixO s98_L0 ((x0,((wI (76076 + (x0.len:Int))),(0,()))),())).bind fun d2=>match d2 with | .inl y1=>some (((y1.1.1,(0,y1.1.2)),()),()) | .inr e=>nomatch e
noncomputable def c98:Ctr:={ ins:=[.v (.sl (.int .u8))],out:=[Ty149],F:=fun x=>g98 x.1,ptr:=true }
noncomputable def l98:List (Nat×Code):=loopsIn (Tryz.f98.body.getD .skip) 0
theorem w98_L0:LW t98 a98 l98 0 0 h98_L0 e98_L0 s98_L0:=fun x=>by kernel_rfl
theorem o98:Holds Tryz.prog 98 c98:=fh t98 a98 Tryz.func98 [(0,lg l98 0)] ⟨fun x d h=>(w98_L0 x).trans h,trivial⟩ tn
noncomputable def t294d:Tbl:=[]
noncomputable def g294d (x0:Ta15):Option Ta88 :=
bif (decide (x0.2.1 < (x0.1.len:Int))) then bif (decide (0≤x0.2.1)&&decide (x0.2.1 < (x0.1.len:Int))) then some (((andOf .i64 (wI ((andOf .i64 (xorOf .i64 (shrOf .i64 (wI ((wI (x0.2.2.1 * 6364136223846793005)) + 1442695040888963407)) 33) (shrOf .i64 (wI ((wI (x0.2.2.1 * 6364136223846793005)) + 1442695040888963407)) 45)) 255) + (wI ((L.get x0.1 x0.2.1.toNat))))) 255),()),((x0.1,((wI (x0.2.1 + 1)),((wI ((wI (x0.2.2.1 * 6364136223846793005)) + 1442695040888963407)),()))),())) else none else some (((andOf .i64 (xorOf .i64 (shrOf .i64 (wI ((wI (x0.2.2.1 * 6364136223846793005)) + 1442695040888963407)) 33) (shrOf .i64 (wI ((wI (x0.2.2.1 * 6364136223846793005)) + 1442695040888963407)) 45)) 255),()),((x0.1,(x0.2.1,((wI ((wI (x0.2.2.1 * 6364136223846793005)) + 1442695040888963407)),()))),()))
noncomputable def c294d:Ctr:={ ins:=[.pd Ty149],out:=[(.int .i64)],F:=fun x=>g294d x.1 }
theorem o294d:Holds Tryz.prog 294 c294d:=f0 t294d Tryz.func294 tn
noncomputable def t191d:Tbl:=[(294,[],c294d)]
noncomputable def g191d (x0:Ta15) (x1:Int):Option Ta88 :=
bif (decide (x1≤0)) then some ((0,()),(x0,())) else bif (decide (x1≤256)) then (g294d x0).bind fun y1=>bif (!decide (x1 = 0)) then some (((Int.tmod y1.1.1 x1),()),(y1.2.1,())) else none else (g294d x0).bind fun y2=>(g294d y2.2.1).bind fun y3=>(g294d y3.2.1).bind fun y4=>(g294d y4.2.1).bind fun y5=>bif (!decide (x1 = 0)) then some (((Int.tmod (wI ((wI ((wI ((wI (y2.1.1 * 16777216)) + (wI (y3.1.1 * 65536)))) + (wI (y4.1.1 * 256)))) + y5.1.1)) x1),()),(y5.2.1,())) else none
noncomputable def c191d:Ctr:={ ins:=[.pd Ty149,.v (.int .i64)],out:=[(.int .i64)],F:=fun x=>g191d x.1 x.2.1 }
theorem o191d:Holds Tryz.prog 191 c191d:=f0 t191d Tryz.func191 (tc o294d tn)
noncomputable def t289dw:Tbl:=[(191,[],c191d)]
noncomputable def g289dw (x0:Ta15) (x1:(L Int)):Option ((Int×Unit)×Ta73) :=
(g191d x0 (x1.len:Int)).bind fun y1=>bif (decide (0≤y1.1.1)&&decide (y1.1.1 < (x1.len:Int))) then some (((L.get x1 y1.1.1.toNat),()),(y1.2.1,x1,())) else none
noncomputable def c289dw:Ctr:={ ins:=[.pd Ty149,.ow (.sl (.int .i64))],out:=[(.int .i64)],F:=fun x=>g289dw x.1 x.2.1 }
theorem o289dw:Holds Tryz.prog 289 c289dw:=f0 t289dw Tryz.func289 (tc o191d tn)
noncomputable def t290d:Tbl:=[(191,[],c191d),(289,[],c289dw)]
noncomputable def g290d (x0:Ta15):Option (((Int×(Int×Unit))×Unit)×Ta43) :=
(g191d x0 3).bind fun y1=>bif (y1.1.1 == 1) then (g289dw y1.2.1 (L.of (Ty.zero (.int .i64)) [0,1,2,3,100])).bind fun y2=>some (((y1.1.1,y2.1),()),(y2.2.1,())) else some (((y1.1.1,(0,())),()),(y1.2.1,()))
noncomputable def c290d:Ctr:={ ins:=[.pd Ty149],out:=[Ty83],F:=fun x=>g290d x.1 }
theorem o290d:Holds Tryz.prog 290 c290d:=f0 t290d Tryz.func290 (tc o191d (tc o289dw tn))
noncomputable def t194d:Tbl:=[(191,[],c191d)]
noncomputable def g194d (x0:Ta15) (x1:Int):Option Ta90 :=
(g191d x0 x1).bind fun y1=>some (((y1.1.1 == 0),()),(y1.2.1,()))
noncomputable def c194d:Ctr:={ ins:=[.pd Ty149,.v (.int .i64)],out:=[.bool],F:=fun x=>g194d x.1 x.2.1 }
theorem o194d:Holds Tryz.prog 194 c194d:=f0 t194d Tryz.func194 (tc o191d tn)
noncomputable def t291d:Tbl:=[(191,[],c191d),(194,[],c194d)]
noncomputable def g291d (x0:Ta15) (x1:Int):Option (Ta48×Ta43) :=
(g191d x0 2).bind fun y1=>(g191d y1.2.1 x1).bind fun y2=>(g191d y2.2.1 (wI (x1 - 1))).bind fun y3=>bif (!decide (x1 = 0)) then bif (y1.1.1 == 1) then (g191d y3.2.1 4).bind fun y4=>(g194d y4.2.1 6).bind fun y5=>bif y5.1.1 then some (((y1.1.1,(y2.1.1,((Int.tmod (wI ((wI (y2.1.1 + 1)) + y3.1.1)) x1),(8,())))),()),(y5.2.1,())) else some (((y1.1.1,(y2.1.1,((Int.tmod (wI ((wI (y2.1.1 + 1)) + y3.1.1)) x1),((wI (1 + y4.1.1)),())))),()),(y5.2.1,())) else some (((y1.1.1,(y2.1.1,((Int.tmod (wI ((wI (y2.1.1 + 1)) + y3.1.1)) x1),(0,())))),()),(y3.2.1,())) else none
noncomputable def c291d:Ctr:={ ins:=[.pd Ty149,.v (.int .i64)],out:=[Ty178],F:=fun x=>g291d x.1 x.2.1 }
theorem o291d:Holds Tryz.prog 291 c291d:=f0 t291d Tryz.func291 (tc o191d (tc o194d tn))
noncomputable def t42:Tbl:=[]
noncomputable def g42 (x0 x1 x2:Int):Option ((Bool×Unit)×Unit) :=
bif (decide (x0 ≥ x1)) then some (((decide (x0≤x2)),()),()) else some ((false,()),())
noncomputable def f42 (x0 x1 x2:Int):Bool :=
bif (decide (x0 ≥ x1)) then (decide (x0≤x2)) else false
theorem n42 (x0:Int) (x1:Int) (x2:Int):g42 x0 x1 x2 = some ((f42 x0 x1 x2,()),()):=by simp only [g42,f42,pull1]
noncomputable def c42:Ctr:={ ins:=[.v (.int .i64),.v (.int .i64),.v (.int .i64)],out:=[.bool],F:=fun x=>some ((f42 x.1 x.2.1 x.2.2.1,()),()) }
theorem o42:Holds Tryz.prog 42 c42:=f0T t42 (fun x=>g42 x.1 x.2.1 x.2.2.1) Tryz.func42 tn (fun x=>n42 x.1 x.2.1 x.2.2.1)
noncomputable def t249:Tbl:=[(42,[],c42)]
noncomputable def g249 (x0:Ta89):Option ((Bool×Unit)×Unit) :=
bif (f42 x0.1 1 20) then bif (f42 x0.2.1 0 50) then bif (f42 x0.2.2.1 0 50) then bif (f42 x0.2.2.2.1 0 50) then bif (f42 x0.2.2.2.2.1 0 50) then bif (f42 x0.2.2.2.2.2.1 0 50) then some (((f42 x0.2.2.2.2.2.2.1 0 50),()),()) else some ((false,()),()) else some ((false,()),()) else some ((false,()),()) else some ((false,()),()) else some ((false,()),()) else some ((false,()),())
noncomputable def f249 (x0:Ta89):Bool :=
bif (f42 x0.1 1 20) then bif (f42 x0.2.1 0 50) then bif (f42 x0.2.2.1 0 50) then bif (f42 x0.2.2.2.1 0 50) then bif (f42 x0.2.2.2.2.1 0 50) then bif (f42 x0.2.2.2.2.2.1 0 50) then (f42 x0.2.2.2.2.2.2.1 0 50) else false else false else false else false else false else false
theorem n249 (x0:Ta89):g249 x0 = some ((f249 x0,()),()):=by simp only [g249,f249,pull1]
noncomputable def c249:Ctr:={ ins:=[.v Ty239],out:=[.bool],F:=fun x=>some ((f249 x.1,()),()) }
theorem o249:Holds Tryz.prog 249 c249:=f0T t249 (fun x=>g249 x.1) Tryz.func249 (tc o42 tn) (fun x=>n249 x.1)
noncomputable def t333r:Tbl:=[]
noncomputable def g333r:Option (((L Int)×Unit)×Unit) :=
some (((L.of (Ty.zero (.int .i64)) [0,7,7,7,7,7,7,7,7,7,7,7,7,11,9,11,11,11,11,11,11,11,9,10,1,11,11,11,9,9,0,0,8]),()),())
noncomputable def f333r:(L Int) :=
(L.of (Ty.zero (.int .i64)) [0,7,7,7,7,7,7,7,7,7,7,7,7,11,9,11,11,11,11,11,11,11,9,10,1,11,11,11,9,9,0,0,8])
theorem n333r:g333r = some ((f333r,()),()):=by simp only [g333r,f333r,pull1]
noncomputable def c333r:Ctr:={ ins:=[],out:=[(.sl (.int .i64))],F:=fun x=>some ((f333r,()),()),fr:=1 }
theorem o333r:Holds Tryz.prog 333 c333r:=f0T t333r (fun x=>g333r) Tryz.func333 tn (fun x=>n333r)
noncomputable def t250:Tbl:=[(42,[],c42),(333,[],c333r)]
noncomputable def g250 (x0:Int):Option ((Int×Unit)×Unit) :=
bif (!(f42 x0 0 32)) then some (((-1:Int),()),()) else bif (decide (0≤x0)&&decide (x0 < ((f333r).len:Int))) then some (((L.get (f333r) x0.toNat),()),()) else none
noncomputable def c250:Ctr:={ ins:=[.v (.int .i64)],out:=[(.int .i64)],F:=fun x=>g250 x.1 }
theorem o250:Holds Tryz.prog 250 c250:=f0 t250 Tryz.func250 (tc o42 (tc o333r tn))
noncomputable def t137:Tbl:=[(249,[],c249),(250,[],c250),(42,[],c42)]
noncomputable def g137 (x0:Ta89) (x1:Int):Option ((Int×Unit)×Unit) :=
bif (!(f249 x0)) then some (((-1:Int),()),()) else (g250 x1).bind fun y1=>bif (decide (y1.1.1 < 0)) then some (((-1:Int),()),()) else bif (x1 == 9) then some (((wI (x0.1 + x0.2.1)),()),()) else bif (x1 == 10) then some (((wI (x0.1 + x0.2.1)),()),()) else bif (f42 x1 15 18) then some (((wI (x0.1 + x0.2.2.1)),()),()) else bif (decide (x1 ≥ 25)) then some (((wI (x0.1 + x0.2.2.2.2.2.1)),()),()) else some ((x0.1,()),())
noncomputable def c137:Ctr:={ ins:=[.v Ty239,.v (.int .i64)],out:=[(.int .i64)],F:=fun x=>g137 x.1 x.2.1 }
theorem o137:Holds Tryz.prog 137 c137:=f0 t137 Tryz.func137 (tc o249 (tc o250 (tc o42 tn)))
noncomputable def t253:Tbl:=[(249,[],c249)]
noncomputable def g253 (x0:Ta89) (x1:Ta10):Option ((Int×Unit)×Unit) :=
bif (!(f249 x0)) then some (((-1:Int),()),()) else bif (!x1.1) then bif (!x1.2.1) then bif x1.2.2.1 then some (((wI ((wI ((wI (0 + x0.2.2.2.1)) + x0.2.2.2.2.1)) + x0.2.2.2.2.2.2.1)),()),()) else some (((wI ((wI (0 + x0.2.2.2.1)) + x0.2.2.2.2.1)),()),()) else bif x1.2.2.1 then some (((wI ((wI (0 + x0.2.2.2.1)) + x0.2.2.2.2.2.2.1)),()),()) else some (((wI (0 + x0.2.2.2.1)),()),()) else bif (!x1.2.1) then bif x1.2.2.1 then some (((wI ((wI (0 + x0.2.2.2.2.1)) + x0.2.2.2.2.2.2.1)),()),()) else some (((wI (0 + x0.2.2.2.2.1)),()),()) else bif x1.2.2.1 then some (((wI (0 + x0.2.2.2.2.2.2.1)),()),()) else some ((0,()),())
noncomputable def f253 (x0:Ta89) (x1:Ta10):Int :=
bif (!(f249 x0)) then (-1:Int) else bif (!x1.1) then bif (!x1.2.1) then bif x1.2.2.1 then (wI ((wI ((wI (0 + x0.2.2.2.1)) + x0.2.2.2.2.1)) + x0.2.2.2.2.2.2.1)) else (wI ((wI (0 + x0.2.2.2.1)) + x0.2.2.2.2.1)) else bif x1.2.2.1 then (wI ((wI (0 + x0.2.2.2.1)) + x0.2.2.2.2.2.2.1)) else (wI (0 + x0.2.2.2.1)) else bif (!x1.2.1) then bif x1.2.2.1 then (wI ((wI (0 + x0.2.2.2.2.1)) + x0.2.2.2.2.2.2.1)) else (wI (0 + x0.2.2.2.2.1)) else bif x1.2.2.1 then (wI (0 + x0.2.2.2.2.2.2.1)) else 0
theorem n253 (x0:Ta89) (x1:Ta10):g253 x0 x1 = some ((f253 x0 x1,()),()):=by simp only [g253,f253,pull1]
noncomputable def c253:Ctr:={ ins:=[.v Ty239,.v (.pair .bool Ty44)],out:=[(.int .i64)],F:=fun x=>some ((f253 x.1 x.2.1,()),()) }
theorem o253:Holds Tryz.prog 253 c253:=f0T t253 (fun x=>g253 x.1 x.2.1) Tryz.func253 (tc o249 tn) (fun x=>n253 x.1 x.2.1)
noncomputable def t360:Tbl:=[(253,[],c253)]
abbrev h360_L0:Shape:={ slots:=[(1,.bx 1 0),(3,.v (.int .i64)),(4,.v (.int .i64))],boxes:=[(1,.typ Ty239)] }
abbrev e360_L0:List (XT×Shape):=[(.exit 0,{ slots:=[(3,.v (.int .i64))],boxes:=[] })]
noncomputable def q360_L0 (t3 t4:Int) (b1:Ta89):Option (Ta166⊕(((Int×Unit)×Unit)⊕Empty)) :=
bif (decide (t4 < 8)) then bif (decide ((f253 b1 (((Int.tmod t4 2) == 1),(((Int.tmod (wI (Int.tdiv t4 2)) 2) == 1),(((wI (Int.tdiv t4 4)) == 1),())))) > t3)) then some (.inl (((),((f253 b1 (((Int.tmod t4 2) == 1),(((Int.tmod (wI (Int.tdiv t4 2)) 2) == 1),(((wI (Int.tdiv t4 4)) == 1),())))),((wI (t4 + 1)),()))),(b1,()))) else some (.inl (((),(t3,((wI (t4 + 1)),()))),(b1,()))) else some (.inr (.inl ((t3,()),())))
noncomputable def s360_L0 (x:Ta166):=q360_L0 x.1.2.1 x.1.2.2.1 x.2.1
noncomputable def a360:Nat→Option LoopAnn:=fun c=>bif Nat.beq c 0 then some (.fix h360_L0 e360_L0 s360_L0) else none
noncomputable def g360 (x0:Ta89):Option ((Int×Unit)×Unit) :=
(fixO s360_L0 (((),((-1:Int),(0,()))),(x0,()))).bind fun d2=>match d2 with | .inl y1=>some ((y1.1.1,()),()) | .inr e=>nomatch e
noncomputable def c360:Ctr:={ ins:=[.v Ty239],out:=[(.int .i64)],F:=fun x=>g360 x.1 }
noncomputable def l360:List (Nat×Code):=loopsIn (Tryz.f360.body.getD .skip) 0
theorem w360_L0:LW t360 a360 l360 0 0 h360_L0 e360_L0 s360_L0:=fun x=>by kernel_rfl
theorem o360:Holds Tryz.prog 360 c360:=fh t360 a360 Tryz.func360 [(0,lg l360 0)] ⟨fun x d h=>(w360_L0 x).trans h,trivial⟩ (tc o253 tn)
noncomputable def t292:Tbl:=[(249,[],c249),(137,[],c137),(360,[],c360)]
abbrev h292_L0:Shape:={ slots:=[(1,.bx 1 0),(3,.v (.int .i64)),(4,.v (.int .i64))],boxes:=[(1,.typ Ty239)] }
abbrev e292_L0:List (XT×Shape):=[(.exit 0,{ slots:=[(1,.bx 1 0),(3,.v (.int .i64))],boxes:=[(1,.typ Ty239)] })]
noncomputable def q292_L0 (t3 t4:Int) (b1:Ta89):Option (Ta166⊕(((Unit×(Int×Unit))×Ta114)⊕Empty)) :=
bif (decide (t4 < 33)) then (g137 b1 t4).bind fun y1=>bif (decide (y1.1.1 > t3)) then (g137 b1 t4).bind fun y2=>some (.inl (((),(y2.1.1,((wI (t4 + 1)),()))),(b1,()))) else some (.inl (((),(t3,((wI (t4 + 1)),()))),(b1,()))) else some (.inr (.inl (((),(t3,())),(b1,()))))
noncomputable def s292_L0 (x:Ta166):=q292_L0 x.1.2.1 x.1.2.2.1 x.2.1
noncomputable def a292:Nat→Option LoopAnn:=fun c=>bif Nat.beq c 0 then some (.fix h292_L0 e292_L0 s292_L0) else none
noncomputable def g292 (x0:Ta89):Option ((Int×Unit)×Unit) :=
bif (!(f249 x0)) then some (((-1:Int),()),()) else (fixO s292_L0 (((),(0,(0,()))),(x0,()))).bind fun d5=>match d5 with | .inl y3=>(g360 y3.2.1).bind fun y4=>some (((wI ((wI (y3.1.2.1 + (wI (2 * y4.1.1)))) + y3.2.1.2.2.2.2.2.1)),()),()) | .inr e=>nomatch e
noncomputable def c292:Ctr:={ ins:=[.v Ty239],out:=[(.int .i64)],F:=fun x=>g292 x.1 }
noncomputable def l292:List (Nat×Code):=loopsIn (Tryz.f292.body.getD .skip) 0
theorem w292_L0:LW t292 a292 l292 0 0 h292_L0 e292_L0 s292_L0:=fun x=>by kernel_rfl
theorem o292:Holds Tryz.prog 292 c292:=fh t292 a292 Tryz.func292 [(0,lg l292 0)] ⟨fun x d h=>(w292_L0 x).trans h,trivial⟩ (tc o249 (tc o137 (tc o360 tn)))
noncomputable def t237:Tbl:=[(42,[],c42)]
noncomputable def g237 (x0:(Int×(Int×(Int×Unit)))):Option ((Bool×Unit)×Unit) :=
bif (x0.1 == 1) then bif (x0.2.2.1 == 4) then some (((f42 x0.2.1 1 4),()),()) else bif (x0.2.2.1 == 8) then some (((f42 x0.2.1 1 4),()),()) else bif (x0.2.2.1 == 16) then some (((f42 x0.2.1 1 4),()),()) else bif (x0.2.2.1 == 32) then some (((f42 x0.2.1 1 4),()),()) else some ((false,()),()) else bif (x0.1 == 2) then bif (x0.2.2.1 == 4) then some (((f42 x0.2.1 1 4),()),()) else bif (x0.2.2.1 == 8) then some (((f42 x0.2.1 1 4),()),()) else bif (x0.2.2.1 == 16) then some (((f42 x0.2.1 1 4),()),()) else bif (x0.2.2.1 == 32) then some (((f42 x0.2.1 1 4),()),()) else some ((false,()),()) else bif (x0.1 == 4) then bif (x0.2.2.1 == 4) then some (((f42 x0.2.1 1 4),()),()) else bif (x0.2.2.1 == 8) then some (((f42 x0.2.1 1 4),()),()) else bif (x0.2.2.1 == 16) then some (((f42 x0.2.1 1 4),()),()) else bif (x0.2.2.1 == 32) then some (((f42 x0.2.1 1 4),()),()) else some ((false,()),()) else bif (x0.1 == 8) then bif (x0.2.2.1 == 4) then some (((f42 x0.2.1 1 4),()),()) else bif (x0.2.2.1 == 8) then some (((f42 x0.2.1 1 4),()),()) else bif (x0.2.2.1 == 16) then some (((f42 x0.2.1 1 4),()),()) else bif (x0.2.2.1 == 32) then some (((f42 x0.2.1 1 4),()),()) else some ((false,()),()) else bif (x0.2.2.1 == 4) then bif (x0.1 == 16) then some (((f42 x0.2.1 1 4),()),()) else some ((false,()),()) else bif (x0.2.2.1 == 8) then bif (x0.1 == 16) then some (((f42 x0.2.1 1 4),()),()) else some ((false,()),()) else bif (x0.2.2.1 == 16) then bif (x0.1 == 16) then some (((f42 x0.2.1 1 4),()),()) else some ((false,()),()) else bif (x0.1 == 16) then bif (x0.2.2.1 == 32) then some (((f42 x0.2.1 1 4),()),()) else some ((false,()),()) else some ((false,()),())
noncomputable def f237 (x0:(Int×(Int×(Int×Unit)))):Bool :=
bif (x0.1 == 1) then bif (x0.2.2.1 == 4) then (f42 x0.2.1 1 4) else bif (x0.2.2.1 == 8) then (f42 x0.2.1 1 4) else bif (x0.2.2.1 == 16) then (f42 x0.2.1 1 4) else bif (x0.2.2.1 == 32) then (f42 x0.2.1 1 4) else false else bif (x0.1 == 2) then bif (x0.2.2.1 == 4) then (f42 x0.2.1 1 4) else bif (x0.2.2.1 == 8) then (f42 x0.2.1 1 4) else bif (x0.2.2.1 == 16) then (f42 x0.2.1 1 4) else bif (x0.2.2.1 == 32) then (f42 x0.2.1 1 4) else false else bif (x0.1 == 4) then bif (x0.2.2.1 == 4) then (f42 x0.2.1 1 4) else bif (x0.2.2.1 == 8) then (f42 x0.2.1 1 4) else bif (x0.2.2.1 == 16) then (f42 x0.2.1 1 4) else bif (x0.2.2.1 == 32) then (f42 x0.2.1 1 4) else false else bif (x0.1 == 8) then bif (x0.2.2.1 == 4) then (f42 x0.2.1 1 4) else bif (x0.2.2.1 == 8) then (f42 x0.2.1 1 4) else bif (x0.2.2.1 == 16) then (f42 x0.2.1 1 4) else bif (x0.2.2.1 == 32) then (f42 x0.2.1 1 4) else false else bif (x0.2.2.1 == 4) then bif (x0.1 == 16) then (f42 x0.2.1 1 4) else false else bif (x0.2.2.1 == 8) then bif (x0.1 == 16) then (f42 x0.2.1 1 4) else false else bif (x0.2.2.1 == 16) then bif (x0.1 == 16) then (f42 x0.2.1 1 4) else false else bif (x0.1 == 16) then bif (x0.2.2.1 == 32) then (f42 x0.2.1 1 4) else false else false
theorem n237 (x0:(Int×(Int×(Int×Unit)))):g237 x0 = some ((f237 x0,()),()):=by simp only [g237,f237,pull1]
noncomputable def c237:Ctr:={ ins:=[.v Ty141],out:=[.bool],F:=fun x=>some ((f237 x.1,()),()) }
theorem o237:Holds Tryz.prog 237 c237:=f0T t237 (fun x=>g237 x.1) Tryz.func237 (tc o42 tn) (fun x=>n237 x.1)
noncomputable def t328:Tbl:=[(42,[],c42)]
noncomputable def g328 (x0:Ta18):Option ((Bool×Unit)×Unit) :=
bif (!(f42 x0.2.1 0 5)) then some ((false,()),()) else bif (!(f42 x0.2.2.1 0 5)) then some ((false,()),()) else bif (x0.2.1 == x0.2.2.1) then some ((false,()),()) else bif (x0.1 == 0) then bif (x0.2.2.2.1 == 0) then some ((true,()),()) else bif (x0.1 == 1) then some (((f42 x0.2.2.2.1 1 8),()),()) else some ((false,()),()) else bif (x0.1 == 1) then some (((f42 x0.2.2.2.1 1 8),()),()) else some ((false,()),())
noncomputable def f328 (x0:Ta18):Bool :=
bif (!(f42 x0.2.1 0 5)) then false else bif (!(f42 x0.2.2.1 0 5)) then false else bif (x0.2.1 == x0.2.2.1) then false else bif (x0.1 == 0) then bif (x0.2.2.2.1 == 0) then true else bif (x0.1 == 1) then (f42 x0.2.2.2.1 1 8) else false else bif (x0.1 == 1) then (f42 x0.2.2.2.1 1 8) else false
theorem n328 (x0:Ta18):g328 x0 = some ((f328 x0,()),()):=by simp only [g328,f328,pull1]
noncomputable def c328:Ctr:={ ins:=[.v Ty178],out:=[.bool],F:=fun x=>some ((f328 x.1,()),()) }
theorem o328:Holds Tryz.prog 328 c328:=f0T t328 (fun x=>g328 x.1) Tryz.func328 (tc o42 tn) (fun x=>n328 x.1)
noncomputable def t293:Tbl:=[(249,[],c249),(237,[],c237),(328,[],c328)]
abbrev h293_L0:Shape:={ slots:=[(2,.v Ty186),(3,.bx 3 0),(7,.v (.int .i64)),(8,.v (.int .i64))],boxes:=[(3,.typ Ty239)] }
abbrev e293_L0:List (XT×Shape):=[(.ret,{ slots:=[(6,.v (.int .i64))],boxes:=[] }),(.exit 0,{ slots:=[(7,.v (.int .i64))],boxes:=[] })]
noncomputable def q293_L0 (t2:Ta40) (t7 t8:Int) (b3:Ta89):Option (((Ta40×(Unit×(Int×(Int×Unit))))×Ta114)⊕(((Int×Unit)×Unit)⊕(((Int×Unit)×Unit)⊕Empty))) :=
bif (decide (t8 < (t2.len:Int))) then bif (decide (0≤t8)&&decide (t8 < (t2.len:Int))) then bif (!(f328 (L.get t2 t8.toNat))) then some (.inr (.inl (((-1:Int),()),()))) else bif (decide (0≤t8)&&decide (t8 < (t2.len:Int))) then bif ((L.get t2 t8.toNat).1 == 0) then some (.inl ((t2,((),((wI (t7 + b3.1)),((wI (t8 + 1)),())))),(b3,()))) else bif (decide (0≤t8)&&decide (t8 < (t2.len:Int))) then some (.inl ((t2,((),((wI (t7 + (wI (b3.1 * (L.get t2 t8.toNat).2.2.2.1)))),((wI (t8 + 1)),())))),(b3,()))) else none else none else none else some (.inr (.inr (.inl ((t7,()),()))))
noncomputable def s293_L0 (x:((Ta40×(Unit×(Int×(Int×Unit))))×Ta114)):=q293_L0 x.1.1 x.1.2.2.1 x.1.2.2.2.1 x.2.1
noncomputable def a293:Nat→Option LoopAnn:=fun c=>bif Nat.beq c 0 then some (.fix h293_L0 e293_L0 s293_L0) else none
noncomputable def g293 (x0:Ta89) (x1:(Int×(Int×(Int×Unit)))) (x2:Ta40):Option ((Int×Unit)×Unit) :=
bif (!(f249 x0)) then some (((-1:Int),()),()) else bif (!(f237 x1)) then some (((-1:Int),()),()) else bif (decide ((x2.len:Int) > 8)) then some (((-1:Int),()),()) else (fixO s293_L0 ((x2,((),((wI ((wI (16 * x0.1)) + (wI ((wI (x1.1 * x1.2.1)) * x0.2.2.2.2.2.2.1)))),(0,())))),(x0,()))).bind fun d3=>match d3 with | .inl y1=>some ((y1.1.1,()),()) | .inr (.inl y2)=>some ((y2.1.1,()),()) | .inr (.inr e)=>nomatch e
noncomputable def c293:Ctr:={ ins:=[.v Ty239,.v Ty141,.v Ty186],out:=[(.int .i64)],F:=fun x=>g293 x.1 x.2.1 x.2.2.1 }
noncomputable def l293:List (Nat×Code):=loopsIn (Tryz.f293.body.getD .skip) 0
theorem w293_L0:LW t293 a293 l293 0 0 h293_L0 e293_L0 s293_L0:=fun x=>by kernel_rfl
theorem o293:Holds Tryz.prog 293 c293:=fh t293 a293 Tryz.func293 [(0,lg l293 0)] ⟨fun x d h=>(w293_L0 x).trans h,trivial⟩ (tc o249 (tc o237 (tc o328 tn)))
noncomputable def t190d:Tbl:=[(289,[],c289dw),(191,[],c191d),(290,[],c290d),(291,[],c291d),(292,[],c292),(293,[],c293),(194,[],c194d)]
abbrev h190d_L0:Shape:={ slots:=[(0,.bx 100000000 0),(1,.v (.int .i64)),(4,.bx 4 0),(5,.bx 5 0),(6,.v (.int .i64)),(7,.v (.int .i64))],boxes:=[(100000000,.typ Ty149),(4,B0),(5,.cells [.v (.int .i64),.v (.int .i64),.v (.int .i64),.v (.int .i64),.v (.int .i64),.v (.int .i64),.v (.int .i64),.v (.int .i64),.v (.int .i64),.v (.int .i64),.v (.int .i64),.v (.int .i64),.v (.int .i64),.v (.int .i64),.v (.int .i64),.row Ty260 60335,.row (.int .i64) 60336,.row Ty178 60337,.row Ty141 60338])] }
abbrev e190d_L0:List (XT×Shape):=[(.exit 0,{ slots:=[(0,.bx 100000000 0),(1,.v (.int .i64)),(4,.bx 4 0),(5,.bx 5 0),(6,.v (.int .i64))],boxes:=[(100000000,.typ Ty149),(4,B1),(5,B2),(60271,.row Ty260),(60272,.row (.int .i64)),(60273,.row Ty178),(60274,.row Ty141),(60335,.row Ty260),(60336,.row (.int .i64)),(60337,.row Ty178),(60338,.row Ty141)] })]
noncomputable def q190d_L0 (t1 t6 t7:Int) (vd:Ta15) (ve vk vl vm vn vo vp vq vr vt vu vw vx vy vz:Int) (wy:Ta158) (wz:(L Int)) (wA:Ta40) (wB:Ta16) (vA vB vC vD vE vF vG vH vI vJ vK vL vg vh vM:Int) (ws:Ta158) (wC:(L Int)) (wD:Ta40) (wE:Ta16):Option ((Ta74×(Ta15×(Ta321×(Ta321×Unit))))⊕(Ta377⊕Empty)) :=
bif (decide (t7 < t1)) then bif (decide (0≤t7)&&decide (t7 < 6)) then (g290d vd).bind fun y13=>(g191d y13.2.1 2).bind fun y14=>(g191d y14.2.1 4).bind fun y15=>(g191d y15.2.1 2).bind fun y16=>(g191d y16.2.1 3).bind fun y17=>bif (decide (ws.len + (L.of (Ty.zero Ty260) [((L.get (L.of (Ty.zero .str) [(⟨#[97,108,112,104,97]⟩:ByteArray),(⟨#[98,101,116,97]⟩:ByteArray),(⟨#[103,97,109,109,97]⟩:ByteArray),(⟨#[100,101,108,116,97]⟩:ByteArray),(⟨#[101,112,115]⟩:ByteArray),(⟨#[122,101,116,97]⟩:ByteArray)]) t7.toNat),((wI (t6 + (wI (4 * y16.1.1)))),(y13.1.1,((L.of (Ty.zero Ty141) [(t6,(128,(5,()))),((wI ((wI (t6 + 128)) + (wI (4 * y14.1.1)))),((wI (32 + (wI (4 * y15.1.1)))),(3,())))]),()))))]).len≤most)) then some (.inl (((),(t1,((),((),((wI ((wI ((wI ((wI (t6 + 128)) + (wI (4 * y14.1.1)))) + (wI (32 + (wI (4 * y15.1.1)))))) + (wI (4 * y17.1.1)))),((wI (t7 + 1)),())))))),(y17.2.1,((ve,(vk,(vl,(vm,(vn,(vo,(vp,(vq,(vr,(vt,(vu,(vw,(vx,(vy,(vz,(wy,(wz,(wA,(wB,()))))))))))))))))))),((vA,(vB,(vC,(vD,(vE,(vF,(vG,(vH,(vI,(vJ,(vK,(vL,(vg,(vh,(vM,((L.app ws (L.of (Ty.zero Ty260) [((L.get (L.of (Ty.zero .str) [(⟨#[97,108,112,104,97]⟩:ByteArray),(⟨#[98,101,116,97]⟩:ByteArray),(⟨#[103,97,109,109,97]⟩:ByteArray),(⟨#[100,101,108,116,97]⟩:ByteArray),(⟨#[101,112,115]⟩:ByteArray),(⟨#[122,101,116,97]⟩:ByteArray)]) t7.toNat),((wI (t6 + (wI (4 * y16.1.1)))),(y13.1.1,((L.of (Ty.zero Ty141) [(t6,(128,(5,()))),((wI ((wI (t6 + 128)) + (wI (4 * y14.1.1)))),((wI (32 + (wI (4 * y15.1.1)))),(3,())))]),()))))])),(wC,(wD,(wE,()))))))))))))))))))),()))))) else none else none else some (.inr (.inl (((),(t1,((),((),(t6,()))))),(vd,((ve,(vk,(vl,(vm,(vn,(vo,(vp,(vq,(vr,(vt,(vu,(vw,(vx,(vy,(vz,((),((),((),((),()))))))))))))))))))),((vA,(vB,(vC,(vD,(vE,(vF,(vG,(vH,(vI,(vJ,(vK,(vL,(vg,(vh,(vM,((),((),((),((),()))))))))))))))))))),(wy,(wz,(wA,(wB,(ws,(wC,(wD,(wE,()))))))))))))))
noncomputable def s190d_L0 (x:(Ta74×(Ta15×(Ta321×(Ta321×Unit))))):=q190d_L0 x.1.2.1 x.1.2.2.2.2.1 x.1.2.2.2.2.2.1 x.2.1 x.2.2.1.1 x.2.2.1.2.1 x.2.2.1.2.2.1 x.2.2.1.2.2.2.1 x.2.2.1.2.2.2.2.1 x.2.2.1.2.2.2.2.2.1 x.2.2.1.2.2.2.2.2.2.1 x.2.2.1.2.2.2.2.2.2.2.1 x.2.2.1.2.2.2.2.2.2.2.2.1 x.2.2.1.2.2.2.2.2.2.2.2.2.1 x.2.2.1.2.2.2.2.2.2.2.2.2.2.1 x.2.2.1.2.2.2.2.2.2.2.2.2.2.2.1 x.2.2.1.2.2.2.2.2.2.2.2.2.2.2.2.1 x.2.2.1.2.2.2.2.2.2.2.2.2.2.2.2.2.1 x.2.2.1.2.2.2.2.2.2.2.2.2.2.2.2.2.2.1 x.2.2.1.2.2.2.2.2.2.2.2.2.2.2.2.2.2.2.1 x.2.2.1.2.2.2.2.2.2.2.2.2.2.2.2.2.2.2.2.1 x.2.2.1.2.2.2.2.2.2.2.2.2.2.2.2.2.2.2.2.2.1 x.2.2.1.2.2.2.2.2.2.2.2.2.2.2.2.2.2.2.2.2.2.1 x.2.2.2.1.1 x.2.2.2.1.2.1 x.2.2.2.1.2.2.1 x.2.2.2.1.2.2.2.1 x.2.2.2.1.2.2.2.2.1 x.2.2.2.1.2.2.2.2.2.1 x.2.2.2.1.2.2.2.2.2.2.1 x.2.2.2.1.2.2.2.2.2.2.2.1 x.2.2.2.1.2.2.2.2.2.2.2.2.1 x.2.2.2.1.2.2.2.2.2.2.2.2.2.1 x.2.2.2.1.2.2.2.2.2.2.2.2.2.2.1 x.2.2.2.1.2.2.2.2.2.2.2.2.2.2.2.1 x.2.2.2.1.2.2.2.2.2.2.2.2.2.2.2.2.1 x.2.2.2.1.2.2.2.2.2.2.2.2.2.2.2.2.2.1 x.2.2.2.1.2.2.2.2.2.2.2.2.2.2.2.2.2.2.1 x.2.2.2.1.2.2.2.2.2.2.2.2.2.2.2.2.2.2.2.1 x.2.2.2.1.2.2.2.2.2.2.2.2.2.2.2.2.2.2.2.2.1 x.2.2.2.1.2.2.2.2.2.2.2.2.2.2.2.2.2.2.2.2.2.1 x.2.2.2.1.2.2.2.2.2.2.2.2.2.2.2.2.2.2.2.2.2.2.1
abbrev h190d_L2:Shape:={ slots:=[(0,.bx 100000000 0),(1,.v (.int .i64)),(4,.bx 4 0),(5,.bx 5 0),(11,.v (.int .i64))],boxes:=[(100000000,.typ Ty149),(4,B1),(5,B2),(60271,.row Ty260),(60272,.row (.int .i64)),(60273,.row Ty178),(60274,.row Ty141),(60335,.row Ty260),(60336,.row (.int .i64)),(60337,.row Ty178),(60338,.row Ty141)] }
abbrev e190d_L2:List (XT×Shape):=[(.exit 2,{ slots:=[(0,.bx 100000000 0),(1,.v (.int .i64)),(4,.bx 4 0),(5,.bx 5 0)],boxes:=[(100000000,.typ Ty149),(4,B1),(5,B2),(60271,.row Ty260),(60272,.row (.int .i64)),(60273,.row Ty178),(60274,.row Ty141),(60335,.row Ty260),(60336,.row (.int .i64)),(60337,.row Ty178),(60338,.row Ty141)] })]
noncomputable def q190d_L2 (t1 t11:Int) (vd:Ta15) (ve vk vl vm vn vo vp vq vr vt vu vw vx vy vz vA vB vC vD vE vF vG vH vI vJ vK vL vg vh vM:Int) (vS:Ta158) (vT:(L Int)) (vU:Ta40) (vV:Ta16) (vW:Ta158) (vP:(L Int)) (vQ:Ta40) (vO:Ta16):Option (Ta377⊕(((Unit×Ta1)×Ta372)⊕Empty)) :=
(g191d vd 4).bind fun y19=>bif (decide (t11 < y19.1.1)) then (g191d y19.2.1 t1).bind fun y20=>bif (decide (vP.len + (L.of (Ty.zero (.int .i64)) [y20.1.1]).len≤most)) then some (.inl (((),(t1,((),((),((wI (t11 + 1)),()))))),(y20.2.1,((ve,(vk,(vl,(vm,(vn,(vo,(vp,(vq,(vr,(vt,(vu,(vw,(vx,(vy,(vz,((),((),((),((),()))))))))))))))))))),((vA,(vB,(vC,(vD,(vE,(vF,(vG,(vH,(vI,(vJ,(vK,(vL,(vg,(vh,(vM,((),((),((),((),()))))))))))))))))))),(vS,(vT,(vU,(vV,(vW,((L.app vP (L.of (Ty.zero (.int .i64)) [y20.1.1])),(vQ,(vO,()))))))))))))) else none else some (.inr (.inl (((),(t1,((),((),())))),(y19.2.1,((ve,(vk,(vl,(vm,(vn,(vo,(vp,(vq,(vr,(vt,(vu,(vw,(vx,(vy,(vz,((),((),((),((),()))))))))))))))))))),((vA,(vB,(vC,(vD,(vE,(vF,(vG,(vH,(vI,(vJ,(vK,(vL,(vg,(vh,(vM,((),((),((),((),()))))))))))))))))))),(vS,(vT,(vU,(vV,(vW,(vP,(vQ,(vO,()))))))))))))))
noncomputable def s190d_L2 (x:Ta377):=q190d_L2 x.1.2.1 x.1.2.2.2.2.1 x.2.1 x.2.2.1.1 x.2.2.1.2.1 x.2.2.1.2.2.1 x.2.2.1.2.2.2.1 x.2.2.1.2.2.2.2.1 x.2.2.1.2.2.2.2.2.1 x.2.2.1.2.2.2.2.2.2.1 x.2.2.1.2.2.2.2.2.2.2.1 x.2.2.1.2.2.2.2.2.2.2.2.1 x.2.2.1.2.2.2.2.2.2.2.2.2.1 x.2.2.1.2.2.2.2.2.2.2.2.2.2.1 x.2.2.1.2.2.2.2.2.2.2.2.2.2.2.1 x.2.2.1.2.2.2.2.2.2.2.2.2.2.2.2.1 x.2.2.1.2.2.2.2.2.2.2.2.2.2.2.2.2.1 x.2.2.1.2.2.2.2.2.2.2.2.2.2.2.2.2.2.1 x.2.2.2.1.1 x.2.2.2.1.2.1 x.2.2.2.1.2.2.1 x.2.2.2.1.2.2.2.1 x.2.2.2.1.2.2.2.2.1 x.2.2.2.1.2.2.2.2.2.1 x.2.2.2.1.2.2.2.2.2.2.1 x.2.2.2.1.2.2.2.2.2.2.2.1 x.2.2.2.1.2.2.2.2.2.2.2.2.1 x.2.2.2.1.2.2.2.2.2.2.2.2.2.1 x.2.2.2.1.2.2.2.2.2.2.2.2.2.2.1 x.2.2.2.1.2.2.2.2.2.2.2.2.2.2.2.1 x.2.2.2.1.2.2.2.2.2.2.2.2.2.2.2.2.1 x.2.2.2.1.2.2.2.2.2.2.2.2.2.2.2.2.2.1 x.2.2.2.1.2.2.2.2.2.2.2.2.2.2.2.2.2.2.1 x.2.2.2.2.1 x.2.2.2.2.2.1 x.2.2.2.2.2.2.1 x.2.2.2.2.2.2.2.1 x.2.2.2.2.2.2.2.2.1 x.2.2.2.2.2.2.2.2.2.1 x.2.2.2.2.2.2.2.2.2.2.1 x.2.2.2.2.2.2.2.2.2.2.2.1
abbrev h190d_L4:Shape:={ slots:=[(0,.bx 100000000 0),(1,.v (.int .i64)),(4,.bx 4 0),(5,.bx 5 0),(12,.v (.int .i64))],boxes:=[(100000000,.typ Ty149),(4,B1),(5,B2),(60271,.row Ty260),(60272,.row (.int .i64)),(60273,.row Ty178),(60274,.row Ty141),(60335,.row Ty260),(60336,.row (.int .i64)),(60337,.row Ty178),(60338,.row Ty141)] }
abbrev e190d_L4:List (XT×Shape):=[(.exit 4,{ slots:=[(0,.bx 100000000 0),(1,.v (.int .i64)),(4,.bx 4 0),(5,.bx 5 0)],boxes:=[(100000000,.typ Ty149),(4,B1),(5,B2),(60271,.row Ty260),(60272,.row (.int .i64)),(60273,.row Ty178),(60274,.row Ty141),(60335,.row Ty260),(60336,.row (.int .i64)),(60337,.row Ty178),(60338,.row Ty141)] })]
noncomputable def q190d_L4 (t1 t12:Int) (vd:Ta15) (ve vk vl vm vn vo vp vq vr vt vu vw vx vy vz vA vB vC vD vE vF vG vH vI vJ vK vL vg vh vM:Int) (vS:Ta158) (vT:(L Int)) (vU:Ta40) (vV:Ta16) (vW:Ta158) (vP:(L Int)) (vQ:Ta40) (vO:Ta16):Option (Ta377⊕(((Unit×Ta1)×Ta372)⊕Empty)) :=
(g191d vd 5).bind fun y22=>bif (decide (t12 < y22.1.1)) then (g291d y22.2.1 t1).bind fun y23=>bif (decide (vQ.len + (L.of (Ty.zero Ty178) [y23.1.1]).len≤most)) then some (.inl (((),(t1,((),((),((wI (t12 + 1)),()))))),(y23.2.1,((ve,(vk,(vl,(vm,(vn,(vo,(vp,(vq,(vr,(vt,(vu,(vw,(vx,(vy,(vz,((),((),((),((),()))))))))))))))))))),((vA,(vB,(vC,(vD,(vE,(vF,(vG,(vH,(vI,(vJ,(vK,(vL,(vg,(vh,(vM,((),((),((),((),()))))))))))))))))))),(vS,(vT,(vU,(vV,(vW,(vP,((L.app vQ (L.of (Ty.zero Ty178) [y23.1.1])),(vO,()))))))))))))) else none else some (.inr (.inl (((),(t1,((),((),())))),(y22.2.1,((ve,(vk,(vl,(vm,(vn,(vo,(vp,(vq,(vr,(vt,(vu,(vw,(vx,(vy,(vz,((),((),((),((),()))))))))))))))))))),((vA,(vB,(vC,(vD,(vE,(vF,(vG,(vH,(vI,(vJ,(vK,(vL,(vg,(vh,(vM,((),((),((),((),()))))))))))))))))))),(vS,(vT,(vU,(vV,(vW,(vP,(vQ,(vO,()))))))))))))))
noncomputable def s190d_L4 (x:Ta377):=q190d_L4 x.1.2.1 x.1.2.2.2.2.1 x.2.1 x.2.2.1.1 x.2.2.1.2.1 x.2.2.1.2.2.1 x.2.2.1.2.2.2.1 x.2.2.1.2.2.2.2.1 x.2.2.1.2.2.2.2.2.1 x.2.2.1.2.2.2.2.2.2.1 x.2.2.1.2.2.2.2.2.2.2.1 x.2.2.1.2.2.2.2.2.2.2.2.1 x.2.2.1.2.2.2.2.2.2.2.2.2.1 x.2.2.1.2.2.2.2.2.2.2.2.2.2.1 x.2.2.1.2.2.2.2.2.2.2.2.2.2.2.1 x.2.2.1.2.2.2.2.2.2.2.2.2.2.2.2.1 x.2.2.1.2.2.2.2.2.2.2.2.2.2.2.2.2.1 x.2.2.1.2.2.2.2.2.2.2.2.2.2.2.2.2.2.1 x.2.2.2.1.1 x.2.2.2.1.2.1 x.2.2.2.1.2.2.1 x.2.2.2.1.2.2.2.1 x.2.2.2.1.2.2.2.2.1 x.2.2.2.1.2.2.2.2.2.1 x.2.2.2.1.2.2.2.2.2.2.1 x.2.2.2.1.2.2.2.2.2.2.2.1 x.2.2.2.1.2.2.2.2.2.2.2.2.1 x.2.2.2.1.2.2.2.2.2.2.2.2.2.1 x.2.2.2.1.2.2.2.2.2.2.2.2.2.2.1 x.2.2.2.1.2.2.2.2.2.2.2.2.2.2.2.1 x.2.2.2.1.2.2.2.2.2.2.2.2.2.2.2.2.1 x.2.2.2.1.2.2.2.2.2.2.2.2.2.2.2.2.2.1 x.2.2.2.1.2.2.2.2.2.2.2.2.2.2.2.2.2.2.1 x.2.2.2.2.1 x.2.2.2.2.2.1 x.2.2.2.2.2.2.1 x.2.2.2.2.2.2.2.1 x.2.2.2.2.2.2.2.2.1 x.2.2.2.2.2.2.2.2.2.1 x.2.2.2.2.2.2.2.2.2.2.1 x.2.2.2.2.2.2.2.2.2.2.2.1
abbrev h190d_L6:Shape:={ slots:=[(0,.bx 100000000 0),(1,.v (.int .i64)),(4,.bx 4 0),(5,.bx 5 0),(13,.v (.int .i64)),(14,.v (.int .i64))],boxes:=[(100000000,.typ Ty149),(4,B1),(5,B2),(60271,.row Ty260),(60272,.row (.int .i64)),(60273,.row Ty178),(60274,.row Ty141),(60335,.row Ty260),(60336,.row (.int .i64)),(60337,.row Ty178),(60338,.row Ty141)] }
abbrev e190d_L6:List (XT×Shape):=[(.exit 6,{ slots:=[(0,.bx 100000000 0),(4,.bx 4 0),(5,.bx 5 0)],boxes:=[(100000000,.typ Ty149),(4,B1),(5,B2),(60271,.row Ty260),(60272,.row (.int .i64)),(60273,.row Ty178),(60274,.row Ty141),(60335,.row Ty260),(60336,.row (.int .i64)),(60337,.row Ty178),(60338,.row Ty141)] })]
noncomputable def q190d_L6 (t1 t13 t14:Int) (vd:Ta15) (ve vk vl vm vn vo vp vq vr vt vu vw vx vy vz vA vB vC vD vE vF vG vH vI vJ vK vL vg vh vM:Int) (vS:Ta158) (vT:(L Int)) (vU:Ta40) (vV:Ta16) (vW:Ta158) (vP:(L Int)) (vQ:Ta40) (vO:Ta16):Option ((Ta74×Ta372)⊕((Ta11×Ta372)⊕Empty)) :=
(g191d vd 3).bind fun y30=>bif (decide (t14 < (wI (t1 + y30.1.1)))) then bif (!decide (t1 = 0)) then (g191d y30.2.1 90).bind fun y31=>(g194d y31.2.1 5).bind fun y32=>bif y32.1.1 then (g191d y32.2.1 t1).bind fun y33=>bif (decide (vO.len + (L.of (Ty.zero Ty141) [(y33.1.1,(t13,((wI ((wI ((wI (vg + vh)) + 1)) + y31.1.1)),())))]).len≤most)) then (g289dw y33.2.1 (L.of (Ty.zero (.int .i64)) [0,0,3])).bind fun y34=>some (.inl (((),(t1,((),((),((wI ((wI (t13 + (wI ((wI ((wI (vg + vh)) + 1)) + y31.1.1)))) + y34.1.1)),((wI (t14 + 1)),())))))),(y34.2.1,((ve,(vk,(vl,(vm,(vn,(vo,(vp,(vq,(vr,(vt,(vu,(vw,(vx,(vy,(vz,((),((),((),((),()))))))))))))))))))),((vA,(vB,(vC,(vD,(vE,(vF,(vG,(vH,(vI,(vJ,(vK,(vL,(vg,(vh,(vM,((),((),((),((),()))))))))))))))))))),(vS,(vT,(vU,(vV,(vW,(vP,(vQ,((L.app vO (L.of (Ty.zero Ty141) [(y33.1.1,(t13,((wI ((wI ((wI (vg + vh)) + 1)) + y31.1.1)),())))])),()))))))))))))) else none else bif (decide (vO.len + (L.of (Ty.zero Ty141) [((Int.tmod t14 t1),(t13,((wI ((wI ((wI (vg + vh)) + 1)) + y31.1.1)),())))]).len≤most)) then (g289dw y32.2.1 (L.of (Ty.zero (.int .i64)) [0,0,3])).bind fun y35=>some (.inl (((),(t1,((),((),((wI ((wI (t13 + (wI ((wI ((wI (vg + vh)) + 1)) + y31.1.1)))) + y35.1.1)),((wI (t14 + 1)),())))))),(y35.2.1,((ve,(vk,(vl,(vm,(vn,(vo,(vp,(vq,(vr,(vt,(vu,(vw,(vx,(vy,(vz,((),((),((),((),()))))))))))))))))))),((vA,(vB,(vC,(vD,(vE,(vF,(vG,(vH,(vI,(vJ,(vK,(vL,(vg,(vh,(vM,((),((),((),((),()))))))))))))))))))),(vS,(vT,(vU,(vV,(vW,(vP,(vQ,((L.app vO (L.of (Ty.zero Ty141) [((Int.tmod t14 t1),(t13,((wI ((wI ((wI (vg + vh)) + 1)) + y31.1.1)),())))])),()))))))))))))) else none else none else some (.inr (.inl (((),((),((),()))),(y30.2.1,((ve,(vk,(vl,(vm,(vn,(vo,(vp,(vq,(vr,(vt,(vu,(vw,(vx,(vy,(vz,((),((),((),((),()))))))))))))))))))),((vA,(vB,(vC,(vD,(vE,(vF,(vG,(vH,(vI,(vJ,(vK,(vL,(vg,(vh,(vM,((),((),((),((),()))))))))))))))))))),(vS,(vT,(vU,(vV,(vW,(vP,(vQ,(vO,()))))))))))))))
noncomputable def s190d_L6 (x:(Ta74×Ta372)):=q190d_L6 x.1.2.1 x.1.2.2.2.2.1 x.1.2.2.2.2.2.1 x.2.1 x.2.2.1.1 x.2.2.1.2.1 x.2.2.1.2.2.1 x.2.2.1.2.2.2.1 x.2.2.1.2.2.2.2.1 x.2.2.1.2.2.2.2.2.1 x.2.2.1.2.2.2.2.2.2.1 x.2.2.1.2.2.2.2.2.2.2.1 x.2.2.1.2.2.2.2.2.2.2.2.1 x.2.2.1.2.2.2.2.2.2.2.2.2.1 x.2.2.1.2.2.2.2.2.2.2.2.2.2.1 x.2.2.1.2.2.2.2.2.2.2.2.2.2.2.1 x.2.2.1.2.2.2.2.2.2.2.2.2.2.2.2.1 x.2.2.1.2.2.2.2.2.2.2.2.2.2.2.2.2.1 x.2.2.1.2.2.2.2.2.2.2.2.2.2.2.2.2.2.1 x.2.2.2.1.1 x.2.2.2.1.2.1 x.2.2.2.1.2.2.1 x.2.2.2.1.2.2.2.1 x.2.2.2.1.2.2.2.2.1 x.2.2.2.1.2.2.2.2.2.1 x.2.2.2.1.2.2.2.2.2.2.1 x.2.2.2.1.2.2.2.2.2.2.2.1 x.2.2.2.1.2.2.2.2.2.2.2.2.1 x.2.2.2.1.2.2.2.2.2.2.2.2.2.1 x.2.2.2.1.2.2.2.2.2.2.2.2.2.2.1 x.2.2.2.1.2.2.2.2.2.2.2.2.2.2.2.1 x.2.2.2.1.2.2.2.2.2.2.2.2.2.2.2.2.1 x.2.2.2.1.2.2.2.2.2.2.2.2.2.2.2.2.2.1 x.2.2.2.1.2.2.2.2.2.2.2.2.2.2.2.2.2.2.1 x.2.2.2.2.1 x.2.2.2.2.2.1 x.2.2.2.2.2.2.1 x.2.2.2.2.2.2.2.1 x.2.2.2.2.2.2.2.2.1 x.2.2.2.2.2.2.2.2.2.1 x.2.2.2.2.2.2.2.2.2.2.1 x.2.2.2.2.2.2.2.2.2.2.2.1
noncomputable def a190d:Nat→Option LoopAnn:=fun c=>bif Nat.beq c 0 then some (.fix h190d_L0 e190d_L0 s190d_L0) else bif Nat.beq c 2 then some (.fix h190d_L2 e190d_L2 s190d_L2) else bif Nat.beq c 4 then some (.fix h190d_L4 e190d_L4 s190d_L4) else bif Nat.beq c 6 then some (.fix h190d_L6 e190d_L6 s190d_L6) else none
noncomputable def g190d (x0:Ta15) (x1:Int):Option (Ta329×Ta43) :=
(g289dw x0 (L.of (Ty.zero (.int .i64)) [1,2,4])).bind fun y1=>(g191d y1.2.1 2).bind fun y2=>(g289dw y2.2.1 (L.of (Ty.zero (.int .i64)) [4,8,16])).bind fun y3=>(g191d y3.2.1 4).bind fun y4=>(g191d y4.2.1 2).bind fun y5=>(g191d y5.2.1 4).bind fun y6=>(g191d y6.2.1 3).bind fun y7=>(g191d y7.2.1 6).bind fun y8=>(g191d y8.2.1 4).bind fun y9=>(g191d y9.2.1 3).bind fun y10=>(g191d y10.2.1 3).bind fun y11=>(g191d y11.2.1 4).bind fun y12=>(fixO s190d_L0 (((),(x1,((),((),((wI (4 * y12.1.1)),(0,())))))),(y12.2.1,((0,(0,(0,(0,(0,(0,(0,(0,(0,(0,(0,(0,(0,(0,(0,((nilL Ty260),((nilL (.int .i64)),((nilL Ty178),((nilL Ty141),()))))))))))))))))))),((0,(y1.1.1,((wI (1 + y2.1.1)),(y3.1.1,((wI (1 + y4.1.1)),((wI (1 + y5.1.1)),(y6.1.1,(y7.1.1,(y8.1.1,(y9.1.1,(y10.1.1,(y11.1.1,(0,(0,(0,((nilL Ty260),((nilL (.int .i64)),((nilL Ty178),((nilL Ty141),()))))))))))))))))))),()))))).bind fun d41=>match d41 with | .inl y18=>((fixO s190d_L2 (((),(y18.1.2.1,((),((),(0,()))))),(y18.2.1,(y18.2.2.1,(((wI (y18.1.2.2.2.2.1 + 64)),y18.2.2.2.1.2),y18.2.2.2.2))))).bind fun d40=>match d40 with | .inl y21=>((fixO s190d_L4 (((),(y21.1.2.1,((),((),(0,()))))),y21.2)).bind fun d39=>match d39 with | .inl y24=>(g292 (y24.2.2.2.1.2.2.2.2.2.1,(y24.2.2.2.1.2.2.2.2.2.2.1,(y24.2.2.2.1.2.2.2.2.2.2.2.1,(y24.2.2.2.1.2.2.2.2.2.2.2.2.1,(y24.2.2.2.1.2.2.2.2.2.2.2.2.2.1,(y24.2.2.2.1.2.2.2.2.2.2.2.2.2.2.1,(y24.2.2.2.1.2.2.2.2.2.2.2.2.2.2.2.1,())))))))).bind fun y25=>(g289dw y24.2.1 (L.of (Ty.zero (.int .i64)) [0,0,1,5])).bind fun y26=>(g293 (y24.2.2.2.1.2.2.2.2.2.1,(y24.2.2.2.1.2.2.2.2.2.2.1,(y24.2.2.2.1.2.2.2.2.2.2.2.1,(y24.2.2.2.1.2.2.2.2.2.2.2.2.1,(y24.2.2.2.1.2.2.2.2.2.2.2.2.2.1,(y24.2.2.2.1.2.2.2.2.2.2.2.2.2.2.1,(y24.2.2.2.1.2.2.2.2.2.2.2.2.2.2.2.1,()))))))) (y24.2.2.2.1.2.1,(y24.2.2.2.1.2.2.1,(y24.2.2.2.1.2.2.2.1,()))) y24.2.2.2.2.2.2.2.2.2.2.1).bind fun y27=>(g289dw y26.2.1 (L.of (Ty.zero (.int .i64)) [0,0,1,7])).bind fun y28=>(g289dw y28.2.1 (L.of (Ty.zero (.int .i64)) [0,0,5])).bind fun y29=>((fixO s190d_L6 (((),(y24.1.2.1,((),((),(y29.1.1,(0,())))))),(y29.2.1,(y24.2.2.1,((y24.2.2.2.1.1,(y24.2.2.2.1.2.1,(y24.2.2.2.1.2.2.1,(y24.2.2.2.1.2.2.2.1,(y24.2.2.2.1.2.2.2.2.1,(y24.2.2.2.1.2.2.2.2.2.1,(y24.2.2.2.1.2.2.2.2.2.2.1,(y24.2.2.2.1.2.2.2.2.2.2.2.1,(y24.2.2.2.1.2.2.2.2.2.2.2.2.1,(y24.2.2.2.1.2.2.2.2.2.2.2.2.2.1,(y24.2.2.2.1.2.2.2.2.2.2.2.2.2.2.1,(y24.2.2.2.1.2.2.2.2.2.2.2.2.2.2.2.1,((wI (y27.1.1 + y28.1.1)),((wI (y25.1.1 + y26.1.1)),y24.2.2.2.1.2.2.2.2.2.2.2.2.2.2.2.2.2.2)))))))))))))),y24.2.2.2.2))))).bind fun d38=>match d38 with | .inl y36=>bif (decide (0≤(wI ((y36.2.2.2.2.2.2.2.2.2.2.2.1.len:Int) - 1)))&&decide ((wI ((y36.2.2.2.2.2.2.2.2.2.2.2.1.len:Int) - 1)) < (y36.2.2.2.2.2.2.2.2.2.2.2.1.len:Int))) then (g289dw y36.2.1 (L.of (Ty.zero (.int .i64)) [0,0,1,20])).bind fun y37=>some (((y36.2.2.2.1.1,((y36.2.2.2.1.2.1,(y36.2.2.2.1.2.2.1,(y36.2.2.2.1.2.2.2.1,()))),(y36.2.2.2.1.2.2.2.2.1,((y36.2.2.2.1.2.2.2.2.2.1,(y36.2.2.2.1.2.2.2.2.2.2.1,(y36.2.2.2.1.2.2.2.2.2.2.2.1,(y36.2.2.2.1.2.2.2.2.2.2.2.2.1,(y36.2.2.2.1.2.2.2.2.2.2.2.2.2.1,(y36.2.2.2.1.2.2.2.2.2.2.2.2.2.2.1,(y36.2.2.2.1.2.2.2.2.2.2.2.2.2.2.2.1,()))))))),(y36.2.2.2.1.2.2.2.2.2.2.2.2.2.2.2.2.1,(y36.2.2.2.1.2.2.2.2.2.2.2.2.2.2.2.2.2.1,((wI ((wI ((L.get y36.2.2.2.2.2.2.2.2.2.2.2.1 (wI ((y36.2.2.2.2.2.2.2.2.2.2.2.1.len:Int) - 1)).toNat).2.1 + (L.get y36.2.2.2.2.2.2.2.2.2.2.2.1 (wI ((y36.2.2.2.2.2.2.2.2.2.2.2.1.len:Int) - 1)).toNat).2.2.1)) + y37.1.1)),y36.2.2.2.2.2.2.2.2))))))),()),(y37.2.1,())) else none | .inr e=>nomatch e) | .inr e=>nomatch e) | .inr e=>nomatch e) | .inr e=>nomatch e
noncomputable def c190d:Ctr:={ ins:=[.pd Ty149,.v (.int .i64)],out:=[Ty384],F:=fun x=>g190d x.1 x.2.1 }
noncomputable def l190d:List (Nat×Code):=loopsIn (Tryz.f190.body.getD .skip) 0
theorem w190d_L0:LW t190d a190d l190d 0 0 h190d_L0 e190d_L0 s190d_L0:=fun x=>by kernel_rfl
theorem w190d_L2:LW t190d a190d l190d 1 2 h190d_L2 e190d_L2 s190d_L2:=fun x=>by kernel_rfl
theorem w190d_L4:LW t190d a190d l190d 2 4 h190d_L4 e190d_L4 s190d_L4:=fun x=>by kernel_rfl
theorem w190d_L6:LW t190d a190d l190d 3 6 h190d_L6 e190d_L6 s190d_L6:=fun x=>by kernel_rfl
theorem o190d:Holds Tryz.prog 190 c190d:=fh t190d a190d Tryz.func190 [(0,lg l190d 0),(2,lg l190d 1),(4,lg l190d 2),(6,lg l190d 3)] ⟨fun x d h=>(w190d_L0 x).trans h,fun x d h=>(w190d_L2 x).trans h,fun x d h=>(w190d_L4 x).trans h,fun x d h=>(w190d_L6 x).trans h,trivial⟩ (tc o289dw (tc o191d (tc o290d (tc o291d (tc o292 (tc o293 (tc o194d tn)))))))
noncomputable def t382d:Tbl:=[(191,[],c191d),(250,[],c250),(289,[],c289dw)]
noncomputable def k382d_1 (y2:((Int×Unit)×Unit)) (y1 z0_2:Ta88) (z0_3 z0_4 z0_5:Int):Option Ta160 :=
bif ((Int.tmod (wI (Int.tdiv y2.1.1 8)) 2) == 1) then (g191d z0_2.2.1 17).bind fun y901=>(g191d y901.2.1 8).bind fun y902=>bif (y902.1.1 == 0) then (g289dw y902.2.1 (L.of (Ty.zero (.int .i64)) [ (-8192:Int),8191,0 ])).bind fun y903=>some (((y1.1.1,(z0_3,(z0_4,(z0_5,y903.1)))),()),(y903.2.1,())) else bif (y902.1.1 == 1) then (g191d y902.2.1 16384).bind fun y904=>some (((y1.1.1,(z0_3,(z0_4,(z0_5,((wI (y904.1.1 - 8192)),()))))),()),(y904.2.1,())) else some (((y1.1.1,(z0_3,(z0_4,(z0_5,((wI (y901.1.1 - 8)),()))))),()),(y902.2.1,())) else some (((y1.1.1,(z0_3,(z0_4,(z0_5,(0,()))))),()),(z0_2.2.1,()))
noncomputable def k382d_2 (y2:((Int×Unit)×Unit)) (y1 z1_2:Ta88) (z1_3:Int):Option Ta160 :=
bif ((Int.tmod (wI (Int.tdiv y2.1.1 2)) 2) == 1) then (g191d z1_2.2.1 16).bind fun y905=>bif ((Int.tmod (wI (Int.tdiv y2.1.1 4)) 2) == 1) then (g191d y905.2.1 16).bind fun y906=>k382d_1 y2 y1 y906 z1_3 y905.1.1 y906.1.1 else k382d_1 y2 y1 y905 z1_3 y905.1.1 0 else bif ((Int.tmod (wI (Int.tdiv y2.1.1 4)) 2) == 1) then (g191d z1_2.2.1 16).bind fun y907=>k382d_1 y2 y1 y907 z1_3 0 y907.1.1 else k382d_1 y2 y1 z1_2 z1_3 0 0
noncomputable def g382d (x0:Ta15):Option Ta160 :=
(g191d x0 33).bind fun y1=>(g250 y1.1.1).bind fun y2=>bif ((Int.tmod y2.1.1 2) == 1) then (g191d y1.2.1 16).bind fun y3=>k382d_2 y2 y1 y3 y3.1.1 else k382d_2 y2 y1 y1 0
noncomputable def c382d:Ctr:={ ins:=[.pd Ty149],out:=[Ty202],F:=fun x=>g382d x.1 }
theorem o382d:Holds Tryz.prog 382 c382d:=f0 t382d Tryz.func382 (tc o191d (tc o250 (tc o289dw tn)))
noncomputable def t335:Tbl:=[(42,[],c42)]
noncomputable def g335 (x0 x1 x2 x3 x4:Int):Option ((Bool×Unit)×Unit) :=
bif (!decide (x1 = 0)) then bif ((Int.tmod (wI (Int.tdiv x0 x1)) 2) == 0) then some (((x2 == 0),()),()) else some (((f42 x2 x3 x4),()),()) else none
noncomputable def c335:Ctr:={ ins:=[.v (.int .i64),.v (.int .i64),.v (.int .i64),.v (.int .i64),.v (.int .i64)],out:=[.bool],F:=fun x=>g335 x.1 x.2.1 x.2.2.1 x.2.2.2.1 x.2.2.2.2.1 }
theorem o335:Holds Tryz.prog 335 c335:=f0 t335 Tryz.func335 (tc o42 tn)
noncomputable def t254:Tbl:=[(250,[],c250),(335,[],c335)]
noncomputable def g254 (x0:Ta46):Option ((Bool×Unit)×Unit) :=
(g250 x0.1).bind fun y1=>bif (decide (y1.1.1 ≥ 0)) then (g335 y1.1.1 1 x0.2.1 0 15).bind fun y2=>bif y2.1.1 then (g335 y1.1.1 2 x0.2.2.1 0 15).bind fun y3=>bif y3.1.1 then (g335 y1.1.1 4 x0.2.2.2.1 0 15).bind fun y4=>bif y4.1.1 then (g335 y1.1.1 8 x0.2.2.2.2.1 (-8192:Int) 8191).bind fun y5=>some ((y5.1.1,()),()) else some ((false,()),()) else some ((false,()),()) else some ((false,()),()) else some ((false,()),())
noncomputable def c254:Ctr:={ ins:=[.v Ty202],out:=[.bool],F:=fun x=>g254 x.1 }
theorem o254:Holds Tryz.prog 254 c254:=f0 t254 Tryz.func254 (tc o250 (tc o335 tn))
noncomputable def t241:Tbl:=[]
noncomputable def g241 (x0 x1:Int):Option ((Int×Unit)×Unit) :=
bif (!decide (x1 = 0)) then bif (decide ((Int.tmod x0 x1) < 0)) then some (((wI ((Int.tmod x0 x1) + x1)),()),()) else some (((Int.tmod x0 x1),()),()) else none
noncomputable def c241:Ctr:={ ins:=[.v (.int .i64),.v (.int .i64)],out:=[(.int .i64)],F:=fun x=>g241 x.1 x.2.1 }
theorem o241:Holds Tryz.prog 241 c241:=f0 t241 Tryz.func241 tn
noncomputable def t362:Tbl:=[(254,[],c254),(241,[],c241)]
noncomputable def g362 (x0:Ta46):Option Ta2 :=
(g254 x0).bind fun y1=>bif (!y1.1.1) then some ((0,false,()),()) else (g241 x0.2.2.2.2.1 16384).bind fun y2=>some (((IntKind.wrap .u32 ((wI ((wI ((wI ((wI ((wI (x0.1 * 67108864)) + (wI (x0.2.1 * 4194304)))) + (wI (x0.2.2.1 * 262144)))) + (wI (x0.2.2.2.1 * 16384)))) + y2.1.1)))),true,()),())
noncomputable def c362:Ctr:={ ins:=[.v Ty202],out:=[(.int .u32),.bool],F:=fun x=>g362 x.1 }
theorem o362:Holds Tryz.prog 362 c362:=f0 t362 Tryz.func362 (tc o254 (tc o241 tn))
noncomputable def t299d:Tbl:=[(191,[],c191d),(289,[],c289dw)]
noncomputable def g299d (x0:Ta15):Option Ta88 :=
(g191d x0 4).bind fun y1=>bif (y1.1.1 == 0) then (g289dw y1.2.1 (L.of (Ty.zero (.int .i64)) [0,1,2,31,32,255,256,2147483647,2147483648,4294967295,4294967294])).bind fun y2=>some (((IntKind.wrap .u32 (y2.1.1)),()),(y2.2.1,())) else bif (y1.1.1 == 1) then (g191d y1.2.1 300).bind fun y3=>some (((IntKind.wrap .u32 (y3.1.1)),()),(y3.2.1,())) else (g191d y1.2.1 65536).bind fun y4=>(g191d y4.2.1 65536).bind fun y5=>some (((IntKind.wrap .u32 ((IntKind.wrap .u32 ((IntKind.wrap .u32 (y4.1.1)) * 65536)) + (IntKind.wrap .u32 (y5.1.1)))),()),(y5.2.1,()))
noncomputable def c299d:Ctr:={ ins:=[.pd Ty149],out:=[(.int .u32)],F:=fun x=>g299d x.1 }
theorem o299d:Holds Tryz.prog 299 c299d:=f0 t299d Tryz.func299 (tc o191d (tc o289dw tn))
noncomputable def t361rd:Tbl:=[(382,[],c382d),(191,[],c191d),(289,[],c289dw),(362,[],c362),(194,[],c194d),(299,[],c299d)]
abbrev h361rd_L0:Shape:={ slots:=[(0,.bx 100000000 0),(1,.v (.int .i64)),(2,.v (.int .i64)),(7,.ms 12),(8,.v (.int .i64))],boxes:=[(100000000,.typ Ty149),(12,.row (.int .u32))] }
abbrev e361rd_L0:List (XT×Shape):=[(.exit 0,{ slots:=[(7,.ms 12)],boxes:=[(12,.row (.int .u32)),(100000000,.typ Ty149)] })]
noncomputable def k361rd_L0_1 (r12:(L Int)) (t1 t2 t8:Int) (z0_4:Ta46) (z0_5:Ta88):Option (Ta172⊕(Ta125⊕Empty)) :=
(g362 z0_4).bind fun y901=>(g194d z0_5.2.1 30).bind fun y902=>bif y902.1.1 then (g299d y902.2.1).bind fun y903=>bif (decide (r12.len + (L.of (Ty.zero (.int .u32)) [y903.1.1]).len≤most)) then some (.inl (((),(t1,(t2,((),((wI (t8 + 1)),()))))),(y903.2.1,((L.app r12 (L.of (Ty.zero (.int .u32)) [y903.1.1])),())))) else none else bif (decide (r12.len + (L.of (Ty.zero (.int .u32)) [y901.1.1]).len≤most)) then some (.inl (((),(t1,(t2,((),((wI (t8 + 1)),()))))),(y902.2.1,((L.app r12 (L.of (Ty.zero (.int .u32)) [y901.1.1])),())))) else none
noncomputable def q361rd_L0 (t1 t2 t8:Int) (vd:Ta15) (r12:(L Int)):Option (Ta172⊕(Ta125⊕Empty)) :=
bif (decide (t8 < t1)) then (g382d vd).bind fun y1=>(g191d y1.2.1 8).bind fun y2=>bif (y2.1.1 == 0) then (g289dw y2.2.1 (L.of (Ty.zero (.int .i64)) [15,16,17,18])).bind fun y3=>(g191d y3.2.1 5).bind fun y4=>(g191d y4.2.1 10).bind fun y5=>k361rd_L0_1 r12 t1 t2 t8 (y3.1.1,((wI (1 + y4.1.1)),(0,(0,((wI (t2 + (wI (y5.1.1 * 4)))),()))))) y5 else bif (y2.1.1 == 1) then (g191d y2.2.1 5).bind fun y9=>(g191d y9.2.1 4).bind fun y10=>(g191d y10.2.1 30).bind fun y11=>k361rd_L0_1 r12 t1 t2 t8 (13,((wI (1 + y9.1.1)),(y10.1.1,(0,((wI (y11.1.1 - 8)),()))))) y11 else bif (y2.1.1 == 2) then (g191d y2.2.1 5).bind fun y15=>k361rd_L0_1 r12 t1 t2 t8 (24,((wI (1 + y15.1.1)),(0,(0,(0,()))))) y15 else bif (y2.1.1 == 3) then (g191d y2.2.1 12).bind fun y19=>(g191d y19.2.1 5).bind fun y20=>(g191d y20.2.1 5).bind fun y21=>(g191d y21.2.1 5).bind fun y22=>k361rd_L0_1 r12 t1 t2 t8 ((wI (y19.1.1 + 1)),((wI (1 + y20.1.1)),(y21.1.1,(y22.1.1,(0,()))))) y22 else bif (y2.1.1 == 4) then (g289dw y2.2.1 (L.of (Ty.zero (.int .i64)) [19,20,21])).bind fun y26=>(g191d y26.2.1 5).bind fun y27=>(g191d y27.2.1 5).bind fun y28=>(g191d y28.2.1 5).bind fun y29=>k361rd_L0_1 r12 t1 t2 t8 (y26.1.1,(y27.1.1,(y28.1.1,(0,((wI ((wI (y29.1.1 - (Int.tmod t8 4))) - 1)),()))))) y29 else k361rd_L0_1 r12 t1 t2 t8 y1.1.1 y2 else some (.inr (.inl (((),()),(r12,(vd,())))))
noncomputable def s361rd_L0 (x:Ta172):=q361rd_L0 x.1.2.1 x.1.2.2.1 x.1.2.2.2.2.1 x.2.1 x.2.2.1
noncomputable def a361rd:Nat→Option LoopAnn:=fun c=>bif Nat.beq c 0 then some (.fix h361rd_L0 e361rd_L0 s361rd_L0) else none
noncomputable def g361rd (x0:Ta15) (x1 x2:Int):Option Ta100 :=
(fixO s361rd_L0 (((),(x1,(x2,((),(0,()))))),(x0,((L.of (Ty.zero (.int .u32)) []),())))).bind fun d37=>match d37 with | .inl y36=>some ((y36.2.1,()),(y36.2.2.1,())) | .inr e=>nomatch e
noncomputable def c361rd:Ctr:={ ins:=[.pd Ty149,.v (.int .i64),.v (.int .i64)],out:=[(.sl (.int .u32))],F:=fun x=>g361rd x.1 x.2.1 x.2.2.1,fr:=1 }
noncomputable def l361rd:List (Nat×Code):=loopsIn (Tryz.f361.body.getD .skip) 0
theorem w361rd_L0:LW t361rd a361rd l361rd 0 0 h361rd_L0 e361rd_L0 s361rd_L0:=fun x=>by kernel_rfl
theorem o361rd:Holds Tryz.prog 361 c361rd:=fh t361rd a361rd Tryz.func361 [(0,lg l361rd 0)] ⟨fun x d h=>(w361rd_L0 x).trans h,trivial⟩ (tc o382d (tc o191d (tc o289dw (tc o362 (tc o194d (tc o299d tn))))))
noncomputable def t295rd:Tbl:=[(361,[],c361rd),(191,[],c191d),(289,[],c289dw),(362,[],c362),(194,[],c194d)]
abbrev h295rd_L0:Shape:={ slots:=[(0,.bx 100000000 0),(2,.v (.int .i64)),(3,.v (.int .i64)),(5,.bx 5 0),(10,.ms 1002368),(11,.v (.int .i64))],boxes:=[(100000000,.typ Ty149),(5,.typ Ty384),(1002368,.row (.int .u32))] }
abbrev e295rd_L0:List (XT×Shape):=[(.exit 0,{ slots:=[(0,.bx 100000000 0),(2,.v (.int .i64)),(3,.v (.int .i64)),(5,.bx 5 0),(10,.ms 1002368)],boxes:=[(100000000,.typ Ty149),(5,.typ Ty384),(1002368,.row (.int .u32))] })]
noncomputable def k295rd_L0_1 (t11:Int) (vX:(L Int)) (t2 t3:Int) (b5:Ta326) (z0_5 z0_6 z0_7:Int) (z0_8:(Int×Unit)) (z0_9:Ta15):Option (Ta355⊕(((Unit×(Int×Ta1))×Ta338)⊕Empty)) :=
(g362 (z0_5,(z0_6,(z0_7,(0,z0_8))))).bind fun y901=>bif (decide (0≤t11)&&decide (t11 < (vX.len:Int))) then some (.inl (((),(t2,(t3,((),((),((wI (t11 + 1)),())))))),(z0_9,(b5,((L.set vX t11.toNat y901.1.1),()))))) else none
noncomputable def q295rd_L0 (t2 t3 t11:Int) (vd:Ta15) (b5:Ta326) (vX:(L Int)):Option (Ta355⊕(((Unit×(Int×Ta1))×Ta338)⊕Empty)) :=
bif (decide (t11 < t3)) then (g191d vd 7).bind fun y2=>bif (y2.1.1 == 0) then (g289dw y2.2.1 (L.of (Ty.zero (.int .i64)) [25,26])).bind fun y3=>(g191d y3.2.1 5).bind fun y4=>(g191d y4.2.1 5).bind fun y5=>(g191d y5.2.1 (wI ((b5.2.2.2.2.2.2.2.2.2.1.len:Int) + 1))).bind fun y6=>k295rd_L0_1 t11 vX t2 t3 b5 y3.1.1 (wI (1 + y4.1.1)) (wI (1 + y5.1.1)) y6.1 y6.2.1 else bif (y2.1.1 == 1) then (g191d y2.2.1 5).bind fun y8=>(g191d y8.2.1 5).bind fun y9=>(g191d y9.2.1 (wI ((b5.2.2.2.2.2.2.2.2.1.len:Int) + 1))).bind fun y10=>k295rd_L0_1 t11 vX t2 t3 b5 27 (wI (1 + y8.1.1)) (wI (1 + y9.1.1)) y10.1 y10.2.1 else bif (y2.1.1 == 2) then (g289dw y2.2.1 (L.of (Ty.zero (.int .i64)) [28,29])).bind fun y12=>(g191d y12.2.1 5).bind fun y13=>(g191d y13.2.1 8).bind fun y14=>k295rd_L0_1 t11 vX t2 t3 b5 y12.1.1 (wI (1 + y13.1.1)) 0 y14.1 y14.2.1 else bif (y2.1.1 == 3) then (g289dw y2.2.1 (L.of (Ty.zero (.int .i64)) [30,31,32,0,0,0,0,0])).bind fun y16=>k295rd_L0_1 t11 vX t2 t3 b5 y16.1.1 0 0 (0,()) y16.2.1 else some (.inl (((),(t2,(t3,((),((),((wI (t11 + 1)),())))))),(y2.2.1,(b5,(vX,()))))) else some (.inr (.inl (((),(t2,(t3,((),((),()))))),(vd,(b5,(vX,()))))))
noncomputable def s295rd_L0 (x:Ta355):=q295rd_L0 x.1.2.1 x.1.2.2.1 x.1.2.2.2.2.2.1 x.2.1 x.2.2.1 x.2.2.2.1
noncomputable def a295rd:Nat→Option LoopAnn:=fun c=>bif Nat.beq c 0 then some (.fix h295rd_L0 e295rd_L0 s295rd_L0) else none
noncomputable def g295rd (x0:Ta15) (x1:Ta326) (x2 x3:Int):Option Ta100 :=
bif (decide (0≤x2)&&decide (x2 < (x1.2.2.2.2.2.2.2.1.len:Int))) then bif (decide (1 < ((L.get x1.2.2.2.2.2.2.2.1 x2.toNat).2.2.2.1.len:Int))) then (g361rd x0 x3 (L.get (L.get x1.2.2.2.2.2.2.2.1 x2.toNat).2.2.2.1 (1:Int).toNat).1).bind fun y1=>((fixO s295rd_L0 (((),(x2,(x3,((),((),(0,())))))),(y1.2.1,(x1,y1.1)))).bind fun d27=>match d27 with | .inl y18=>bif (decide (y18.1.2.2.1 > 4)) then (g191d y18.2.1 (wI (y18.1.2.2.1 - 1))).bind fun y19=>(g362 (22,(6,(0,(0,((wI ((wI (0 - y19.1.1)) - 1)),())))))).bind fun y20=>bif (decide (0≤(wI (y18.1.2.2.1 - 1)))&&decide ((wI (y18.1.2.2.1 - 1)) < (y18.2.2.2.1.len:Int))) then (g194d y19.2.1 2).bind fun y21=>bif y21.1.1 then bif (decide (0≤y18.1.2.1)&&decide (y18.1.2.1 < (y18.2.2.1.2.2.2.2.2.2.2.1.len:Int))) then bif (decide (0 < ((L.get y18.2.2.1.2.2.2.2.2.2.2.1 y18.1.2.1.toNat).2.2.2.1.len:Int))) then (g191d y21.2.1 16).bind fun y22=>(g362 (13,(5,(0,(0,((wI ((L.get (L.get y18.2.2.1.2.2.2.2.2.2.2.1 y18.1.2.1.toNat).2.2.2.1 (0:Int).toNat).1 + (wI (4 * y22.1.1)))),())))))).bind fun y23=>(g362 (29,(5,(0,(0,(1,())))))).bind fun y24=>(g362 (29,(5,(0,(0,(0,())))))).bind fun y25=>(g362 (13,(5,(5,(0,(1,())))))).bind fun y26=>bif (decide (0 < ((L.set y18.2.2.2.1 (wI (y18.1.2.2.1 - 1)).toNat y20.1.1).len:Int))) then bif (decide (1 < ((L.set (L.set y18.2.2.2.1 (wI (y18.1.2.2.1 - 1)).toNat y20.1.1) (0:Int).toNat y23.1.1).len:Int))) then bif (decide (2 < ((L.set (L.set (L.set y18.2.2.2.1 (wI (y18.1.2.2.1 - 1)).toNat y20.1.1) (0:Int).toNat y23.1.1) (1:Int).toNat y24.1.1).len:Int))) then bif (decide (3 < ((L.set (L.set (L.set (L.set y18.2.2.2.1 (wI (y18.1.2.2.1 - 1)).toNat y20.1.1) (0:Int).toNat y23.1.1) (1:Int).toNat y24.1.1) (2:Int).toNat y26.1.1).len:Int))) then some (((L.set (L.set (L.set (L.set (L.set y18.2.2.2.1 (wI (y18.1.2.2.1 - 1)).toNat y20.1.1) (0:Int).toNat y23.1.1) (1:Int).toNat y24.1.1) (2:Int).toNat y26.1.1) (3:Int).toNat y25.1.1),()),(y22.2.1,())) else none else none else none else none else none else none else some (((L.set y18.2.2.2.1 (wI (y18.1.2.2.1 - 1)).toNat y20.1.1),()),(y21.2.1,())) else none else some ((y18.2.2.2.1,()),(y18.2.1,())) | .inr e=>nomatch e) else none else none
noncomputable def c295rd:Ctr:={ ins:=[.pd Ty149,.v Ty384,.v (.int .i64),.v (.int .i64)],out:=[(.sl (.int .u32))],F:=fun x=>g295rd x.1 x.2.1 x.2.2.1 x.2.2.2.1,fr:=1 }
noncomputable def l295rd:List (Nat×Code):=loopsIn (Tryz.f295.body.getD .skip) 0
theorem w295rd_L0:LW t295rd a295rd l295rd 0 0 h295rd_L0 e295rd_L0 s295rd_L0:=fun x=>by kernel_rfl
theorem o295rd:Holds Tryz.prog 295 c295rd:=fh t295rd a295rd Tryz.func295 [(0,lg l295rd 0)] ⟨fun x d h=>(w295rd_L0 x).trans h,trivial⟩ (tc o361rd (tc o191d (tc o289dw (tc o362 (tc o194d tn)))))
noncomputable def t296r:Tbl:=[]
noncomputable def g296r (x0:Int):Option (((L Int)×Unit)×Unit) :=
some (((L.of (Ty.zero (.int .u8)) [(IntKind.wrap .u8 ((Int.tmod (wI (x0)) 256))),(IntKind.wrap .u8 ((Int.tmod (wI (Int.tdiv (wI (x0)) 256)) 256))),(IntKind.wrap .u8 ((Int.tmod (wI (Int.tdiv (wI (x0)) 65536)) 256))),(IntKind.wrap .u8 ((wI (Int.tdiv (wI (x0)) 16777216))))]),()),())
noncomputable def f296r (x0:Int):(L Int) :=
(L.of (Ty.zero (.int .u8)) [(IntKind.wrap .u8 ((Int.tmod (wI (x0)) 256))),(IntKind.wrap .u8 ((Int.tmod (wI (Int.tdiv (wI (x0)) 256)) 256))),(IntKind.wrap .u8 ((Int.tmod (wI (Int.tdiv (wI (x0)) 65536)) 256))),(IntKind.wrap .u8 ((wI (Int.tdiv (wI (x0)) 16777216))))])
theorem n296r (x0:Int):g296r x0 = some ((f296r x0,()),()):=by simp only [g296r,f296r,pull1]
noncomputable def c296r:Ctr:={ ins:=[.v (.int .u32)],out:=[(.sl (.int .u8))],F:=fun x=>some ((f296r x.1,()),()),fr:=1 }
theorem o296r:Holds Tryz.prog 296 c296r:=f0T t296r (fun x=>g296r x.1) Tryz.func296 tn (fun x=>n296r x.1)
noncomputable def t195rd:Tbl:=[(299,[],c299d)]
abbrev h195rd_L0:Shape:={ slots:=[(0,.bx 100000000 0),(1,.v (.int .i64)),(5,.ms 7),(6,.v (.int .i64))],boxes:=[(100000000,.typ Ty149),(7,.row (.int .u32))] }
abbrev e195rd_L0:List (XT×Shape):=[(.exit 0,{ slots:=[(5,.ms 7)],boxes:=[(7,.row (.int .u32)),(100000000,.typ Ty149)] })]
noncomputable def q195rd_L0 (t1 t6:Int) (vd:Ta15) (r7:(L Int)):Option ((Ta31×Ta73)⊕(Ta125⊕Empty)) :=
bif (decide (t6 < t1)) then (g299d vd).bind fun y1=>bif (decide (r7.len + (L.of (Ty.zero (.int .u32)) [y1.1.1]).len≤most)) then some (.inl (((),(t1,((),((wI (t6 + 1)),())))),(y1.2.1,((L.app r7 (L.of (Ty.zero (.int .u32)) [y1.1.1])),())))) else none else some (.inr (.inl (((),()),(r7,(vd,())))))
noncomputable def s195rd_L0 (x:(Ta31×Ta73)):=q195rd_L0 x.1.2.1 x.1.2.2.2.1 x.2.1 x.2.2.1
noncomputable def a195rd:Nat→Option LoopAnn:=fun c=>bif Nat.beq c 0 then some (.fix h195rd_L0 e195rd_L0 s195rd_L0) else none
noncomputable def g195rd (x0:Ta15) (x1:Int):Option Ta100 :=
(fixO s195rd_L0 (((),(x1,((),(0,())))),(x0,((L.of (Ty.zero (.int .u32)) []),())))).bind fun d3=>match d3 with | .inl y2=>some ((y2.2.1,()),(y2.2.2.1,())) | .inr e=>nomatch e
noncomputable def c195rd:Ctr:={ ins:=[.pd Ty149,.v (.int .i64)],out:=[(.sl (.int .u32))],F:=fun x=>g195rd x.1 x.2.1,fr:=1 }
noncomputable def l195rd:List (Nat×Code):=loopsIn (Tryz.f195.body.getD .skip) 0
theorem w195rd_L0:LW t195rd a195rd l195rd 0 0 h195rd_L0 e195rd_L0 s195rd_L0:=fun x=>by kernel_rfl
theorem o195rd:Holds Tryz.prog 195 c195rd:=fh t195rd a195rd Tryz.func195 [(0,lg l195rd 0)] ⟨fun x d h=>(w195rd_L0 x).trans h,trivial⟩ (tc o299d tn)
noncomputable def t192rd:Tbl:=[(295,[],c295rd),(296,[],c296r),(195,[],c195rd)]
abbrev h192rd_L2:Shape:={ slots:=[(0,.bx 100000000 0),(2,.v (.int .i64)),(4,.bx 4 0),(7,.ms 13),(8,.v (.int .i64)),(9,.ms 25),(10,.row (.int .u32) 50010),(12,.v (.int .i64))],boxes:=[(100000000,.typ Ty149),(4,.typ Ty384),(13,.row (.sl (.int .u8))),(25,.row (.int .u8))] }
abbrev e192rd_L2:List (XT×Shape):=[(.exit 2,{ slots:=[(0,.bx 100000000 0),(2,.v (.int .i64)),(4,.bx 4 0),(7,.ms 13),(8,.v (.int .i64)),(9,.ms 25)],boxes:=[(100000000,.typ Ty149),(4,.typ Ty384),(13,.row (.sl (.int .u8))),(25,.row (.int .u8))] })]
noncomputable def q192rd_L2 (t2 t8:Int) (t10:(L Int)) (t12:Int) (vd:Ta15) (b4:Ta326) (r13:(L (L Int))) (r25:(L Int)):Option (((Unit×(Int×(Unit×(Unit×(Int×(Unit×((L Int)×(Int×Unit))))))))×Ta343)⊕(((Unit×(Int×(Unit×Ta3)))×Ta343)⊕Empty)) :=
bif (decide (t12 < (t10.len:Int))) then bif (decide (0≤t12)&&decide (t12 < (t10.len:Int))) then bif (decide (r25.len + (f296r (L.get t10 t12.toNat)).len≤most)) then some (.inl (((),(t2,((),((),(t8,((),(t10,((wI (t12 + 1)),())))))))),(vd,(b4,(r13,((L.app r25 (f296r (L.get t10 t12.toNat))),())))))) else none else none else some (.inr (.inl (((),(t2,((),((),(t8,((),())))))),(vd,(b4,(r13,(r25,())))))))
noncomputable def s192rd_L2 (x:((Unit×(Int×(Unit×(Unit×(Int×(Unit×((L Int)×(Int×Unit))))))))×Ta343)):=q192rd_L2 x.1.2.1 x.1.2.2.2.2.1 x.1.2.2.2.2.2.2.1 x.1.2.2.2.2.2.2.2.1 x.2.1 x.2.2.1 x.2.2.2.1 x.2.2.2.2.1
abbrev h192rd_L0:Shape:={ slots:=[(0,.bx 100000000 0),(2,.v (.int .i64)),(4,.bx 4 0),(7,.ms 13),(8,.v (.int .i64))],boxes:=[(100000000,.typ Ty149),(4,.typ Ty384),(13,.row (.sl (.int .u8)))] }
abbrev e192rd_L0:List (XT×Shape):=[(.exit 0,{ slots:=[(7,.ms 13)],boxes:=[(13,.row (.sl (.int .u8))),(100000000,.typ Ty149)] })]
noncomputable def k192rd_L0_1 (t2 t8:Int) (b4:Ta326) (r13:(L (L Int))) (z0_4:Ta100):Option (Ta354⊕(((Unit×Unit)×((L (L Int))×Ta43))⊕Empty)) :=
(fixO s192rd_L2 (((),(t2,((),((),(t8,((),(z0_4.1.1,(0,())))))))),(z0_4.2.1,(b4,(r13,((L.of (Ty.zero (.int .u8)) []),())))))).bind fun d901=>match d901 with | .inl y902=>bif (decide (y902.2.2.2.1.len + (L.of (Ty.zero (.sl (.int .u8))) [y902.2.2.2.2.1]).len≤most)) then some (.inl (((),(y902.1.2.1,((),((),((wI (y902.1.2.2.2.2.1 + 1)),()))))),(y902.2.1,(y902.2.2.1,((L.app y902.2.2.2.1 (L.of (Ty.zero (.sl (.int .u8))) [y902.2.2.2.2.1])),()))))) else none | .inr e=>nomatch e
noncomputable def q192rd_L0 (t2 t8:Int) (vd:Ta15) (b4:Ta326) (r13:(L (L Int))):Option (Ta354⊕(((Unit×Unit)×((L (L Int))×Ta43))⊕Empty)) :=
bif (decide (0≤t2)&&decide (t2 < (b4.2.2.2.2.2.2.2.1.len:Int))) then bif (decide (t8 < ((L.get b4.2.2.2.2.2.2.2.1 t2.toNat).2.2.2.1.len:Int))) then bif (decide (0≤t2)&&decide (t2 < (b4.2.2.2.2.2.2.2.1.len:Int))) then bif (decide (0≤t8)&&decide (t8 < ((L.get b4.2.2.2.2.2.2.2.1 t2.toNat).2.2.2.1.len:Int))) then bif (t8 == 0) then (g295rd vd b4 t2 (wI (Int.tdiv (L.get (L.get b4.2.2.2.2.2.2.2.1 t2.toNat).2.2.2.1 t8.toNat).2.1 4))).bind fun y1=>k192rd_L0_1 t2 t8 b4 r13 y1 else (g195rd vd (wI (Int.tdiv (L.get (L.get b4.2.2.2.2.2.2.2.1 t2.toNat).2.2.2.1 t8.toNat).2.1 4))).bind fun y4=>k192rd_L0_1 t2 t8 b4 r13 y4 else none else none else some (.inr (.inl (((),()),(r13,(vd,()))))) else none
noncomputable def s192rd_L0 (x:Ta354):=q192rd_L0 x.1.2.1 x.1.2.2.2.2.1 x.2.1 x.2.2.1 x.2.2.2.1
noncomputable def a192rd:Nat→Option LoopAnn:=fun c=>bif Nat.beq c 2 then some (.fix h192rd_L2 e192rd_L2 s192rd_L2) else bif Nat.beq c 0 then some (.fix h192rd_L0 e192rd_L0 s192rd_L0) else none
noncomputable def g192rd (x0:Ta15) (x1:Ta326) (x2:Int):Option (((L (L Int))×Unit)×Ta43) :=
(fixO s192rd_L0 (((),(x2,((),((),(0,()))))),(x0,(x1,((L.of (Ty.zero (.sl (.int .u8))) []),()))))).bind fun d8=>match d8 with | .inl y7=>some ((y7.2.1,()),(y7.2.2.1,())) | .inr e=>nomatch e
noncomputable def c192rd:Ctr:={ ins:=[.pd Ty149,.v Ty384,.v (.int .i64)],out:=[(.sl (.sl (.int .u8)))],F:=fun x=>g192rd x.1 x.2.1 x.2.2.1,fr:=1 }
noncomputable def l192rd:List (Nat×Code):=loopsIn (Tryz.f192.body.getD .skip) 0
theorem w192rd_L2:LW t192rd a192rd l192rd 1 2 h192rd_L2 e192rd_L2 s192rd_L2:=fun x=>by kernel_rfl
theorem w192rd_L0:LW t192rd a192rd l192rd 0 0 h192rd_L0 e192rd_L0 s192rd_L0:=fun x=>by kernel_rfl
theorem o192rd:Holds Tryz.prog 192 c192rd:=fh t192rd a192rd Tryz.func192 [(0,lg l192rd 0),(2,lg l192rd 1)] ⟨fun x d h=>(w192rd_L0 x).trans h,fun x d h=>(w192rd_L2 x).trans h,trivial⟩ (tc o295rd (tc o296r (tc o195rd tn)))
noncomputable def t130r:Tbl:=[]
abbrev h130r_L0:Shape:={ slots:=[(0,.v (.sl (.sl (.int .u8)))),(3,.ms 5),(4,.v (.int .i64))],boxes:=[(5,.row (.sl (.int .u8)))] }
abbrev e130r_L0:List (XT×Shape):=[(.exit 0,{ slots:=[(3,.ms 5)],boxes:=[(5,.row (.sl (.int .u8)))] })]
noncomputable def q130r_L0 (t0:(L (L Int))) (t4:Int) (r5:(L (L Int))):Option ((((L (L Int))×(Unit×(Int×Unit)))×((L (L Int))×Unit))⊕(((Unit×Unit)×((L (L Int))×Unit))⊕Empty)) :=
bif (decide (t4 < (t0.len:Int))) then bif (decide (0≤t4)&&decide (t4 < (t0.len:Int))) then bif (decide ((L.of (Ty.zero (.int .u8)) []).len + (L.get t0 t4.toNat).len≤most)) then bif (decide (r5.len + (L.of (Ty.zero (.sl (.int .u8))) [(L.app (L.of (Ty.zero (.int .u8)) []) (L.get t0 t4.toNat))]).len≤most)) then some (.inl ((t0,((),((wI (t4 + 1)),()))),((L.app r5 (L.of (Ty.zero (.sl (.int .u8))) [(L.app (L.of (Ty.zero (.int .u8)) []) (L.get t0 t4.toNat))])),()))) else none else none else none else some (.inr (.inl (((),()),(r5,()))))
noncomputable def s130r_L0 (x:(((L (L Int))×(Unit×(Int×Unit)))×((L (L Int))×Unit))):=q130r_L0 x.1.1 x.1.2.2.1 x.2.1
noncomputable def a130r:Nat→Option LoopAnn:=fun c=>bif Nat.beq c 0 then some (.fix h130r_L0 e130r_L0 s130r_L0) else none
noncomputable def g130r (x0:(L (L Int))):Option (((L (L Int))×Unit)×Unit) :=
(fixO s130r_L0 ((x0,((),(0,()))),((L.of (Ty.zero (.sl (.int .u8))) []),()))).bind fun d2=>match d2 with | .inl y1=>some ((y1.2.1,()),()) | .inr e=>nomatch e
noncomputable def c130r:Ctr:={ ins:=[.v (.sl (.sl (.int .u8)))],out:=[(.sl (.sl (.int .u8)))],F:=fun x=>g130r x.1,fr:=1 }
noncomputable def l130r:List (Nat×Code):=loopsIn (Tryz.f130.body.getD .skip) 0
theorem w130r_L0:LW t130r a130r l130r 0 0 h130r_L0 e130r_L0 s130r_L0:=fun x=>by kernel_rfl
theorem o130r:Holds Tryz.prog 130 c130r:=fh t130r a130r Tryz.func130 [(0,lg l130r 0)] ⟨fun x d h=>(w130r_L0 x).trans h,trivial⟩ tn
noncomputable def t226r:Tbl:=[(130,[],c130r)]
abbrev h226r_L0:Shape:={ slots:=[(6,.bx 6 0),(7,.bx 7 0),(8,.v (.int .i64))],boxes:=[(6,.cells [.row (.int .u32) 60384,.v (.int .u32),.row (.sl (.int .u8)) 60386]),(7,.cells [.row (.int .u32) 60448,.v (.int .u32),.ms 1001088]),(1001088,.row (.sl (.int .u8)))] }
abbrev e226r_L0:List (XT×Shape):=[(.exit 0,{ slots:=[(6,.bx 6 0),(7,.bx 7 0)],boxes:=[(6,.cells [.ms 60384,.v (.int .u32),.ms 60386]),(7,.cells [.ms 60448,.v (.int .u32),.ms 1001088]),(60384,.row (.int .u32)),(60386,.row (.sl (.int .u8))),(60448,.row (.int .u32)),(1001088,.row (.sl (.int .u8)))] })]
noncomputable def q226r_L0 (t8:Int) (vi:(L Int)) (vf:Int) (vj:(L (L Int))) (wt:(L Int)) (v8:Int) (uy:(L (L Int))):Option ((Ta0×(Ta47×(((L Int)×(Int×(Unit×Unit)))×((L (L Int))×Unit))))⊕(Ta226⊕Empty)) :=
bif (decide (t8 < 16)) then bif (decide (wt.len + (L.of (Ty.zero (.int .u32)) [0]).len≤most)) then some (.inl (((),((),((wI (t8 + 1)),()))),((vi,(vf,(vj,()))),(((L.app wt (L.of (Ty.zero (.int .u32)) [0])),(v8,((),()))),(uy,()))))) else none else some (.inr (.inl (((),((),())),(((),(vf,((),()))),(((),(v8,((),()))),(vi,(vj,(wt,(uy,())))))))))
noncomputable def s226r_L0 (x:(Ta0×(Ta47×(((L Int)×(Int×(Unit×Unit)))×((L (L Int))×Unit))))):=q226r_L0 x.1.2.2.1 x.2.1.1 x.2.1.2.1 x.2.1.2.2.1 x.2.2.1.1 x.2.2.1.2.1 x.2.2.2.1
noncomputable def a226r:Nat→Option LoopAnn:=fun c=>bif Nat.beq c 0 then some (.fix h226r_L0 e226r_L0 s226r_L0) else none
noncomputable def g226r (x0:Ta326) (x1:Int) (x2:(L (L Int))):Option Ta92 :=
bif (decide (0≤x1)&&decide (x1 < (x0.2.2.2.2.2.2.2.1.len:Int))) then (g130r x2).bind fun y1=>((fixO s226r_L0 (((),((),(0,()))),(((nilL (.int .u32)),(0,((nilL (.sl (.int .u8))),()))),(((nilL (.int .u32)),((IntKind.wrap .u32 ((L.get x0.2.2.2.2.2.2.2.1 x1.toNat).2.1)),((),()))),y1.1)))).bind fun d3=>match d3 with | .inl y2=>some (((y2.2.2.2.2.2.1,(y2.2.2.1.2.1,y2.2.2.2.2.2.2)),()),()) | .inr e=>nomatch e) else none
noncomputable def c226r:Ctr:={ ins:=[.v Ty384,.v (.int .i64),.v (.sl (.sl (.int .u8)))],out:=[Ty173],F:=fun x=>g226r x.1 x.2.1 x.2.2.1,fr:=1 }
noncomputable def l226r:List (Nat×Code):=loopsIn (Tryz.f226.body.getD .skip) 0
theorem w226r_L0:LW t226r a226r l226r 0 0 h226r_L0 e226r_L0 s226r_L0:=fun x=>by kernel_rfl
theorem o226r:Holds Tryz.prog 226 c226r:=fh t226r a226r Tryz.func226 [(0,lg l226r 0)] ⟨fun x d h=>(w226r_L0 x).trans h,trivial⟩ (tc o130r tn)
noncomputable def t227r:Tbl:=[(237,[],c237)]
abbrev h227r_L0:Shape:={ slots:=[(1,.bx 1 0),(2,.bx 2 0),(3,.bx 3 0),(4,.v (.int .i64))],boxes:=[(1,.typ Ty141),(2,B3),(3,B4)] }
abbrev e227r_L0:List (XT×Shape):=[(.exit 0,{ slots:=[(2,.bx 2 0),(3,.bx 3 0)],boxes:=[(2,.cells [.v (.int .i64),.v (.int .i64),.v (.int .i64),.ms 60131]),(3,.cells [.v (.int .i64),.v (.int .i64),.v (.int .i64),.ms 60195]),(60131,.row Ty84),(60195,.row Ty84)] })]
noncomputable def q227r_L0 (t4:Int) (b1:(Int×(Int×(Int×Unit)))) (uz uA wF:Int) (wG:Ta12) (wH wJ wK:Int) (wu:Ta12):Option ((Ta36×((Int×(Int×(Int×Unit)))×Ta209))⊕(((Unit×(Unit×Unit))×Ta222)⊕Empty)) :=
bif (decide (t4 < b1.1)) then bif (decide (wu.len + (L.of (Ty.zero Ty84) [(L.of (Ty.zero Ty64) [])]).len≤most)) then some (.inl (((),((),((),((wI (t4 + 1)),())))),(b1,((uz,(uA,(wF,(wG,())))),((wH,(wJ,(wK,((L.app wu (L.of (Ty.zero Ty84) [(L.of (Ty.zero Ty64) [])])),())))),()))))) else none else some (.inr (.inl (((),((),())),((uz,(uA,(wF,((),())))),((wH,(wJ,(wK,((),())))),(wG,(wu,())))))))
noncomputable def s227r_L0 (x:(Ta36×((Int×(Int×(Int×Unit)))×Ta209))):=q227r_L0 x.1.2.2.2.1 x.2.1 x.2.2.1.1 x.2.2.1.2.1 x.2.2.1.2.2.1 x.2.2.1.2.2.2.1 x.2.2.2.1.1 x.2.2.2.1.2.1 x.2.2.2.1.2.2.1 x.2.2.2.1.2.2.2.1
noncomputable def a227r:Nat→Option LoopAnn:=fun c=>bif Nat.beq c 0 then some (.fix h227r_L0 e227r_L0 s227r_L0) else none
noncomputable def g227r (x0:(Int×(Int×(Int×Unit)))):Option (Ta140×Unit) :=
bif (!(f237 x0)) then some ((((0,(0,(0,()))),((nilL Ty84),())),()),()) else (fixO s227r_L0 (((),((),((),(0,())))),(x0,((0,(0,(0,((nilL Ty84),())))),((x0.1,(x0.2.1,(x0.2.2.1,((nilL Ty84),())))),()))))).bind fun d2=>match d2 with | .inl y1=>some ((((y1.2.2.1.1,(y1.2.2.1.2.1,(y1.2.2.1.2.2.1,()))),y1.2.2.2.2),()),()) | .inr e=>nomatch e
noncomputable def c227r:Ctr:={ ins:=[.v Ty141],out:=[Ty236],F:=fun x=>g227r x.1,fr:=1 }
noncomputable def l227r:List (Nat×Code):=loopsIn (Tryz.f227.body.getD .skip) 0
theorem w227r_L0:LW t227r a227r l227r 0 0 h227r_L0 e227r_L0 s227r_L0:=fun x=>by kernel_rfl
theorem o227r:Holds Tryz.prog 227 c227r:=fh t227r a227r Tryz.func227 [(0,lg l227r 0)] ⟨fun x d h=>(w227r_L0 x).trans h,trivial⟩ (tc o237 tn)
noncomputable def t228r:Tbl:=[(42,[],c42)]
noncomputable def g228r (x0:Int):Option (Ta17×Unit) :=
bif (!(f42 x0 1 8)) then some (((0,((nilL (.int .i64)),())),()),()) else some (((x0,((nilL (.int .i64)),())),()),())
noncomputable def f228r (x0:Int):(Int×((L Int)×Unit)) :=
bif (!(f42 x0 1 8)) then (0,((nilL (.int .i64)),())) else (x0,((nilL (.int .i64)),()))
theorem n228r (x0:Int):g228r x0 = some ((f228r x0,()),()):=by simp only [g228r,f228r,pull1]
noncomputable def c228r:Ctr:={ ins:=[.v (.int .i64)],out:=[Ty105],F:=fun x=>some ((f228r x.1,()),()),fr:=1 }
theorem o228r:Holds Tryz.prog 228 c228r:=f0T t228r (fun x=>g228r x.1) Tryz.func228 (tc o42 tn) (fun x=>n228r x.1)
noncomputable def t114r:Tbl:=[(226,[],c226r),(227,[],c227r),(228,[],c228r),(130,[],c130r)]
abbrev h114r_L0:Shape:={ slots:=[(3,.bx 3 0),(6,.bx 6 0),(7,.bx 7 0),(8,.v (.int .i64))],boxes:=[(3,.typ Ty384),(6,B5),(7,.cells [.ms 1000832,.v (.int .u32),.ms 1000833,.v .bool,.v (.int .u32),.v (.int .u32),.v (.int .u32),.v (.int .u32),.v .bool,.v .bool,.v (.int .u32),.v (.int .i64),.v (.int .i64),.v (.int .i64),.v .bool,.v (.int .i64),.v (.int .i64),.v (.int .i64),.ms 1001024,.v (.int .i64),.ms 1001216,.v (.int .i64),.v .bool,.ms 1001344,.row Ty103 60472,.row Ty35 60473,.row Ty124 60474]),(1000832,.row (.int .u32)),(1000833,.row (.sl (.int .u8))),(1001024,.row Ty84),(1001216,.row (.int .i64)),(1001344,.row (.sl (.int .u8)))] }
abbrev e114r_L0:List (XT×Shape):=[(.exit 0,{ slots:=[(3,.bx 3 0),(6,.bx 6 0),(7,.bx 7 0)],boxes:=[(3,.typ Ty384),(6,B6),(7,B7),(60384,.row (.int .u32)),(60386,.row (.sl (.int .u8))),(60402,.row Ty84),(60404,.row (.int .i64)),(60407,.row (.sl (.int .u8))),(60408,.row Ty103),(60409,.row Ty35),(60410,.row Ty124),(1000832,.row (.int .u32)),(1000833,.row (.sl (.int .u8))),(1001024,.row Ty84),(1001216,.row (.int .i64)),(1001344,.row (.sl (.int .u8))),(60472,.row Ty103),(60473,.row Ty35),(60474,.row Ty124)] })]
noncomputable def q114r_L0 (t8:Int) (b3:Ta326) (vi:(L Int)) (vf:Int) (vj:(L (L Int))) (vY:Bool) (uB uC uD uE:Int) (uF uG:Bool) (uH uI uJ uK:Int) (uL:Bool) (uM uN uO:Int) (wL:Ta12) (uP:Int) (wM:(L Int)) (uQ:Int) (uR:Bool) (wN:(L (L Int))) (wO:Ta5) (wP:(L ((L Int)×Unit))) (wQ:Ta21) (v8:Int) (uS:Bool) (uT uU uV uW:Int) (uX uY:Bool) (uZ u4 u5 u6:Int) (u7:Bool) (u9 wa wb wc wd:Int) (we:Bool) (wv:Ta5) (ww:(L ((L Int)×Unit))) (wR:Ta21) (wf:(L Int)) (wg:(L (L Int))) (wh:Ta12) (wi:(L Int)) (wj:(L (L Int))):Option ((Ta36×(Ta326×(Ta332×(Ta317×Ta170))))⊕((Ta11×Ta387)⊕Empty)) :=
bif (decide (t8 < (b3.2.2.2.2.2.2.2.2.2.1.len:Int))) then bif (decide (wv.len + (L.of (Ty.zero Ty103) [(0,((nilL (.int .u32)),()))]).len≤most)) then bif (decide (ww.len + (L.of (Ty.zero Ty35) [((nilL (.int .u32)),())]).len≤most)) then some (.inl (((),((),((),((wI (t8 + 1)),())))),(b3,((vi,(vf,(vj,(vY,(uB,(uC,(uD,(uE,(uF,(uG,(uH,(uI,(uJ,(uK,(uL,(uM,(uN,(uO,(wL,(uP,(wM,(uQ,(uR,(wN,(wO,(wP,(wQ,()))))))))))))))))))))))))))),(((),(v8,((),(uS,(uT,(uU,(uV,(uW,(uX,(uY,(uZ,(u4,(u5,(u6,(u7,(u9,(wa,(wb,((),(wc,((),(wd,(we,((),((L.app wv (L.of (Ty.zero Ty103) [(0,((nilL (.int .u32)),()))])),((L.app ww (L.of (Ty.zero Ty35) [((nilL (.int .u32)),())])),(wR,()))))))))))))))))))))))))))),(wf,(wg,(wh,(wi,(wj,())))))))))) else none else none else some (.inr (.inl (((),((),((),()))),(b3,(((),(vf,((),(vY,(uB,(uC,(uD,(uE,(uF,(uG,(uH,(uI,(uJ,(uK,(uL,(uM,(uN,(uO,((),(uP,((),(uQ,(uR,((),((),((),((),()))))))))))))))))))))))))))),(((),(v8,((),(uS,(uT,(uU,(uV,(uW,(uX,(uY,(uZ,(u4,(u5,(u6,(u7,(u9,(wa,(wb,((),(wc,((),(wd,(we,((),((),((),((),()))))))))))))))))))))))))))),(vi,(vj,(wL,(wM,(wN,(wO,(wP,(wQ,(wf,(wg,(wh,(wi,(wj,(wv,(ww,(wR,()))))))))))))))))))))))
noncomputable def s114r_L0 (x:(Ta36×(Ta326×(Ta332×(Ta317×Ta170))))):=q114r_L0 x.1.2.2.2.1 x.2.1 x.2.2.1.1 x.2.2.1.2.1 x.2.2.1.2.2.1 x.2.2.1.2.2.2.1 x.2.2.1.2.2.2.2.1 x.2.2.1.2.2.2.2.2.1 x.2.2.1.2.2.2.2.2.2.1 x.2.2.1.2.2.2.2.2.2.2.1 x.2.2.1.2.2.2.2.2.2.2.2.1 x.2.2.1.2.2.2.2.2.2.2.2.2.1 x.2.2.1.2.2.2.2.2.2.2.2.2.2.1 x.2.2.1.2.2.2.2.2.2.2.2.2.2.2.1 x.2.2.1.2.2.2.2.2.2.2.2.2.2.2.2.1 x.2.2.1.2.2.2.2.2.2.2.2.2.2.2.2.2.1 x.2.2.1.2.2.2.2.2.2.2.2.2.2.2.2.2.2.1 x.2.2.1.2.2.2.2.2.2.2.2.2.2.2.2.2.2.2.1 x.2.2.1.2.2.2.2.2.2.2.2.2.2.2.2.2.2.2.2.1 x.2.2.1.2.2.2.2.2.2.2.2.2.2.2.2.2.2.2.2.2.1 x.2.2.1.2.2.2.2.2.2.2.2.2.2.2.2.2.2.2.2.2.2.1 x.2.2.1.2.2.2.2.2.2.2.2.2.2.2.2.2.2.2.2.2.2.2.1 x.2.2.1.2.2.2.2.2.2.2.2.2.2.2.2.2.2.2.2.2.2.2.2.1 x.2.2.1.2.2.2.2.2.2.2.2.2.2.2.2.2.2.2.2.2.2.2.2.2.1 x.2.2.1.2.2.2.2.2.2.2.2.2.2.2.2.2.2.2.2.2.2.2.2.2.2.1 x.2.2.1.2.2.2.2.2.2.2.2.2.2.2.2.2.2.2.2.2.2.2.2.2.2.2.1 x.2.2.1.2.2.2.2.2.2.2.2.2.2.2.2.2.2.2.2.2.2.2.2.2.2.2.2.1 x.2.2.1.2.2.2.2.2.2.2.2.2.2.2.2.2.2.2.2.2.2.2.2.2.2.2.2.2.1 x.2.2.1.2.2.2.2.2.2.2.2.2.2.2.2.2.2.2.2.2.2.2.2.2.2.2.2.2.2.1 x.2.2.2.1.2.1 x.2.2.2.1.2.2.2.1 x.2.2.2.1.2.2.2.2.1 x.2.2.2.1.2.2.2.2.2.1 x.2.2.2.1.2.2.2.2.2.2.1 x.2.2.2.1.2.2.2.2.2.2.2.1 x.2.2.2.1.2.2.2.2.2.2.2.2.1 x.2.2.2.1.2.2.2.2.2.2.2.2.2.1 x.2.2.2.1.2.2.2.2.2.2.2.2.2.2.1 x.2.2.2.1.2.2.2.2.2.2.2.2.2.2.2.1 x.2.2.2.1.2.2.2.2.2.2.2.2.2.2.2.2.1 x.2.2.2.1.2.2.2.2.2.2.2.2.2.2.2.2.2.1 x.2.2.2.1.2.2.2.2.2.2.2.2.2.2.2.2.2.2.1 x.2.2.2.1.2.2.2.2.2.2.2.2.2.2.2.2.2.2.2.1 x.2.2.2.1.2.2.2.2.2.2.2.2.2.2.2.2.2.2.2.2.1 x.2.2.2.1.2.2.2.2.2.2.2.2.2.2.2.2.2.2.2.2.2.1 x.2.2.2.1.2.2.2.2.2.2.2.2.2.2.2.2.2.2.2.2.2.2.2.1 x.2.2.2.1.2.2.2.2.2.2.2.2.2.2.2.2.2.2.2.2.2.2.2.2.2.1 x.2.2.2.1.2.2.2.2.2.2.2.2.2.2.2.2.2.2.2.2.2.2.2.2.2.2.1 x.2.2.2.1.2.2.2.2.2.2.2.2.2.2.2.2.2.2.2.2.2.2.2.2.2.2.2.2.1 x.2.2.2.1.2.2.2.2.2.2.2.2.2.2.2.2.2.2.2.2.2.2.2.2.2.2.2.2.2.1 x.2.2.2.1.2.2.2.2.2.2.2.2.2.2.2.2.2.2.2.2.2.2.2.2.2.2.2.2.2.2.1 x.2.2.2.2.1 x.2.2.2.2.2.1 x.2.2.2.2.2.2.1 x.2.2.2.2.2.2.2.1 x.2.2.2.2.2.2.2.2.1
abbrev h114r_L2:Shape:={ slots:=[(3,.bx 3 0),(6,.bx 6 0),(7,.bx 7 0),(9,.v (.int .i64))],boxes:=[(3,.typ Ty384),(6,B6),(7,B7),(60384,.row (.int .u32)),(60386,.row (.sl (.int .u8))),(60402,.row Ty84),(60404,.row (.int .i64)),(60407,.row (.sl (.int .u8))),(60408,.row Ty103),(60409,.row Ty35),(60410,.row Ty124),(1000832,.row (.int .u32)),(1000833,.row (.sl (.int .u8))),(1001024,.row Ty84),(1001216,.row (.int .i64)),(1001344,.row (.sl (.int .u8))),(60472,.row Ty103),(60473,.row Ty35),(60474,.row Ty124)] }
abbrev e114r_L2:List (XT×Shape):=[(.exit 2,{ slots:=[(6,.bx 6 0),(7,.bx 7 0)],boxes:=[(6,B6),(7,B7),(60384,.row (.int .u32)),(60386,.row (.sl (.int .u8))),(60402,.row Ty84),(60404,.row (.int .i64)),(60407,.row (.sl (.int .u8))),(60408,.row Ty103),(60409,.row Ty35),(60410,.row Ty124),(1000832,.row (.int .u32)),(1000833,.row (.sl (.int .u8))),(1001024,.row Ty84),(1001216,.row (.int .i64)),(1001344,.row (.sl (.int .u8))),(60472,.row Ty103),(60473,.row Ty35),(60474,.row Ty124)] })]
noncomputable def q114r_L2 (t9:Int) (b3:Ta326) (vf:Int) (vY:Bool) (uB uC uD uE:Int) (uF uG:Bool) (uH uI uJ uK:Int) (uL:Bool) (uM uN uO uP uQ:Int) (uR:Bool) (v8:Int) (uS:Bool) (uT uU uV uW:Int) (uX uY:Bool) (uZ u4 u5 u6:Int) (u7:Bool) (u9 wa wb wc wd:Int) (we:Bool) (wS:(L Int)) (wT:(L (L Int))) (wU:Ta12) (wV:(L Int)) (wW:(L (L Int))) (wY:Ta5) (wZ:(L ((L Int)×Unit))) (w0:Ta21) (wf:(L Int)) (wg:(L (L Int))) (wh:Ta12) (wi:(L Int)) (wj:(L (L Int))) (w5:Ta5) (w6:(L ((L Int)×Unit))) (wx:Ta21):Option ((Ta36×Ta387)⊕(((Unit×(Unit×Unit))×Ta381)⊕Empty)) :=
bif (decide (t9 < (b3.2.2.2.2.2.2.2.2.1.len:Int))) then bif (decide (wx.len + (L.of (Ty.zero Ty124) [((nilL (.int .u32)),((nilL (.int .u32)),()))]).len≤most)) then some (.inl (((),((),((),((wI (t9 + 1)),())))),(b3,(((),(vf,((),(vY,(uB,(uC,(uD,(uE,(uF,(uG,(uH,(uI,(uJ,(uK,(uL,(uM,(uN,(uO,((),(uP,((),(uQ,(uR,((),((),((),((),()))))))))))))))))))))))))))),(((),(v8,((),(uS,(uT,(uU,(uV,(uW,(uX,(uY,(uZ,(u4,(u5,(u6,(u7,(u9,(wa,(wb,((),(wc,((),(wd,(we,((),((),((),((),()))))))))))))))))))))))))))),(wS,(wT,(wU,(wV,(wW,(wY,(wZ,(w0,(wf,(wg,(wh,(wi,(wj,(w5,(w6,((L.app wx (L.of (Ty.zero Ty124) [((nilL (.int .u32)),((nilL (.int .u32)),()))])),()))))))))))))))))))))) else none else some (.inr (.inl (((),((),())),(((),(vf,((),(vY,(uB,(uC,(uD,(uE,(uF,(uG,(uH,(uI,(uJ,(uK,(uL,(uM,(uN,(uO,((),(uP,((),(uQ,(uR,((),((),((),((),()))))))))))))))))))))))))))),(((),(v8,((),(uS,(uT,(uU,(uV,(uW,(uX,(uY,(uZ,(u4,(u5,(u6,(u7,(u9,(wa,(wb,((),(wc,((),(wd,(we,((),((),((),((),()))))))))))))))))))))))))))),(wS,(wT,(wU,(wV,(wW,(wY,(wZ,(w0,(wf,(wg,(wh,(wi,(wj,(w5,(w6,(wx,())))))))))))))))))))))
noncomputable def s114r_L2 (x:(Ta36×Ta387)):=q114r_L2 x.1.2.2.2.1 x.2.1 x.2.2.1.2.1 x.2.2.1.2.2.2.1 x.2.2.1.2.2.2.2.1 x.2.2.1.2.2.2.2.2.1 x.2.2.1.2.2.2.2.2.2.1 x.2.2.1.2.2.2.2.2.2.2.1 x.2.2.1.2.2.2.2.2.2.2.2.1 x.2.2.1.2.2.2.2.2.2.2.2.2.1 x.2.2.1.2.2.2.2.2.2.2.2.2.2.1 x.2.2.1.2.2.2.2.2.2.2.2.2.2.2.1 x.2.2.1.2.2.2.2.2.2.2.2.2.2.2.2.1 x.2.2.1.2.2.2.2.2.2.2.2.2.2.2.2.2.1 x.2.2.1.2.2.2.2.2.2.2.2.2.2.2.2.2.2.1 x.2.2.1.2.2.2.2.2.2.2.2.2.2.2.2.2.2.2.1 x.2.2.1.2.2.2.2.2.2.2.2.2.2.2.2.2.2.2.2.1 x.2.2.1.2.2.2.2.2.2.2.2.2.2.2.2.2.2.2.2.2.1 x.2.2.1.2.2.2.2.2.2.2.2.2.2.2.2.2.2.2.2.2.2.2.1 x.2.2.1.2.2.2.2.2.2.2.2.2.2.2.2.2.2.2.2.2.2.2.2.2.1 x.2.2.1.2.2.2.2.2.2.2.2.2.2.2.2.2.2.2.2.2.2.2.2.2.2.1 x.2.2.2.1.2.1 x.2.2.2.1.2.2.2.1 x.2.2.2.1.2.2.2.2.1 x.2.2.2.1.2.2.2.2.2.1 x.2.2.2.1.2.2.2.2.2.2.1 x.2.2.2.1.2.2.2.2.2.2.2.1 x.2.2.2.1.2.2.2.2.2.2.2.2.1 x.2.2.2.1.2.2.2.2.2.2.2.2.2.1 x.2.2.2.1.2.2.2.2.2.2.2.2.2.2.1 x.2.2.2.1.2.2.2.2.2.2.2.2.2.2.2.1 x.2.2.2.1.2.2.2.2.2.2.2.2.2.2.2.2.1 x.2.2.2.1.2.2.2.2.2.2.2.2.2.2.2.2.2.1 x.2.2.2.1.2.2.2.2.2.2.2.2.2.2.2.2.2.2.1 x.2.2.2.1.2.2.2.2.2.2.2.2.2.2.2.2.2.2.2.1 x.2.2.2.1.2.2.2.2.2.2.2.2.2.2.2.2.2.2.2.2.1 x.2.2.2.1.2.2.2.2.2.2.2.2.2.2.2.2.2.2.2.2.2.1 x.2.2.2.1.2.2.2.2.2.2.2.2.2.2.2.2.2.2.2.2.2.2.2.1 x.2.2.2.1.2.2.2.2.2.2.2.2.2.2.2.2.2.2.2.2.2.2.2.2.2.1 x.2.2.2.1.2.2.2.2.2.2.2.2.2.2.2.2.2.2.2.2.2.2.2.2.2.2.1 x.2.2.2.2.1 x.2.2.2.2.2.1 x.2.2.2.2.2.2.1 x.2.2.2.2.2.2.2.1 x.2.2.2.2.2.2.2.2.1 x.2.2.2.2.2.2.2.2.2.1 x.2.2.2.2.2.2.2.2.2.2.1 x.2.2.2.2.2.2.2.2.2.2.2.1 x.2.2.2.2.2.2.2.2.2.2.2.2.1 x.2.2.2.2.2.2.2.2.2.2.2.2.2.1 x.2.2.2.2.2.2.2.2.2.2.2.2.2.2.1 x.2.2.2.2.2.2.2.2.2.2.2.2.2.2.2.1 x.2.2.2.2.2.2.2.2.2.2.2.2.2.2.2.2.1 x.2.2.2.2.2.2.2.2.2.2.2.2.2.2.2.2.2.1 x.2.2.2.2.2.2.2.2.2.2.2.2.2.2.2.2.2.2.1 x.2.2.2.2.2.2.2.2.2.2.2.2.2.2.2.2.2.2.2.1
noncomputable def a114r:Nat→Option LoopAnn:=fun c=>bif Nat.beq c 0 then some (.fix h114r_L0 e114r_L0 s114r_L0) else bif Nat.beq c 2 then some (.fix h114r_L2 e114r_L2 s114r_L2) else none
noncomputable def g114r (x0:Ta326) (x1:Int) (x2:(L (L Int))):Option (Ta345×Unit) :=
(g226r x0 x1 x2).bind fun y1=>(g227r x0.2.1).bind fun y2=>(g130r x2).bind fun y3=>(fixO s114r_L0 (((),((),((),(0,())))),(x0,(((nilL (.int .u32)),(0,((nilL (.sl (.int .u8))),(false,(0,(0,(0,(0,(false,(false,(0,(0,(0,(0,(false,(0,(0,(0,((nilL Ty84),(0,((nilL (.int .i64)),(0,(false,((nilL (.sl (.int .u8))),((nilL Ty103),((nilL Ty35),((nilL Ty124),()))))))))))))))))))))))))))),(((),(y1.1.1.2.1,((),(false,(0,(0,(0,(0,(false,(false,(0,(0,(0,(0,(false,(y2.1.1.1.1,(y2.1.1.1.2.1,(y2.1.1.1.2.2.1,((),((f228r x0.2.2.1).1,((),(0,(true,((),((nilL Ty103),((nilL Ty35),((nilL Ty124),()))))))))))))))))))))))))))),(y1.1.1.1,(y1.1.1.2.2.1,(y2.1.1.2.1,((f228r x0.2.2.1).2.1,y3.1))))))))).bind fun d7=>match d7 with | .inl y4=>((fixO s114r_L2 (((),((),((),(0,())))),y4.2)).bind fun d6=>match d6 with | .inl y5=>some ((((y5.2.2.2.2.2.2.2.2.2.2.2.1,(y5.2.2.1.2.1,(y5.2.2.2.2.2.2.2.2.2.2.2.2.1,()))),((y5.2.2.1.2.2.2.1,(y5.2.2.1.2.2.2.2.1,(y5.2.2.1.2.2.2.2.2.1,(y5.2.2.1.2.2.2.2.2.2.1,(y5.2.2.1.2.2.2.2.2.2.2.1,(y5.2.2.1.2.2.2.2.2.2.2.2.1,(y5.2.2.1.2.2.2.2.2.2.2.2.2.1,(y5.2.2.1.2.2.2.2.2.2.2.2.2.2.1,())))))))),((y5.2.2.1.2.2.2.2.2.2.2.2.2.2.2.1,(y5.2.2.1.2.2.2.2.2.2.2.2.2.2.2.2.1,(y5.2.2.1.2.2.2.2.2.2.2.2.2.2.2.2.2.1,(y5.2.2.1.2.2.2.2.2.2.2.2.2.2.2.2.2.2.1,())))),(((y5.2.2.1.2.2.2.2.2.2.2.2.2.2.2.2.2.2.2.1,(y5.2.2.1.2.2.2.2.2.2.2.2.2.2.2.2.2.2.2.2.1,(y5.2.2.1.2.2.2.2.2.2.2.2.2.2.2.2.2.2.2.2.2.1,()))),(y5.2.2.2.2.2.2.2.2.2.2.2.2.2.1,())),((y5.2.2.1.2.2.2.2.2.2.2.2.2.2.2.2.2.2.2.2.2.2.2.1,(y5.2.2.2.2.2.2.2.2.2.2.2.2.2.2.1,())),(y5.2.2.1.2.2.2.2.2.2.2.2.2.2.2.2.2.2.2.2.2.2.2.2.2.1,(y5.2.2.1.2.2.2.2.2.2.2.2.2.2.2.2.2.2.2.2.2.2.2.2.2.2.1,y5.2.2.2.2.2.2.2.2.2.2.2.2.2.2.2))))))),()),()) | .inr e=>nomatch e) | .inr e=>nomatch e
noncomputable def c114r:Ctr:={ ins:=[.v Ty384,.v (.int .i64),.v (.sl (.sl (.int .u8)))],out:=[Ty385],F:=fun x=>g114r x.1 x.2.1 x.2.2.1,fr:=1 }
noncomputable def l114r:List (Nat×Code):=loopsIn (Tryz.f114.body.getD .skip) 0
theorem w114r_L0:LW t114r a114r l114r 0 0 h114r_L0 e114r_L0 s114r_L0:=fun x=>by kernel_rfl
theorem w114r_L2:LW t114r a114r l114r 1 2 h114r_L2 e114r_L2 s114r_L2:=fun x=>by kernel_rfl
theorem o114r:Holds Tryz.prog 114 c114r:=fh t114r a114r Tryz.func114 [(0,lg l114r 0),(2,lg l114r 1)] ⟨fun x d h=>(w114r_L0 x).trans h,fun x d h=>(w114r_L2 x).trans h,trivial⟩ (tc o226r (tc o227r (tc o228r (tc o130r tn))))
noncomputable def t240:Tbl:=[]
noncomputable def g240 (x0:Ta6):Option ((Bool×Unit)×Unit) :=
bif (decide ((x0.1.len:Int)≤8)) then some (((decide ((x0.2.1.len:Int)≤8)),()),()) else some ((false,()),())
noncomputable def f240 (x0:Ta6):Bool :=
bif (decide ((x0.1.len:Int)≤8)) then (decide ((x0.2.1.len:Int)≤8)) else false
theorem n240 (x0:Ta6):g240 x0 = some ((f240 x0,()),()):=by simp only [g240,f240,pull1]
noncomputable def c240:Ctr:={ ins:=[.v Ty124],out:=[.bool],F:=fun x=>some ((f240 x.1,()),()) }
theorem o240:Holds Tryz.prog 240 c240:=f0T t240 (fun x=>g240 x.1) Tryz.func240 tn (fun x=>n240 x.1)
noncomputable def t131r:Tbl:=[]
noncomputable def g131r (x0:(L Int)):Option (((L Int)×Unit)×Unit) :=
bif (decide ((L.of (Ty.zero (.int .u32)) []).len + x0.len≤most)) then some (((L.app (L.of (Ty.zero (.int .u32)) []) x0),()),()) else none
noncomputable def c131r:Ctr:={ ins:=[.v (.sl (.int .u32))],out:=[(.sl (.int .u32))],F:=fun x=>g131r x.1,fr:=1 }
theorem o131r:Holds Tryz.prog 131 c131r:=f0 t131r Tryz.func131 tn
noncomputable def t132r:Tbl:=[(131,[],c131r)]
noncomputable def g132r (x0:Ta6):Option (Ta38×Unit) :=
(g131r x0.1).bind fun y1=>(g131r x0.2.1).bind fun y2=>some (((y1.1.1,y2.1),()),())
noncomputable def c132r:Ctr:={ ins:=[.v Ty124],out:=[Ty124],F:=fun x=>g132r x.1,fr:=1 }
theorem o132r:Holds Tryz.prog 132 c132r:=f0 t132r Tryz.func132 (tc o131r tn)
noncomputable def t297r:Tbl:=[(240,[],c240),(132,[],c132r),(131,[],c131r)]
abbrev h297r_L0:Shape:={ slots:=[(2,.bx 2 0),(4,.bx 4 0),(5,.v .bool)],boxes:=[(2,.cells [.row (.int .u32) 60128,.row (.int .u32) 60129]),(4,.cells [.row (.int .u32) 60256,.ms 1000705]),(1000705,.row (.int .u32))] }
abbrev e297r_L0:List (XT×Shape):=[(.exit 0,{ slots:=[(2,.bx 2 0),(4,.bx 4 0),(5,.v .bool)],boxes:=[(2,.cells [.ms 60128,.ms 60129]),(4,.cells [.ms 60256,.ms 1000705]),(60128,.row (.int .u32)),(60129,.row (.int .u32)),(60256,.row (.int .u32)),(1000705,.row (.int .u32))] })]
noncomputable def q297r_L0 (t5:Bool) (uz uA ve wk:(L Int)):Option ((Ta14×(Ta6×(((L Int)×(Unit×Unit))×((L Int)×Unit))))⊕((Ta14×((Unit×(Unit×Unit))×((Unit×(Unit×Unit))×((L Int)×((L Int)×Ta6)))))⊕Empty)) :=
bif (decide ((wk.len:Int) < 8)) then bif (decide ((ve.len:Int) > 0)) then bif (decide (0 < (ve.len:Int))) then bif (decide (wk.len + (L.of (Ty.zero (.int .u32)) [(L.get ve (0:Int).toNat)]).len≤most)) then bif (decide (0≤1)&&(decide (1≤(ve.len:Int))&&decide ((ve.len:Int)≤(ve.len:Int)))) then (g131r (L.cut ve (1:Int).toNat (ve.len:Int).toNat)).bind fun y2=>some (.inl (((),((),(true,()))),((uz,(uA,())),((y2.1.1,((),())),((L.app wk (L.of (Ty.zero (.int .u32)) [(L.get ve (0:Int).toNat)])),()))))) else none else none else none else some (.inr (.inl (((),((),(t5,()))),(((),((),())),(((),((),())),(uz,(uA,(ve,(wk,()))))))))) else some (.inr (.inl (((),((),(t5,()))),(((),((),())),(((),((),())),(uz,(uA,(ve,(wk,())))))))))
noncomputable def s297r_L0 (x:(Ta14×(Ta6×(((L Int)×(Unit×Unit))×((L Int)×Unit))))):=q297r_L0 x.1.2.2.1 x.2.1.1 x.2.1.2.1 x.2.2.1.1 x.2.2.2.1
noncomputable def a297r:Nat→Option LoopAnn:=fun c=>bif Nat.beq c 0 then some (.fix h297r_L0 e297r_L0 s297r_L0) else none
noncomputable def g297r (x0:Ta6):Option ((Ta6×(Bool×Unit))×Unit) :=
bif (!(f240 x0)) then some ((((nilL (.int .u32)),((nilL (.int .u32)),())),false,()),()) else (g132r x0).bind fun y1=>(fixO s297r_L0 (((),((),(false,()))),(((nilL (.int .u32)),((nilL (.int .u32)),())),((y1.1.1.1,((),())),y1.1.1.2)))).bind fun d4=>match d4 with | .inl y3=>some ((y3.2.2.2.2.2,y3.1.2.2.1,()),()) | .inr e=>nomatch e
noncomputable def c297r:Ctr:={ ins:=[.v Ty124],out:=[Ty124,.bool],F:=fun x=>g297r x.1,fr:=1 }
noncomputable def l297r:List (Nat×Code):=loopsIn (Tryz.f297.body.getD .skip) 0
theorem w297r_L0:LW t297r a297r l297r 0 0 h297r_L0 e297r_L0 s297r_L0:=fun x=>by kernel_rfl
theorem o297r:Holds Tryz.prog 297 c297r:=fh t297r a297r Tryz.func297 [(0,lg l297r 0)] ⟨fun x d h=>(w297r_L0 x).trans h,trivial⟩ (tc o240 (tc o132r (tc o131r tn)))
noncomputable def t242:Tbl:=[]
noncomputable def g242 (x0 x1:Int):Option ((Int×Unit)×Unit) :=
bif (decide (0≤(IntKind.wrap .u64 (x1)))) then some (((andOf .i64 (wI ((shrOf .u32 x0 (IntKind.wrap .u64 (x1))))) 1),()),()) else none
noncomputable def c242:Ctr:={ ins:=[.v (.int .u32),.v (.int .i64)],out:=[(.int .i64)],F:=fun x=>g242 x.1 x.2.1 }
theorem o242:Holds Tryz.prog 242 c242:=f0 t242 Tryz.func242 tn
noncomputable def t298:Tbl:=[(42,[],c42),(242,[],c242)]
noncomputable def g298 (x0:Ta118) (x1:Int):Option (Ta138×Unit) :=
bif (f42 x1 0 31) then (g242 x0.2.2.2.2.2.2.2.1 x1).bind fun y1=>bif (y1.1.1 == 0) then bif (decide (0≤(IntKind.wrap .u64 (x1)))) then some (((x0.1,(x0.2.1,(x0.2.2.1,(x0.2.2.2.1,(x0.2.2.2.2.1,(x0.2.2.2.2.2.1,(x0.2.2.2.2.2.2.1,((IntKind.wrap .u32 (x0.2.2.2.2.2.2.2.1 + (shlOf .u32 1 (IntKind.wrap .u64 (x1))))),())))))))),()),()) else none else some ((x0,()),()) else some ((x0,()),())
noncomputable def c298:Ctr:={ ins:=[.v Ty242,.v (.int .i64)],out:=[Ty242],F:=fun x=>g298 x.1 x.2.1 }
theorem o298:Holds Tryz.prog 298 c298:=f0 t298 Tryz.func298 (tc o42 (tc o242 tn))
noncomputable def t193p:Tbl:=[(227,[],c227r),(228,[],c228r),(297,[],c297r),(298,[],c298)]
abbrev h193p_L0:Shape:={ slots:=[(1,.v (.int .i64)),(2,.bx 100000128 0),(4,.bx 4 0),(8,.v (.int .i64))],boxes:=[(100000128,B8),(4,.typ Ty384),(100000129,.row (.int .u32)),(100000130,.row (.sl (.int .u8))),(1000896,.row Ty84),(1001280,.row (.int .i64)),(100000133,.row (.sl (.int .u8))),(100000134,.row Ty103),(100000135,.row Ty35),(100000136,.row Ty124)] }
abbrev e193p_L0:List (XT×Shape):=[(.exit 0,{ slots:=[],boxes:=[(100000128,B8),(100000129,.row (.int .u32)),(100000130,.row (.sl (.int .u8))),(1000896,.row Ty84),(1001280,.row (.int .i64)),(100000133,.row (.sl (.int .u8))),(100000134,.row Ty103),(100000135,.row Ty35),(100000136,.row Ty124)] })]
noncomputable def q193p_L0 (t1 t8 v9:Int) (ua:Bool) (ub uc ud ue:Int) (uf ug:Bool) (uh ui uj uk:Int) (vZ:Bool) (ul um un uo up:Int) (uq:Bool) (b4:Ta326) (wl:(L Int)) (wm:(L (L Int))) (ur:Ta12) (wn:(L Int)) (ut:(L (L Int))) (vR:Ta5) (uu:(L ((L Int)×Unit))) (vN:Ta21):Option ((Ta30×(Ta270×(Ta326×Ta251)))⊕(Ta353⊕Empty)) :=
bif (decide (t8 < (b4.2.2.2.2.2.2.2.2.1.len:Int))) then bif (!vZ) then bif (decide (0≤t8)&&decide (t8 < (b4.2.2.2.2.2.2.2.2.1.len:Int))) then bif ((L.get b4.2.2.2.2.2.2.2.2.1 t8.toNat) == t1) then bif (decide (0≤t8)&&decide (t8 < (vN.len:Int))) then (g297r ((L.get vN t8.toNat).1,((L.get vN t8.toNat).2.1,()))).bind fun y2=>bif (decide (0≤t8)&&decide (t8 < (vN.len:Int))) then bif y2.1.2.1 then (g298 (ua,(ub,(uc,(ud,(ue,(uf,(ug,(uh,())))))))) t8).bind fun y3=>some (.inl ((t1,((),((),((wI (t8 + 1)),())))),(((),(v9,((),(y3.1.1.1,(y3.1.1.2.1,(y3.1.1.2.2.1,(y3.1.1.2.2.2.1,(y3.1.1.2.2.2.2.1,(y3.1.1.2.2.2.2.2.1,(y3.1.1.2.2.2.2.2.2.1,(y3.1.1.2.2.2.2.2.2.2.1,(ui,(uj,(uk,(vZ,(ul,(um,(un,((),(uo,((),(up,(uq,((),((),((),((),()))))))))))))))))))))))))))),(b4,(wl,(wm,(ur,(wn,(ut,(vR,(uu,((L.set vN t8.toNat y2.1.1),())))))))))))) else some (.inl ((t1,((),((),((wI (t8 + 1)),())))),(((),(v9,((),(ua,(ub,(uc,(ud,(ue,(uf,(ug,(uh,(ui,(uj,(uk,(vZ,(ul,(um,(un,((),(uo,((),(up,(uq,((),((),((),((),()))))))))))))))))))))))))))),(b4,(wl,(wm,(ur,(wn,(ut,(vR,(uu,((L.set vN t8.toNat y2.1.1),())))))))))))) else none else none else some (.inl ((t1,((),((),((wI (t8 + 1)),())))),(((),(v9,((),(ua,(ub,(uc,(ud,(ue,(uf,(ug,(uh,(ui,(uj,(uk,(vZ,(ul,(um,(un,((),(uo,((),(up,(uq,((),((),((),((),()))))))))))))))))))))))))))),(b4,(wl,(wm,(ur,(wn,(ut,(vR,(uu,(vN,())))))))))))) else none else some (.inr (.inl ((),(((),(v9,((),(ua,(ub,(uc,(ud,(ue,(uf,(ug,(uh,(ui,(uj,(uk,(vZ,(ul,(um,(un,((),(uo,((),(up,(uq,((),((),((),((),()))))))))))))))))))))))))))),(wl,(wm,(ur,(wn,(ut,(vR,(uu,(vN,())))))))))))) else some (.inr (.inl ((),(((),(v9,((),(ua,(ub,(uc,(ud,(ue,(uf,(ug,(uh,(ui,(uj,(uk,(vZ,(ul,(um,(un,((),(uo,((),(up,(uq,((),((),((),((),()))))))))))))))))))))))))))),(wl,(wm,(ur,(wn,(ut,(vR,(uu,(vN,()))))))))))))
noncomputable def s193p_L0 (x:(Ta30×(Ta270×(Ta326×Ta251)))):=q193p_L0 x.1.1 x.1.2.2.2.1 x.2.1.2.1 x.2.1.2.2.2.1 x.2.1.2.2.2.2.1 x.2.1.2.2.2.2.2.1 x.2.1.2.2.2.2.2.2.1 x.2.1.2.2.2.2.2.2.2.1 x.2.1.2.2.2.2.2.2.2.2.1 x.2.1.2.2.2.2.2.2.2.2.2.1 x.2.1.2.2.2.2.2.2.2.2.2.2.1 x.2.1.2.2.2.2.2.2.2.2.2.2.2.1 x.2.1.2.2.2.2.2.2.2.2.2.2.2.2.1 x.2.1.2.2.2.2.2.2.2.2.2.2.2.2.2.1 x.2.1.2.2.2.2.2.2.2.2.2.2.2.2.2.2.1 x.2.1.2.2.2.2.2.2.2.2.2.2.2.2.2.2.2.1 x.2.1.2.2.2.2.2.2.2.2.2.2.2.2.2.2.2.2.1 x.2.1.2.2.2.2.2.2.2.2.2.2.2.2.2.2.2.2.2.1 x.2.1.2.2.2.2.2.2.2.2.2.2.2.2.2.2.2.2.2.2.2.1 x.2.1.2.2.2.2.2.2.2.2.2.2.2.2.2.2.2.2.2.2.2.2.2.1 x.2.1.2.2.2.2.2.2.2.2.2.2.2.2.2.2.2.2.2.2.2.2.2.2.1 x.2.2.1 x.2.2.2.1 x.2.2.2.2.1 x.2.2.2.2.2.1 x.2.2.2.2.2.2.1 x.2.2.2.2.2.2.2.1 x.2.2.2.2.2.2.2.2.1 x.2.2.2.2.2.2.2.2.2.1 x.2.2.2.2.2.2.2.2.2.2.1
noncomputable def a193p:Nat→Option LoopAnn:=fun c=>bif Nat.beq c 0 then some (.fix h193p_L0 e193p_L0 s193p_L0) else none
noncomputable def g193p (x0:Ta326) (x1:Int) (x2:Ta344) (x3:Int):Option Ta348 :=
(g227r x0.2.1).bind fun y1=>(fixO s193p_L0 ((x1,((),((),(0,())))),(((),(x2.1.2.1,((),(x2.2.1.1,(x2.2.1.2.1,(x2.2.1.2.2.1,(x2.2.1.2.2.2.1,(x2.2.1.2.2.2.2.1,(x2.2.1.2.2.2.2.2.1,(x2.2.1.2.2.2.2.2.2.1,(x2.2.1.2.2.2.2.2.2.2.1,(x2.2.2.1.1,(x2.2.2.1.2.1,(x2.2.2.1.2.2.1,(x2.2.2.1.2.2.2.1,(y1.1.1.1.1,(y1.1.1.1.2.1,(y1.1.1.1.2.2.1,((),((f228r x0.2.2.1).1,((),((wI (x3 + x0.2.2.2.2.1)),(false,((),((),((),((),()))))))))))))))))))))))))))),(x0,(x2.1.1,(x2.1.2.2.1,(y1.1.1.2.1,((f228r x0.2.2.1).2.1,x2.2.2.2.2.2.2.2)))))))).bind fun d5=>match d5 with | .inl y4=>some ((),(((y4.2.2.1,(y4.2.1.2.1,(y4.2.2.2.1,()))),((y4.2.1.2.2.2.1,(y4.2.1.2.2.2.2.1,(y4.2.1.2.2.2.2.2.1,(y4.2.1.2.2.2.2.2.2.1,(y4.2.1.2.2.2.2.2.2.2.1,(y4.2.1.2.2.2.2.2.2.2.2.1,(y4.2.1.2.2.2.2.2.2.2.2.2.1,(y4.2.1.2.2.2.2.2.2.2.2.2.2.1,())))))))),((y4.2.1.2.2.2.2.2.2.2.2.2.2.2.1,(y4.2.1.2.2.2.2.2.2.2.2.2.2.2.2.1,(y4.2.1.2.2.2.2.2.2.2.2.2.2.2.2.2.1,(y4.2.1.2.2.2.2.2.2.2.2.2.2.2.2.2.2.1,())))),(((y4.2.1.2.2.2.2.2.2.2.2.2.2.2.2.2.2.2.1,(y4.2.1.2.2.2.2.2.2.2.2.2.2.2.2.2.2.2.2.1,(y4.2.1.2.2.2.2.2.2.2.2.2.2.2.2.2.2.2.2.2.1,()))),(y4.2.2.2.2.1,())),((y4.2.1.2.2.2.2.2.2.2.2.2.2.2.2.2.2.2.2.2.2.2.1,(y4.2.2.2.2.2.1,())),(y4.2.1.2.2.2.2.2.2.2.2.2.2.2.2.2.2.2.2.2.2.2.2.2.1,(y4.2.1.2.2.2.2.2.2.2.2.2.2.2.2.2.2.2.2.2.2.2.2.2.2.1,y4.2.2.2.2.2.2))))))),())) | .inr e=>nomatch e
noncomputable def c193p:Ctr:={ ins:=[.v Ty384,.v (.int .i64),.pt Ty385,.v (.int .i64)],out:=[],F:=fun x=>g193p x.1 x.2.1 x.2.2.1 x.2.2.2.1 }
noncomputable def l193p:List (Nat×Code):=loopsIn (Tryz.f193.body.getD .skip) 0
theorem w193p_L0:LW t193p a193p l193p 0 0 h193p_L0 e193p_L0 s193p_L0:=fun x=>by kernel_rfl
theorem o193p:Holds Tryz.prog 193 c193p:=fh t193p a193p Tryz.func193 [(0,lg l193p 0)] ⟨fun x d h=>(w193p_L0 x).trans h,trivial⟩ (tc o227r (tc o228r (tc o297r (tc o298 tn))))
noncomputable def t196:Tbl:=[]
noncomputable def g196 (x0:(L Int)) (x1:Int):Option ((Int×Unit)×Unit) :=
bif (decide ((wI (2 + (wI (Int.tdiv (x0.len:Int) 20)))) > x1)) then some ((x1,()),()) else some (((wI (2 + (wI (Int.tdiv (x0.len:Int) 20)))),()),())
noncomputable def f196 (x0:(L Int)) (x1:Int):Int :=
bif (decide ((wI (2 + (wI (Int.tdiv (x0.len:Int) 20)))) > x1)) then x1 else (wI (2 + (wI (Int.tdiv (x0.len:Int) 20))))
theorem n196 (x0:(L Int)) (x1:Int):g196 x0 x1 = some ((f196 x0 x1,()),()):=by simp only [g196,f196,pull1]
noncomputable def c196:Ctr:={ ins:=[.v (.sl (.int .u8)),.v (.int .i64)],out:=[(.int .i64)],F:=fun x=>some ((f196 x.1 x.2.1,()),()) }
theorem o196:Holds Tryz.prog 196 c196:=f0T t196 (fun x=>g196 x.1 x.2.1) Tryz.func196 tn (fun x=>n196 x.1 x.2.1)
noncomputable def t133:Tbl:=[(241,[],c241),(242,[],c242)]
abbrev h133_L0:Shape:={ slots:=[(2,.bx 2 0),(5,.v (.int .i64))],boxes:=[(2,.typ Ty242)] }
abbrev e133_L0:List (XT×Shape):=[(.ret,{ slots:=[(4,.v (.int .i64))],boxes:=[] }),(.exit 0,{ slots:=[],boxes:=[] })]
noncomputable def q133_L0 (t5:Int) (b2:Ta118):Option (((Unit×(Int×Unit))×Ta138)⊕(((Int×Unit)×Unit)⊕((Unit×Unit)⊕Empty))) :=
bif (decide (t5 < 32)) then (g242 b2.2.2.2.2.2.2.2.1 t5).bind fun y2=>bif (y2.1.1 == 1) then some (.inr (.inl (((wI (2 + t5)),()),()))) else some (.inl (((),((wI (t5 + 1)),())),(b2,()))) else some (.inr (.inr (.inl ((),()))))
noncomputable def s133_L0 (x:((Unit×(Int×Unit))×Ta138)):=q133_L0 x.1.2.1 x.2.1
noncomputable def a133:Nat→Option LoopAnn:=fun c=>bif Nat.beq c 0 then some (.fix h133_L0 e133_L0 s133_L0) else none
noncomputable def g133 (x0:Ta118) (x1:Int):Option ((Int×Unit)×Unit) :=
bif (!x0.1) then some ((0,()),()) else bif x0.2.2.2.2.2.2.1 then some ((0,()),()) else bif x0.2.2.2.2.2.1 then (g241 x1 4294967296).bind fun y1=>bif (decide (y1.1.1 ≥ (wI (x0.2.2.2.2.1)))) then some ((1,()),()) else ((fixO s133_L0 (((),(0,())),(x0,()))).bind fun d5=>match d5 with | .inl y3=>some ((y3.1.1,()),()) | .inr (.inl y4)=>some ((0,()),()) | .inr (.inr e)=>nomatch e) else (fixO s133_L0 (((),(0,())),(x0,()))).bind fun d8=>match d8 with | .inl y6=>some ((y6.1.1,()),()) | .inr (.inl y7)=>some ((0,()),()) | .inr (.inr e)=>nomatch e
noncomputable def c133:Ctr:={ ins:=[.v Ty242,.v (.int .i64)],out:=[(.int .i64)],F:=fun x=>g133 x.1 x.2.1 }
noncomputable def l133:List (Nat×Code):=loopsIn (Tryz.f133.body.getD .skip) 0
theorem w133_L0:LW t133 a133 l133 0 0 h133_L0 e133_L0 s133_L0:=fun x=>by kernel_rfl
theorem o133:Holds Tryz.prog 133 c133:=fh t133 a133 Tryz.func133 [(0,lg l133 0)] ⟨fun x d h=>(w133_L0 x).trans h,trivial⟩ (tc o241 (tc o242 tn))
noncomputable def t134:Tbl:=[(42,[],c42),(242,[],c242)]
noncomputable def g134 (x0:Ta118) (x1 x2:Int):Option ((Ta118×(Int×Unit))×Unit) :=
bif (!(f42 x1 1 33)) then some ((x0,x2,()),()) else bif (x1 == 1) then some (((x0.1,(x0.2.1,(x2,((IntKind.wrap .u32 (x1)),(x0.2.2.2.2.1,(false,(true,x0.2.2.2.2.2.2.2))))))),x0.2.1,()),()) else (g242 x0.2.2.2.2.2.2.2.1 (wI (x1 - 2))).bind fun y1=>bif (y1.1.1 == 1) then bif (decide (0≤(IntKind.wrap .u64 ((wI (x1 - 2)))))) then some (((x0.1,(x0.2.1,(x2,((IntKind.wrap .u32 (x1)),(x0.2.2.2.2.1,(x0.2.2.2.2.2.1,(true,((IntKind.wrap .u32 (x0.2.2.2.2.2.2.2.1 - (shlOf .u32 1 (IntKind.wrap .u64 ((wI (x1 - 2))))))),())))))))),x0.2.1,()),()) else none else some (((x0.1,(x0.2.1,(x2,((IntKind.wrap .u32 (x1)),(x0.2.2.2.2.1,(x0.2.2.2.2.2.1,(true,x0.2.2.2.2.2.2.2))))))),x0.2.1,()),())
noncomputable def c134:Ctr:={ ins:=[.v Ty242,.v (.int .i64),.v (.int .u32)],out:=[Ty242,(.int .u32)],F:=fun x=>g134 x.1 x.2.1 x.2.2.1 }
theorem o134:Holds Tryz.prog 134 c134:=f0 t134 Tryz.func134 (tc o42 (tc o242 tn))
noncomputable def t143:Tbl:=[]
abbrev h143_L0:Shape:={ slots:=[(0,.v (.sl (.int .u32))),(3,.v (.int .u32)),(4,.v (.int .i64))],boxes:=[] }
abbrev e143_L0:List (XT×Shape):=[(.exit 0,{ slots:=[(3,.v (.int .u32))],boxes:=[] })]
noncomputable def q143_L0 (t0:(L Int)) (t3 t4:Int):Option (Ta43⊕(((Int×Unit)×Unit)⊕Empty)) :=
bif (decide (t4 < (t0.len:Int))) then bif (decide (0≤t4)&&decide (t4 < (t0.len:Int))) then some (.inl ((t0,((IntKind.wrap .u32 ((xorOf .u32 (orOf .u32 (shlOf .u32 t3 5) (shrOf .u32 t3 27)) (L.get t0 t4.toNat)) + 2654435769)),((wI (t4 + 1)),()))),())) else none else some (.inr (.inl ((t3,()),())))
noncomputable def s143_L0 (x:Ta43):=q143_L0 x.1.1 x.1.2.1 x.1.2.2.1
noncomputable def a143:Nat→Option LoopAnn:=fun c=>bif Nat.beq c 0 then some (.fix h143_L0 e143_L0 s143_L0) else none
noncomputable def g143 (x0:(L Int)):Option ((Int×Unit)×Unit) :=
(fixO s143_L0 ((x0,(1,(0,()))),())).bind fun d2=>match d2 with | .inl y1=>some ((y1.1.1,()),()) | .inr e=>nomatch e
noncomputable def c143:Ctr:={ ins:=[.v (.sl (.int .u32))],out:=[(.int .u32)],F:=fun x=>g143 x.1 }
noncomputable def l143:List (Nat×Code):=loopsIn (Tryz.f143.body.getD .skip) 0
theorem w143_L0:LW t143 a143 l143 0 0 h143_L0 e143_L0 s143_L0:=fun x=>by kernel_rfl
theorem o143:Holds Tryz.prog 143 c143:=fh t143 a143 Tryz.func143 [(0,lg l143 0)] ⟨fun x d h=>(w143_L0 x).trans h,trivial⟩ tn
noncomputable def t369:Tbl:=[]
noncomputable def g369 (x0:(Int×(Int×(Int×Unit)))) (x1:Int):Option ((Bool×Unit)×Unit) :=
bif (decide (x1 ≥ x0.1)) then some (((decide (x1 < (wI (x0.1 + x0.2.1)))),()),()) else some ((false,()),())
noncomputable def f369 (x0:(Int×(Int×(Int×Unit)))) (x1:Int):Bool :=
bif (decide (x1 ≥ x0.1)) then (decide (x1 < (wI (x0.1 + x0.2.1)))) else false
theorem n369 (x0:(Int×(Int×(Int×Unit)))) (x1:Int):g369 x0 x1 = some ((f369 x0 x1,()),()):=by simp only [g369,f369,pull1]
noncomputable def c369:Ctr:={ ins:=[.v Ty141,.v (.int .i64)],out:=[.bool],F:=fun x=>some ((f369 x.1 x.2.1,()),()) }
theorem o369:Holds Tryz.prog 369 c369:=f0T t369 (fun x=>g369 x.1 x.2.1) Tryz.func369 tn (fun x=>n369 x.1 x.2.1)
noncomputable def t329:Tbl:=[(369,[],c369)]
abbrev h329_L0:Shape:={ slots:=[(0,.v Ty152),(1,.v (.int .i64)),(5,.v (.int .i64))],boxes:=[] }
abbrev e329_L0:List (XT×Shape):=[(.ret,{ slots:=[(4,.v (.int .i64))],boxes:=[] }),(.exit 0,{ slots:=[],boxes:=[] })]
noncomputable def q329_L0 (t0:Ta16) (t1 t5:Int):Option ((Ta86×Unit)⊕(((Int×Unit)×Unit)⊕((Unit×Unit)⊕Empty))) :=
bif (decide (t5 < (t0.len:Int))) then bif (decide (0≤t5)&&decide (t5 < (t0.len:Int))) then bif (f369 (L.get t0 t5.toNat) t1) then some (.inr (.inl ((t5,()),()))) else some (.inl ((t0,(t1,((wI (t5 + 1)),()))),())) else none else some (.inr (.inr (.inl ((),()))))
noncomputable def s329_L0 (x:(Ta86×Unit)):=q329_L0 x.1.1 x.1.2.1 x.1.2.2.1
noncomputable def a329:Nat→Option LoopAnn:=fun c=>bif Nat.beq c 0 then some (.fix h329_L0 e329_L0 s329_L0) else none
noncomputable def g329 (x0:Ta16) (x1:Int):Option ((Int×Unit)×Unit) :=
(fixO s329_L0 ((x0,(x1,(0,()))),())).bind fun d3=>match d3 with | .inl y1=>some ((y1.1.1,()),()) | .inr (.inl y2)=>some (((-1:Int),()),()) | .inr (.inr e)=>nomatch e
noncomputable def c329:Ctr:={ ins:=[.v Ty152,.v (.int .i64)],out:=[(.int .i64)],F:=fun x=>g329 x.1 x.2.1 }
noncomputable def l329:List (Nat×Code):=loopsIn (Tryz.f329.body.getD .skip) 0
theorem w329_L0:LW t329 a329 l329 0 0 h329_L0 e329_L0 s329_L0:=fun x=>by kernel_rfl
theorem o329:Holds Tryz.prog 329 c329:=fh t329 a329 Tryz.func329 [(0,lg l329 0)] ⟨fun x d h=>(w329_L0 x).trans h,trivial⟩ (tc o369 tn)
noncomputable def t243:Tbl:=[(329,[],c329)]
noncomputable def g243 (x0:Ta16) (x1 x2 x3:Int):Option ((Int×Unit)×Unit) :=
bif (!decide (x2 = 0)) then bif ((Int.tmod (wI (x1)) x2) != 0) then some ((1,()),()) else (g329 x0 (wI (x1))).bind fun y1=>bif (decide (y1.1.1 < 0)) then some ((2,()),()) else bif (decide (0≤y1.1.1)&&decide (y1.1.1 < (x0.len:Int))) then bif (!decide (x3 = 0)) then bif ((Int.tmod (wI (Int.tdiv (L.get x0 y1.1.1.toNat).2.2.1 x3)) 2) == 0) then some ((3,()),()) else some ((0,()),()) else none else none else none
noncomputable def c243:Ctr:={ ins:=[.v Ty152,.v (.int .u32),.v (.int .i64),.v (.int .i64)],out:=[(.int .i64)],F:=fun x=>g243 x.1 x.2.1 x.2.2.1 x.2.2.2.1 }
theorem o243:Holds Tryz.prog 243 c243:=f0 t243 Tryz.func243 (tc o329 tn)
noncomputable def t244:Tbl:=[(329,[],c329)]
abbrev h244_L0:Shape:={ slots:=[(0,.v Ty152),(2,.v (.int .i64)),(5,.bx 5 0),(9,.v (.int .i64)),(10,.v (.int .i64)),(11,.v (.int .i64))],boxes:=[(5,.typ Ty173)] }
abbrev e244_L0:List (XT×Shape):=[(.exit 0,{ slots:=[(10,.v (.int .i64))],boxes:=[] })]
noncomputable def q244_L0 (t0:Ta16) (t2 t9 t10 t11:Int) (b5:Ta47):Option (((Ta16×Ta50)×Ta69)⊕(((Int×Unit)×Unit)⊕Empty)) :=
bif (decide (t11 ≥ 0)) then bif (decide (0≤t9)&&decide (t9 < (b5.2.2.1.len:Int))) then bif (decide (0≤t9)&&decide (t9 < (t0.len:Int))) then bif (decide (0≤(wI ((wI (t2 - (L.get t0 t9.toNat).1)) + t11)))&&decide ((wI ((wI (t2 - (L.get t0 t9.toNat).1)) + t11)) < ((L.get b5.2.2.1 t9.toNat).len:Int))) then some (.inl ((t0,(t2,((),(t9,((wI ((wI (256 * t10)) + (wI ((L.get (L.get b5.2.2.1 t9.toNat) (wI ((wI (t2 - (L.get t0 t9.toNat).1)) + t11)).toNat))))),((wI (t11 - 1)),())))))),(b5,()))) else none else none else none else some (.inr (.inl ((t10,()),())))
noncomputable def s244_L0 (x:((Ta16×Ta50)×Ta69)):=q244_L0 x.1.1 x.1.2.1 x.1.2.2.2.1 x.1.2.2.2.2.1 x.1.2.2.2.2.2.1 x.2.1
noncomputable def a244:Nat→Option LoopAnn:=fun c=>bif Nat.beq c 0 then some (.fix h244_L0 e244_L0 s244_L0) else none
noncomputable def g244 (x0:Ta16) (x1:Ta47) (x2 x3:Int):Option ((Int×Unit)×Unit) :=
(g329 x0 x2).bind fun y1=>(fixO s244_L0 ((x0,(x2,((),(y1.1.1,(0,((wI (x3 - 1)),())))))),(x1,()))).bind fun d3=>match d3 with | .inl y2=>some (((IntKind.wrap .u32 (y2.1.1)),()),()) | .inr e=>nomatch e
noncomputable def c244:Ctr:={ ins:=[.v Ty152,.v Ty173,.v (.int .i64),.v (.int .i64)],out:=[(.int .u32)],F:=fun x=>g244 x.1 x.2.1 x.2.2.1 x.2.2.2.1 }
noncomputable def l244:List (Nat×Code):=loopsIn (Tryz.f244.body.getD .skip) 0
theorem w244_L0:LW t244 a244 l244 0 0 h244_L0 e244_L0 s244_L0:=fun x=>by kernel_rfl
theorem o244:Holds Tryz.prog 244 c244:=fh t244 a244 Tryz.func244 [(0,lg l244 0)] ⟨fun x d h=>(w244_L0 x).trans h,trivial⟩ (tc o329 tn)
noncomputable def t135:Tbl:=[(243,[],c243),(244,[],c244)]
noncomputable def g135 (x0:Ta16) (x1:Ta47):Option ((Int×(Int×Unit))×Unit) :=
(g243 x0 x1.2.1 4 4).bind fun y1=>bif (y1.1.1 != 0) then some ((0,y1.1.1,()),()) else (g244 x0 x1 (wI (x1.2.1)) 4).bind fun y2=>some ((y2.1.1,0,()),())
noncomputable def c135:Ctr:={ ins:=[.v Ty152,.v Ty173],out:=[(.int .u32),(.int .i64)],F:=fun x=>g135 x.1 x.2.1 }
theorem o135:Holds Tryz.prog 135 c135:=f0 t135 Tryz.func135 (tc o243 (tc o244 tn))
noncomputable def t139:Tbl:=[(254,[],c254)]
noncomputable def k139_1 (x0 z0_1:Int):Option Ta119 :=
(g254 ((wI (Int.tdiv (wI (x0)) 67108864)),((Int.tmod (wI (Int.tdiv (wI (x0)) 4194304)) 16),((Int.tmod (wI (Int.tdiv (wI (x0)) 262144)) 16),((Int.tmod (wI (Int.tdiv (wI (x0)) 16384)) 16),(z0_1,())))))).bind fun y901=>bif (!y901.1.1) then some (((0,(0,(0,(0,(0,()))))),false,()),()) else some ((((wI (Int.tdiv (wI (x0)) 67108864)),((Int.tmod (wI (Int.tdiv (wI (x0)) 4194304)) 16),((Int.tmod (wI (Int.tdiv (wI (x0)) 262144)) 16),((Int.tmod (wI (Int.tdiv (wI (x0)) 16384)) 16),(z0_1,()))))),true,()),())
noncomputable def g139 (x0:Int):Option Ta119 :=
bif (decide ((Int.tmod (wI (x0)) 16384) ≥ 8192)) then k139_1 x0 (wI ((Int.tmod (wI (x0)) 16384) - 16384)) else k139_1 x0 (Int.tmod (wI (x0)) 16384)
noncomputable def c139:Ctr:={ ins:=[.v (.int .u32)],out:=[Ty202,.bool],F:=fun x=>g139 x.1 }
theorem o139:Holds Tryz.prog 139 c139:=f0 t139 Tryz.func139 (tc o254 tn)
noncomputable def t330:Tbl:=[(242,[],c242)]
abbrev h330_L0:Shape:={ slots:=[(0,.v (.int .u32)),(5,.v (.int .i64)),(6,.v (.int .i64)),(7,.v (.int .i64))],boxes:=[] }
abbrev e330_L0:List (XT×Shape):=[(.exit 0,{ slots:=[(6,.v (.int .i64))],boxes:=[] })]
noncomputable def q330_L0 (t0 t5 t6 t7:Int):Option (Ta48⊕(((Int×Unit)×Unit)⊕Empty)) :=
bif (decide (t7 ≥ 0)) then bif (decide ((wI (t7 + t5)) > 31)) then (g242 t0 31).bind fun y1=>some (.inl ((t0,(t5,((wI ((wI (2 * t6)) + y1.1.1)),((wI (t7 - 1)),())))),())) else (g242 t0 (wI (t7 + t5))).bind fun y2=>some (.inl ((t0,(t5,((wI ((wI (2 * t6)) + y2.1.1)),((wI (t7 - 1)),())))),())) else some (.inr (.inl ((t6,()),())))
noncomputable def s330_L0 (x:Ta48):=q330_L0 x.1.1 x.1.2.1 x.1.2.2.1 x.1.2.2.2.1
noncomputable def a330:Nat→Option LoopAnn:=fun c=>bif Nat.beq c 0 then some (.fix h330_L0 e330_L0 s330_L0) else none
noncomputable def g330 (x0 x1:Int):Option ((Int×Unit)×Unit) :=
(fixO s330_L0 ((x0,((wI ((Int.tmod x1 32))),(0,(31,())))),())).bind fun d4=>match d4 with | .inl y3=>some (((IntKind.wrap .u32 (y3.1.1)),()),()) | .inr e=>nomatch e
noncomputable def c330:Ctr:={ ins:=[.v (.int .u32),.v (.int .u32)],out:=[(.int .u32)],F:=fun x=>g330 x.1 x.2.1 }
noncomputable def l330:List (Nat×Code):=loopsIn (Tryz.f330.body.getD .skip) 0
theorem w330_L0:LW t330 a330 l330 0 0 h330_L0 e330_L0 s330_L0:=fun x=>by kernel_rfl
theorem o330:Holds Tryz.prog 330 c330:=fh t330 a330 Tryz.func330 [(0,lg l330 0)] ⟨fun x d h=>(w330_L0 x).trans h,trivial⟩ (tc o242 tn)
noncomputable def t370:Tbl:=[]
noncomputable def g370 (x0:Int):Option ((Int×Unit)×Unit) :=
bif (decide ((wI (x0)) ≥ 2147483648)) then some (((wI ((wI (x0)) - 4294967296)),()),()) else some (((wI (x0)),()),())
noncomputable def f370 (x0:Int):Int :=
bif (decide ((wI (x0)) ≥ 2147483648)) then (wI ((wI (x0)) - 4294967296)) else (wI (x0))
theorem n370 (x0:Int):g370 x0 = some ((f370 x0,()),()):=by simp only [g370,f370,pull1]
noncomputable def c370:Ctr:={ ins:=[.v (.int .u32)],out:=[(.int .i64)],F:=fun x=>some ((f370 x.1,()),()) }
theorem o370:Holds Tryz.prog 370 c370:=f0T t370 (fun x=>g370 x.1) Tryz.func370 tn (fun x=>n370 x.1)
noncomputable def t332:Tbl:=[(370,[],c370)]
noncomputable def g332 (x0 x1:Int):Option ((Bool×Unit)×Unit) :=
some (((decide ((f370 x0) < (f370 x1))),()),())
noncomputable def f332 (x0 x1:Int):Bool :=
(decide ((f370 x0) < (f370 x1)))
theorem n332 (x0:Int) (x1:Int):g332 x0 x1 = some ((f332 x0 x1,()),()):=by simp only [g332,f332,pull1]
noncomputable def c332:Ctr:={ ins:=[.v (.int .u32),.v (.int .u32)],out:=[.bool],F:=fun x=>some ((f332 x.1 x.2.1,()),()) }
theorem o332:Holds Tryz.prog 332 c332:=f0T t332 (fun x=>g332 x.1 x.2.1) Tryz.func332 (tc o370 tn) (fun x=>n332 x.1 x.2.1)
noncomputable def t331:Tbl:=[]
noncomputable def g331 (x0:Bool):Option ((Int×Unit)×Unit) :=
bif x0 then some ((1,()),()) else some ((0,()),())
noncomputable def f331 (x0:Bool):Int :=
bif x0 then 1 else 0
theorem n331 (x0:Bool):g331 x0 = some ((f331 x0,()),()):=by simp only [g331,f331,pull1]
noncomputable def c331:Ctr:={ ins:=[.v .bool],out:=[(.int .u32)],F:=fun x=>some ((f331 x.1,()),()) }
theorem o331:Holds Tryz.prog 331 c331:=f0T t331 (fun x=>g331 x.1) Tryz.func331 tn (fun x=>n331 x.1)
noncomputable def t245:Tbl:=[(330,[],c330),(332,[],c332),(331,[],c331)]
noncomputable def g245 (x0 x1 x2:Int):Option ((Int×(Int×Unit))×Unit) :=
bif (x0 == 1) then some (((IntKind.wrap .u32 (x1 + x2)),0,()),()) else bif (x0 == 2) then some (((IntKind.wrap .u32 (x1 - x2)),0,()),()) else bif (x0 == 3) then some (((andOf .u32 x1 x2),0,()),()) else bif (x0 == 4) then some (((orOf .u32 x1 x2),0,()),()) else bif (x0 == 5) then some (((xorOf .u32 x1 x2),0,()),()) else bif (x0 == 6) then bif (decide (0≤(IntKind.wrap .u64 ((Int.tmod x2 32))))) then some (((shlOf .u32 x1 (IntKind.wrap .u64 ((Int.tmod x2 32)))),0,()),()) else none else bif (x0 == 7) then bif (decide (0≤(IntKind.wrap .u64 ((Int.tmod x2 32))))) then some (((shrOf .u32 x1 (IntKind.wrap .u64 ((Int.tmod x2 32)))),0,()),()) else none else bif (x0 == 8) then (g330 x1 x2).bind fun y1=>some ((y1.1.1,0,()),()) else bif (x0 == 9) then some (((IntKind.wrap .u32 (x1 * x2)),0,()),()) else bif (x0 == 10) then bif (x2 == 0) then some ((0,5,()),()) else bif (!decide (x2 = 0)) then some (((IntKind.wrap .u32 (Int.tdiv x1 x2)),0,()),()) else none else bif (x0 == 11) then some (((f331 (f332 x1 x2)),0,()),()) else bif (x0 == 12) then some (((f331 (decide (x1 < x2))),0,()),()) else some ((0,4,()),())
noncomputable def c245:Ctr:={ ins:=[.v (.int .i64),.v (.int .u32),.v (.int .u32)],out:=[(.int .u32),(.int .i64)],F:=fun x=>g245 x.1 x.2.1 x.2.2.1 }
theorem o245:Holds Tryz.prog 245 c245:=f0 t245 Tryz.func245 (tc o330 (tc o332 (tc o331 tn)))
noncomputable def t246w:Tbl:=[]
noncomputable def g246w (x0:Ta47) (x1 x2:Int):Option Ta95 :=
bif (decide (x1 > 0)) then bif (decide (0≤x1)&&decide (x1 < (x0.1.len:Int))) then some ((),(((L.set x0.1 x1.toNat x2),((Ty.zero (.int .u32)),(x0.2.2.1,(Ty.zero .unit)))),())) else none else some ((),((x0.1,((Ty.zero (.int .u32)),(x0.2.2.1,(Ty.zero .unit)))),()))
noncomputable def c246w:Ctr:={ ins:=[.ow Ty173,.v (.int .i64),.v (.int .u32)],out:=[],F:=fun x=>g246w x.1 x.2.1 x.2.2.1 }
theorem o246w:Holds Tryz.prog 246 c246w:=f0 t246w Tryz.func246 tn
noncomputable def t247w:Tbl:=[(329,[],c329),(296,[],c296r)]
abbrev h247w_L0:Shape:={ slots:=[(0,.v Ty152),(2,.v (.int .i64)),(3,.v (.int .i64)),(6,.bx 6 0),(10,.v (.int .i64)),(11,.ms 1001088),(12,.v (.int .i64))],boxes:=[(6,.cells [.ms 200000064,.v (.int .u32),.ms 200000065]),(1001088,.row (.int .u8)),(200000064,.row (.int .u32)),(200000065,.row (.sl (.int .u8)))] }
abbrev e247w_L0:List (XT×Shape):=[(.exit 0,{ slots:=[],boxes:=[(200000064,.row (.int .u32)),(200000065,.row (.sl (.int .u8)))] })]
noncomputable def q247w_L0 (t0:Ta16) (t2 t3 t10 t12 vf:Int) (uy w7:(L Int)) (wo:(L (L Int))):Option (((Ta16×(Int×(Int×Ta31)))×(Ta3×((L Int)×Ta20)))⊕((Unit×Ta20)⊕Empty)) :=
bif (decide (t12 < t3)) then bif (decide (0≤t10)&&decide (t10 < (wo.len:Int))) then bif (decide (0≤t10)&&decide (t10 < (t0.len:Int))) then bif (decide (0≤t12)&&decide (t12 < (uy.len:Int))) then bif (decide (0≤(wI ((wI (t2 - (L.get t0 t10.toNat).1)) + t12)))&&decide ((wI ((wI (t2 - (L.get t0 t10.toNat).1)) + t12)) < ((L.get wo t10.toNat).len:Int))) then some (.inl ((t0,(t2,(t3,((),(t10,((),((wI (t12 + 1)),()))))))),(((),(vf,((),()))),(uy,(w7,((L.upd wo t10.toNat fun e=>(L.set e (wI ((wI (t2 - (L.get t0 t10.toNat).1)) + t12)).toNat (L.get uy t12.toNat))),())))))) else none else none else none else none else some (.inr (.inl ((),(w7,(wo,())))))
noncomputable def s247w_L0 (x:((Ta16×(Int×(Int×Ta31)))×(Ta3×((L Int)×Ta20)))):=q247w_L0 x.1.1 x.1.2.1 x.1.2.2.1 x.1.2.2.2.2.1 x.1.2.2.2.2.2.2.1 x.2.1.2.1 x.2.2.1 x.2.2.2.1 x.2.2.2.2.1
noncomputable def a247w:Nat→Option LoopAnn:=fun c=>bif Nat.beq c 0 then some (.fix h247w_L0 e247w_L0 s247w_L0) else none
noncomputable def g247w (x0:Ta16) (x1:Ta47) (x2 x3 x4:Int):Option Ta95 :=
(g329 x0 x2).bind fun y1=>(fixO s247w_L0 ((x0,(x2,(x3,((),(y1.1.1,((),(0,()))))))),(((),(x1.2.1,((),()))),((f296r x4),(x1.1,x1.2.2))))).bind fun d3=>match d3 with | .inl y2=>some ((),((y2.2.1,((Ty.zero (.int .u32)),(y2.2.2.1,(Ty.zero .unit)))),())) | .inr e=>nomatch e
noncomputable def c247w:Ctr:={ ins:=[.v Ty152,.ow Ty173,.v (.int .i64),.v (.int .i64),.v (.int .u32)],out:=[],F:=fun x=>g247w x.1 x.2.1 x.2.2.1 x.2.2.2.1 x.2.2.2.2.1 }
noncomputable def l247w:List (Nat×Code):=loopsIn (Tryz.f247.body.getD .skip) 0
theorem w247w_L0:LW t247w a247w l247w 0 0 h247w_L0 e247w_L0 s247w_L0:=fun x=>by kernel_rfl
theorem o247w:Holds Tryz.prog 247 c247w:=fh t247w a247w Tryz.func247 [(0,lg l247w 0)] ⟨fun x d h=>(w247w_L0 x).trans h,trivial⟩ (tc o329 (tc o296r tn))
noncomputable def t248:Tbl:=[(332,[],c332)]
noncomputable def g248 (x0 x1 x2:Int):Option ((Bool×Unit)×Unit) :=
bif (x0 == 19) then some (((x1 == x2),()),()) else bif (x0 == 20) then some (((x1 != x2),()),()) else bif (x0 == 21) then some (((f332 x1 x2),()),()) else some ((false,()),())
noncomputable def f248 (x0 x1 x2:Int):Bool :=
bif (x0 == 19) then (x1 == x2) else bif (x0 == 20) then (x1 != x2) else bif (x0 == 21) then (f332 x1 x2) else false
theorem n248 (x0:Int) (x1:Int) (x2:Int):g248 x0 x1 x2 = some ((f248 x0 x1 x2,()),()):=by simp only [g248,f248,pull1]
noncomputable def c248:Ctr:={ ins:=[.v (.int .i64),.v (.int .u32),.v (.int .u32)],out:=[.bool],F:=fun x=>some ((f248 x.1 x.2.1 x.2.2.1,()),()) }
theorem o248:Holds Tryz.prog 248 c248:=f0T t248 (fun x=>g248 x.1 x.2.1 x.2.2.1) Tryz.func248 (tc o332 tn) (fun x=>n248 x.1 x.2.1 x.2.2.1)
noncomputable def t136rm:Tbl:=[(135,[],c135),(139,[],c139),(42,[],c42),(245,[],c245),(246,[],c246w),(243,[],c243),(247,[],c247w),(244,[],c244),(248,[],c248)]
noncomputable def k136rm_2 (x0:Ta16) (x1:Ta47) (y2:Ta119) (z0_3:Int):Option Ta183 :=
(g243 x0 (IntKind.wrap .u32 ((L.get x1.1 y2.1.1.2.2.1.toNat) + (IntKind.wrap .u32 (y2.1.1.2.2.2.2.1)))) z0_3 2).bind fun y908=>bif (y908.1.1 != 0) then some (((x1,(y908.1.1,(y2.1.1.1,((-1:Int),(false,(false,())))))),()),()) else (g247w x0 x1 (wI ((IntKind.wrap .u32 ((L.get x1.1 y2.1.1.2.2.1.toNat) + (IntKind.wrap .u32 (y2.1.1.2.2.2.2.1)))))) z0_3 (L.get x1.1 y2.1.1.2.1.toNat)).bind fun y909=>some ((((y909.2.1.1,((IntKind.wrap .u32 (x1.2.1 + 4)),y909.2.1.2.2)),(0,(y2.1.1.1,((wI ((IntKind.wrap .u32 ((L.get x1.1 y2.1.1.2.2.1.toNat) + (IntKind.wrap .u32 (y2.1.1.2.2.2.2.1)))))),(true,(false,())))))),()),())
noncomputable def k136rm_1 (y2:Ta119) (x0:Ta16) (x1:Ta47) (z0_3:Int):Option Ta183 :=
bif (y2.1.1.1 == 16) then k136rm_2 x0 x1 y2 z0_3 else bif (y2.1.1.1 == 18) then k136rm_2 x0 x1 y2 z0_3 else (g243 x0 (IntKind.wrap .u32 ((L.get x1.1 y2.1.1.2.2.1.toNat) + (IntKind.wrap .u32 (y2.1.1.2.2.2.2.1)))) z0_3 1).bind fun y905=>bif (y905.1.1 != 0) then some (((x1,(y905.1.1,(y2.1.1.1,((-1:Int),(false,(false,())))))),()),()) else (g244 x0 x1 (wI ((IntKind.wrap .u32 ((L.get x1.1 y2.1.1.2.2.1.toNat) + (IntKind.wrap .u32 (y2.1.1.2.2.2.2.1)))))) z0_3).bind fun y906=>(g246w x1 y2.1.1.2.1 y906.1.1).bind fun y907=>some ((((y907.2.1.1,((IntKind.wrap .u32 (x1.2.1 + 4)),y907.2.1.2.2)),(0,(y2.1.1.1,((wI ((IntKind.wrap .u32 ((L.get x1.1 y2.1.1.2.2.1.toNat) + (IntKind.wrap .u32 (y2.1.1.2.2.2.2.1)))))),(false,(false,())))))),()),())
noncomputable def g136rm (x0:Ta16) (x1:Ta47) (x2:Int):Option Ta183 :=
(g135 x0 x1).bind fun y1=>bif (y1.1.2.1 != 0) then some (((x1,(y1.1.2.1,((-1:Int),((-1:Int),(false,(false,())))))),()),()) else (g139 y1.1.1).bind fun y2=>bif (!y2.1.2.1) then some (((x1,(4,((-1:Int),((-1:Int),(false,(false,())))))),()),()) else bif (decide (y2.1.1.1 ≥ 25)) then some (((x1,(0,(y2.1.1.1,((-1:Int),(false,(true,())))))),()),()) else bif (decide (0≤y2.1.1.2.1)&&decide (y2.1.1.2.1 < (x1.1.len:Int))) then bif (decide (0≤y2.1.1.2.2.1)&&decide (y2.1.1.2.2.1 < (x1.1.len:Int))) then bif (f42 y2.1.1.1 1 12) then bif (decide (0≤y2.1.1.2.2.2.1)&&decide (y2.1.1.2.2.2.1 < (x1.1.len:Int))) then (g245 y2.1.1.1 (L.get x1.1 y2.1.1.2.2.1.toNat) (L.get x1.1 y2.1.1.2.2.2.1.toNat)).bind fun y3=>bif (y3.1.2.1 != 0) then some (((x1,(y3.1.2.1,(y2.1.1.1,((-1:Int),(false,(false,())))))),()),()) else (g246w x1 y2.1.1.2.1 y3.1.1).bind fun y4=>some ((((y4.2.1.1,((IntKind.wrap .u32 (x1.2.1 + 4)),y4.2.1.2.2)),(0,(y2.1.1.1,((-1:Int),(false,(false,())))))),()),()) else none else bif (y2.1.1.1 == 13) then (g246w x1 y2.1.1.2.1 (IntKind.wrap .u32 ((L.get x1.1 y2.1.1.2.2.1.toNat) + (IntKind.wrap .u32 (y2.1.1.2.2.2.2.1))))).bind fun y5=>some ((((y5.2.1.1,((IntKind.wrap .u32 (x1.2.1 + 4)),y5.2.1.2.2)),(0,(y2.1.1.1,((-1:Int),(false,(false,())))))),()),()) else bif (y2.1.1.1 == 14) then (g246w x1 y2.1.1.2.1 (shlOf .u32 (IntKind.wrap .u32 (y2.1.1.2.2.2.2.1)) 14)).bind fun y6=>some ((((y6.2.1.1,((IntKind.wrap .u32 (x1.2.1 + 4)),y6.2.1.2.2)),(0,(y2.1.1.1,((-1:Int),(false,(false,())))))),()),()) else bif (f42 y2.1.1.1 15 18) then bif (y2.1.1.1 == 17) then k136rm_1 y2 x0 x1 1 else bif (y2.1.1.1 == 18) then k136rm_1 y2 x0 x1 1 else k136rm_1 y2 x0 x1 4 else bif (f42 y2.1.1.1 19 21) then bif (f248 y2.1.1.1 (L.get x1.1 y2.1.1.2.1.toNat) (L.get x1.1 y2.1.1.2.2.1.toNat)) then some ((((x1.1,((IntKind.wrap .u32 ((IntKind.wrap .u32 (x1.2.1 + 4)) + (IntKind.wrap .u32 (4 * (IntKind.wrap .u32 (y2.1.1.2.2.2.2.1)))))),x1.2.2)),(0,(y2.1.1.1,((-1:Int),(false,(false,())))))),()),()) else some ((((x1.1,((IntKind.wrap .u32 (x1.2.1 + 4)),x1.2.2)),(0,(y2.1.1.1,((-1:Int),(false,(false,())))))),()),()) else bif (y2.1.1.1 == 22) then (g246w x1 y2.1.1.2.1 (IntKind.wrap .u32 (x1.2.1 + 4))).bind fun y28=>some ((((y28.2.1.1,((IntKind.wrap .u32 ((IntKind.wrap .u32 (x1.2.1 + 4)) + (IntKind.wrap .u32 (4 * (IntKind.wrap .u32 (y2.1.1.2.2.2.2.1)))))),y28.2.1.2.2)),(0,(y2.1.1.1,((-1:Int),(false,(false,())))))),()),()) else bif (y2.1.1.1 == 23) then some ((((x1.1,((IntKind.wrap .u32 ((L.get x1.1 y2.1.1.2.2.1.toNat) + (IntKind.wrap .u32 (y2.1.1.2.2.2.2.1)))),x1.2.2)),(0,(y2.1.1.1,((-1:Int),(false,(false,())))))),()),()) else bif (y2.1.1.1 == 24) then (g246w x1 y2.1.1.2.1 (IntKind.wrap .u32 (x2))).bind fun y29=>some ((((y29.2.1.1,((IntKind.wrap .u32 (x1.2.1 + 4)),y29.2.1.2.2)),(0,(y2.1.1.1,((-1:Int),(false,(false,())))))),()),()) else some ((((x1.1,((IntKind.wrap .u32 (x1.2.1 + 4)),x1.2.2)),(0,(y2.1.1.1,((-1:Int),(false,(false,())))))),()),()) else none else none
noncomputable def c136rm:Ctr:={ ins:=[.v Ty152,.mv Ty173,.v (.int .i64)],out:=[Ty273],F:=fun x=>g136rm x.1 x.2.1 x.2.2.1,fr:=1 }
theorem o136rm:Holds Tryz.prog 136 c136rm:=f0 t136rm Tryz.func136 (tc o135 (tc o139 (tc o42 (tc o245 (tc o246w (tc o243 (tc o247w (tc o244 (tc o248 tn)))))))))
noncomputable def t334:Tbl:=[]
abbrev h334_L0:Shape:={ slots:=[(0,.v (.sl (.int .i64))),(1,.v (.int .i64)),(5,.v (.int .i64))],boxes:=[] }
abbrev e334_L0:List (XT×Shape):=[(.ret,{ slots:=[(4,.v .bool)],boxes:=[] }),(.exit 0,{ slots:=[],boxes:=[] })]
noncomputable def q334_L0 (t0:(L Int)) (t1 t5:Int):Option (Ta43⊕(((Bool×Unit)×Unit)⊕((Unit×Unit)⊕Empty))) :=
bif (decide (t5 < (t0.len:Int))) then bif (decide (0≤t5)&&decide (t5 < (t0.len:Int))) then bif ((L.get t0 t5.toNat) == t1) then some (.inr (.inl ((true,()),()))) else some (.inl ((t0,(t1,((wI (t5 + 1)),()))),())) else none else some (.inr (.inr (.inl ((),()))))
noncomputable def s334_L0 (x:Ta43):=q334_L0 x.1.1 x.1.2.1 x.1.2.2.1
noncomputable def a334:Nat→Option LoopAnn:=fun c=>bif Nat.beq c 0 then some (.fix h334_L0 e334_L0 s334_L0) else none
noncomputable def g334 (x0:(L Int)) (x1:Int):Option ((Bool×Unit)×Unit) :=
(fixO s334_L0 ((x0,(x1,(0,()))),())).bind fun d3=>match d3 with | .inl y1=>some ((y1.1.1,()),()) | .inr (.inl y2)=>some ((false,()),()) | .inr (.inr e)=>nomatch e
noncomputable def c334:Ctr:={ ins:=[.v (.sl (.int .i64)),.v (.int .i64)],out:=[.bool],F:=fun x=>g334 x.1 x.2.1 }
noncomputable def l334:List (Nat×Code):=loopsIn (Tryz.f334.body.getD .skip) 0
theorem w334_L0:LW t334 a334 l334 0 0 h334_L0 e334_L0 s334_L0:=fun x=>by kernel_rfl
theorem o334:Holds Tryz.prog 334 c334:=fh t334 a334 Tryz.func334 [(0,lg l334 0)] ⟨fun x d h=>(w334_L0 x).trans h,trivial⟩ tn
noncomputable def t251r:Tbl:=[(334,[],c334)]
noncomputable def g251r (x0:(Int×((L Int)×Unit))) (x1:Int):Option (((Int×((L Int)×Unit))×(Bool×Unit))×Unit) :=
bif (decide ((L.of (Ty.zero (.int .i64)) []).len + x0.2.1.len≤most)) then (g334 x0.2.1 (wI (Int.tdiv x1 64))).bind fun y1=>bif y1.1.1 then some (((x0.1,((L.app (L.of (Ty.zero (.int .i64)) []) x0.2.1),())),true,()),()) else bif (decide ((L.app (L.of (Ty.zero (.int .i64)) []) x0.2.1).len + (L.of (Ty.zero (.int .i64)) [(wI (Int.tdiv x1 64))]).len≤most)) then bif (decide (((L.app (L.app (L.of (Ty.zero (.int .i64)) []) x0.2.1) (L.of (Ty.zero (.int .i64)) [(wI (Int.tdiv x1 64))])).len:Int) > x0.1)) then bif (decide (0≤1)&&(decide (1≤((L.app (L.app (L.of (Ty.zero (.int .i64)) []) x0.2.1) (L.of (Ty.zero (.int .i64)) [(wI (Int.tdiv x1 64))])).len:Int))&&decide (((L.app (L.app (L.of (Ty.zero (.int .i64)) []) x0.2.1) (L.of (Ty.zero (.int .i64)) [(wI (Int.tdiv x1 64))])).len:Int)≤((L.app (L.app (L.of (Ty.zero (.int .i64)) []) x0.2.1) (L.of (Ty.zero (.int .i64)) [(wI (Int.tdiv x1 64))])).len:Int)))) then bif (decide ((L.of (Ty.zero (.int .i64)) []).len + (L.cut (L.app (L.app (L.of (Ty.zero (.int .i64)) []) x0.2.1) (L.of (Ty.zero (.int .i64)) [(wI (Int.tdiv x1 64))])) (1:Int).toNat ((L.app (L.app (L.of (Ty.zero (.int .i64)) []) x0.2.1) (L.of (Ty.zero (.int .i64)) [(wI (Int.tdiv x1 64))])).len:Int).toNat).len≤most)) then some (((x0.1,((L.app (L.of (Ty.zero (.int .i64)) []) (L.cut (L.app (L.app (L.of (Ty.zero (.int .i64)) []) x0.2.1) (L.of (Ty.zero (.int .i64)) [(wI (Int.tdiv x1 64))])) (1:Int).toNat ((L.app (L.app (L.of (Ty.zero (.int .i64)) []) x0.2.1) (L.of (Ty.zero (.int .i64)) [(wI (Int.tdiv x1 64))])).len:Int).toNat)),())),false,()),()) else none else none else some (((x0.1,((L.app (L.app (L.of (Ty.zero (.int .i64)) []) x0.2.1) (L.of (Ty.zero (.int .i64)) [(wI (Int.tdiv x1 64))])),())),false,()),()) else none else none
noncomputable def c251r:Ctr:={ ins:=[.v Ty105,.v (.int .i64)],out:=[Ty105,.bool],F:=fun x=>g251r x.1 x.2.1,fr:=1 }
theorem o251r:Holds Tryz.prog 251 c251r:=f0 t251r Tryz.func251 (tc o334 tn)
noncomputable def t252r:Tbl:=[]
abbrev h252r_L2:Shape:={ slots:=[(2,.v .bool),(3,.bx 3 0),(6,.bx 6 0),(10,.v (.int .i64)),(11,.v (.int .i64)),(12,.bx 12 0),(13,.v .bool),(14,.v .bool),(15,.v (.int .i64)),(16,.v Ty84),(17,.bx 17 0),(18,.ms 64),(19,.v (.int .i64))],boxes:=[(3,.typ Ty236),(6,B9),(12,B10),(17,.typ Ty64),(64,.row Ty64),(60387,.row Ty84),(60771,.row Ty84)] }
abbrev e252r_L2:List (XT×Shape):=[(.exit 2,{ slots:=[(2,.v .bool),(3,.bx 3 0),(6,.bx 6 0),(10,.v (.int .i64)),(11,.v (.int .i64)),(12,.bx 12 0),(13,.v .bool),(14,.v .bool),(15,.v (.int .i64)),(17,.bx 17 0),(18,.ms 64)],boxes:=[(3,.typ Ty236),(6,B9),(12,B10),(17,.typ Ty64),(64,.row Ty64),(60387,.row Ty84),(60771,.row Ty84)] })]
noncomputable def q252r_L2 (t2:Bool) (t10 t11:Int) (t13 t14:Bool) (t15:Int) (t16:(L (Int×(Bool×Unit)))) (t19:Int) (b3:Ta127) (vi vf vj uv uw ux:Int) (b17:(Int×(Bool×Unit))) (r64:(L (Int×(Bool×Unit)))) (wp wq:Ta12):Option (((Bool×(Unit×(Unit×(Int×(Int×(Unit×(Bool×(Bool×(Int×((L (Int×(Bool×Unit)))×Ta0))))))))))×Ta309)⊕(((Bool×(Unit×(Unit×(Int×(Int×(Unit×(Bool×(Bool×Ta1))))))))×Ta309)⊕Empty)) :=
bif (decide (t19 < (t16.len:Int))) then bif (decide (0≤t19)&&decide (t19 < (t16.len:Int))) then bif ((L.get t16 t19.toNat).1 == t11) then bif t2 then some (.inl ((t2,((),((),(t10,(t11,((),(true,(t14,(t15,(t16,((),((),((wI (t19 + 1)),()))))))))))))),(b3,((vi,(vf,(vj,((),())))),((uv,(uw,(ux,((),())))),((b17.1,(true,())),(r64,(wp,(wq,()))))))))) else bif (decide (0≤t19)&&decide (t19 < (t16.len:Int))) then some (.inl ((t2,((),((),(t10,(t11,((),(true,(t14,(t15,(t16,((),((),((wI (t19 + 1)),()))))))))))))),(b3,((vi,(vf,(vj,((),())))),((uv,(uw,(ux,((),())))),((b17.1,(L.get t16 t19.toNat).2),(r64,(wp,(wq,()))))))))) else none else bif (decide (0≤t19)&&decide (t19 < (t16.len:Int))) then bif (decide (r64.len + (L.of (Ty.zero Ty64) [(L.get t16 t19.toNat)]).len≤most)) then some (.inl ((t2,((),((),(t10,(t11,((),(t13,(t14,(t15,(t16,((),((),((wI (t19 + 1)),()))))))))))))),(b3,((vi,(vf,(vj,((),())))),((uv,(uw,(ux,((),())))),(b17,((L.app r64 (L.of (Ty.zero Ty64) [(L.get t16 t19.toNat)])),(wp,(wq,()))))))))) else none else none else none else some (.inr (.inl ((t2,((),((),(t10,(t11,((),(t13,(t14,(t15,((),((),()))))))))))),(b3,((vi,(vf,(vj,((),())))),((uv,(uw,(ux,((),())))),(b17,(r64,(wp,(wq,()))))))))))
noncomputable def s252r_L2 (x:((Bool×(Unit×(Unit×(Int×(Int×(Unit×(Bool×(Bool×(Int×((L (Int×(Bool×Unit)))×Ta0))))))))))×Ta309)):=q252r_L2 x.1.1 x.1.2.2.2.1 x.1.2.2.2.2.1 x.1.2.2.2.2.2.2.1 x.1.2.2.2.2.2.2.2.1 x.1.2.2.2.2.2.2.2.2.1 x.1.2.2.2.2.2.2.2.2.2.1 x.1.2.2.2.2.2.2.2.2.2.2.2.2.1 x.2.1 x.2.2.1.1 x.2.2.1.2.1 x.2.2.1.2.2.1 x.2.2.2.1.1 x.2.2.2.1.2.1 x.2.2.2.1.2.2.1 x.2.2.2.2.1 x.2.2.2.2.2.1 x.2.2.2.2.2.2.1 x.2.2.2.2.2.2.2.1
abbrev h252r_L0:Shape:={ slots:=[(2,.v .bool),(3,.bx 3 0),(6,.bx 6 0),(10,.v (.int .i64)),(11,.v (.int .i64)),(12,.bx 12 0),(13,.v .bool),(14,.v .bool),(15,.v (.int .i64))],boxes:=[(3,.typ Ty236),(6,.cells [.v (.int .i64),.v (.int .i64),.v (.int .i64),.row Ty84 60387]),(12,.cells [.v (.int .i64),.v (.int .i64),.v (.int .i64),.row Ty84 60771])] }
abbrev e252r_L0:List (XT×Shape):=[(.exit 0,{ slots:=[(6,.bx 6 0),(12,.bx 12 0),(13,.v .bool),(14,.v .bool)],boxes:=[(6,B9),(12,B10),(60387,.row Ty84),(60771,.row Ty84)] })]
noncomputable def q252r_L0 (t2:Bool) (t10 t11:Int) (t13 t14:Bool) (t15:Int) (b3:Ta127) (vi vf vj:Int) (vY:Ta12) (uv uw ux:Int) (wr:Ta12):Option (((Bool×(Unit×(Unit×(Int×(Int×(Unit×Ta7))))))×(Ta127×Ta209))⊕(((Unit×(Unit×(Bool×(Bool×Unit))))×Ta222)⊕Empty)) :=
bif (decide (t15 < (b3.2.1.len:Int))) then bif (decide (0≤t15)&&decide (t15 < (b3.2.1.len:Int))) then bif (t15 != t10) then bif (decide ((L.of (Ty.zero Ty64) []).len + (L.get b3.2.1 t15.toNat).len≤most)) then bif (decide (wr.len + (L.of (Ty.zero Ty84) [(L.app (L.of (Ty.zero Ty64) []) (L.get b3.2.1 t15.toNat))]).len≤most)) then some (.inl ((t2,((),((),(t10,(t11,((),(t13,(t14,((wI (t15 + 1)),()))))))))),(b3,((vi,(vf,(vj,(vY,())))),((uv,(uw,(ux,((L.app wr (L.of (Ty.zero Ty84) [(L.app (L.of (Ty.zero Ty64) []) (L.get b3.2.1 t15.toNat))])),())))),()))))) else none else none else ((fixO s252r_L2 ((t2,((),((),(t10,(t11,((),(t13,(t14,(t15,((L.get b3.2.1 t15.toNat),((),((),(0,()))))))))))))),(b3,((vi,(vf,(vj,((),())))),((uv,(uw,(ux,((),())))),((t11,(t2,())),((L.of (Ty.zero Ty64) []),(vY,(wr,()))))))))).bind fun d2=>match d2 with | .inl y1=>bif ((y1.2.2.2.2.2.1.len:Int) == y1.2.1.1.2.1) then bif (decide (0≤(wI ((y1.2.2.2.2.2.1.len:Int) - 1)))&&decide ((wI ((y1.2.2.2.2.2.1.len:Int) - 1)) < (y1.2.2.2.2.2.1.len:Int))) then bif (decide (0≤0)&&(decide (0≤(wI ((y1.2.2.2.2.2.1.len:Int) - 1)))&&decide ((wI ((y1.2.2.2.2.2.1.len:Int) - 1))≤(y1.2.2.2.2.2.1.len:Int)))) then bif (decide ((L.of (Ty.zero Ty64) [y1.2.2.2.2.1]).len + (L.cut y1.2.2.2.2.2.1 (0:Int).toNat (wI ((y1.2.2.2.2.2.1.len:Int) - 1)).toNat).len≤most)) then bif (decide (y1.2.2.2.2.2.2.2.1.len + (L.of (Ty.zero Ty84) [(L.app (L.of (Ty.zero Ty64) [y1.2.2.2.2.1]) (L.cut y1.2.2.2.2.2.1 (0:Int).toNat (wI ((y1.2.2.2.2.2.1.len:Int) - 1)).toNat))]).len≤most)) then some (.inl ((y1.1.1,((),((),(y1.1.2.2.2.1,(y1.1.2.2.2.2.1,((),(y1.1.2.2.2.2.2.2.1,((L.get y1.2.2.2.2.2.1 (wI ((y1.2.2.2.2.2.1.len:Int) - 1)).toNat).2.1,((wI (y1.1.2.2.2.2.2.2.2.2.1 + 1)),()))))))))),(y1.2.1,((y1.2.2.1.1,(y1.2.2.1.2.1,(y1.2.2.1.2.2.1,(y1.2.2.2.2.2.2.1,())))),((y1.2.2.2.1.1,(y1.2.2.2.1.2.1,(y1.2.2.2.1.2.2.1,((L.app y1.2.2.2.2.2.2.2.1 (L.of (Ty.zero Ty84) [(L.app (L.of (Ty.zero Ty64) [y1.2.2.2.2.1]) (L.cut y1.2.2.2.2.2.1 (0:Int).toNat (wI ((y1.2.2.2.2.2.1.len:Int) - 1)).toNat))])),())))),()))))) else none else none else none else none else bif (decide ((L.of (Ty.zero Ty64) [y1.2.2.2.2.1]).len + y1.2.2.2.2.2.1.len≤most)) then bif (decide (y1.2.2.2.2.2.2.2.1.len + (L.of (Ty.zero Ty84) [(L.app (L.of (Ty.zero Ty64) [y1.2.2.2.2.1]) y1.2.2.2.2.2.1)]).len≤most)) then some (.inl ((y1.1.1,((),((),(y1.1.2.2.2.1,(y1.1.2.2.2.2.1,((),(y1.1.2.2.2.2.2.2.1,(y1.1.2.2.2.2.2.2.2.1,((wI (y1.1.2.2.2.2.2.2.2.2.1 + 1)),()))))))))),(y1.2.1,((y1.2.2.1.1,(y1.2.2.1.2.1,(y1.2.2.1.2.2.1,(y1.2.2.2.2.2.2.1,())))),((y1.2.2.2.1.1,(y1.2.2.2.1.2.1,(y1.2.2.2.1.2.2.1,((L.app y1.2.2.2.2.2.2.2.1 (L.of (Ty.zero Ty84) [(L.app (L.of (Ty.zero Ty64) [y1.2.2.2.2.1]) y1.2.2.2.2.2.1)])),())))),()))))) else none else none | .inr e=>nomatch e) else none else some (.inr (.inl (((),((),(t13,(t14,())))),((vi,(vf,(vj,((),())))),((uv,(uw,(ux,((),())))),(vY,(wr,())))))))
noncomputable def s252r_L0 (x:((Bool×(Unit×(Unit×(Int×(Int×(Unit×Ta7))))))×(Ta127×Ta209))):=q252r_L0 x.1.1 x.1.2.2.2.1 x.1.2.2.2.2.1 x.1.2.2.2.2.2.2.1 x.1.2.2.2.2.2.2.2.1 x.1.2.2.2.2.2.2.2.2.1 x.2.1 x.2.2.1.1 x.2.2.1.2.1 x.2.2.1.2.2.1 x.2.2.1.2.2.2.1 x.2.2.2.1.1 x.2.2.2.1.2.1 x.2.2.2.1.2.2.1 x.2.2.2.1.2.2.2.1
noncomputable def a252r:Nat→Option LoopAnn:=fun c=>bif Nat.beq c 2 then some (.fix h252r_L2 e252r_L2 s252r_L2) else bif Nat.beq c 0 then some (.fix h252r_L0 e252r_L0 s252r_L0) else none
noncomputable def g252r (x0:Ta127) (x1:Int) (x2:Bool):Option ((Ta127×(Bool×(Bool×Unit)))×Unit) :=
bif (!decide (x0.1.2.2.1 = 0)) then bif (!decide (x0.1.1 = 0)) then bif (!decide (x0.1.1 = 0)) then ((fixO s252r_L0 ((x2,((),((),((Int.tmod (wI (Int.tdiv x1 x0.1.2.2.1)) x0.1.1),((wI (Int.tdiv (wI (Int.tdiv x1 x0.1.2.2.1)) x0.1.1)),((),(false,(false,(0,()))))))))),(x0,((0,(0,(0,((nilL Ty84),())))),((x0.1.1,(x0.1.2.1,(x0.1.2.2.1,((nilL Ty84),())))),()))))).bind fun d4=>match d4 with | .inl y3=>some ((((y3.2.2.1.1,(y3.2.2.1.2.1,(y3.2.2.1.2.2.1,()))),y3.2.2.2.2),y3.1.2.2.1,y3.1.2.2.2.1,()),()) | .inr e=>nomatch e) else none else none else none
noncomputable def c252r:Ctr:={ ins:=[.v Ty236,.v (.int .i64),.v .bool],out:=[Ty236,.bool,.bool],F:=fun x=>g252r x.1 x.2.1 x.2.2.1,fr:=1 }
noncomputable def l252r:List (Nat×Code):=loopsIn (Tryz.f252.body.getD .skip) 0
theorem w252r_L2:LW t252r a252r l252r 1 2 h252r_L2 e252r_L2 s252r_L2:=fun x=>by kernel_rfl
theorem w252r_L0:LW t252r a252r l252r 0 0 h252r_L0 e252r_L0 s252r_L0:=fun x=>by kernel_rfl
theorem o252r:Holds Tryz.prog 252 c252r:=fh t252r a252r Tryz.func252 [(0,lg l252r 0),(2,lg l252r 1)] ⟨fun x d h=>(w252r_L0 x).trans h,fun x d h=>(w252r_L2 x).trans h,trivial⟩ tn
noncomputable def t138p:Tbl:=[(251,[],c251r),(252,[],c252r),(253,[],c253)]
noncomputable def g138p (x0:Ta326) (x1:Ta344) (x2:Int) (x3:Bool):Option Ta350 :=
(g251r x1.2.2.2.2.1 x2).bind fun y1=>(g252r x1.2.2.2.1 x2 x3).bind fun y2=>some (((f253 x0.2.2.2.1 (y2.1.2.1,(y1.1.2.1,y2.1.2.2))),()),((x1.1,(x1.2.1,(x1.2.2.1,(y2.1.1,(y1.1.1,x1.2.2.2.2.2))))),()))
noncomputable def c138p:Ctr:={ ins:=[.v Ty384,.pt Ty385,.v (.int .i64),.v .bool],out:=[(.int .i64)],F:=fun x=>g138p x.1 x.2.1 x.2.2.1 x.2.2.2.1 }
theorem o138p:Holds Tryz.prog 138 c138p:=f0 t138p Tryz.func138 (tc o251r (tc o252r (tc o253 tn)))
noncomputable def t238:Tbl:=[(328,[],c328),(42,[],c42)]
noncomputable def g238 (x0:Ta18) (x1:(Int×((L Int)×Unit))):Option ((Bool×Unit)×Unit) :=
bif (!(f328 x0)) then some ((false,()),()) else bif (x0.1 == 0) then bif (x1.1 == 0) then some (((decide ((x1.2.1.len:Int)≤1)),()),()) else some ((false,()),()) else bif (f42 x1.1 0 x0.2.2.2.1) then some (((decide ((wI (x1.1 + (x1.2.1.len:Int)))≤x0.2.2.2.1)),()),()) else some ((false,()),())
noncomputable def f238 (x0:Ta18) (x1:(Int×((L Int)×Unit))):Bool :=
bif (!(f328 x0)) then false else bif (x0.1 == 0) then bif (x1.1 == 0) then (decide ((x1.2.1.len:Int)≤1)) else false else bif (f42 x1.1 0 x0.2.2.2.1) then (decide ((wI (x1.1 + (x1.2.1.len:Int)))≤x0.2.2.2.1)) else false
theorem n238 (x0:Ta18) (x1:(Int×((L Int)×Unit))):g238 x0 x1 = some ((f238 x0 x1,()),()):=by simp only [g238,f238,pull1]
noncomputable def c238:Ctr:={ ins:=[.v Ty178,.v Ty103],out:=[.bool],F:=fun x=>some ((f238 x.1 x.2.1,()),()) }
theorem o238:Holds Tryz.prog 238 c238:=f0T t238 (fun x=>g238 x.1 x.2.1) Tryz.func238 (tc o328 (tc o42 tn)) (fun x=>n238 x.1 x.2.1)
noncomputable def t336:Tbl:=[(238,[],c238)]
noncomputable def g336 (x0:Ta18) (x1:(Int×((L Int)×Unit))):Option ((Int×Unit)×Unit) :=
bif (!(f238 x0 x1)) then some ((0,()),()) else bif (x0.1 == 0) then some ((1,()),()) else some (((wI ((wI (x0.2.2.2.1 - x1.1)) - (x1.2.1.len:Int))),()),())
noncomputable def f336 (x0:Ta18) (x1:(Int×((L Int)×Unit))):Int :=
bif (!(f238 x0 x1)) then 0 else bif (x0.1 == 0) then 1 else (wI ((wI (x0.2.2.2.1 - x1.1)) - (x1.2.1.len:Int)))
theorem n336 (x0:Ta18) (x1:(Int×((L Int)×Unit))):g336 x0 x1 = some ((f336 x0 x1,()),()):=by simp only [g336,f336,pull1]
noncomputable def c336:Ctr:={ ins:=[.v Ty178,.v Ty103],out:=[(.int .i64)],F:=fun x=>some ((f336 x.1 x.2.1,()),()) }
theorem o336:Holds Tryz.prog 336 c336:=f0T t336 (fun x=>g336 x.1 x.2.1) Tryz.func336 (tc o238 tn) (fun x=>n336 x.1 x.2.1)
noncomputable def t255r:Tbl:=[(238,[],c238),(336,[],c336),(131,[],c131r)]
noncomputable def g255r (x0:Ta18) (x1:(Int×((L Int)×Unit))) (x2:Int):Option (((Int×((L Int)×Unit))×(Int×Unit))×Unit) :=
bif (!(f238 x0 x1)) then some (((0,((nilL (.int .u32)),())),3,()),()) else bif (x0.1 == 0) then some (((0,((L.of (Ty.zero (.int .u32)) [x2]),())),0,()),()) else bif ((f336 x0 x1) == 0) then (g131r x1.2.1).bind fun y1=>some (((x1.1,y1.1),2,()),()) else (g131r x1.2.1).bind fun y2=>bif (decide (y2.1.1.len + (L.of (Ty.zero (.int .u32)) [x2]).len≤most)) then some (((x1.1,((L.app y2.1.1 (L.of (Ty.zero (.int .u32)) [x2])),())),0,()),()) else none
noncomputable def c255r:Ctr:={ ins:=[.v Ty178,.v Ty103,.v (.int .u32)],out:=[Ty103,(.int .i64)],F:=fun x=>g255r x.1 x.2.1 x.2.2.1,fr:=1 }
theorem o255r:Holds Tryz.prog 255 c255r:=f0 t255r Tryz.func255 (tc o238 (tc o336 (tc o131r tn)))
noncomputable def t239:Tbl:=[(328,[],c328)]
noncomputable def g239 (x0:Ta18) (x1:((L Int)×Unit)):Option ((Bool×Unit)×Unit) :=
bif (!(f328 x0)) then some ((false,()),()) else bif (x0.1 == 0) then some (((decide ((x1.1.len:Int)≤1)),()),()) else some (((decide ((x1.1.len:Int)≤x0.2.2.2.1)),()),())
noncomputable def f239 (x0:Ta18) (x1:((L Int)×Unit)):Bool :=
bif (!(f328 x0)) then false else bif (x0.1 == 0) then (decide ((x1.1.len:Int)≤1)) else (decide ((x1.1.len:Int)≤x0.2.2.2.1))
theorem n239 (x0:Ta18) (x1:((L Int)×Unit)):g239 x0 x1 = some ((f239 x0 x1,()),()):=by simp only [g239,f239,pull1]
noncomputable def c239:Ctr:={ ins:=[.v Ty178,.v Ty35],out:=[.bool],F:=fun x=>some ((f239 x.1 x.2.1,()),()) }
theorem o239:Holds Tryz.prog 239 c239:=f0T t239 (fun x=>g239 x.1 x.2.1) Tryz.func239 (tc o328 tn) (fun x=>n239 x.1 x.2.1)
noncomputable def t256r:Tbl:=[(239,[],c239),(131,[],c131r)]
noncomputable def g256r (x0:Ta18) (x1:((L Int)×Unit)):Option ((((L Int)×Unit)×(Int×(Int×Unit)))×Unit) :=
bif (!(f239 x0 x1)) then some ((((nilL (.int .u32)),()),0,3,()),()) else bif ((x1.1.len:Int) == 0) then some ((((nilL (.int .u32)),()),0,1,()),()) else bif (x0.1 == 0) then (g131r x1.1).bind fun y1=>bif (decide (0 < (x1.1.len:Int))) then some ((y1.1,(L.get x1.1 (0:Int).toNat),0,()),()) else none else bif (decide (0≤1)&&(decide (1≤(x1.1.len:Int))&&decide ((x1.1.len:Int)≤(x1.1.len:Int)))) then (g131r (L.cut x1.1 (1:Int).toNat (x1.1.len:Int).toNat)).bind fun y2=>bif (decide (0 < (x1.1.len:Int))) then some ((y2.1,(L.get x1.1 (0:Int).toNat),0,()),()) else none else none
noncomputable def c256r:Ctr:={ ins:=[.v Ty178,.v Ty35],out:=[Ty35,(.int .u32),(.int .i64)],F:=fun x=>g256r x.1 x.2.1,fr:=1 }
theorem o256r:Holds Tryz.prog 256 c256r:=f0 t256r Tryz.func256 (tc o239 (tc o131r tn))
noncomputable def t257r:Tbl:=[(240,[],c240),(132,[],c132r),(131,[],c131r)]
noncomputable def g257r (x0:Ta6):Option ((Ta6×(Int×(Int×Unit)))×Unit) :=
bif (!(f240 x0)) then some ((((nilL (.int .u32)),((nilL (.int .u32)),())),0,3,()),()) else (g132r x0).bind fun y1=>bif ((x0.2.1.len:Int) == 0) then some ((y1.1.1,0,1,()),()) else bif (decide (0≤1)&&(decide (1≤(x0.2.1.len:Int))&&decide ((x0.2.1.len:Int)≤(x0.2.1.len:Int)))) then (g131r (L.cut x0.2.1 (1:Int).toNat (x0.2.1.len:Int).toNat)).bind fun y2=>bif (decide (0 < (x0.2.1.len:Int))) then some (((y1.1.1.1,y2.1),(L.get x0.2.1 (0:Int).toNat),0,()),()) else none else none
noncomputable def c257r:Ctr:={ ins:=[.v Ty124],out:=[Ty124,(.int .u32),(.int .i64)],F:=fun x=>g257r x.1,fr:=1 }
theorem o257r:Holds Tryz.prog 257 c257r:=f0 t257r Tryz.func257 (tc o240 (tc o132r (tc o131r tn)))
noncomputable def t258:Tbl:=[(331,[],c331),(241,[],c241)]
noncomputable def g258 (x0:Ta118) (x1 x2:Int):Option Ta2 :=
bif (x1 == 0) then some (((f331 x0.1),true,()),()) else bif (x1 == 1) then some ((x0.2.1,true,()),()) else bif (x1 == 2) then some ((x0.2.2.1,true,()),()) else bif (x1 == 3) then some ((x0.2.2.2.1,true,()),()) else bif (x1 == 4) then some ((x0.2.2.2.2.1,true,()),()) else bif (x1 == 5) then some (((f331 x0.2.2.2.2.2.1),true,()),()) else bif (x1 == 6) then some ((x0.2.2.2.2.2.2.2.1,true,()),()) else bif (x1 == 7) then (g241 x2 4294967296).bind fun y1=>some (((IntKind.wrap .u32 (y1.1.1)),true,()),()) else some ((0,false,()),())
noncomputable def c258:Ctr:={ ins:=[.v Ty242,.v (.int .i64),.v (.int .i64)],out:=[(.int .u32),.bool],F:=fun x=>g258 x.1 x.2.1 x.2.2.1 }
theorem o258:Holds Tryz.prog 258 c258:=f0 t258 Tryz.func258 (tc o331 (tc o241 tn))
noncomputable def t259:Tbl:=[]
noncomputable def g259 (x0:Ta118) (x1 x2:Int):Option ((Ta118×(Bool×Unit))×Unit) :=
bif (x1 == 0) then some (((((Int.tmod x2 2) == 1),x0.2),true,()),()) else bif (x1 == 1) then some (((x0.1,(x2,x0.2.2)),true,()),()) else bif (x1 == 2) then some (((x0.1,(x0.2.1,(x2,x0.2.2.2))),true,()),()) else bif (x1 == 4) then some (((x0.1,(x0.2.1,(x0.2.2.1,(x0.2.2.2.1,(x2,x0.2.2.2.2.2))))),true,()),()) else bif (x1 == 5) then some (((x0.1,(x0.2.1,(x0.2.2.1,(x0.2.2.2.1,(x0.2.2.2.2.1,(((Int.tmod x2 2) == 1),x0.2.2.2.2.2.2)))))),true,()),()) else some ((x0,false,()),())
noncomputable def c259:Ctr:={ ins:=[.v Ty242,.v (.int .i64),.v (.int .u32)],out:=[Ty242,.bool],F:=fun x=>g259 x.1 x.2.1 x.2.2.1 }
theorem o259:Holds Tryz.prog 259 c259:=f0 t259 Tryz.func259 tn
noncomputable def t260:Tbl:=[]
noncomputable def g260 (x0:Ta118):Option ((Ta118×(Int×(Bool×Unit)))×Unit) :=
bif (!x0.2.2.2.2.2.2.1) then some ((x0,0,false,()),()) else some (((x0.1,(x0.2.1,(x0.2.2.1,(x0.2.2.2.1,(x0.2.2.2.2.1,(x0.2.2.2.2.2.1,(false,x0.2.2.2.2.2.2.2))))))),x0.2.2.1,true,()),())
noncomputable def c260:Ctr:={ ins:=[.v Ty242],out:=[Ty242,(.int .u32),.bool],F:=fun x=>g260 x.1 }
theorem o260:Holds Tryz.prog 260 c260:=f0 t260 Tryz.func260 tn
noncomputable def t140p:Tbl:=[(42,[],c42),(255,[],c255r),(246,[],c246w),(256,[],c256r),(257,[],c257r),(258,[],c258),(259,[],c259),(260,[],c260)]
noncomputable def k140p_1 (x2:Ta344) (z0_1:Ta47) (z0_2 z0_3:Int) (z0_4:Ta5) (z0_5:Ta122):Option Ta350 :=
(g246w z0_1 z0_2 z0_3).bind fun y901=>some ((0,()),(((y901.2.1.1,((IntKind.wrap .u32 (x2.1.2.1 + 4)),y901.2.1.2.2)),(x2.2.1,(x2.2.2.1,(x2.2.2.2.1,(x2.2.2.2.2.1,(x2.2.2.2.2.2.1,(x2.2.2.2.2.2.2.1,(x2.2.2.2.2.2.2.2.1,(z0_4,z0_5))))))))),()))
noncomputable def g140p (x0:Ta326) (x1:Int) (x2:Ta344) (x3:Ta46) (x4:Int):Option Ta350 :=
bif (x3.1 == 25) then bif (f42 x3.2.2.2.2.1 0 (wI ((x0.2.2.2.2.2.2.2.2.2.1.len:Int) - 1))) then bif (decide (0≤x3.2.2.2.2.1)&&decide (x3.2.2.2.2.1 < (x0.2.2.2.2.2.2.2.2.2.1.len:Int))) then bif ((L.get x0.2.2.2.2.2.2.2.2.2.1 x3.2.2.2.2.1.toNat).2.1 == x1) then bif (decide (0≤x3.2.2.2.2.1)&&decide (x3.2.2.2.2.1 < (x0.2.2.2.2.2.2.2.2.2.1.len:Int))) then bif (decide (0≤x3.2.2.2.2.1)&&decide (x3.2.2.2.2.1 < (x2.2.2.2.2.2.2.2.2.1.len:Int))) then bif (decide (0≤x3.2.2.1)&&decide (x3.2.2.1 < (x2.1.1.len:Int))) then (g255r (L.get x0.2.2.2.2.2.2.2.2.2.1 x3.2.2.2.2.1.toNat) ((L.get x2.2.2.2.2.2.2.2.2.1 x3.2.2.2.2.1.toNat).1,((L.get x2.2.2.2.2.2.2.2.2.1 x3.2.2.2.2.1.toNat).2.1,())) (L.get x2.1.1 x3.2.2.1.toNat)).bind fun y1=>bif (decide (0≤x3.2.2.2.2.1)&&decide (x3.2.2.2.2.1 < (x2.2.2.2.2.2.2.2.2.1.len:Int))) then k140p_1 x2 x2.1 x3.2.1 (IntKind.wrap .u32 (y1.1.2.1)) (L.set x2.2.2.2.2.2.2.2.2.1 x3.2.2.2.2.1.toNat y1.1.1) x2.2.2.2.2.2.2.2.2.2 else none else none else none else none else (g246w x2.1 x3.2.1 3).bind fun y3=>some ((0,()),(((y3.2.1.1,((IntKind.wrap .u32 (x2.1.2.1 + 4)),y3.2.1.2.2)),x2.2),())) else none else (g246w x2.1 x3.2.1 3).bind fun y4=>some ((0,()),(((y4.2.1.1,((IntKind.wrap .u32 (x2.1.2.1 + 4)),y4.2.1.2.2)),x2.2),())) else bif (x3.1 == 26) then bif (f42 x3.2.2.2.2.1 0 (wI ((x0.2.2.2.2.2.2.2.2.2.1.len:Int) - 1))) then bif (decide (0≤x3.2.2.2.2.1)&&decide (x3.2.2.2.2.1 < (x0.2.2.2.2.2.2.2.2.2.1.len:Int))) then bif ((L.get x0.2.2.2.2.2.2.2.2.2.1 x3.2.2.2.2.1.toNat).2.2.1 == x1) then bif (decide (0≤x3.2.2.2.2.1)&&decide (x3.2.2.2.2.1 < (x0.2.2.2.2.2.2.2.2.2.1.len:Int))) then bif (decide (0≤x3.2.2.2.2.1)&&decide (x3.2.2.2.2.1 < (x2.2.2.2.2.2.2.2.2.2.1.len:Int))) then (g256r (L.get x0.2.2.2.2.2.2.2.2.2.1 x3.2.2.2.2.1.toNat) ((L.get x2.2.2.2.2.2.2.2.2.2.1 x3.2.2.2.2.1.toNat).1,())).bind fun y5=>bif (decide (0≤x3.2.2.2.2.1)&&decide (x3.2.2.2.2.1 < (x2.2.2.2.2.2.2.2.2.2.1.len:Int))) then (g246w x2.1 x3.2.1 (IntKind.wrap .u32 (y5.1.2.2.1))).bind fun y6=>k140p_1 x2 (y6.2.1.1,(x2.1.2.1,y6.2.1.2.2)) x3.2.2.1 y5.1.2.1 x2.2.2.2.2.2.2.2.2.1 ((L.set x2.2.2.2.2.2.2.2.2.2.1 x3.2.2.2.2.1.toNat y5.1.1),x2.2.2.2.2.2.2.2.2.2.2) else none else none else none else (g246w x2.1 x3.2.1 3).bind fun y8=>(g246w (y8.2.1.1,(x2.1.2.1,y8.2.1.2.2)) x3.2.2.1 0).bind fun y9=>some ((0,()),(((y9.2.1.1,((IntKind.wrap .u32 (x2.1.2.1 + 4)),y9.2.1.2.2)),x2.2),())) else none else (g246w x2.1 x3.2.1 3).bind fun y10=>(g246w (y10.2.1.1,(x2.1.2.1,y10.2.1.2.2)) x3.2.2.1 0).bind fun y11=>some ((0,()),(((y11.2.1.1,((IntKind.wrap .u32 (x2.1.2.1 + 4)),y11.2.1.2.2)),x2.2),())) else bif (x3.1 == 27) then bif (f42 x3.2.2.2.2.1 0 (wI ((x0.2.2.2.2.2.2.2.2.1.len:Int) - 1))) then bif (decide (0≤x3.2.2.2.2.1)&&decide (x3.2.2.2.2.1 < (x0.2.2.2.2.2.2.2.2.1.len:Int))) then bif ((L.get x0.2.2.2.2.2.2.2.2.1 x3.2.2.2.2.1.toNat) == x1) then bif (decide (0≤x3.2.2.2.2.1)&&decide (x3.2.2.2.2.1 < (x2.2.2.2.2.2.2.2.2.2.2.1.len:Int))) then (g257r ((L.get x2.2.2.2.2.2.2.2.2.2.2.1 x3.2.2.2.2.1.toNat).1,((L.get x2.2.2.2.2.2.2.2.2.2.2.1 x3.2.2.2.2.1.toNat).2.1,()))).bind fun y12=>bif (decide (0≤x3.2.2.2.2.1)&&decide (x3.2.2.2.2.1 < (x2.2.2.2.2.2.2.2.2.2.2.1.len:Int))) then (g246w x2.1 x3.2.1 (IntKind.wrap .u32 (y12.1.2.2.1))).bind fun y13=>k140p_1 x2 (y13.2.1.1,(x2.1.2.1,y13.2.1.2.2)) x3.2.2.1 y12.1.2.1 x2.2.2.2.2.2.2.2.2.1 (x2.2.2.2.2.2.2.2.2.2.1,((L.set x2.2.2.2.2.2.2.2.2.2.2.1 x3.2.2.2.2.1.toNat y12.1.1),())) else none else none else (g246w x2.1 x3.2.1 3).bind fun y15=>(g246w (y15.2.1.1,(x2.1.2.1,y15.2.1.2.2)) x3.2.2.1 0).bind fun y16=>some ((0,()),(((y16.2.1.1,((IntKind.wrap .u32 (x2.1.2.1 + 4)),y16.2.1.2.2)),x2.2),())) else none else (g246w x2.1 x3.2.1 3).bind fun y17=>(g246w (y17.2.1.1,(x2.1.2.1,y17.2.1.2.2)) x3.2.2.1 0).bind fun y18=>some ((0,()),(((y18.2.1.1,((IntKind.wrap .u32 (x2.1.2.1 + 4)),y18.2.1.2.2)),x2.2),())) else bif (x3.1 == 28) then (g258 x2.2.1 x3.2.2.2.2.1 x4).bind fun y19=>bif (!y19.1.2.1) then some ((7,()),(x2,())) else (g246w x2.1 x3.2.1 y19.1.1).bind fun y20=>some ((0,()),(((y20.2.1.1,((IntKind.wrap .u32 (x2.1.2.1 + 4)),y20.2.1.2.2)),x2.2),())) else bif (x3.1 == 29) then bif (decide (0≤x3.2.1)&&decide (x3.2.1 < (x2.1.1.len:Int))) then (g259 x2.2.1 x3.2.2.2.2.1 (L.get x2.1.1 x3.2.1.toNat)).bind fun y21=>bif (!y21.1.2.1) then some ((7,()),(x2,())) else some ((0,()),(((x2.1.1,((IntKind.wrap .u32 (x2.1.2.1 + 4)),x2.1.2.2)),(y21.1.1,x2.2.2)),())) else none else bif (x3.1 == 30) then (g260 x2.2.1).bind fun y22=>bif (!y22.1.2.2.1) then some ((8,()),(x2,())) else some ((0,()),(((x2.1.1,(y22.1.2.1,x2.1.2.2)),(y22.1.1,x2.2.2)),())) else bif (x3.1 == 31) then some ((0,()),(((x2.1.1,((IntKind.wrap .u32 (x2.1.2.1 + 4)),x2.1.2.2)),(x2.2.1,(x2.2.2.1,(x2.2.2.2.1,(x2.2.2.2.2.1,(x2.2.2.2.2.2.1,(true,x2.2.2.2.2.2.2.2))))))),())) else some ((6,()),(x2,()))
noncomputable def c140p:Ctr:={ ins:=[.v Ty384,.v (.int .i64),.pt Ty385,.v Ty202,.v (.int .i64)],out:=[(.int .i64)],F:=fun x=>g140p x.1 x.2.1 x.2.2.1 x.2.2.2.1 x.2.2.2.2.1 }
theorem o140p:Holds Tryz.prog 140 c140p:=f0 t140p Tryz.func140 (tc o42 (tc o255r (tc o246w (tc o256r (tc o257r (tc o258 (tc o259 (tc o260 tn))))))))
noncomputable def t261:Tbl:=[(42,[],c42)]
noncomputable def g261 (x0:(Int×(Int×Unit))):Option ((Bool×Unit)×Unit) :=
bif (x0.1 == 1) then some (((f42 x0.2.1 0 100),()),()) else bif (x0.1 == 0) then some (((x0.2.1 == 0),()),()) else bif (x0.1 == 2) then some (((x0.2.1 == 0),()),()) else some ((false,()),())
noncomputable def f261 (x0:(Int×(Int×Unit))):Bool :=
bif (x0.1 == 1) then (f42 x0.2.1 0 100) else bif (x0.1 == 0) then (x0.2.1 == 0) else bif (x0.1 == 2) then (x0.2.1 == 0) else false
theorem n261 (x0:(Int×(Int×Unit))):g261 x0 = some ((f261 x0,()),()):=by simp only [g261,f261,pull1]
noncomputable def c261:Ctr:={ ins:=[.v Ty83],out:=[.bool],F:=fun x=>some ((f261 x.1,()),()) }
theorem o261:Holds Tryz.prog 261 c261:=f0T t261 (fun x=>g261 x.1) Tryz.func261 (tc o42 tn) (fun x=>n261 x.1)
noncomputable def t125:Tbl:=[(42,[],c42)]
noncomputable def g125 (x0:Ta24):Option ((Bool×Unit)×Unit) :=
bif (f42 x0.1 0 1000000000) then bif (f42 x0.2.1 0 1000000000) then some (((f42 x0.2.2.1 0 9),()),()) else some ((false,()),()) else some ((false,()),())
noncomputable def f125 (x0:Ta24):Bool :=
bif (f42 x0.1 0 1000000000) then bif (f42 x0.2.1 0 1000000000) then (f42 x0.2.2.1 0 9) else false else false
theorem n125 (x0:Ta24):g125 x0 = some ((f125 x0,()),()):=by simp only [g125,f125,pull1]
noncomputable def c125:Ctr:={ ins:=[.v Ty168],out:=[.bool],F:=fun x=>some ((f125 x.1,()),()) }
theorem o125:Holds Tryz.prog 125 c125:=f0T t125 (fun x=>g125 x.1) Tryz.func125 (tc o42 tn) (fun x=>n125 x.1)
noncomputable def t141:Tbl:=[(261,[],c261),(125,[],c125),(42,[],c42)]
noncomputable def k141_1 (x0:(Int×(Int×Unit))) (x1:Ta24) (x2 z0_3:Int):Option Ta98 :=
bif (x0.1 == 2) then some (((z0_3,(x1.2.1,(x2,x1.2.2.2))),3,()),()) else bif (x0.1 == 1) then bif (decide (x1.2.1 < x0.2.1)) then some (((z0_3,((wI (x1.2.1 + 1)),(x2,x1.2.2.2))),2,()),()) else some (((z0_3,(x1.2.1,(x2,(true,())))),1,()),()) else some (((z0_3,(x1.2.1,(x2,(true,())))),1,()),())
noncomputable def g141 (x0:(Int×(Int×Unit))) (x1:Ta24) (x2:Int):Option Ta98 :=
bif (!(f261 x0)) then some ((x1,0,()),()) else bif (!(f125 x1)) then some ((x1,0,()),()) else bif (!(f42 x2 1 9)) then some ((x1,0,()),()) else bif x1.2.2.2.1 then some ((x1,0,()),()) else bif (decide (x1.1 < 1000000000)) then k141_1 x0 x1 x2 (wI (x1.1 + 1)) else k141_1 x0 x1 x2 x1.1
noncomputable def c141:Ctr:={ ins:=[.v Ty83,.v Ty168,.v (.int .i64)],out:=[Ty168,(.int .i64)],F:=fun x=>g141 x.1 x.2.1 x.2.2.1 }
theorem o141:Holds Tryz.prog 141 c141:=f0 t141 Tryz.func141 (tc o261 (tc o125 (tc o42 tn)))
noncomputable def t142p:Tbl:=[(226,[],c226r)]
abbrev h142p_L0:Shape:={ slots:=[(2,.bx 100000128 0),(6,.v (.int .i64))],boxes:=[(100000128,B11),(1000896,.row (.int .u32)),(1000897,.row (.sl (.int .u8))),(100000131,.row Ty84),(100000132,.row (.int .i64)),(100000133,.row (.sl (.int .u8))),(100000134,.row Ty103),(100000135,.row Ty35),(100000136,.row Ty124)] }
abbrev e142p_L0:List (XT×Shape):=[(.exit 0,{ slots:=[],boxes:=[(100000128,B11),(1000896,.row (.int .u32)),(1000897,.row (.sl (.int .u8))),(100000131,.row Ty84),(100000132,.row (.int .i64)),(100000133,.row (.sl (.int .u8))),(100000134,.row Ty103),(100000135,.row Ty35),(100000136,.row Ty124)] })]
noncomputable def q142p_L0 (t6 v9:Int) (ua:Bool) (ub uc ud ue:Int) (uf ug:Bool) (uh ui uj uk:Int) (vZ:Bool) (ul um un uo up:Int) (uq:Bool) (ur:(L Int)) (w8:(L (L Int))) (w9:Ta12) (kc:(L Int)) (ut:(L (L Int))) (vR:Ta5) (uu:(L ((L Int)×Unit))) (vN:Ta21):Option (((Unit×(Int×Unit))×Ta351)⊕(Ta353⊕Empty)) :=
bif (decide (t6 < (vR.len:Int))) then bif (decide (0≤t6)&&decide (t6 < (vR.len:Int))) then some (.inl (((),((wI (t6 + 1)),())),(((),(v9,((),(ua,(ub,(uc,(ud,(ue,(uf,(ug,(uh,(ui,(uj,(uk,(vZ,(ul,(um,(un,((),(uo,((),(up,(uq,((),((),((),((),()))))))))))))))))))))))))))),(ur,(w8,(w9,(kc,(ut,((L.upd vR t6.toNat fun e=>(e.1,((L.of (Ty.zero (.int .u32)) []),e.2.2))),(uu,(vN,()))))))))))) else none else some (.inr (.inl ((),(((),(v9,((),(ua,(ub,(uc,(ud,(ue,(uf,(ug,(uh,(ui,(uj,(uk,(vZ,(ul,(um,(un,((),(uo,((),(up,(uq,((),((),((),((),()))))))))))))))))))))))))))),(ur,(w8,(w9,(kc,(ut,(vR,(uu,(vN,()))))))))))))
noncomputable def s142p_L0 (x:((Unit×(Int×Unit))×Ta351)):=q142p_L0 x.1.2.1 x.2.1.2.1 x.2.1.2.2.2.1 x.2.1.2.2.2.2.1 x.2.1.2.2.2.2.2.1 x.2.1.2.2.2.2.2.2.1 x.2.1.2.2.2.2.2.2.2.1 x.2.1.2.2.2.2.2.2.2.2.1 x.2.1.2.2.2.2.2.2.2.2.2.1 x.2.1.2.2.2.2.2.2.2.2.2.2.1 x.2.1.2.2.2.2.2.2.2.2.2.2.2.1 x.2.1.2.2.2.2.2.2.2.2.2.2.2.2.1 x.2.1.2.2.2.2.2.2.2.2.2.2.2.2.2.1 x.2.1.2.2.2.2.2.2.2.2.2.2.2.2.2.2.1 x.2.1.2.2.2.2.2.2.2.2.2.2.2.2.2.2.2.1 x.2.1.2.2.2.2.2.2.2.2.2.2.2.2.2.2.2.2.1 x.2.1.2.2.2.2.2.2.2.2.2.2.2.2.2.2.2.2.2.1 x.2.1.2.2.2.2.2.2.2.2.2.2.2.2.2.2.2.2.2.2.2.1 x.2.1.2.2.2.2.2.2.2.2.2.2.2.2.2.2.2.2.2.2.2.2.2.1 x.2.1.2.2.2.2.2.2.2.2.2.2.2.2.2.2.2.2.2.2.2.2.2.2.1 x.2.2.1 x.2.2.2.1 x.2.2.2.2.1 x.2.2.2.2.2.1 x.2.2.2.2.2.2.1 x.2.2.2.2.2.2.2.1 x.2.2.2.2.2.2.2.2.1 x.2.2.2.2.2.2.2.2.2.1
noncomputable def a142p:Nat→Option LoopAnn:=fun c=>bif Nat.beq c 0 then some (.fix h142p_L0 e142p_L0 s142p_L0) else none
noncomputable def g142p (x0:Ta326) (x1:Int) (x2:Ta344):Option Ta348 :=
(g226r x0 x1 x2.2.2.2.2.2.2.2.1).bind fun y1=>(fixO s142p_L0 (((),(0,())),(((),(y1.1.1.2.1,((),(false,(0,(0,(0,(0,(false,(false,(0,(x2.2.2.1.1,(x2.2.2.1.2.1,(x2.2.2.1.2.2.1,(x2.2.2.1.2.2.2.1,(x2.2.2.2.1.1.1,(x2.2.2.2.1.1.2.1,(x2.2.2.2.1.1.2.2.1,((),(x2.2.2.2.2.1.1,((),(x2.2.2.2.2.2.1,(x2.2.2.2.2.2.2.1,((),((),((),((),()))))))))))))))))))))))))))),(y1.1.1.1,(y1.1.1.2.2.1,(x2.2.2.2.1.2.1,(x2.2.2.2.2.1.2.1,x2.2.2.2.2.2.2.2))))))).bind fun d3=>match d3 with | .inl y2=>some ((),(((y2.2.2.1,(y2.2.1.2.1,(y2.2.2.2.1,()))),((y2.2.1.2.2.2.1,(y2.2.1.2.2.2.2.1,(y2.2.1.2.2.2.2.2.1,(y2.2.1.2.2.2.2.2.2.1,(y2.2.1.2.2.2.2.2.2.2.1,(y2.2.1.2.2.2.2.2.2.2.2.1,(y2.2.1.2.2.2.2.2.2.2.2.2.1,(y2.2.1.2.2.2.2.2.2.2.2.2.2.1,())))))))),((y2.2.1.2.2.2.2.2.2.2.2.2.2.2.1,(y2.2.1.2.2.2.2.2.2.2.2.2.2.2.2.1,(y2.2.1.2.2.2.2.2.2.2.2.2.2.2.2.2.1,(y2.2.1.2.2.2.2.2.2.2.2.2.2.2.2.2.2.1,())))),(((y2.2.1.2.2.2.2.2.2.2.2.2.2.2.2.2.2.2.1,(y2.2.1.2.2.2.2.2.2.2.2.2.2.2.2.2.2.2.2.1,(y2.2.1.2.2.2.2.2.2.2.2.2.2.2.2.2.2.2.2.2.1,()))),(y2.2.2.2.2.1,())),((y2.2.1.2.2.2.2.2.2.2.2.2.2.2.2.2.2.2.2.2.2.2.1,(y2.2.2.2.2.2.1,())),(y2.2.1.2.2.2.2.2.2.2.2.2.2.2.2.2.2.2.2.2.2.2.2.2.1,(y2.2.1.2.2.2.2.2.2.2.2.2.2.2.2.2.2.2.2.2.2.2.2.2.2.1,y2.2.2.2.2.2.2))))))),())) | .inr e=>nomatch e
noncomputable def c142p:Ctr:={ ins:=[.v Ty384,.v (.int .i64),.pt Ty385],out:=[],F:=fun x=>g142p x.1 x.2.1 x.2.2.1 }
noncomputable def l142p:List (Nat×Code):=loopsIn (Tryz.f142.body.getD .skip) 0
theorem w142p_L0:LW t142p a142p l142p 0 0 h142p_L0 e142p_L0 s142p_L0:=fun x=>by kernel_rfl
theorem o142p:Holds Tryz.prog 142 c142p:=fh t142p a142p Tryz.func142 [(0,lg l142p 0)] ⟨fun x d h=>(w142p_L0 x).trans h,trivial⟩ (tc o226r tn)
noncomputable def t44p:Tbl:=[(133,[],c133),(134,[],c134),(143,[],c143),(135,[],c135),(136,[],c136rm),(137,[],c137),(138,[],c138p),(139,[],c139),(140,[],c140p),(141,[],c141),(142,[],c142p)]
noncomputable def k44p_3 (x3:Int) (x0:Ta326) (x2:Ta344) (z2_3:Ta47) (z2_4 z2_5 z2_6 z2_7:Int) (z2_8:Ta47) (z2_9:Ta118) (z2_10:Ta24) (z2_11:Ta344):Option Ta359 :=
(g143 z2_3.1).bind fun y914=>some (((x3,((wI (z2_4 + x0.2.2.2.1.2.2.2.2.2.1)),(x2.1.2.1,(z2_5,(z2_6,(z2_7,y914.1)))))),()),((z2_8,(z2_9,(z2_10,(z2_11.2.2.2.1,(z2_11.2.2.2.2.1,((wI (x3 + (wI (z2_4 + x0.2.2.2.1.2.2.2.2.2.1)))),z2_11.2.2.2.2.2.2)))))),()))
noncomputable def k44p_1 (x1:Int) (x0:Ta326) (x3:Int) (x2:Ta344) (y5:Ta183) (z0_5:Int) (z0_6:Ta344) (z0_7:Ta47) (z0_8:Int):Option Ta359 :=
bif (z0_5 != 0) then bif (decide (0≤x1)&&decide (x1 < (x0.2.2.2.2.2.2.2.1.len:Int))) then (g141 (L.get x0.2.2.2.2.2.2.2.1 x1.toNat).2.2.1 z0_6.2.2.1 z0_5).bind fun y901=>bif (y901.1.2.1 == 3) then bif (y901.1.2.1 == 2) then (g142p x0 x1 ((z0_7.1,((IntKind.wrap .u32 (z0_7.2.1 + 4)),z0_7.2.2)),(z0_6.2.1,(y901.1.1,z0_6.2.2.2)))).bind fun y902=>k44p_3 x3 x0 x2 y902.2.1.1 z0_8 y5.1.1.2.2.1 z0_5 0 y902.2.1.1 y902.2.1.2.1 y902.2.1.2.2.1 y902.2.1 else k44p_3 x3 x0 x2 z0_7 z0_8 y5.1.1.2.2.1 z0_5 0 (z0_7.1,((IntKind.wrap .u32 (z0_7.2.1 + 4)),z0_7.2.2)) z0_6.2.1 y901.1.1 z0_6 else bif (y901.1.2.1 == 2) then (g142p x0 x1 (z0_7,(z0_6.2.1,(y901.1.1,z0_6.2.2.2)))).bind fun y905=>k44p_3 x3 x0 x2 y905.2.1.1 z0_8 y5.1.1.2.2.1 z0_5 0 y905.2.1.1 y905.2.1.2.1 y905.2.1.2.2.1 y905.2.1 else k44p_3 x3 x0 x2 z0_7 z0_8 y5.1.1.2.2.1 z0_5 0 z0_7 z0_6.2.1 y901.1.1 z0_6 else none else (g143 z0_7.1).bind fun y908=>some (((x3,(z0_8,(x2.1.2.1,(y5.1.1.2.2.1,(z0_5,(0,y908.1)))))),()),((z0_7,(z0_6.2.1,(z0_6.2.2.1,(z0_6.2.2.2.1,(z0_6.2.2.2.2.1,((wI (x3 + z0_8)),z0_6.2.2.2.2.2.2)))))),()))
noncomputable def k44p_2 (y5:Ta183) (x0:Ta326) (y4:((Int×(Int×Unit))×Unit)) (x1 x3:Int) (x2 z1_6:Ta344) (z1_7:Int) (z1_8:Ta344) (z1_9:Ta47):Option Ta359 :=
bif (decide (y5.1.1.2.2.2.1 ≥ 0)) then (g138p x0 z1_6 y5.1.1.2.2.2.1 y5.1.1.2.2.2.2.1).bind fun y909=>bif y5.1.1.2.2.2.2.2.1 then (g139 y4.1.1).bind fun y910=>(g140p x0 x1 y909.2.1 y910.1.1 x3).bind fun y911=>k44p_1 x1 x0 x3 x2 y5 y911.1.1 y911.2.1 y911.2.1.1 (wI (z1_7 + y909.1.1)) else k44p_1 x1 x0 x3 x2 y5 y5.1.1.2.1 y909.2.1 y909.2.1.1 (wI (z1_7 + y909.1.1)) else bif y5.1.1.2.2.2.2.2.1 then (g139 y4.1.1).bind fun y912=>(g140p x0 x1 z1_6 y912.1.1 x3).bind fun y913=>k44p_1 x1 x0 x3 x2 y5 y913.1.1 y913.2.1 y913.2.1.1 z1_7 else k44p_1 x1 x0 x3 x2 y5 y5.1.1.2.1 z1_8 z1_9 z1_7
noncomputable def g44p (x0:Ta326) (x1:Int) (x2:Ta344) (x3:Int):Option Ta359 :=
(g133 x2.2.1 x3).bind fun y1=>bif (y1.1.1 != 0) then (g134 x2.2.1 y1.1.1 x2.1.2.1).bind fun y2=>k44p_3 x3 x0 x2 x2.1 x0.2.2.2.1.1 (-1:Int) 0 y1.1.1 (x2.1.1,(y2.1.2.1,x2.1.2.2)) y2.1.1 x2.2.2.1 x2 else bif (decide (0≤x1)&&decide (x1 < (x0.2.2.2.2.2.2.2.1.len:Int))) then (g135 (L.get x0.2.2.2.2.2.2.2.1 x1.toNat).2.2.2.1 x2.1).bind fun y4=>(g136rm (L.get x0.2.2.2.2.2.2.2.1 x1.toNat).2.2.2.1 x2.1 x3).bind fun y5=>bif (decide (y5.1.1.2.2.1 ≥ 0)) then (g137 x0.2.2.2.1 y5.1.1.2.2.1).bind fun y6=>bif (y4.1.2.1 == 0) then (g138p x0 (y5.1.1.1,x2.2) (wI (x2.1.2.1)) false).bind fun y7=>k44p_2 y5 x0 y4 x1 x3 x2 y7.2.1 (wI (y6.1.1 + y7.1.1)) y7.2.1 y7.2.1.1 else k44p_2 y5 x0 y4 x1 x3 x2 (y5.1.1.1,x2.2) y6.1.1 x2 y5.1.1.1 else bif (y4.1.2.1 == 0) then (g138p x0 (y5.1.1.1,x2.2) (wI (x2.1.2.1)) false).bind fun y82=>k44p_2 y5 x0 y4 x1 x3 x2 y82.2.1 (wI (x0.2.2.2.1.1 + y82.1.1)) y82.2.1 y82.2.1.1 else k44p_2 y5 x0 y4 x1 x3 x2 (y5.1.1.1,x2.2) x0.2.2.2.1.1 x2 y5.1.1.1 else none
noncomputable def c44p:Ctr:={ ins:=[.v Ty384,.v (.int .i64),.pt Ty385,.v (.int .i64)],out:=[Ty240],F:=fun x=>g44p x.1 x.2.1 x.2.2.1 x.2.2.2.1 }
theorem o44p:Holds Tryz.prog 44 c44p:=f0 t44p Tryz.func44 (tc o133 (tc o134 (tc o143 (tc o135 (tc o136rm (tc o137 (tc o138p (tc o139 (tc o140p (tc o141 (tc o142p tn)))))))))))
noncomputable def t197d:Tbl:=[(194,[],c194d),(299,[],c299d),(191,[],c191d)]
noncomputable def k197d_1 (y1:Ta90) (y2 y3 y4 y5:Ta88) (y6 y7:Ta90) (z0_7:Ta43) (z0_8:Int):Option (Ta138×Ta43) :=
(g194d z0_7.1 3).bind fun y901=>bif y901.1.1 then (g299d y901.2.1).bind fun y902=>some ((((!y1.1.1),(y2.1.1,(y3.1.1,((IntKind.wrap .u32 (y4.1.1)),((IntKind.wrap .u32 (y5.1.1)),(y6.1.1,(y7.1.1,y902.1))))))),()),(y902.2.1,())) else some ((((!y1.1.1),(y2.1.1,(y3.1.1,((IntKind.wrap .u32 (y4.1.1)),((IntKind.wrap .u32 (y5.1.1)),(y6.1.1,(y7.1.1,(z0_8,())))))))),()),(y901.2.1,()))
noncomputable def g197d (x0:Ta15):Option (Ta138×Ta43) :=
(g194d x0 4).bind fun y1=>(g299d y1.2.1).bind fun y2=>(g299d y2.2.1).bind fun y3=>(g191d y3.2.1 34).bind fun y4=>(g191d y4.2.1 500).bind fun y5=>(g194d y5.2.1 2).bind fun y6=>(g194d y6.2.1 4).bind fun y7=>(g194d y7.2.1 2).bind fun y8=>bif y8.1.1 then (g191d y8.2.1 32).bind fun y9=>bif (decide (0≤(IntKind.wrap .u64 (y9.1.1)))) then k197d_1 y1 y2 y3 y4 y5 y6 y7 y9.2 (shlOf .u32 1 (IntKind.wrap .u64 (y9.1.1))) else none else k197d_1 y1 y2 y3 y4 y5 y6 y7 y8.2 0
noncomputable def c197d:Ctr:={ ins:=[.pd Ty149],out:=[Ty242],F:=fun x=>g197d x.1 }
theorem o197d:Holds Tryz.prog 197 c197d:=f0 t197d Tryz.func197 (tc o194d (tc o299d (tc o191d tn)))
end Go.VE.VFnStep
